/-
  For the equations of functions: numbers, rows, counting loops.
-/
import Derived.Test.YtgdcfgpddgedkaaDoorAbsRule
import Derived.IntWalk
namespace Go.Abs
set_option linter.unusedSimpArgs false
set_option linter.unusedVariables false
open Go

/-- An int's range. -/
abbrev I64 (n : Int) : Prop := -9223372036854775808 ≤ n ∧ n ≤ 9223372036854775807

theorem wrap64 {n : Int} (h : -9223372036854775808 ≤ n ∧ n ≤ 9223372036854775807) : IntKind.i64.wrap n = n := by
  exact IntWalk.i64_in _ h

theorem wrapu8 {n : Int} (h : 0 ≤ n ∧ n ≤ 255) : IntKind.u8.wrap n = n := IntWalk.u8_in _ h

theorem asNat_nat {k : IntKind} {n : Nat} : asNat (.int k n) = some n := by simp [asNat]
theorem asNat_lit {k : IntKind} {n : Nat} : asNat (.int k (no_index (@OfNat.ofNat Int n instOfNat))) = some n := by
  show asNat (.int k ((n : Nat) : Int)) = some n
  exact asNat_nat
theorem asNat_add {k : IntKind} {a n : Nat} : asNat (.int k ((a : Int) + no_index (@OfNat.ofNat Int n instOfNat))) = some (a + n) := by
  show asNat (.int k ((a : Int) + ((n : Nat) : Int))) = some (a + n)
  rw [← Int.natCast_add]; exact asNat_nat
theorem asNat_of {k : IntKind} {n : Int} (h : 0 ≤ n) : asNat (.int k n) = some n.toNat := by simp [asNat, h]

theorem ble_dec {a b : Nat} : Nat.ble a b = decide (a ≤ b) := by
  cases h : Nat.ble a b with
  | true => simp [Nat.le_of_ble_eq_true h]
  | false => simp [show ¬ a ≤ b from fun e => by rw [Nat.ble_eq_true_of_le e] at h; cases h]
theorem blt_dec {a b : Nat} : Nat.blt a b = decide (a < b) := by
  show Nat.ble (a + 1) b = _
  rw [ble_dec]; rfl
theorem dle {a b : Nat} (h : a ≤ b) : decide (a ≤ b) = true := by simp [h]
theorem dlt {a b : Nat} (h : a < b) : decide (a < b) = true := by simp [h]
theorem ilt_t {a b : Int} (h : a < b) : decide (a < b) = true := by simp [h]
theorem ilt_f {a b : Int} (h : b ≤ a) : decide (a < b) = false := by simp; omega
theorem ile_t {a b : Int} (h : a ≤ b) : decide (a ≤ b) = true := by simp [h]
theorem ile_f {a b : Int} (h : b < a) : decide (a ≤ b) = false := by simp; omega
theorem ieq_t {a b : Int} (h : a = b) : (a == b) = true := by simp [h]
theorem ieq_f {a b : Int} (h : a ≠ b) : (a == b) = false := by simp [h]
theorem ine_t {a b : Int} (h : a ≠ b) : (a != b) = true := by simp [h]
theorem ine_f {a b : Int} (h : a = b) : (a != b) = false := by simp [h]
theorem nbeq_f {a b : Nat} (h : a ≠ b) : Nat.beq a b = false := by
  cases hb : Nat.beq a b with
  | false => rfl
  | true => exact absurd (Nat.eq_of_beq_eq_true hb) h
theorem nbeq_t {a b : Nat} (h : a = b) : Nat.beq a b = true := by rw [h]; exact Nat.beq_refl b
theorem ble_zero {n : Nat} : Nat.ble 0 n = true := by simp
theorem ble_of {n m : Nat} (h : n ≤ m) : Nat.ble n m = true := by simpa using h
theorem blt_of {n m : Nat} (h : n < m) : Nat.blt n m = true := by simpa [Nat.blt_eq] using h
theorem beq_dec {a b : Int} {p : Prop} {_ : Decidable p} (h : a = b ↔ p) : (a == b) = decide p := by
  by_cases hp : p
  · rw [h.2 hp]; simp [hp]
  · simp [hp]; exact fun e => hp (h.1 e)
theorem beq_tf : (true == false) = false := rfl
theorem beq_ft : (false == true) = false := rfl

/-- An element of a slice. -/
theorem slAt {e : List (List AV)} {n : Nat} {r : List AV} (h : e[n]? = some r) : e[n]? = some r := h

/-- A slice of ints. -/
def ints (l : List Int) : List (List AV) := l.map fun n => [.int .i64 n]
/-- A slice of strings. -/
def strs (l : List (List UInt8)) : List (List AV) := l.map fun n => [.str n]

theorem ints_len {l : List Int} : (ints l).length = l.length := by simp [ints]
theorem strs_len {l : List (List UInt8)} : (strs l).length = l.length := by simp [strs]
theorem ints_at {l : List Int} {i : Nat} {n : Int} (h : l[i]? = some n) : (ints l)[i]? = some [.int .i64 n] := by simp [ints, h]
theorem strs_at {l : List (List UInt8)} {i : Nat} {n : List UInt8} (h : l[i]? = some n) : (strs l)[i]? = some [.str n] := by simp [strs, h]
theorem ints_get {l : List Int} {i : Nat} : (ints l)[i]? = l[i]?.map fun n => [.int .i64 n] := by simp [ints]
theorem strs_get {l : List (List UInt8)} {i : Nat} : (strs l)[i]? = l[i]?.map fun n => [.str n] := by simp [strs]

theorem chunks_strs : ∀ {l : List (List UInt8)} {n : Nat}, n = l.length → chunks 1 n (l.map .str) = strs l
  | [], 0, _ => rfl
  | a :: l, n + 1, h => by
    simp only [List.map_cons, chunks, strs, List.take_succ_cons, List.take_zero, List.drop_succ_cons, List.drop_zero]
    rw [chunks_strs (by simpa using h)]; rfl
theorem take_strs {l : List (List UInt8)} {n : Nat} (h : l.length ≤ n) : (strs l).take n = strs l := List.take_of_length_le (by rw [strs_len]; exact h)

theorem ints_rows {l : List Int} : RowsB 1 (ints l) := ⟨fun r hr => by simp only [ints, List.mem_map] at hr; obtain ⟨n, _, rfl⟩ := hr; rfl, nb_all fun r hr => by simp only [ints, List.mem_map] at hr; obtain ⟨n, _, rfl⟩ := hr; rfl⟩
theorem strs_rows {l : List (List UInt8)} : RowsB 1 (strs l) := ⟨fun r hr => by simp only [strs, List.mem_map] at hr; obtain ⟨n, _, rfl⟩ := hr; rfl, nb_all fun r hr => by simp only [strs, List.mem_map] at hr; obtain ⟨n, _, rfl⟩ := hr; rfl⟩
theorem ints_nil : ints [] = [] := rfl
theorem strs_nil : strs [] = [] := rfl
theorem ints_nb {l : List Int} : nb (ints l) = true := ints_rows.2
theorem strs_nb {l : List (List UInt8)} : nb (strs l) = true := strs_rows.2
theorem ints_append {l m : List Int} : ints l ++ ints m = ints (l ++ m) := by simp [ints]
theorem strs_append {l m : List (List UInt8)} : strs l ++ strs m = strs (l ++ m) := by simp [strs]
theorem app_ints {l m : List Int} {o : Bool} (h : l.length + m.length ≤ 1099511627776) : appendAV false 1 8 (.slice (ints l) true) (.slice (ints m) o) = some (.slice (ints (l ++ m)) true) := by
  rw [app_ok ints_rows ints_rows (by rw [ints_len, ints_len]; omega) (by rw [ints_len, ints_len]; omega), ints_append]
theorem app_int {l : List Int} {n : Int} {o : Bool} (h : l.length ≤ 1099511627775) : appendAV false 1 8 (.slice (ints l) true) (.slice [[.int .i64 n]] o) = some (.slice (ints (l ++ [n])) true) := app_ints (m := [n]) (by simp; omega)
theorem app_cons {m : List Int} {n : Int} {o : Bool} (h : m.length ≤ 1099511627775) : appendAV false 1 8 (.slice [[.int .i64 n]] true) (.slice (ints m) o) = some (.slice (ints (n :: m)) true) := app_ints (l := [n]) (m := m) (by simp; omega)
theorem app_int0 {n : Int} {o : Bool} : appendAV false 1 8 (.slice [] true) (.slice [[.int .i64 n]] o) = some (.slice (ints [n]) true) := app_ints (l := []) (m := [n]) (by simp)
theorem app_ints0 {m : List Int} {o : Bool} (h : m.length ≤ 1099511627776) : appendAV false 1 8 (.slice [] true) (.slice (ints m) o) = some (.slice (ints m) true) := app_ints (l := []) (by simpa using h)
theorem app_strs {l m : List (List UInt8)} {o : Bool} (h : l.length + m.length ≤ 1099511627776) : appendAV false 1 16 (.slice (strs l) true) (.slice (strs m) o) = some (.slice (strs (l ++ m)) true) := by
  rw [app_ok strs_rows strs_rows (by rw [strs_len, strs_len]; omega) (by rw [strs_len, strs_len]; omega), strs_append]
theorem app_str {l : List (List UInt8)} {n : List UInt8} {o : Bool} (h : l.length ≤ 1099511627775) : appendAV false 1 16 (.slice (strs l) true) (.slice [[.str n]] o) = some (.slice (strs (l ++ [n])) true) := app_strs (m := [n]) (by simp; omega)
theorem app_str0 {n : List UInt8} {o : Bool} : appendAV false 1 16 (.slice [] true) (.slice [[.str n]] o) = some (.slice (strs [n]) true) := app_strs (l := []) (m := [n]) (by simp)

end Go.Abs
