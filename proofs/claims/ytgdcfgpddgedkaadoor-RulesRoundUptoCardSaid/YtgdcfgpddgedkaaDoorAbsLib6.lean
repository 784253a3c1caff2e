/-
  rules.Enough: the walk: a map that the call makes, fills and ranges over.
-/
import Derived.Test.YtgdcfgpddgedkaaDoorAbsLib5
import Derived.Shelf.Slices.Turned
import Derived.WalkKit
import Derived.Maps.RangeWalk
set_option linter.unusedVariables false
set_option linter.unusedSimpArgs false
namespace Go.Proofs.YtgdcfgpddgedkaaDoor
open Go Go.Abs Go.Proofs Go.Shelf RowKit Go.Maps

/-- The approvals that have been laid into the set behind k rounds. -/
def okd (author : Int) (ws : List Int) (k : Nat) : List Int := (ws.take k).filter fun x => decide (x ≠ author)
def Dk (author : Int) (ws : List Int) (k : Nat) : DataW Unit := setOf (.lit (.bool true)) ((okd author ws k).map (Lit.int .i64))

theorem okd_succ (author : Int) (ws : List Int) (k : Nat) (hk : k < ws.length) : okd author ws (k + 1) = okd author ws k ++ (if ws.getD k 0 = author then [] else [ws.getD k 0]) := by
  unfold okd
  rw [List.take_add_one, List.filter_append]
  simp only [List.getElem?_eq_getElem hk, Option.toList_some, List.getD, Option.getD_some]
  by_cases h : ws[k] = author <;> simp [h]

theorem okd_len (author : Int) (ws : List Int) (k : Nat) : (okd author ws k).length ≤ k := by
  unfold okd
  exact Nat.le_trans (List.length_filter_le _ _) (by simp; omega)

theorem Dk_old (author : Int) (ws : List Int) (k : Nat) (hk : k < ws.length) (h : ws.getD k 0 = author) : Dk author ws (k + 1) = Dk author ws k := by
  unfold Dk; rw [okd_succ _ _ _ hk, if_pos h, List.append_nil]
theorem Dk_new (author : Int) (ws : List Int) (k : Nat) (hk : k < ws.length) (h : ws.getD k 0 ≠ author) : Dk author ws (k + 1) = (Dk author ws k).put (.int .i64 (ws.getD k 0)) (.lit (.bool true)) := by
  unfold Dk; rw [okd_succ _ _ _ hk, if_neg h, List.map_append, List.map_singleton, setOf_snoc]

theorem any_int (x : Int) : ∀ l : List Int, l.any ((fun y : Lit => y.sameKey (.int .i64 x)) ∘ Lit.int .i64) = l.contains x
  | [] => rfl
  | a :: r => by
    rw [List.any_cons, List.contains_cons, any_int x r]
    congr 1
    show decide (IntKind.i64 = IntKind.i64 ∧ a = x) = (x == a)
    by_cases e : a = x
    · subst e
      simp
    · have e' : ¬ x = a := fun h => e h.symm
      simp [e, e']

theorem has_Dk (author : Int) (ws : List Int) (k : Nat) (x : Int) : Maps.has (Dk author ws k) (.int .i64 x) = (okd author ws k).contains x := by
  unfold Dk
  rw [has_setOf _ _ _ (fun y hy => by obtain ⟨_, _, rfl⟩ := List.mem_map.1 hy; trivial), List.any_map]
  exact any_int x _

theorem mem_others (author x : Int) : ∀ l, x ∈ others author l ↔ x ≠ author ∧ x ∈ l
  | [] => by simp [others]
  | y :: r => by
    unfold others
    have ih := mem_others author x r
    by_cases h : y = author
    · simp only [h, decide_true, Bool.true_or, cond_true, ih, List.mem_cons]
      constructor
      · rintro ⟨a, b⟩; exact ⟨a, .inr b⟩
      · rintro ⟨a, b | b⟩
        · exact absurd b a
        · exact ⟨a, b⟩
    · by_cases hm : y ∈ r
      · have he : r.elem y = true := by simpa using hm
        simp only [he, Bool.or_true, cond_true, ih, List.mem_cons]
        constructor
        · rintro ⟨a, b⟩; exact ⟨a, .inr b⟩
        · rintro ⟨a, b | b⟩
          · subst b; exact ⟨a, hm⟩
          · exact ⟨a, b⟩
      · have he : r.elem y = false := by simpa using hm
        simp only [he, h, decide_false, Bool.or_false, cond_false, List.mem_cons, ih]
        constructor
        · rintro (rfl | ⟨a, b⟩)
          · exact ⟨h, .inl rfl⟩
          · exact ⟨a, .inr b⟩
        · rintro ⟨a, b | b⟩
          · exact .inl b
          · exact .inr ⟨a, b⟩

theorem nodup_others (author : Int) : ∀ l, (others author l).Nodup
  | [] => by simp [others]
  | y :: r => by
    unfold others
    by_cases h : (decide (y = author) || r.elem y) = true
    · rw [h, cond_true]; exact nodup_others author r
    · have h' : (decide (y = author) || r.elem y) = false := by simpa using h
      rw [h', cond_false, List.nodup_cons]
      refine ⟨fun hm => ?_, nodup_others author r⟩
      have := ((mem_others author y r).1 hm).2
      simp [this] at h

/-- What is still to come, of the others. -/
structure Todo (left : Lit → Bool) (todo : List Int) : Prop where
  nodup : todo.Nodup
  left : ∀ x, left (.int .i64 x) = todo.contains x

theorem todo_start (author : Int) (ws : List Int) : Todo (Maps.has (Dk author ws ws.length)) (others author ws) := by
  refine ⟨nodup_others author ws, fun x => ?_⟩
  rw [has_Dk]
  apply Bool.eq_iff_iff.2
  simp only [List.contains_iff_mem, mem_others]
  unfold okd
  simp [List.mem_filter, and_comm]

theorem todo_step {left : Lit → Bool} {todo : List Int} (h : Todo left todo) {x : Int} (hx : left (.int .i64 x) = true) : Todo (fun z => left z && !z.sameKey (.int .i64 x)) (todo.erase x) := by
  refine ⟨h.nodup.erase x, fun y => ?_⟩
  rw [h.left y]
  have : (Lit.int .i64 y).sameKey (.int .i64 x) = decide (y = x) := by
    show decide (IntKind.i64 = IntKind.i64 ∧ y = x) = _
    simp
  rw [this]
  apply Bool.eq_iff_iff.2
  simp [h.nodup.mem_erase_iff, and_comm]

theorem todo_end {left : Lit → Bool} {todo : List Int} (h : Todo left todo) (hl : ∀ z, left z = false) : todo = [] := by
  cases todo with
  | nil => rfl
  | cons x r => have := h.left x; rw [hl] at this; simp at this

theorem todo_count {todo : List Int} {p : Int → Bool} {x : Int} (hx : x ∈ todo) : (todo.filter p).length = ((todo.erase x).filter p).length + (if p x then 1 else 0) := by
  have h := (List.perm_cons_erase hx).filter p
  rw [h.length_eq, List.filter_cons]
  split <;> simp

/-- The rows of rules, as they lie. -/
structure RuleAt (w : World) (b o : Nat) (n : Int) (xs : List Int) : Prop where
  ex : ∃ s0 s1 a cw, w.cell? ⟨b, o, none⟩ = some (.string s0) ∧ w.cell? ⟨b, o + 1, none⟩ = some (.string s1) ∧ w.cell? ⟨b, o + 2, none⟩ = some (.int .i64 n) ∧ w.cell? ⟨b, o + 3, none⟩ = some (.slice a xs.length cw) ∧
    (xs = [] ∨ ∃ bb oo, a = some ⟨bb, oo, none⟩ ∧ ∀ j, j < xs.length → w.cell? ⟨bb, oo + j, none⟩ = some (.int .i64 (xs.getD j 0)))

/-- A slice of ints, as it lies. -/
def IntsAt (w : World) (a : Option Addr) (xs : List Int) : Prop := xs = [] ∨ ∃ bb oo, a = some ⟨bb, oo, none⟩ ∧ ∀ j, j < xs.length → w.cell? ⟨bb, oo + j, none⟩ = some (.int .i64 (xs.getD j 0))

theorem contains_at (a : Option Addr) (c : Nat) (xs : List Int) (x : Int) (w : World) (h : IntsAt w a xs) (hl : xs.length ≤ 4611686018427387904) :
    Calls Tryd.prog 41 #[.slice a xs.length c, .int .i64 x] w fun e w' => e = .returned (.bool (xs.contains x)) ∧ w' = w := by
  rcases h with rfl | ⟨b, o, rfl, h⟩
  · exact Any.slices_Contains_int_empty layContains a c x w
  · have := Any.slices_Contains_int layContains b o xs.length c xs x w (Nat.le_refl _) (by omega) h
    rwa [List.take_length] at this

theorem law3 : Keyed Tryd.prog 3 := int_keyed Tryd.underlying3

theorem IntsAt.below {w w' : World} {a : Option Addr} {xs : List Int} (h : IntsAt w a xs) (hb : Below w.heap.size w w') : IntsAt w' a xs := by
  rcases h with h | ⟨bb, oo, ha, h⟩
  · exact .inl h
  · exact .inr ⟨bb, oo, ha, fun j hj => by rw [hb.cell (cell_lt' (h j hj))]; exact h j hj⟩

theorem invK (key : Value) (kl : Lit) (h : keyOf Tryd.prog 3 key = some kl) : ∃ x, key = .int .i64 x := by
  obtain ⟨x, rfl, _⟩ := Maps.keyOf_int_inv Tryd.underlying3 h
  exact ⟨x, rfl⟩

theorem others_len (author : Int) : ∀ l, (others author l).length ≤ l.length
  | [] => by simp [others]
  | y :: r => by
    unfold others
    have := others_len author r
    cases (decide (y = author) || r.elem y) <;> simp <;> omega

/-- Among how many of these is x? -/
def cnt (xs todo : List Int) : Nat := (todo.filter fun x => xs.elem x).length

theorem cnt_le (xs todo : List Int) : cnt xs todo ≤ todo.length := List.length_filter_le _ _
theorem cnt_nil (xs : List Int) : cnt xs [] = 0 := rfl
theorem cnt_step {xs todo : List Int} {x : Int} (hx : x ∈ todo) : cnt xs todo = cnt xs (todo.erase x) + (if xs.contains x then 1 else 0) := by
  have := todo_count (p := fun x => xs.elem x) hx
  simpa [cnt] using this

set_option maxHeartbeats 1600000 in
set_option maxRecDepth 100000 in
theorem enough_walk (al : Option Addr) (cl : Nat) (rs : List (Int × List Int)) (author : Int) (aw : Option Addr) (cw : Nat) (ws : List Int) (w : World)
    (hw : IntsAt w aw ws) (hwf : ∀ x ∈ ws, (Lit.int .i64 x).wf = true) (hwl : ws.length ≤ 4611686018427387904) (hll : rs.length ≤ 4611686018427387904)
    (hl : rs = [] ∨ ∃ b o, al = some ⟨b, o, none⟩ ∧ ∀ j r, rs[j]? = some r → RuleAt w b (o + j * 4) r.1 r.2 ∧ r.2.length ≤ 4611686018427387904) :
    Calls Tryd.prog 22 #[.slice al rs.length cl, .int .i64 author, .slice aw ws.length cw] w fun e w' => e = .returned (.bool (rs.all (met (others author ws)))) ∧ Below w.heap.size w w' := by
  have hmm := @run_makeMap Tryd.prog
  have z4 : ∀ w, (zeroValue 4).run Tryd.prog w = .ok (.bool false) w := fun w => by kernel_rfl
  go_enter Tryd.func22, Tryd.ntmps22
  go_wp2
  go_loopw [17] (fun i wr => ∃ k : Nat, k ≤ ws.length ∧ i = .int .i64 k ∧ wr.ownsMap Tryd.prog 3 (plainElem Tryd.prog 4) w.heap.size k (Dk author ws k) ∧ Below w.heap.size w wr) (fun i _ => ws.length - (intOf i).toNat)
  case atStart => exact ⟨0, Nat.zero_le _, rfl, World.ownsMap_made _ _ _ _, (Below.refl _ _).alloc (Nat.le_refl _) _⟩
  case round =>
    obtain ⟨k, hk, rfl, hown, hbel⟩ := hrel
    rcases Nat.lt_or_ge k ws.length with hlt | hge
    · obtain ⟨bb, oo, rfl, hcs⟩ : ∃ bb oo, aw = some ⟨bb, oo, none⟩ ∧ ∀ j, j < ws.length → w.cell? ⟨bb, oo + j, none⟩ = some (.int .i64 (ws.getD j 0)) := by
        rcases hw with rfl | h
        · simp at hlt
        · exact h
      obtain ⟨x, hx⟩ : ∃ x, ws.getD k 0 = x := ⟨_, rfl⟩
      have hcx : wr.cell? ⟨bb, oo + k, none⟩ = some (.int .i64 (ws.getD k 0)) := by rw [hbel.cell (cell_lt' (hcs k hlt))]; exact hcs k hlt
      have hoD := Dk_old author ws k hlt
      have hnD := Dk_new author ws k hlt
      have hmem : ws.getD k 0 ∈ ws := by rw [List.getD, List.getElem?_eq_getElem hlt]; exact List.getElem_mem hlt
      rw [hx] at hcx hmem hoD hnD
      have hkey : keyOf Tryd.prog 3 (.int .i64 x) = some (.int .i64 x) := keyOf_int_mk Tryd.underlying3 (hwf _ hmem)
      have HO : Hid (x = author → Dk author ws (k + 1) = Dk author ws k) := hoD
      have HN : Hid (x ≠ author → Dk author ws (k + 1) = (Dk author ws k).put (.int .i64 x) (.lit (.bool true))) := hnD
      clear hoD hnD hx
      have HD : Hid (wr.ownsMap Tryd.prog 3 (plainElem Tryd.prog 4) w.heap.size k (Dk author ws k)) := hown
      go_wp2_with (first
        | (at_mapUpdate; refine wpList_mapUpdate_own _ rfl _ _ _ 86 rfl 3 4 law3 Tryd.underlying86 (plainElem Tryd.prog 4) w.heap.size k (Dk author ws k) rfl HD.out (by unfold maxLen; omega) _ _ _ rfl rfl hkey _ [] (plainElem_bool Tryd.underlying4 true) ?_; intro w1 hown1 hgrow1)
        | go_in)
      · have hne : x ≠ author := by simpa using (by assumption : (x != author) = true)
        go_roundw
        case rel => exact ⟨k + 1, by omega, by go_num, by rw [HN.out hne]; exact hown1, hbel.grown hgrow1 hbel.size (fun j hj => by cases hj; exact Nat.le_refl _)⟩
        case measure => simp [intOf]; omega
      · have he : x = author := by simpa using (by assumption : (x != author) = false)
        go_roundw
        case rel => exact ⟨k + 1, by omega, by go_num, by rw [HO.out he]; exact hown.mono (Nat.le_succ _), hbel⟩
        case measure => simp [intOf]; omega
    · have hkk : k = ws.length := by omega
      subst hkk
      go_wp2
      go_loopw [29] (fun i wr => ∃ k : Nat, k ≤ rs.length ∧ i = .int .i64 k ∧ wr.ownsMap Tryd.prog 3 (plainElem Tryd.prog 4) w.heap.size ws.length (Dk author ws ws.length) ∧ Below w.heap.size w wr ∧ (rs.take k).all (met (others author ws)) = true) (fun i _ => rs.length - (intOf i).toNat)
      case atStart => exact ⟨0, Nat.zero_le _, rfl, hown, hbel, by simp⟩
      case round =>
        clear hown hbel hk hge
        rename World => wo
        obtain ⟨k, hk, rfl, hown, hbel, hall⟩ := hrel
        rcases Nat.lt_or_ge k rs.length with hlt | hge
        · obtain ⟨b, o, rfl, hcs⟩ : ∃ b o, al = some ⟨b, o, none⟩ ∧ ∀ j r, rs[j]? = some r → RuleAt w b (o + j * 4) r.1 r.2 ∧ r.2.length ≤ 4611686018427387904 := by
            rcases hl with rfl | h
            · simp at hlt
            · exact h
          have hstep : Hid (rs.take (k + 1) = rs.take k ++ [rs[k]]) := by show _ = _; rw [List.take_add_one]; simp [hlt]
          obtain ⟨⟨⟨s0, s1, a, cr, c0, c1, c2, c3, hin0⟩⟩, hxl⟩ := hcs k rs[k] (List.getElem?_eq_getElem hlt)
          have hin : IntsAt w a rs[k].2 := hin0
          clear hin0
          rw [← hbel.cell (cell_lt' c0)] at c0
          rw [← hbel.cell (cell_lt' c1)] at c1
          rw [← hbel.cell (cell_lt' c2)] at c2
          rw [← hbel.cell (cell_lt' c3)] at c3
          have hin := hin.below hbel
          have hmemr : Hid (rs[k] ∈ rs) := List.getElem_mem hlt
          generalize rs[k] = r at c0 c1 c2 c3 hin hxl hstep hmemr
          obtain ⟨n, xs⟩ := r
          simp only at c0 c1 c2 c3 hin hxl
          clear hcs hl
          have HD : Hid (wo.ownsMap Tryd.prog 3 (plainElem Tryd.prog 4) w.heap.size ws.length (Dk author ws ws.length)) := hown
          go_wp2_with (first
            | (at_range; refine wpList_range_own _ rfl _ 86 rfl 3 4 law3 Tryd.underlying86 (plainElem Tryd.prog 4) w.heap.size ws.length (Dk author ws ws.length) rfl (HD.out.alloc _) ?_; intro w0 hrg0 hg0 hs0)
            | go_in)
          go_frame
          have hsz : (wo.alloc (Obj.cells #[Value.string s0, Value.string s1, Value.int IntKind.i64 n, Value.slice a xs.length cr] 42)).heap.size = wo.heap.size + 1 := by simp
          rw [hsz] at hrg0 ⊢
          have hbq0 := (Below.refl (wo.heap.size + 1) (wo.alloc (Obj.cells #[Value.string s0, Value.string s1, Value.int IntKind.i64 n, Value.slice a xs.length cr] 42))).grown hg0 (by simp) (fun j hj => by cases hj)
          have hoth := others_len author ws
          have hcle := cnt_le xs (others author ws)
          go_loopw [12] (fun i wq => ∃ (left : Lit → Bool) (c : Nat) (todo : List Int) (m : Nat), i = .int .i64 m ∧ wq.ranges Tryd.prog 3 (plainElem Tryd.prog 4) w.heap.size (wo.heap.size + 1) ws.length (Dk author ws ws.length) left c ∧
              Todo left todo ∧ m + cnt xs todo = cnt xs (others author ws) ∧ Below (wo.heap.size + 1) (wo.alloc (Obj.cells #[Value.string s0, Value.string s1, Value.int IntKind.i64 n, Value.slice a xs.length cr] 42)) wq)
            (fun _ wq => wq.rangeLeft w.heap.size (wo.heap.size + 1))
          case atStart => exact ⟨_, _, others author ws, 0, rfl, hrg0, todo_start author ws, by omega, hbq0⟩
          case round =>
            clear hrg0 hg0 hs0 hbq0
            rename World => wq
            obtain ⟨left, c, todo, m, rfl, hrg, htd, hm, hbq⟩ := hrel
            have q2 := hbq.cell (p := ⟨wo.heap.size, 2, none⟩) (Nat.lt_succ_self _)
            have q3 := hbq.cell (p := ⟨wo.heap.size, 3, none⟩) (Nat.lt_succ_self _)
            have d2 : (wo.alloc (Obj.cells #[Value.string s0, Value.string s1, Value.int IntKind.i64 n, Value.slice a xs.length cr] 42)).cell? ⟨wo.heap.size, 2, none⟩ = some (.int .i64 n) := by simp
            have d3 : (wo.alloc (Obj.cells #[Value.string s0, Value.string s1, Value.int IntKind.i64 n, Value.slice a xs.length cr] 42)).cell? ⟨wo.heap.size, 3, none⟩ = some (.slice a xs.length cr) := by simp
            rw [d2] at q2
            rw [d3] at q3
            clear d2 d3
            have hbw : Below wo.heap.size wo wq := ((Below.refl _ _).alloc (Nat.le_refl _) _).trans (hbq.mono (Nat.le_succ _))
            have hinq : IntsAt wq a xs := hin.below hbw
            have HR : Hid (wq.ranges Tryd.prog 3 (plainElem Tryd.prog 4) w.heap.size (wo.heap.size + 1) ws.length (Dk author ws ws.length) left c) := hrg
            go_wp2_with (first
              | (at_next; refine wpList_next_ranges _ rfl _ rfl 3 law3 (plainElem Tryd.prog 4) (Value.int .i64) (fun v : Value => v) invK (fun v _ _ => ⟨v, rfl⟩) w.heap.size (wo.heap.size + 1) ws.length (Dk author ws ws.length) left c rfl HR.out ?_ ?_)
              | go_in)
            · intro hc0 hl0
              have hnil := todo_end htd hl0
              subst hnil
              rw [cnt_nil] at hm
              have hmt : met (others author ws) (n, xs) = decide (n ≤ (m : Int)) := by
                have hm' : m = ((others author ws).filter fun x => xs.elem x).length := hm
                rw [hm']; rfl
              have HM : Hid (met (others author ws) (n, xs) = decide (n ≤ (m : Int))) := hmt
              have HA : Hid ((List.take k rs).all (met (others author ws)) = true) := hall
              have hown' := hrg.owns
              have hend := hbel.trans (hbw.mono hbel.size)
              clear hmt hall hrg HR
              go_wp2
              · have hlt' : (m : Int) < n := by assumption
                have hf : rs.all (met (others author ws)) = false := List.all_eq_false.2 ⟨(n, xs), hmemr.out, by rw [HM.out]; simp; omega⟩
                go_ret
                rw [hf]
                exact ⟨rfl, hend⟩
              · go_roundw
                case rel => exact ⟨k + 1, by omega, by go_num, hown', hend, by rw [hstep.out, List.all_append, HA.out]; simp [HM.out]; assumption⟩
                case measure => simp [intOf]; omega
            · intro x vb kl y ps w1 c1 hkey hlk hv hat hrg1 hlt1 hg1 hs1 hen
              obtain ⟨x', ex, rfl, _⟩ := Maps.keyOf_int_inv Tryd.underlying3 hkey
              cases ex
              have hx : x ∈ todo := by have := htd.left x; rw [hlk] at this; simpa using this.symm
              have htd1 := todo_step htd hlk
              have hcs := cnt_step (xs := xs) hx
              have hqs : wo.heap.size + 1 ≤ wq.heap.size := by have := hbq.size; rw [hsz] at this; exact this
              have hb1 := hbq.grown hg1 hqs (fun j hj => by cases hj; exact Nat.le_refl _)
              have hw1 : Below wo.heap.size wo w1 := ((Below.refl _ _).alloc (Nat.le_refl _) _).trans (hb1.mono (Nat.le_succ _))
              have q2' := hg1.block wo.heap.size hqs (by simp)
              have q3' : w1.cell? ⟨wo.heap.size, 3, none⟩ = some (.slice a xs.length cr) := by rw [← q3]; exact cell_of_heap q2'
              have hin1 : IntsAt w1 a xs := hin.below hw1
              have HC : Hid (cnt xs todo = cnt xs (todo.erase x) + (if xs.contains x then 1 else 0)) := hcs
              have HT : Hid (Todo (fun z => left z && !z.sameKey (Lit.int .i64 x)) (todo.erase x)) := htd1
              have HL : Hid (left (Lit.int .i64 x) = true) := hlk
              have HX : Hid (x ∈ todo) := hx
              have H1 : Hid (IntsAt w1 a xs) := hin1
              have HG : Hid (w1.ranges Tryd.prog 3 (plainElem Tryd.prog 4) w.heap.size (wo.heap.size + 1) ws.length (Dk author ws ws.length) (fun z => left z && !z.sameKey (Lit.int .i64 x)) c1) := hrg1
              clear hcs htd1 hlk hx hin1 hrg1 hat hv hkey q2'
              go_wp2_with (first
                | (go_at_call 41; refine (contains_at a cr xs x w1 H1.out hxl).mono ?_; rintro e w' ⟨rfl, rfl⟩)
                | go_in)
              · have hxm : xs.contains x = true := by simpa using (by assumption : x ∈ xs)
                have hc1 := HC.out
                rw [if_pos hxm] at hc1
                go_roundw
                case rel => exact ⟨_, c1, todo.erase x, m + 1, by go_num, HG.out, HT.out, by omega, hb1⟩
                case measure => rw [HG.out.left_eq, hrg.left_eq]; exact hlt1
              · have hxm : ¬ xs.contains x = true := by simpa using (by assumption : ¬ x ∈ xs)
                have hc1 := HC.out
                rw [if_neg hxm] at hc1
                go_roundw
                case rel => exact ⟨_, c1, todo.erase x, m, rfl, HG.out, HT.out, by omega, hb1⟩
                case measure => rw [HG.out.left_eq, hrg.left_eq]; exact hlt1
        · have hkk : k = rs.length := by omega
          subst hkk
          go_wp2
          go_ret
          rw [List.take_length] at hall
          rw [hall]
          exact ⟨rfl, hbel⟩
end Go.Proofs.YtgdcfgpddgedkaaDoor
