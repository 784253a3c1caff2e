/-
  Appends.
-/
import Derived.Test.YtgdcfgpddgedkaaDoorAbsOps10
import Derived.Deep.Upon
import Derived.Lib.FrozenHead
namespace Go.Abs
set_option linter.unusedSimpArgs false
set_option linter.unusedVariables false

section
variable {P : Program} {G : Nat → List AV} {base nt : Nat} {L : List Nat} {gh : Gh} {w w' : World} {a : Act} {s : AS} {H : AHeap}

theorem headOk_row {sz : Nat} {f : List (List AV)} (h : headOk sz f = true) {r : List AV} (hr : f[0]? = some r) : r.length = sz := by
  unfold headOk at h
  cases f with
  | nil => simp at hr
  | cons q f => simp at hr; subst hr; simpa [nbeq] using h

theorem width_eq {sz sz' : Nat} {f : List (List AV)} (h : headOk sz f = true) (hrow : ∀ (i : Nat) (r : List AV), f[i]? = some r → r.length = sz') (hne : f ≠ []) : sz' = sz := by
  cases f with
  | nil => exact absurd rfl hne
  | cons q f => rw [← hrow 0 q rfl]; exact headOk_row h rfl

/-- What a slice yields to an append. -/
theorem src_slice {S : Nat → Nat → Prop} {V : Value} {f : List (List AV)} {sz : Nat} {tx : TypeId} (h : PR S w V (.slice f false)) (hk : (∃ e', P.underlying tx = some (.slice e')) ∨ P.underlying tx = some .string) (hh : headOk sz f = true) :
    ∃ news : List Value, Src P sz tx V f.length news w ∧ RowsP S w sz news.toArray f ∧
      ((V = .slice none 0 0 ∧ f = []) ∨ ∃ b o cap, V = .slice (some ⟨b, o, none⟩) f.length cap ∧ f.length ≤ cap ∧ ∀ j, j < f.length * sz → S b (o + j) ∧ w.cell? ⟨b, o + j, none⟩ = news[j]?) := by
  cases h with
  | sliceNil => exact ⟨[], ⟨hk, fun _ => rfl, run_firstCells_none w sz 0 0 0, run_firstCells_none w.drew sz 0 0 0, by simp, fun _ h => by cases h⟩, ⟨by simp, fun i r h => by simp at h, fun i j r x h => by simp at h⟩, .inl ⟨rfl, rfl⟩⟩
  | slice b o n cap sz' _ fn hn hcap hrow hcell hrel =>
    subst hn
    have hsz : f ≠ [] → sz' = sz := fun hne => width_eq hh hrow hne
    let news : List Value := (List.range (f.length * sz)).map fun k => (w.cell? ⟨b, o + k, none⟩).getD undef
    have hlen : news.length = f.length * sz := by simp [news]
    have key : ∀ k, k < f.length * sz → ∃ u, news[k]? = some u ∧ w.cell? ⟨b, o + k, none⟩ = some u ∧ u.oneCell' = true ∧ S b (o + k) ∧ ∀ r x, f[k / sz]? = some r → r[k % sz]? = some x → PR S w u x := by
      intro k hk
      obtain ⟨h1, h2, h3⟩ := split_index hk
      have hne : f ≠ [] := by rintro rfl; simp at h1
      have hr := List.getElem?_eq_getElem h1
      have hlr : f[k / sz].length = sz := by rw [hrow _ _ hr, hsz hne]
      have hx := List.getElem?_eq_getElem (show k % sz < f[k / sz].length by omega)
      obtain ⟨c1, c2, c3⟩ := hcell _ _ _ _ hr hx
      rw [hsz hne, Nat.add_assoc, h3] at c1 c2
      refine ⟨fn (k / sz) (k % sz), ?_, c2, c3, c1, fun r x hr' hx' => hrel _ _ _ _ hr' hx'⟩
      simp only [news, List.getElem?_map, List.getElem?_range hk, Option.map_some, c2, Option.getD_some]
    have hnews : ∀ j u, news[j]? = some u → w.cell? ((⟨b, o, none⟩ : Addr).add j) = some u := by
      intro j u hj
      have hlt : j < f.length * sz := by rw [← hlen]; exact (List.getElem?_eq_some_iff.1 hj).1
      obtain ⟨u', h1, h2, _⟩ := key j hlt
      rw [h1] at hj; injection hj with hj; subst hj
      rw [addr_add]; exact h2
    refine ⟨news, ⟨hk, fun _ => rfl, run_firstCells_some w sz _ ⟨b, o, none⟩ f.length cap news hlen hnews, run_firstCells_some w.drew sz _ ⟨b, o, none⟩ f.length cap news hlen (by simpa using hnews), hlen, fun u hu => ?_⟩, ⟨by simp [hlen], fun i r hr => ?_, fun i j r x hi hj => ?_⟩, .inr ⟨b, o, cap, rfl, hcap, fun j hj => ?_⟩⟩
    · obtain ⟨j, hj⟩ := List.getElem?_of_mem hu
      have hlt : j < f.length * sz := by rw [← hlen]; exact (List.getElem?_eq_some_iff.1 hj).1
      obtain ⟨u', h1, _, h3, _⟩ := key j hlt
      rw [h1] at hj; injection hj with hj; subst hj
      exact h3
    · rw [hrow i r hr, hsz (by rintro rfl; simp at hr)]
    · have hne : f ≠ [] := by rintro rfl; simp at hi
      have hil := (List.getElem?_eq_some_iff.1 hi).1
      have hjl : j < sz := by rw [← hsz hne, ← hrow i r hi]; exact (List.getElem?_eq_some_iff.1 hj).1
      obtain ⟨u, h1, _, _, _, h5⟩ := key (i * sz + j) (mul_lt hil hjl)
      refine ⟨u, by simpa using h1, h5 r x ?_ ?_⟩
      · rw [Nat.mul_comm, Nat.mul_add_div (by omega), Nat.div_eq_of_lt hjl]; simpa using hi
      · rw [Nat.mul_comm, Nat.mul_add_mod, Nat.mod_eq_of_lt hjl]; exact hj
    · obtain ⟨u, h1, h2, _, h4, _⟩ := key j hj
      exact ⟨h4, by rw [h2, h1]⟩

/-- What a string yields to an append. -/
theorem src_str {S : Nat → Nat → Prop} {q : ByteArray} {l : List UInt8} (hq : q.data.toList = l) {tx : TypeId} (hk : (∃ e', P.underlying tx = some (.slice e')) ∨ P.underlying tx = some .string) :
    ∃ news : List Value, Src P 1 tx (.string q) l.length news w ∧ RowsP S w 1 news.toArray (l.map fun (b : UInt8) => [AV.int .u8 b.toNat]) := by
  subst hq
  have hl : q.data.toList.length = q.size := by simp
  refine ⟨byteCells q, ?_, by simp [byteCells], fun i r hr => ?_, fun i j r x hi hj => ?_⟩
  · rw [hl]
    exact ⟨hk, fun _ => rfl, firstCells_string q w, firstCells_string q w.drew, by rw [byteCells_length, Nat.mul_one], fun u hu => by
      obtain ⟨_, _, rfl⟩ := List.mem_map.1 hu
      rfl⟩
  · simp only [List.getElem?_map, Option.map_eq_some_iff] at hr
    obtain ⟨y, _, rfl⟩ := hr
    rfl
  · simp only [List.getElem?_map, Option.map_eq_some_iff] at hi
    obtain ⟨y, hy, rfl⟩ := hi
    cases j with
    | succ j => simp at hj
    | zero =>
      simp only [List.getElem?_cons_zero, Option.some.injEq] at hj
      subst hj
      refine ⟨.int .u8 y.toNat, ?_, .int _ _⟩
      simp only [byteCells, List.getElem?_toArray, List.getElem?_map, Nat.mul_one, Nat.add_zero, hy, Option.map_some]

theorem RowsP.append {S : Nat → Nat → Prop} {sz : Nat} {A B : List Value} {E F : List (List AV)} (h1 : RowsP S w sz A.toArray E) (h2 : RowsP S w sz B.toArray F) : RowsP S w sz (A ++ B).toArray (E ++ F) := by
  have hA : A.length = E.length * sz := by simpa using h1.1
  have hB : B.length = F.length * sz := by simpa using h2.1
  refine ⟨by simp [hA, hB, Nat.add_mul], fun i r hi => ?_, fun i j r x hi hj => ?_⟩
  · rw [List.getElem?_append] at hi
    split at hi
    · exact h1.2.1 i r hi
    · exact h2.2.1 _ r hi
  · rw [List.getElem?_append] at hi
    split at hi
    · obtain ⟨v, hv, hp⟩ := h1.2.2 i j r x hi hj
      have : i * sz + j < A.length := by have := (Array.getElem?_eq_some_iff.1 hv).1; simpa using this
      refine ⟨v, ?_, hp⟩
      simp only [List.getElem?_toArray] at hv ⊢
      rw [List.getElem?_append_left this]; exact hv
    · rename_i hge
      obtain ⟨v, hv, hp⟩ := h2.2.2 _ j r x hi hj
      refine ⟨v, ?_, hp⟩
      simp only [List.getElem?_toArray] at hv ⊢
      have e1 : i * sz = E.length * sz + (i - E.length) * sz := by rw [← Nat.add_mul]; congr 1; omega
      rw [List.getElem?_append_right (by rw [hA, e1]; omega), hA, e1]
      rw [show E.length * sz + (i - E.length) * sz + j - E.length * sz = (i - E.length) * sz + j by omega]; exact hv

/-- A row in memory is a slice that stays. -/
theorem RowsP.toPR {S S' : Nat → Nat → Prop} {sz : Nat} {A C' : Array Value} {E : List (List AV)} {b : Nat} {ty : TypeId} {fr : Nat × Nat} (h : RowsP S w sz A E) (hS : ∀ b o, S b o → S' b o) (hc : ∀ b o, S b o → w'.cell? ⟨b, o, none⟩ = w.cell? ⟨b, o, none⟩)
    (hb : w'.heap[b]? = some (.cells C' ty fr)) (hA : ∀ j, j < A.size → C'[j]? = A[j]?) (hq : ∀ j, j < E.length * sz → S' b j) (cap : Nat) (hcap : E.length ≤ cap) : PR S' w' (.slice (some ⟨b, 0, none⟩) E.length cap) (.slice E false) := by
  have key : ∀ (i j : Nat) (r : List AV) (x : AV), E[i]? = some r → r[j]? = some x → ∃ v, A[i * sz + j]? = some v ∧ PR S w v x ∧ i * sz + j < A.size ∧ A.getD (i * sz + j) undef = v := by
    intro i j r x hi hj
    obtain ⟨v, hv, hpr⟩ := h.2.2 i j r x hi hj
    have hlt := (Array.getElem?_eq_some_iff.1 hv).1
    refine ⟨v, hv, hpr, hlt, ?_⟩
    rw [Array.getElem?_eq_getElem hlt] at hv
    injection hv with hv
    simp [hlt, hv]
  refine .slice b 0 E.length cap sz E (fun i j => A.getD (i * sz + j) undef) rfl hcap h.2.1 ?_ ?_
  · intro i j r x hi hj
    obtain ⟨v, hv, hpr, hlt, hg⟩ := key i j r x hi hj
    rw [Nat.zero_add, hg]
    refine ⟨hq _ (by rw [← h.1]; exact hlt), ?_, hpr.oneCell⟩
    rw [cell_of_row w' b _ C' ty fr hb, hA _ hlt, hv]
  · intro i j r x hi hj
    obtain ⟨v, hv, hpr, hlt, hg⟩ := key i j r x hi hj
    rw [hg]
    exact hpr.mono hS hc

/-- The facts on the element's type. -/
structure ElemT (P : Program) (t e : TypeId) (sz bytes : Nat) : Prop where
  ht : P.underlying t = some (.slice e)
  hi : ∃ i z, P.info? e = some i ∧ i.zero = some z ∧ i.size = sz ∧ i.bytes = bytes ∧ z.cells.size = sz
  pos : 0 < sz

/-- No room. -/
theorem grow {t tx ty e : TypeId} {sz bytes : Nat} (hT : ElemT P t e sz bytes) {ao : Option Addr} {sLen sCap n : Nat} {olds news : List Value} {x : Value} (hold : (Builtin.firstCells sz sLen (.slice ao sLen sCap)).run P w.drew = .ok olds.toArray w.drew)
    (hol : olds.length = sLen * sz) (hs : Src P sz tx x n news w) (hg : sCap < sLen + n) (h63 : sLen + n ≤ 70368744177664) (hby : (sLen + n) * bytes ≤ 70368744177664) :
    ∃ cap' C' , (Builtin.append_ #[t, tx] ty #[.slice ao sLen sCap, x]).run P w = .ok (.slice (some ⟨w.heap.size, 0, none⟩) (sLen + n) cap') (w.drew.alloc (.cells C' e)) ∧ sLen + n ≤ cap' ∧ C'.size = cap' * sz ∧ ∀ j, j < (olds ++ news).toArray.size → C'[j]? = (olds ++ news).toArray[j]? := by
  obtain ⟨i, z, hi, hz, rfl, rfl, hzs⟩ := hT.hi
  have h := run_append_grow_src (P := P) w t tx ty e i z hT.ht hi hz ao sLen sCap olds hold x n news hs hg (by omega) (growslice_fits hg (by omega))
  have hcap := grownCap_ge w (sLen + n) sCap e
  refine ⟨_, _, h, hcap, ?_, fun j hj => ?_⟩
  · rw [Array.size_append, size_zeroCells, hzs]
    simp only [List.size_toArray, List.length_append, hol, hs.newsLen]
    rw [← Nat.add_mul, ← Nat.add_mul]
    congr 1; omega
  · rw [Array.getElem?_append_left hj]

/-- Room. -/
theorem room {t tx ty e e2 : TypeId} {sz bytes : Nat} (hT : ElemT P t e sz bytes) {b sLen sCap n : Nat} {news : List Value} {x : Value} {C : Array Value} {fr : Nat × Nat} (hs : Src P sz tx x n news w) (hb : w.heap[b]? = some (.cells C e2 fr)) (hfr : fr.2 ≤ sLen * sz)
    (hroom : sLen + n ≤ sCap) (hfit : sLen * sz + news.length ≤ C.size) :
    (Builtin.append_ #[t, tx] ty #[.slice (some ⟨b, 0, none⟩) sLen sCap, x]).run P w = .ok (.slice (some ⟨b, 0, none⟩) (sLen + n) sCap) (w.setRow b (rowPut C (sLen * sz) news.toArray)) := by
  obtain ⟨i, z, hi, hz, rfl, rfl, hzs⟩ := hT.hi
  have hst := run_storeCells_atF P b (sLen * i.size) e2 fr news 0 C w hb (by simpa using hfr) (by simpa using hfit) hs.one
  simp only [Nat.add_zero] at hst
  rcases hs.kind with ⟨e', hk⟩ | hk <;> simp [Builtin.append_, run_underlying hT.ht, run_underlying hk, sizeOf, typeInfo, hi, hs.len, hroom, hs.cells, Addr.add_lit, hst, rowPut]

/-- The right to append goes from '.ret' to a place. -/
theorem CR.given (hW : WRel G base s.H gh w) (hF : FR L nt gh w a s) {v : Value} {e : List (List AV)} {own : Bool} (h : CR gh s.H.length w .ret v (.slice e own)) (p : Owner) (hp : p ≠ .outer) :
    ∃ gh', WRel G base s.H gh' w ∧ FR L nt gh' w a s ∧ Ext s.H.length gh w gh' w ∧ CR gh' s.H.length w p v (.slice e own) := by
  have hfresh := fun b hb => hW.not_outer (gh := gh) b hb
  rcases h with hv | ⟨e', heq, hPR, b, cap, C, ty, lo, hi, sz, hval, hk, he, hb, hC, hr, hl, hh, hS⟩
  · exact ⟨gh, hW, hF, Ext.refl _ _ _ hfresh, .inl hv⟩
  · injection heq with h1 h2
    subst h1 h2
    have hlt : b < w.heap.size := (Array.getElem?_eq_some_iff.1 hb).1
    have st := give_step hW hlt p s.H.length
    rw [hk] at st
    have hn : gh.κ b ≠ .none := by rw [hk]; simp
    exact ⟨gh.give b p, give_W hW hlt p hn (by rw [hk]; simp), hF.grown (H' := s.H) (lo' := s.lo) st (fun i => ⟨by simp, by simp, by simp⟩) (Nat.le_refl _), give_ext hW hlt hp hn (by rw [hk]; simp) _, .inr ⟨e, rfl, hPR, b, cap, C, ty, lo, hi, sz, hval, by simp [Gh.give], he, hb, hC, hr, hl, hh, hS⟩⟩

theorem cells_drew {n : Nat} {tx : TypeId} {sz : Nat} {x : Value} {news : List Value} (h : Src P sz tx x n news w) : (Builtin.firstCells sz n x).run P w.drew = .ok news.toArray w.drew := h.cellsD

/-- An append by the holder of the right. -/
theorem append_own (hW : WRel G base s.H gh w) (hF : FR L nt gh w a s) {t tx ty e : TypeId} {sz bytes : Nat} (hT : ElemT P t e sz bytes) {V X : Value} {E F : List (List AV)} {news : List Value}
    (h : CR gh s.H.length w .ret V (.slice E true)) (hs : Src P sz tx X F.length news w) (hrows : RowsP gh.S w sz news.toArray F) (hfit : fitsRows sz bytes E F = true) {isB : Bool} (hok : rowsOK isB (E ++ F) = true) (hisB : isB = true → e = byteTy) (hne : F ≠ []) (p : Owner) (hp : p ≠ .outer) :
    ∃ v' gh' w', (Builtin.append_ #[t, tx] ty #[V, X]).run P w = .ok v' w' ∧ WRel G base s.H gh' w' ∧ FR L nt gh' w' a s ∧ Ext s.H.length gh w gh' w' ∧ CR gh' s.H.length w' p v' (.slice (E ++ F) true) := by
  simp only [fitsRows, Bool.and_eq_true, Nat.ble_eq] at hfit
  obtain ⟨⟨⟨hb1, hb2⟩, hE⟩, _⟩ := hfit
  have hFl : 0 < F.length := List.length_pos_iff.2 hne
  have hPR : PR gh.S w V (.slice E false) := by
    rcases h with h | ⟨e', heq, hPR, _⟩
    · exact (VR.dropped h).inv_slice
    · injection heq with h1; subst h1; exact hPR
  obtain ⟨olds, hsV, hrV, hshape⟩ := src_slice (P := P) (tx := t) (sz := sz) hPR (.inl ⟨_, hT.ht⟩) hE
  have hol : olds.length = E.length * sz := hsV.newsLen
  have hall := hrV.append hrows
  -- a new row
  have new : ∀ ao cap, V = .slice ao E.length cap → cap < E.length + F.length → ∃ v' gh' w', (Builtin.append_ #[t, tx] ty #[V, X]).run P w = .ok v' w' ∧ WRel G base s.H gh' w' ∧ FR L nt gh' w' a s ∧ Ext s.H.length gh w gh' w' ∧ CR gh' s.H.length w' p v' (.slice (E ++ F) true) := by
    intro ao cap hV hlt
    subst hV
    obtain ⟨cap', C', hrun, hcap, hC', hpre⟩ := grow (P := P) (ty := ty) hT (cells_drew hsV) hol hs hlt hb2 hb1
    have hp' : Pushed w (w.drew.alloc (.cells C' e)) (.cells C' e) := .drew w _
    have st := alloc_step hW hp' hp (fun o => o < (E ++ F).length * sz) s.H.length
    have hW' := hW.alloc hp' hp (fun o => o < (E ++ F).length * sz) (fun k m hk hc => by
      rw [cell_of_row _ _ k _ _ _ hp'.new, hpre k (by rw [hall.1]; exact hk)] at hc
      have := rows_bytes hall hok hisB hk hc
      subst this
      exact ⟨C', (0, 0), hp'.new⟩)
    have hpr := hall.slice (gh := gh) rfl hp' (p := p) hW.sLt hpre (q := fun o => o < (E ++ F).length * sz) (fun j hj => hj) cap' (by rw [List.length_append]; exact hcap)
    refine ⟨_, _, _, hrun, hW', hF.grown (H' := s.H) (lo' := s.lo) st (fun i => ⟨id, id, fun _ => id⟩) (Nat.le_refl _), alloc_ext hW hp' hp _ _, .inr ⟨E ++ F, rfl, ?_, ?_⟩⟩
    · have e1 : E.length + F.length = (E ++ F).length := by rw [List.length_append]
      rw [e1]; exact hpr
    · refine ⟨w.heap.size, cap', C', e, 0, 0, sz, by rw [List.length_append], by simp [Gh.alloc], by simp [hne], hp'.new, hC', hall.2.1, by rw [List.length_append]; exact hcap, Nat.zero_le _, ?_⟩
      rintro o ho (hs | ⟨_, hs⟩)
      · have := hW.sLt _ _ hs; omega
      · omega
  rcases h with h | ⟨e', heq, _, b, cap, C, ty', lo, hi, sz', hval, hk, he, hb, hC, hr, hl, hh, hS⟩
  · cases h with
    | plain _ _ h => cases h
    | full ao k _ h =>
      have hk : k = E.length := by cases h with
        | sliceNil => rfl
        | slice _ _ _ _ _ _ _ hn => exact hn.symm
      subst hk
      exact new ao E.length rfl (by omega)
  · injection heq with h1
    subst h1
    by_cases hlt : cap < E.length + F.length
    · exact new _ cap hval hlt
    · subst hval
      have hsz : sz' = sz := width_eq hE hr he
      subst hsz
      have hroom : E.length + F.length ≤ cap := by omega
      have hfit : E.length * sz' + news.length ≤ C.size := by rw [hs.newsLen, hC, ← Nat.add_mul]; exact Nat.mul_le_mul_right _ hroom
      have hrun := room (P := P) (ty := ty) hT hs hb hh hroom hfit
      have hfit' : E.length * sz' + news.toArray.size ≤ C.size := by simpa using hfit
      have hold : ∀ o, gh.S b o → (rowPut C (E.length * sz') news.toArray)[o]? = C[o]? := by
        intro o ho
        have : o < E.length * sz' := by
          rcases Nat.lt_or_ge o (E.length * sz') with h | h
          · exact h
          · exact absurd ho (hS o h)
        rw [rowPut_get hfit', if_neg (by omega)]
      have st := row_step hW hb (rowPut_size hfit') (fun o => o < (E ++ F).length * sz') hold p s.H.length
      have hn : gh.κ b ≠ .none := by rw [hk]; simp
      have hE' := row_ext hW hb (rowPut_size hfit') (fun o => o < (E ++ F).length * sz') hold hp hn (by rw [hk]; simp) s.H.length
      have hprefix : ∀ j, j < (olds ++ news).toArray.size → (rowPut C (E.length * sz') news.toArray)[j]? = (olds ++ news).toArray[j]? := by
        intro j hj
        have hnl0 : news.length = F.length * sz' := hs.newsLen
        simp only [List.size_toArray, List.length_append] at hj
        rw [rowPut_get hfit']
        simp only [List.getElem?_toArray, List.size_toArray]
        rw [List.getElem?_append]
        split
        · rw [if_neg (by omega), hol]
        · rename_i hno
          have hj' : j < E.length * sz' := by omega
          rw [if_pos (by omega)]
          rcases hshape with ⟨_, hE0⟩ | ⟨b2, o2, cap2, hV2, _, hcells⟩
          · exact absurd hE0 he
          · injection hV2 with h1 h2 h3
            injection h1 with h1
            injection h1 with h1 h4
            subst h1 h4
            have := (hcells j hj').2
            rw [Nat.zero_add, cell_of_row w b j C ty' _ hb] at this
            exact this
      have hty : ∀ k m, k < (E ++ F).length * sz' → (rowPut C (E.length * sz') news.toArray)[k]? = some (.int .u8 m) → ty' = byteTy := by
        intro k m hk hc
        rw [hprefix k (by rw [hall.1]; exact hk)] at hc
        refine rows_bytes hall hok (fun hB => ?_) hk hc
        -- the head of what lies there is a byte
        subst hB
        cases E with
        | nil => exact absurd rfl he
        | cons r0 E0 =>
          have hr0 : ∃ m0, r0 = [.int .u8 m0] := by
            have : byteRows (r0 :: E0 ++ F) = true := hok
            simp only [byteRows, List.cons_append, List.all_cons, Bool.and_eq_true] at this
            have h1 := this.1
            split at h1
            · exact ⟨_, rfl⟩
            · cases h1
          obtain ⟨m0, rfl⟩ := hr0
          rcases hshape with ⟨_, hE0⟩ | ⟨b2, o2, cap2, hV2, _, hcells⟩
          · cases hE0
          · injection hV2 with h1 h2 h3
            injection h1 with h1
            injection h1 with h1 h4
            subst h1 h4
            have h5 := hr 0 _ rfl
            simp only [List.length_singleton] at h5
            obtain ⟨v, hv, hp⟩ := hrV.2.2 0 0 _ _ rfl rfl
            cases hp
            simp only [List.getElem?_toArray, Nat.zero_mul, Nat.zero_add] at hv
            have h6 := hcells 0 (by simp; omega)
            rw [Nat.zero_add, hv] at h6
            obtain ⟨C2, fr2, h7⟩ := hW.bytes _ _ _ h6.1 h6.2
            rw [hb] at h7
            injection h7 with h7
            injection h7
      have hW' := row_W hW hb (rowPut_size hfit') (fun o => o < (E ++ F).length * sz') hold hty p hn (by rw [hk]; simp)
      have st0 := st
      rw [hk] at st
      have hnl : news.length = F.length * sz' := hs.newsLen
      refine ⟨_, _, _, hrun, hW', hF.grown (H' := s.H) (lo' := s.lo) st (fun i => ⟨by simp, by simp, by simp⟩) (Nat.le_refl _), hE', .inr ⟨E ++ F, rfl, ?_, ?_⟩⟩
      · rw [← List.length_append]
        refine hall.toPR st.S st.cell (setRow_heap w b C _ ty' _ hb) (fun j hj => ?_) (fun j hj => .inr ⟨rfl, hj⟩) cap (by rw [List.length_append]; exact hroom)
        simp only [List.size_toArray, List.length_append] at hj
        rw [rowPut_get hfit']
        simp only [List.getElem?_toArray, List.size_toArray]
        rw [List.getElem?_append]
        split
        · rw [if_neg (by omega), hol]
        · rename_i hno
          have hj' : j < E.length * sz' := by omega
          rw [if_pos (by omega)]
          rcases hshape with ⟨_, hE0⟩ | ⟨b2, o2, cap2, hV2, _, hcells⟩
          · exact absurd hE0 he
          · injection hV2 with h1 h2 h3
            injection h1 with h1
            injection h1 with h1 h4
            subst h1 h4
            have := (hcells j hj').2
            rw [Nat.zero_add, cell_of_row w b j C ty' _ hb] at this
            exact this
      · refine ⟨b, cap, _, ty', lo, hi, sz', by rw [List.length_append], by simp, by simp [he], setRow_heap w b C _ ty' _ hb, by rw [rowPut_size hfit', hC], hall.2.1, by rw [List.length_append]; exact hroom, ?_, ?_⟩
        · rw [List.length_append, Nat.add_mul]; exact Nat.le_trans hh (Nat.le_add_right _ _)
        · rintro o ho (hs' | ⟨_, hs'⟩)
          · exact hS o (by rw [List.length_append, Nat.add_mul] at ho; omega) hs'
          · omega

end
end Go.Abs
