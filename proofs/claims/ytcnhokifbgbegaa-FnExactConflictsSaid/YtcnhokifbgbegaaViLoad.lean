/- Vi: loads and stores. -/
import Derived.Test.YtcnhokifbgbegaaViOps
set_option linter.unusedSimpArgs false
set_option linter.unusedVariables false
namespace Go.Vi
open Go.RowKit
variable {P : Program}

def aggB : TypeDesc → Bool
  | .struct _ => true
  | .array _ _ => true
  | _ => false
theorem run_isAgg {t : TypeId} {d : TypeDesc} (h : P.underlying t = some d) (w : World) : (isAgg t).run P w = .ok (aggB d) w := by
  unfold isAgg
  rw [Sem.run_bind, run_underlying h w]
  cases d <;> rfl
theorem run_sizeOf {t : TypeId} {i : TypeInfo} (h : P.info? t = some i) (w : World) : (sizeOf t).run P w = .ok i.size w := by simp [sizeOf, typeInfo, h]

/-- A type's cells: of a struct or an array so many, else one. -/
def okTy (P : Program) (t : TypeId) (n : Option Nat) : Bool :=
  match P.underlying t, P.info? t, n with
  | some d, some i, some n => aggB d && i.size == n
  | some d, some i, none => !aggB d && i.size == 1
  | _, _, _ => false

/-- From offset o of block b on the cells say 'cs'. -/
def CellsAt (I : Nat → Prop) (w : World) (loc : Locs) (b o : Nat) (cs : List D) : Prop := ∀ (j : Nat) (d : D), cs[j]? = some d → ∃ v, w.cell? ⟨b, o + j, none⟩ = some v ∧ Rep I w loc v d
theorem CellsAt.drop {I : Nat → Prop} {w : World} {loc : Locs} {b o : Nat} {cs : List D} (h : CellsAt I w loc b o cs) (n : Nat) : CellsAt I w loc b (o + n) (cs.drop n) := fun j d hd => by
  obtain ⟨v, h1, h2⟩ := h (n + j) d (by simpa [List.getElem?_drop] using hd)
  exact ⟨v, by rw [show o + n + j = o + (n + j) by omega]; exact h1, h2⟩

theorem add_at (b o j : Nat) : (⟨b, o, none⟩ : Addr).add j = ⟨b, o + j, none⟩ := by unfold Addr.add; split <;> simp_all

theorem load_cells {I : Nat → Prop} {w : World} {loc : Locs} {b o : Nat} {cs : List D} (h : CellsAt I w loc b o cs) {t : TypeId} {n : Option Nat} (ht : okTy P t n = true) {d : D} (hd : valOf n cs = some d) :
    ∃ v, (loadVar t ⟨b, o, none⟩).run P w = .ok v w ∧ Rep I w loc v d := by
  unfold okTy at ht
  split at ht
  · rename_i dd i m hu hi
    simp at ht
    obtain ⟨ha, hm⟩ := ht
    simp only [valOf] at hd
    split at hd
    · rename_i hle
      injection hd with hd
      subst hd
      have hcell : ∀ j, j < m → w.cell? ⟨b, o + j, none⟩ = some ((w.cell? ⟨b, o + j, none⟩).getD Go.undef) := fun j hj => by
        obtain ⟨v, hv, _⟩ := h j (cs[j]'(by omega)) (by simp)
        rw [hv]; rfl
      have hl : ((List.range m).map fun j => (w.cell? ⟨b, o + j, none⟩).getD Go.undef).length = m := by simp
      have hrun := run_loadCells_list (P := P) w ⟨b, o, none⟩ ((List.range m).map fun j => (w.cell? ⟨b, o + j, none⟩).getD Go.undef) (fun j v hv => by
        rw [add_at]
        have hj : j < m := by have := (List.getElem?_eq_some_iff.1 hv).1; simpa using this
        rw [hcell j hj]
        simpa [hj] using hv)
      rw [hl] at hrun
      refine ⟨.agg ((List.range m).map fun j => (w.cell? ⟨b, o + j, none⟩).getD Go.undef).toArray, ?_, ?_⟩
      · simp [loadVar, run_isAgg hu, ha, run_sizeOf hi, hm, hrun]
      · refine .agg _ _ _ (by simp; omega) fun j c x h1 h2 => ?_
        have hj : j < m := by have := (List.getElem?_eq_some_iff.1 h1).1; simpa using this
        obtain ⟨v, hv, hr⟩ := h j x (by simpa [List.getElem?_take, hj] using h2)
        have : c = v := by simp [hj, hv] at h1; exact h1.symm
        rw [this]; exact hr
    · cases hd
  · rename_i dd i hu hi
    simp at ht
    cases cs with
    | nil => simp [valOf] at hd
    | cons c cs =>
      simp only [valOf] at hd
      injection hd with hd
      subst hd
      obtain ⟨v, hv, hr⟩ := h 0 c rfl
      exact ⟨v, by simp [loadVar, run_isAgg hu, ht.1]; simp at hv; simp [hv], hr⟩
  · cases ht

theorem cellsAt_bx {loc : Locs} {I : Nat → Prop} {w : World} {id : Nat} {cs : List D} (h : Holds P loc I w id (.bx cs)) : ∃ L, loc id = some L ∧ L.nil = false ∧ CellsAt I w loc L.b 0 cs := by
  obtain ⟨L, hL, hn, cur, t, hh, hs, hr⟩ := h
  refine ⟨L, hL, hn, fun j d hd => ?_⟩
  obtain ⟨v, hv, hrep⟩ := hr j d hd
  exact ⟨v, by rw [Nat.zero_add, cell_of_row w L.b j cur t (0, 0) hh]; exact hv, hrep⟩
theorem cellsAt_rw {loc : Locs} {I : Nat → Prop} {w : World} {id : Nat} {e : Nat} {rows : List (List D)} (h : Holds P loc I w id (.rw e rows)) {i : Nat} {r : List D} (hr : rows[i]? = some r) : ∃ L, loc id = some L ∧ L.nil = false ∧ CellsAt I w Locs.no L.b (i * L.k) r := by
  obtain ⟨L, hL, hk, hok, hh⟩ := h
  rcases hh with ⟨_, rfl⟩ | ⟨hn, cur, hh, h1, h2, h3, h4⟩
  · simp at hr
  · refine ⟨L, hL, hn, fun j d hd => ?_⟩
    obtain ⟨v, hv, hrep⟩ := h4 i r j d hr hd
    exact ⟨v, by rw [cell_of_row w L.b _ cur e (0, 0) hh]; exact hv, hrep⟩

theorem CellsAt.of_no {I : Nat → Prop} {w : World} {loc : Locs} {b o : Nat} {cs : List D} (h : CellsAt I w Locs.no b o cs) : CellsAt I w loc b o cs := fun j d hd => let ⟨v, h1, h2⟩ := h j d hd; ⟨v, h1, h2.of_no⟩

/-- A load. -/
theorem loadD_addr {loc : Locs} {I : Nat → Prop} {st : Store} {w : World} (hs : Sim P loc I st w) {v : Value} {x : D} (hx : Rep I w loc v x) {t : TypeId} {n : Option Nat} (ht : okTy P t n = true) {d : D} (hd : loadD st n x = some d) :
    ∃ a u, v = .pointer (some a) ∧ (loadVar t a).run P w = .ok u w ∧ Rep I w loc u d := by
  have key : ∀ b o cs, CellsAt I w loc b o cs → valOf n cs = some d → v = .pointer (some ⟨b, o, none⟩) → ∃ a u, v = .pointer (some a) ∧ (loadVar t a).run P w = .ok u w ∧ Rep I w loc u d := by
    intro b o cs hc hv he
    obtain ⟨u, h1, h2⟩ := load_cells hc ht hv
    exact ⟨_, u, he, h1, h2⟩
  cases hx with
  | ptr _ id off L hL hn =>
    simp only [loadD] at hd
    split at hd
    · rename_i cs ho
      obtain ⟨L', hL', _, hc⟩ := cellsAt_bx (hs.obj id _ ho)
      rw [hL] at hL'; injection hL' with hL'; subst hL'
      exact key _ _ _ (by simpa using hc.drop off) hd rfl
    · cases hd
  | ept _ id row off L hL hn =>
    simp only [loadD] at hd
    split at hd
    · rename_i e rows ho
      split at hd
      · rename_i r hr
        obtain ⟨L', hL', _, hc⟩ := cellsAt_rw (hs.obj id _ ho) hr
        rw [hL] at hL'; injection hL' with hL'; subst hL'
        exact key _ _ _ (hc.drop off).of_no hd rfl
      · cases hd
    · cases hd
  | ipt _ b o cs cell hI hc h =>
    exact key b o cs (fun j d hd => ⟨cell j, hc j (List.getElem?_eq_some_iff.1 hd).1, (h j d hd).of_no⟩) hd rfl
  | _ => simp [loadD] at hd
theorem loadD_sound {loc : Locs} {I : Nat → Prop} {st : Store} {w : World} (hs : Sim P loc I st w) {v : Value} {x : D} (hx : Rep I w loc v x) {t : TypeId} {n : Option Nat} (ht : okTy P t n = true) {d : D} (hd : loadD st n x = some d) :
    ∃ u, (Instr.loadAt t v).run P w = .ok u w ∧ Rep I w loc u d := by
  obtain ⟨a, u, rfl, h1, h2⟩ := loadD_addr hs hx ht hd
  exact ⟨u, by simp [Instr.loadAt, Instr.sureAddr, h1], h2⟩

/-- A store's cells laid into a row. -/
theorem run_storeVar_at (w : World) (g o : Nat) (t ty : TypeId) (cur : Array Value) (v : Value) {n : Nat} (hg : w.heap[g]? = some (.cells cur t (0, 0))) (hi : (P.info? ty).map (·.size) = some n)
    (hv : v.cells.toList.length = n) (ho : o + n ≤ cur.size) (h1 : ∀ u ∈ v.cells.toList, u.oneCell' = true) :
    (storeVar ty ⟨g, o, none⟩ v).run P w = .ok () (w.setRow g (cur.toList.take o ++ v.cells.toList ++ cur.toList.drop (o + n)).toArray) := by
  have := run_storeCells_at (P := P) g o t v.cells.toList 0 cur w hg (by omega) h1
  cases hq : P.info? ty with
  | none => simp [hq] at hi
  | some i =>
    have hs : i.size = n := by simpa [hq] using hi
    have hv' : v.cells.size = n := by simpa using hv
    simp only [Nat.add_zero, hv] at this
    simp [storeVar, sizeOf, typeInfo, hq, hv', hs, this]

theorem setRow_other' (w : World) (g b : Nat) (cs : Array Value) (h : b ≠ g) : (w.setRow g cs).heap[b]? = w.heap[b]? := by
  unfold World.setRow
  simp only [Array.getElem?_modify]
  rw [if_neg (Ne.symm h)]
theorem setRow_size (w : World) (g : Nat) (cs : Array Value) : (w.setRow g cs).heap.size = w.heap.size := by unfold World.setRow; simp

theorem splice_get {α : Type} (l xs : List α) (o j : Nat) (h : o + xs.length ≤ l.length) : (l.take o ++ xs ++ l.drop (o + xs.length))[j]? = if j < o then l[j]? else if j < o + xs.length then xs[j - o]? else l[j]? := by
  have ho : min o l.length = o := by omega
  rw [List.append_assoc, List.getElem?_append, List.getElem?_append]
  simp only [List.length_take, ho, List.getElem?_take, List.getElem?_drop]
  by_cases h1 : j < o
  · simp [h1]
  · by_cases h2 : j < o + xs.length
    · simp [h1, h2, show j - o < xs.length by omega]
    · simp [h1, h2, show ¬ j - o < xs.length by omega]
      congr 1; omega
theorem splice_length {α : Type} (l xs : List α) (o : Nat) (h : o + xs.length ≤ l.length) : (l.take o ++ xs ++ l.drop (o + xs.length)).length = l.length := by simp; omega

theorem storeD_sound {loc : Locs} {I : Nat → Prop} {st : Store} {w : World} (hs : Sim P loc I st w) {v u : Value} {x y : D} (hx : Rep I w loc v x) (hy : Rep I w loc u y) {t : TypeId} {n : Nat} (hi : (P.info? t).map (·.size) = some n) {st' : Store} (hd : storeD st n x y = some st') :
    ∃ w', (Instr.storeAt t v u).run P w = .ok () w' ∧ Later P loc I st w loc I st' w' := by
  unfold storeD at hd
  split at hd
  · rename_i hc
    obtain ⟨hlen, hone⟩ := hc
    obtain ⟨hl, hrep⟩ := hy.cells hone
    rw [hlen] at hl
    have h1 : ∀ q ∈ u.cells.toList, q.oneCell' = true := by
      intro q hq
      obtain ⟨i, hi⟩ := List.getElem?_of_mem hq
      have hlt : i < (cellsOf y).length := by have := (List.getElem?_eq_some_iff.1 hi).1; omega
      exact (hrep i q _ hi (List.getElem?_eq_getElem hlt)).one (all_get hone (List.getElem?_eq_getElem hlt))
    split at hd
    · -- a variable
      rename_i id off
      cases hx with
      | ptr _ _ _ L hL hn =>
        split at hd
        · rename_i cs ho
          split at hd
          · rename_i hfit
            injection hd with hd
            subst hd
            obtain ⟨L', hL', _, cur, tt, hh, hsz, hr⟩ := hs.obj id _ ho
            rw [hL] at hL'; injection hL' with hL'; subst hL'
            have hrun := run_storeVar_at w L.b off tt t cur u hh hi hl (by omega) h1
            refine ⟨_, hrun, ?_⟩
            have hLI : ∀ b, I b → b ≠ L.b := fun b hb e => hs.sep _ (own_of ho hL hn) (e ▸ hb)
            have hoth := fun b (hb : b ≠ L.b) => setRow_other' w L.b b (cur.toList.take off ++ u.cells.toList ++ cur.toList.drop (off + n)).toArray hb
            refine later_set hs ho hL hn (setRow_size _ _ _) hoth rfl rfl rfl ?_
            refine ⟨L, hL, hn, _, tt, setRow_heap w L.b cur _ tt _ hh, ?_, fun j d hd => ?_⟩
            · simp [spliceD, hlen, hl]; omega
            · unfold spliceD at hd
              rw [splice_get _ _ _ _ (by omega)] at hd
              have hg : (cur.toList.take off ++ u.cells.toList ++ cur.toList.drop (off + n)).toArray[j]? = if j < off then cur.toList[j]? else if j < off + n then u.cells.toList[j - off]? else cur.toList[j]? := by
                have := splice_get cur.toList u.cells.toList off j (by rw [hl]; simp; omega)
                rw [hl] at this
                simpa using this
              rw [hg]
              rw [hlen] at hd
              split at hd
              · rename_i hj
                rw [if_pos hj]
                obtain ⟨q, h2, h3⟩ := hr j d hd
                exact ⟨q, by simpa using h2, h3.mono (fun _ h => h) (fun b hb => hoth b (hLI b hb)) (fun _ _ h => h)⟩
              · rename_i hj
                rw [if_neg hj]
                split at hd
                · rename_i hj2
                  rw [if_pos hj2]
                  have hlt : j - off < u.cells.toList.length := by omega
                  exact ⟨_, List.getElem?_eq_getElem hlt, (hrep _ _ d (List.getElem?_eq_getElem hlt) hd).mono (fun _ h => h) (fun b hb => hoth b (hLI b hb)) (fun _ _ h => h)⟩
                · rename_i hj2
                  rw [if_neg hj2]
                  obtain ⟨q, h2, h3⟩ := hr j d hd
                  exact ⟨q, by simpa using h2, h3.mono (fun _ h => h) (fun b hb => hoth b (hLI b hb)) (fun _ _ h => h)⟩
          · cases hd
        · cases hd
    · -- an element
      rename_i id row off
      cases hx with
      | ept _ _ _ _ L hL hn =>
        split at hd
        · rename_i e rows ho
          split at hd
          · rename_i r hrow
            split at hd
            · rename_i hfit
              obtain ⟨hfit, hpure⟩ := hfit
              injection hd with hd
              subst hd
              obtain ⟨L', hL', hk, hok, hh⟩ := hs.obj id _ ho
              rw [hL] at hL'; injection hL' with hL'; subst hL'
              rcases hh with ⟨h0, _⟩ | ⟨_, cur, hh, hle, hcap, hsz, hr⟩
              · rw [hn] at h0; cases h0
              · have hrl : r.length = L.k := by have := hok r (List.mem_of_getElem? hrow); simp [rowOk] at this; exact this.1
                have hrowlt : row < rows.length := (List.getElem?_eq_some_iff.1 hrow).1
                have hbound : row * L.k + L.k ≤ cur.size := by
                  rw [hsz, ← Nat.succ_mul]
                  exact Nat.mul_le_mul_right _ (by omega)
                have hrun := run_storeVar_at w L.b (row * L.k + off) e t cur u hh hi hl (by omega) h1
                refine ⟨_, hrun, ?_⟩
                have hLI : ∀ b, I b → b ≠ L.b := fun b hb e => hs.sep _ (own_of ho hL hn) (e ▸ hb)
                have hoth := fun b (hb : b ≠ L.b) => setRow_other' w L.b b (cur.toList.take (row * L.k + off) ++ u.cells.toList ++ cur.toList.drop (row * L.k + off + n)).toArray hb
                refine later_set hs ho hL hn (setRow_size _ _ _) hoth rfl rfl rfl ?_
                refine ⟨L, hL, hk, ?_, .inr ⟨hn, _, setRow_heap w L.b cur _ e _ hh, by simpa using hle, hcap, ?_, ?_⟩⟩
                · intro q hq
                  rcases List.mem_or_eq_of_mem_set hq with hq | rfl
                  · exact hok q hq
                  · have hok' := hok r (List.mem_of_getElem? hrow)
                    simp only [rowOk, Bool.and_eq_true, beq_iff_eq, List.all_eq_true] at hok' ⊢
                    refine ⟨by unfold spliceD; rw [splice_length _ _ _ (by omega)]; exact hok'.1, fun d hd => ?_⟩
                    unfold spliceD at hd
                    rcases List.mem_append.1 hd with hd | hd
                    · rcases List.mem_append.1 hd with hd | hd
                      · exact hok'.2 d (List.mem_of_mem_take hd)
                      · exact ⟨List.all_eq_true.1 hpure d hd, List.all_eq_true.1 hone d hd⟩
                    · exact hok'.2 d (List.mem_of_mem_drop hd)
                · simp [hl]; omega
                · intro i q j d hi hj
                  have hg : ∀ m : Nat, (cur.toList.take (row * L.k + off) ++ u.cells.toList ++ cur.toList.drop (row * L.k + off + n)).toArray[m]? = if m < row * L.k + off then cur.toList[m]? else if m < row * L.k + off + n then u.cells.toList[m - (row * L.k + off)]? else cur.toList[m]? := by
                    intro m
                    have := splice_get cur.toList u.cells.toList (row * L.k + off) m (by rw [hl]; simp; omega)
                    rw [hl] at this
                    simpa using this
                  rw [hg]
                  have keep : ∀ {q : List D}, rows[i]? = some q → q[j]? = some d → ∃ v, cur.toList[i * L.k + j]? = some v ∧ Rep I (w.setRow L.b (cur.toList.take (row * L.k + off) ++ u.cells.toList ++ cur.toList.drop (row * L.k + off + n)).toArray) Locs.no v d := fun h2 h3 => by
                    obtain ⟨z, h4, h5⟩ := hr i _ j d h2 h3
                    exact ⟨z, by simpa using h4, h5.mono (fun _ h => h) (fun b hb => hoth b (hLI b hb)) (fun _ _ h => h)⟩
                  by_cases hir : row = i
                  · subst hir
                    rw [List.getElem?_set_self hrowlt] at hi
                    injection hi with hi
                    subst hi
                    unfold spliceD at hj
                    rw [splice_get _ _ _ _ (by omega), hlen] at hj
                    split at hj
                    · rw [if_pos (by omega)]; exact keep hrow hj
                    · rw [if_neg (by omega)]
                      split at hj
                      · rw [if_pos (by omega)]
                        have hlt : j - off < u.cells.toList.length := by omega
                        rw [show row * L.k + j - (row * L.k + off) = j - off by omega]
                        exact ⟨_, List.getElem?_eq_getElem hlt, ((hrep _ _ d (List.getElem?_eq_getElem hlt) hj).pure (all_get hpure hj)).mono (fun _ h => h) (fun b hb => hoth b (hLI b hb)) (fun _ _ h => h)⟩
                      · rw [if_neg (by omega)]; exact keep hrow hj
                  · rw [List.getElem?_set_ne hir] at hi
                    have hql : q.length = L.k := by have := hok q (List.mem_of_getElem? hi); simp [rowOk] at this; exact this.1
                    have hjl : j < L.k := by have := (List.getElem?_eq_some_iff.1 hj).1; omega
                    have hil : i < rows.length := (List.getElem?_eq_some_iff.1 hi).1
                    have hout : i * L.k + j < row * L.k + off ∨ row * L.k + off + n ≤ i * L.k + j := by
                      rcases Nat.lt_or_gt_of_ne hir with h | h
                      · right
                        have := Nat.mul_le_mul_right L.k (show row + 1 ≤ i by omega)
                        rw [Nat.succ_mul] at this
                        omega
                      · left
                        have := Nat.mul_le_mul_right L.k (show i + 1 ≤ row by omega)
                        rw [Nat.succ_mul] at this
                        omega
                    rcases hout with h | h
                    · rw [if_pos h]; exact keep hi hj
                    · rw [if_neg (by omega), if_neg (by omega)]; exact keep hi hj
            · cases hd
          · cases hd
        · cases hd
    · cases hd
  · cases hd
end Go.Vi
