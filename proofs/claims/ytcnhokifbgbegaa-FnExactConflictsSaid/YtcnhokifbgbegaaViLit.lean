/- Vi: make, literals of slices and structs, conversions. -/
import Derived.Test.YtcnhokifbgbegaaViApp
set_option linter.unusedSimpArgs false
set_option linter.unusedVariables false
namespace Go.Vi
open Go.RowKit
variable {P : Program} {loc : Locs} {I : Nat → Prop} {st : Store} {w : World}

/-- A slice's element type and its zero. -/
def okMake (P : Program) (t e : Nat) (z : List D) : Bool := okGrow P t e z.length && zeroOk P e z

theorem make_sound (hs : Sim P loc I st w) {t e : Nat} {z : List D} (hg : okMake P t e z = true) {u v : Value} {x y : D} (hx : Rep I w loc u x) (hy : Rep I w loc v y) {d : D} {st' : Store} (hd : mksE e z x y st = some (d, st')) :
    ∃ q w' loc', (Instr.makeSlice t u v).run P w = .ok q w' ∧ Rep I w' loc' q d ∧ Later P loc I st w loc' I st' w' ∧ Ext loc loc' := by
  simp only [okMake, Bool.and_eq_true] at hg
  obtain ⟨hg, hz0⟩ := hg
  obtain ⟨hu, i, zv, hi, hik, hk0, hck, hby, hz, hzs⟩ := okGrow_spec hg
  have hzc : ∀ (j : Nat) (c : Value) (d : D), zv.cells.toList[j]? = some c → z[j]? = some d → constOk c d = true := by
    unfold zeroOk at hz0
    rw [hi] at hz0
    simp only [hz, Bool.and_eq_true] at hz0
    exact (cellsOk_spec hz0.1).2
  unfold mksE at hd
  split at hd
  · rename_i k1 n k2 c
    cases hx
    cases hy
    split at hd
    · rename_i hc
      obtain ⟨h0, h1, h2, hzok⟩ := hc
      injection hd with hd
      injection hd with e1 e2
      subst e1; subst e2
      have hc30 : c ≤ 1073741824 := by simpa [rowMax] using h2
      have hr := run_make (P := P) w t e i zv hu hi hz k1 k2 n c h0 h1 (by
        have : (i.bytes : Int) * c ≤ 131072 * 1073741824 := Int.mul_le_mul (by omega) hc30 (by omega) (by omega)
        omega) (by omega)
      let L : Loc := ⟨w.heap.size, false, z.length, c.toNat⟩
      have hext : Ext loc (upd loc st.length L) := upd_ext (hs.new _ (Nat.le_refl _))
      refine ⟨_, _, upd loc st.length L, hr, ?_, ?_, hext⟩
      · have := Rep.osl (I := I) (w := w.alloc (.cells (madeCells zv.cells (c.toNat * i.size)) e)) (upd loc st.length L) st.length 0 n.toNat L (upd_self _ _ _) rfl (by show 0 + n.toNat ≤ c.toNat; omega)
        simpa using this
      · refine later_new hs _ L _ rfl ⟨L, upd_self _ _ _, hck.symm, fun r hr => ?_, .inr ⟨rfl, _, heap_alloc_new w _, ?_, ?_, ?_, fun i' r j d hi' hj => ?_⟩⟩
        · rw [List.mem_replicate] at hr; rw [hr.2]; exact hzok
        · simp only [List.length_replicate]; show n.toNat ≤ c.toNat; omega
        · show c.toNat ≤ maxLen; simp only [maxLen]; omega
        · rw [size_madeCells, hik]
        · have hlt : i' < n.toNat := by have := (List.getElem?_eq_some_iff.1 hi').1; simpa using this
          simp [hlt] at hi'
          subst hi'
          have hjl : j < z.length := (List.getElem?_eq_some_iff.1 hj).1
          have hm : i' * z.length + j < c.toNat * z.length := by
            have := Nat.mul_le_mul_right z.length (show i' + 1 ≤ c.toNat by omega)
            rw [Nat.succ_mul] at this
            omega
          have hmod : (i' * z.length + j) % z.length = j := by rw [Nat.mul_comm, Nat.mul_add_mod]; exact Nat.mod_eq_of_lt hjl
          have hjz : j < zv.cells.size := by omega
          refine ⟨zv.cells[j], ?_, ?_⟩
          · show (madeCells zv.cells (c.toNat * i.size))[i' * z.length + j]? = _
            simp [madeCells, hik, hm, hzs, hmod]
            exact getElem!_pos zv.cells j hjz
          · refine constOk_rep (hzc j _ d (by simp [hjz]) hj) _ _ _
    · cases hd
  · cases hd

/-! ### Literals -/
theorem set_fold (off : Nat) : ∀ (vs : List Value) (s : Nat) (cells : Array Value), off + s + vs.length ≤ cells.size →
    ((vs.zipIdx s).foldl (fun cs p => cs.setIfInBounds (off + p.2) p.1) cells).toList = cells.toList.take (off + s) ++ vs ++ cells.toList.drop (off + s + vs.length)
  | [], s, cells, _ => by simp
  | v :: vs, s, cells, h => by
    simp only [List.length_cons] at h
    rw [List.zipIdx_cons, List.foldl_cons, set_fold off vs (s + 1) _ (by simp; omega)]
    have := list_seg_step cells.toList (off + s) v vs (by simp; omega)
    simp only [Array.toList_setIfInBounds, List.length_cons]
    rw [← this]
    simp [Nat.add_assoc]

theorem fill_step (place : Nat → Option (Nat × Nat)) (cells : Array Value) (i : Nat) (v : Value) (rest : List (Nat × Value)) (off size : Nat) (hp : place i = some (off, size)) (hv : v.cells.size = size) (hf : off + size ≤ cells.size) :
    Instr.fill place cells ((i, v) :: rest) = Instr.fill place (cells.toList.take off ++ v.cells.toList ++ cells.toList.drop (off + size)).toArray rest := by
  have h := set_fold off v.cells.toList 0 cells (by simp; omega)
  simp only [Instr.fill, hp]
  rw [if_neg (by simp [hv]; omega)]
  congr 1
  apply Array.ext'
  rw [← Array.foldl_toList]
  simp only [Array.toList_zipIdx]
  rw [h]
  simp [hv]

/-- Parts as rows: each in its place, in order. -/
def okParts (k : Nat) : Nat → List (Nat × Operand) → List Opd → Bool
  | _, [], [] => true
  | i, (j, x) :: ps, y :: ys => j == i && okOpd x y && okParts k (i + 1) ps ys
  | _, _, _ => false
theorem okParts_len {k : Nat} : ∀ {i : Nat} {ps : List (Nat × Operand)} {ys : List Opd}, okParts k i ps ys = true → ps.length = ys.length
  | _, [], [], _ => rfl
  | _, (_, _) :: ps, _ :: ys, h => by simp only [okParts, Bool.and_eq_true] at h; simp [okParts_len h.2]
  | _, [], _ :: _, h => by simp [okParts] at h
  | _, (_, _) :: _, [], h => by simp [okParts] at h

theorem fill_rows {gl : Nat → Option (List D)} {σ : St} {a : Act} (he : EnvRep I w loc σ.env a.tmps) (hgl : GlobRep gl I w) (k : Nat) : ∀ (ps : List (Nat × Operand)) (ys : List Opd) (i : Nat) (cells : Array Value),
    okParts k i ps ys = true → (∀ r ∈ ys.map fun y => cellsOf (σ.ev gl y), rowOk k r = true) → cells.size = (i + ps.length) * k →
    ∃ out : Array Value, Instr.fill (fun i => some (i * k, k)) cells (ps.map fun p => (p.1, a.eval p.2)) = some out ∧ out.size = cells.size ∧ (∀ m, m < i * k → out[m]? = cells[m]?) ∧
      ∀ (j : Nat) (r : List D) (q : Nat) (d : D), (ys.map fun y => cellsOf (σ.ev gl y))[j]? = some r → r[q]? = some d → ∃ u, out[(i + j) * k + q]? = some u ∧ Rep I w loc u d
  | [], [], i, cells, _, _, _ => ⟨cells, rfl, rfl, fun _ _ => rfl, fun j r q d h => by simp at h⟩
  | (j0, x) :: ps, y :: ys, i, cells, hok, hrow, hsz => by
    simp only [okParts, Bool.and_eq_true, beq_iff_eq] at hok
    obtain ⟨⟨rfl, hxy⟩, hrest⟩ := hok
    have hrep := ev_rep he hgl hxy
    have hy : rowOk k (cellsOf (σ.ev gl y)) = true := hrow _ (by simp)
    simp only [rowOk, Bool.and_eq_true, beq_iff_eq, List.all_eq_true] at hy
    have hone : (cellsOf (σ.ev gl y)).all oneCell = true := List.all_eq_true.2 fun d hd => (hy.2 d hd).2
    obtain ⟨hl, hc⟩ := hrep.cells hone
    have hvk : (a.eval x).cells.size = k := by rw [← Array.length_toList, hl, hy.1]
    simp only [List.length_cons] at hsz
    have hge : j0 * k + k ≤ cells.size := by
      rw [hsz]
      have := Nat.mul_le_mul_right k (show j0 + 1 ≤ j0 + (ps.length + 1) by omega)
      rwa [Nat.succ_mul] at this
    have hstep := fill_step (fun i => some (i * k, k)) cells j0 (a.eval x) (ps.map fun p => (p.1, a.eval p.2)) (j0 * k) k rfl hvk hge
    have hlen : (cells.toList.take (j0 * k) ++ (a.eval x).cells.toList ++ cells.toList.drop (j0 * k + k)).toArray.size = cells.size := by
      simp [hvk]; omega
    obtain ⟨out, h1, h2, h3, h4⟩ := fill_rows he hgl k ps ys (j0 + 1) (cells.toList.take (j0 * k) ++ (a.eval x).cells.toList ++ cells.toList.drop (j0 * k + k)).toArray hrest (fun r hr => hrow r (by simp only [List.map_cons, List.mem_cons]; exact .inr hr))
      (by rw [hlen, hsz, show j0 + (ps.length + 1) = j0 + 1 + ps.length by omega])
    have hvl : (a.eval x).cells.toList.length = k := by rw [hl, hy.1]
    have hget : ∀ m : Nat, (cells.toList.take (j0 * k) ++ (a.eval x).cells.toList ++ cells.toList.drop (j0 * k + k)).toArray[m]? = if m < j0 * k then cells.toList[m]? else if m < j0 * k + k then (a.eval x).cells.toList[m - j0 * k]? else cells.toList[m]? := by
      intro m
      have := splice_get cells.toList (a.eval x).cells.toList (j0 * k) m (by rw [hvl]; simp; omega)
      rw [hvl] at this
      simpa using this
    refine ⟨out, ?_, by rw [h2, hlen], fun m hm => ?_, fun j r q d hj hq => ?_⟩
    · simp only [List.map_cons]
      rw [hstep]
      exact h1
    · rw [h3 m (by rw [Nat.succ_mul]; omega), hget, if_pos hm]
      simp
    · cases j with
      | zero =>
        simp at hj
        subst hj
        have hqk : q < k := by have := (List.getElem?_eq_some_iff.1 hq).1; omega
        rw [h3 _ (by rw [Nat.succ_mul]; simp; omega), hget, if_neg (by simp), if_pos (by simp; omega)]
        have hql : q < (a.eval x).cells.toList.length := by omega
        refine ⟨(a.eval x).cells.toList[q], ?_, (hc q _ d (List.getElem?_eq_getElem hql) hq)⟩
        rw [show (j0 + 0) * k + q - j0 * k = q by simp]
        exact List.getElem?_eq_getElem hql
      | succ j =>
        obtain ⟨u, hu, hr⟩ := h4 j r q d (by simpa using hj) hq
        exact ⟨u, by rw [← hu]; congr 1; rw [show j0 + (j + 1) = j0 + 1 + j by omega], hr⟩
  | [], _ :: _, _, _, h, _, _ => by simp [okParts] at h
  | (_, _) :: _, [], _, _, h, _, _ => by simp [okParts] at h

theorem bsl_sound (hs : Sim P loc I st w) {gl : Nat → Option (List D)} {σ : St} {a : Act} (he : EnvRep I w loc σ.env a.tmps) (hgl : GlobRep gl I w) {t e k : Nat} (hg : okGrow P t e k = true) {own : Bool} {ps : List (Nat × Operand)} {ys : List Opd}
    (hok : okParts k 0 ps ys = true) (hsmall : ps.length * k ≤ 16777216) {d : D} {st' : Store} (hd : bslE own e k (ys.map fun y => cellsOf (σ.ev gl y)) st = some (d, st')) :
    ∃ q w' loc' I', (Instr.buildSlice t ps.length (ps.map fun p => (p.1, a.eval p.2)).toArray).run P w = .ok q w' ∧ Rep I' w' loc' q d ∧ Later P loc I st w loc' I' st' w' ∧ Ext loc loc' := by
  obtain ⟨hu, i, zv, hi, hik, hk0, hck, hby, hz, hzs⟩ := okGrow_spec hg
  unfold bslE at hd
  split at hd
  · rename_i hrows
    have hrow : ∀ r ∈ ys.map fun y => cellsOf (σ.ev gl y), rowOk k r = true := List.all_eq_true.1 hrows
    have hn := okParts_len hok
    let z0 : Array Value := if ps.length * k = 0 then #[] else zv.cells
    obtain ⟨out, h1, h2, _, h4⟩ := fill_rows he hgl k ps ys 0 ((Array.range (ps.length * k)).map (z0[· % z0.size]!)) hok hrow (by simp)
    have hrun : (Instr.buildSlice t ps.length (ps.map fun p => (p.1, a.eval p.2)).toArray).run P w = .ok (.slice (some ⟨w.heap.size, 0, none⟩) ps.length ps.length) (w.alloc (.cells out e)) := by
      by_cases h0 : ps.length * k = 0
      · have : z0 = #[] := by simp [z0, h0]
        rw [this] at h1
        have h00 : ps = [] := by rcases Nat.mul_eq_zero.1 h0 with h | h; exact List.eq_nil_of_length_eq_zero h; exact absurd h hk0
        subst h00
        simp [Instr.fill] at h1
        subst h1
        simp [Instr.buildSlice, run_underlying hu, run_sizeOf hi, newRow, Instr.fill]
      · have : z0 = zv.cells := by simp [z0, h0]
        rw [this] at h1
        have hb : ¬ ps.length * k > 2 ^ 24 := by omega
        simp [Instr.buildSlice, run_underlying hu, run_sizeOf hi, hik, h0, zeroValue, typeInfo, hi, hz, newRow, h1, hb]
    have hsz : out.size = ps.length * k := by rw [h2]; simp
    have hcell : ∀ b o : Nat, ∀ (i' : Nat) (r : List D) (j : Nat) (d : D), (ys.map fun y => cellsOf (σ.ev gl y))[i']? = some r → r[j]? = some d → ∃ u, out[i' * k + j]? = some u ∧ Rep I w Locs.no u d := by
      intro _ _ i' r j d hi' hj
      obtain ⟨u, hu, hr⟩ := h4 i' r j d hi' hj
      have := hrow r (List.mem_of_getElem? hi')
      simp only [rowOk, Bool.and_eq_true, List.all_eq_true] at this
      exact ⟨u, by simpa using hu, hr.pure (this.2 d (List.mem_of_getElem? hj)).1⟩
    have hrl : (ys.map fun y => cellsOf (σ.ev gl y)).length = ps.length := by simp [hn]
    have hlt : ∀ b, b < w.heap.size → (w.alloc (.cells out e)).heap[b]? = w.heap[b]? := fun b hb => Below.heap_alloc w _ b hb
    split at hd
    · injection hd with hd
      injection hd with e1 e2
      subst e1; subst e2
      let L : Loc := ⟨w.heap.size, false, k, ps.length⟩
      have hext : Ext loc (upd loc st.length L) := upd_ext (hs.new _ (Nat.le_refl _))
      refine ⟨_, _, upd loc st.length L, I, hrun, ?_, ?_, hext⟩
      · have := Rep.osl (I := I) (w := w.alloc (.cells out e)) (upd loc st.length L) st.length 0 ps.length L (upd_self _ _ _) rfl (by show 0 + ps.length ≤ ps.length; omega)
        rw [hrl]
        simpa using this
      · refine later_new hs _ L _ rfl ⟨L, upd_self _ _ _, hck.symm, hrow, .inr ⟨rfl, out, heap_alloc_new w _, by rw [hrl]; exact Nat.le_refl _, ?_, hsz, fun i' r j d hi' hj => ?_⟩⟩
        · show ps.length ≤ maxLen
          simp only [maxLen]
          have : ps.length ≤ ps.length * k := Nat.le_mul_of_pos_right _ (by omega)
          omega
        · obtain ⟨u, hu, hr⟩ := hcell 0 0 i' r j d hi' hj
          exact ⟨u, hu, hr.mono (fun _ h => h) (fun b hb => hlt b (hs.bnd b hb)) fun _ _ h => h⟩
    · injection hd with hd
      injection hd with e1 e2
      subst e1; subst e2
      have hl := later_imm hs (w' := w.alloc (.cells out e)) (by simp) hlt rfl rfl rfl
      refine ⟨_, _, loc, _, hrun, ?_, hl, fun _ _ h => h⟩
      have hra : RowsAt (fun b => I b ∨ b = w.heap.size) (w.alloc (.cells out e)) w.heap.size 0 k (ys.map fun y => cellsOf (σ.ev gl y)) := by
        refine ⟨fun r hr => by have := hrow r hr; simp [rowOk] at this; exact this.1, fun i' r j d hi' hj => ?_⟩
        obtain ⟨u, hu, hr⟩ := hcell 0 0 i' r j d hi' hj
        refine ⟨u, by simp; exact hu, hr.mono (fun _ h => .inl h) (fun b hb => hlt b (hs.bnd b hb)) fun _ _ h => h⟩
      have := hra.rep (loc := loc) (cap := ps.length) (.inr rfl) (by rw [hrl]; exact Nat.le_refl _)
      rw [hrl] at this
      exact this
  · cases hd

/-! ### A struct's or array's literal -/
/-- The parts of a literal: where each lies, and what it is. -/
def okFields (place : Nat → Option (Nat × Nat)) : List (Nat × Operand) → List (Nat × Nat × Opd) → Bool
  | [], [] => true
  | (i, x) :: ps, (off, n, y) :: qs => (match place i with | some p => p.1 == off && p.2 == n | none => false) && okOpd x y && okFields place ps qs
  | _, _ => false
theorem fill_fields {gl : Nat → Option (List D)} {σ : St} {a : Act} (he : EnvRep I w loc σ.env a.tmps) (hgl : GlobRep gl I w) (place : Nat → Option (Nat × Nat)) : ∀ (ps : List (Nat × Operand)) (qs : List (Nat × Nat × Opd)) (cells : Array Value) (z out : List D),
    okFields place ps qs = true → cells.size = z.length → (∀ (j : Nat) (d : D), z[j]? = some d → ∃ u, cells[j]? = some u ∧ Rep I w loc u d) → fillP (σ.ev gl) z qs = some out →
    ∃ res : Array Value, Instr.fill place cells (ps.map fun p => (p.1, a.eval p.2)) = some res ∧ res.size = out.length ∧ ∀ (j : Nat) (d : D), out[j]? = some d → ∃ u, res[j]? = some u ∧ Rep I w loc u d
  | [], [], cells, z, out, _, hsz, hz, h => by
    injection h with h; subst h
    exact ⟨cells, rfl, hsz, hz⟩
  | (i, x) :: ps, (off, n, y) :: qs, cells, z, out, hok, hsz, hz, h => by
    simp only [okFields, Bool.and_eq_true] at hok
    obtain ⟨⟨hp, hxy⟩, hrest⟩ := hok
    split at hp
    · rename_i p hpl
      obtain ⟨p1, p2⟩ := p
      simp only [Bool.and_eq_true, beq_iff_eq] at hp
      obtain ⟨rfl, rfl⟩ := hp
      simp only [fillP] at h
      split at h
      · rename_i hc
        obtain ⟨hl, hone, hle⟩ := hc
        have hrep := ev_rep he hgl hxy
        obtain ⟨hcl, hcr⟩ := hrep.cells hone
        have hvl : (a.eval x).cells.toList.length = p2 := by rw [hcl, hl]
        have hvk : (a.eval x).cells.size = p2 := by rw [← hvl, Array.length_toList]
        have hstep := fill_step place cells i (a.eval x) (ps.map fun p => (p.1, a.eval p.2)) p1 p2 hpl hvk (by omega)
        have hlen : (cells.toList.take p1 ++ (a.eval x).cells.toList ++ cells.toList.drop (p1 + p2)).toArray.size = cells.size := by
          simp [hvk]; omega
        have hzl : (z.take p1 ++ cellsOf (σ.ev gl y) ++ z.drop (p1 + p2)).length = z.length := by simp [hl]; omega
        have hget : ∀ m : Nat, (cells.toList.take p1 ++ (a.eval x).cells.toList ++ cells.toList.drop (p1 + p2)).toArray[m]? = if m < p1 then cells.toList[m]? else if m < p1 + p2 then (a.eval x).cells.toList[m - p1]? else cells.toList[m]? := by
          intro m
          have := splice_get cells.toList (a.eval x).cells.toList p1 m (by rw [hvl]; simp; omega)
          rw [hvl] at this
          simpa using this
        have hgetz : ∀ m : Nat, (z.take p1 ++ cellsOf (σ.ev gl y) ++ z.drop (p1 + p2))[m]? = if m < p1 then z[m]? else if m < p1 + p2 then (cellsOf (σ.ev gl y))[m - p1]? else z[m]? := by
          intro m
          have := splice_get z (cellsOf (σ.ev gl y)) p1 m (by rw [hl]; omega)
          rw [hl] at this
          exact this
        obtain ⟨res, h1, h2, h3⟩ := fill_fields he hgl place ps qs _ _ out hrest (hlen.trans (hsz.trans hzl.symm)) (fun m d hm => by
          rw [hgetz] at hm
          rw [hget]
          split at hm
          · rename_i hlt; rw [if_pos hlt]
            obtain ⟨u, hu, hr⟩ := hz m d hm
            exact ⟨u, by simpa using hu, hr⟩
          · rename_i hlt; rw [if_neg hlt]
            split at hm
            · rename_i hlt2; rw [if_pos hlt2]
              have hq : m - p1 < (a.eval x).cells.toList.length := by omega
              exact ⟨_, List.getElem?_eq_getElem hq, hcr _ _ d (List.getElem?_eq_getElem hq) hm⟩
            · rename_i hlt2; rw [if_neg hlt2]
              obtain ⟨u, hu, hr⟩ := hz m d hm
              exact ⟨u, by simpa using hu, hr⟩) h
        refine ⟨res, ?_, h2, h3⟩
        simp only [List.map_cons]
        rw [hstep]
        exact h1
      · cases h
    · cases hp
  | [], _ :: _, _, _, _, h, _, _, _ => by simp [okFields] at h
  | (_, _) :: _, [], _, _, _, h, _, _, _ => by simp [okFields] at h
end Go.Vi
