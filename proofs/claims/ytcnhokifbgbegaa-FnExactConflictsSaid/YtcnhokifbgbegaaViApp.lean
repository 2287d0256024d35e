/- Vi: append, make, literals. -/
import Derived.Test.YtcnhokifbgbegaaViEval2
set_option linter.unusedSimpArgs false
set_option linter.unusedVariables false
namespace Go.Vi
open Go.RowKit
variable {P : Program} {loc : Locs} {I : Nat → Prop} {st : Store} {w : World}

/-- A slice's element type: its cells, its zero, and few bytes. -/
def okGrow (P : Program) (t e k : Nat) : Bool := okElem P t e k && (match P.info? e with | some i => decide (i.bytes ≤ 131072) && decide (0 < i.bytes) && (match i.zero with | some z => z.cells.size == k | none => false) | none => false)
theorem okGrow_spec {t e k : Nat} (h : okGrow P t e k = true) : P.underlying t = some (.slice e) ∧ ∃ i z, P.info? e = some i ∧ i.size = k ∧ k ≠ 0 ∧ P.cellsOf e = k ∧ i.bytes ≤ 131072 ∧ i.zero = some z ∧ z.cells.size = k := by
  simp only [okGrow, Bool.and_eq_true] at h
  obtain ⟨h1, h2⟩ := h
  obtain ⟨hu, i, hi, hik, hk0, hck⟩ := okElem_spec h1
  rw [hi] at h2
  simp only [Bool.and_eq_true, decide_eq_true_eq] at h2
  obtain ⟨⟨h3, _⟩, h4⟩ := h2
  split at h4
  · rename_i z hz
    exact ⟨hu, i, z, hi, hik, hk0, hck, h3, hz, by simpa using h4⟩
  · cases h4

/-- The cells of rows, one behind the other. -/
theorem rows_flat {b o k : Nat} {rows : List (List D)} (h : RowsAt I w b o k rows) (hok : ∀ r ∈ rows, rowOk k r = true) :
    ∃ news : List Value, news.length = rows.length * k ∧ (∀ (j : Nat) (u : Value), news[j]? = some u → w.cell? ⟨b, o + j, none⟩ = some u) ∧ (∀ u ∈ news, u.oneCell' = true) ∧
      ∀ (i : Nat) (r : List D) (j : Nat) (d : D), rows[i]? = some r → r[j]? = some d → ∃ u, news[i * k + j]? = some u ∧ Rep I w Locs.no u d := by
  have hcell : ∀ m, m < rows.length * k → ∃ u, w.cell? ⟨b, o + m, none⟩ = some u ∧ u.oneCell' = true := by
    intro m hm
    have hk : 0 < k := by rcases Nat.eq_zero_or_pos k with h0 | h0; simp [h0] at hm; exact h0
    have hi : m / k < rows.length := Nat.div_lt_of_lt_mul (by rw [Nat.mul_comm]; exact hm)
    have hj : m % k < k := Nat.mod_lt _ hk
    have hrl := h.1 _ (List.getElem_mem hi)
    obtain ⟨u, hu, hr⟩ := h.2 (m / k) rows[m / k] (m % k) (rows[m / k][m % k]'(by omega)) (List.getElem?_eq_getElem hi) (List.getElem?_eq_getElem _)
    have e : m / k * k + m % k = m := by rw [Nat.mul_comm]; exact Nat.div_add_mod m k
    rw [e] at hu
    have ho := hok _ (List.getElem_mem hi)
    simp only [rowOk, Bool.and_eq_true, List.all_eq_true] at ho
    exact ⟨u, hu, hr.one (ho.2 _ (List.getElem_mem _)).2⟩
  refine ⟨(List.range (rows.length * k)).map fun m => (w.cell? ⟨b, o + m, none⟩).getD Go.undef, by simp, fun j u hj => ?_, fun u hu => ?_, fun i r j d hi hj => ?_⟩
  · have hlt : j < rows.length * k := by have := (List.getElem?_eq_some_iff.1 hj).1; simpa using this
    obtain ⟨v, hv, _⟩ := hcell j hlt
    simp [hlt, hv] at hj
    rw [hv, hj]
  · simp only [List.mem_map, List.mem_range] at hu
    obtain ⟨m, hm, rfl⟩ := hu
    obtain ⟨v, hv, h1⟩ := hcell m hm
    rw [hv]; exact h1
  · obtain ⟨u, hu, hr⟩ := h.2 i r j d hi hj
    have hrl := h.1 r (List.mem_of_getElem? hi)
    have hil : i < rows.length := (List.getElem?_eq_some_iff.1 hi).1
    have hjl : j < k := by have := (List.getElem?_eq_some_iff.1 hj).1; omega
    have hlt : i * k + j < rows.length * k := by
      have := Nat.mul_le_mul_right k (show i + 1 ≤ rows.length by omega)
      rw [Nat.succ_mul] at this
      omega
    exact ⟨u, by simp [hlt, hu], hr⟩

/-- Behind an append or the like: what was in the old row's place is gone, the new row lies where it says. -/
theorem later_row (hs : Sim P loc I st w) {w' : World} {row : Option Nat} (hg : w.grownBy w' row) (st0 : Store) (hlen : st0.length = st.length) (hsub : ∀ id o, st0.obj id = some o → st.obj id = some o)
    (hrow : ∀ b, row = some b → Own loc st b ∧ ∀ id o L, st0.obj id = some o → loc id = some L → L.nil = false → L.b ≠ b)
    (o : Obj) (L : Loc) (hL : L.nil = true ∨ row = some L.b ∨ w.heap.size ≤ L.b) (hLlt : L.nil = false → L.b < w'.heap.size) (hh : Holds P (upd loc st.length L) I w' st.length o) :
    Later P loc I st w (upd loc st.length L) I (st0 ++ [some o]) w' ∧ (∀ b, I b → w'.heap[b]? = w.heap[b]?) := by
  have hnone : loc st.length = none := hs.new _ (Nat.le_refl _)
  have hext : Ext loc (upd loc st.length L) := upd_ext hnone
  have hI : ∀ b, I b → w'.heap[b]? = w.heap[b]? := fun b hb => hg.block b (hs.bnd b hb) fun e => hs.sep b (hrow b e.symm).1 hb
  have hown0 : ∀ b, Own loc st0 b → Own loc st b := by
    rintro b ⟨id, q, M, hq, hM, hn, rfl⟩
    exact own_of (hsub _ _ hq) hM hn
  have hpush : ∀ {id x}, Store.obj (st0 ++ [some o]) id = some x → (id < st.length ∧ st0.obj id = some x) ∨ (id = st.length ∧ o = x) := by
    intro id x hx
    rcases obj_push hx with ⟨h1, h2⟩ | ⟨h1, h2⟩
    · exact .inl ⟨by omega, h2⟩
    · injection h2 with h2; exact .inr ⟨by omega, h2⟩
  have hLnew : L.nil = false → ∀ id q M, st0.obj id = some q → loc id = some M → M.nil = false → M.b ≠ L.b := by
    intro hn id q M hq hM hMn
    rcases hL with h1 | h1 | h1
    · rw [hn] at h1; cases h1
    · exact (hrow _ h1).2 id q M hq hM hMn
    · have := hs.own_lt (own_of (hsub _ _ hq) hM hMn); omega
  refine ⟨⟨⟨hg.os, hg.tape, hg.output, hg.size, fun b hb hnb => hg.block b hb fun e => hnb (hrow b e.symm).1⟩, fun _ h => h, fun _ h => .inl h, ?_, ?_⟩, hI⟩
  · rintro b ⟨id, q, M, hq, hM, hn, rfl⟩
    rcases hpush hq with ⟨h1, h2⟩ | ⟨rfl, h2⟩
    · rw [upd_ne _ _ _ (by omega)] at hM
      exact .inl (own_of (hsub _ _ h2) hM hn)
    · rw [upd_self] at hM
      injection hM with hM
      subst hM
      rcases hL with h3 | h3 | h3
      · rw [hn] at h3; cases h3
      · exact .inl (hrow _ h3).1
      · exact .inr h3
  · refine ⟨?_, ?_, ?_, ?_, ?_⟩
    · intro id q hq
      rcases hpush hq with ⟨h1, h2⟩ | ⟨rfl, rfl⟩
      · refine (hs.obj id q (hsub _ _ h2)).mono hext (fun _ h => h) hI fun M hM hMn => ?_
        refine hg.block _ (hs.own_lt (own_of (hsub _ _ h2) hM hMn)) fun e => ?_
        exact (hrow _ e.symm).2 id q M h2 hM hMn rfl
      · exact hh
    · intro i j oi oj Li Lj hi hj hij hLi hLj hni hnj
      rcases hpush hi with ⟨h1, h2⟩ | ⟨rfl, h2⟩ <;> rcases hpush hj with ⟨h3, h4⟩ | ⟨rfl, h4⟩
      · rw [upd_ne _ _ _ (by omega)] at hLi hLj
        exact hs.inj i j oi oj Li Lj (hsub _ _ h2) (hsub _ _ h4) hij hLi hLj hni hnj
      · rw [upd_ne _ _ _ (by omega)] at hLi
        rw [upd_self] at hLj
        injection hLj with hLj
        subst hLj
        exact hLnew hnj i oi Li h2 hLi hni
      · rw [upd_self] at hLi
        rw [upd_ne _ _ _ (by omega)] at hLj
        injection hLi with hLi
        subst hLi
        exact (hLnew hni j oj Lj h4 hLj hnj).symm
      · omega
    · rintro b ⟨id, q, M, hq, hM, hn, rfl⟩ hb
      rcases hpush hq with ⟨h1, h2⟩ | ⟨rfl, h2⟩
      · rw [upd_ne _ _ _ (by omega)] at hM
        exact hs.sep _ (own_of (hsub _ _ h2) hM hn) hb
      · rw [upd_self] at hM
        injection hM with hM
        subst hM
        rcases hL with h3 | h3 | h3
        · rw [hn] at h3; cases h3
        · exact hs.sep _ (hrow _ h3).1 hb
        · have := hs.bnd _ hb; omega
    · intro b hb
      exact Nat.lt_of_lt_of_le (hs.bnd b hb) hg.size
    · intro id hid
      simp [hlen] at hid
      rw [upd_ne _ _ _ (by omega)]
      exact hs.new id (by omega)

/-- What 'ownsRow' says, as an object. -/
theorem holds_of_owns {w' : World} {e k : Nat} (hk : P.cellsOf e = k) {v : Value} {rows : List (List D)} {xs : List Value} (ho : w'.ownsRow 0 e k v rows.length xs) (hok : ∀ r ∈ rows, rowOk k r = true) {I : Nat → Prop}
    (hrep : ∀ (i : Nat) (r : List D) (j : Nat) (d : D), rows[i]? = some r → r[j]? = some d → ∃ u, xs[i * k + j]? = some u ∧ Rep I w' Locs.no u d) (loc : Locs) (id : Nat) :
    ∃ L, (v.ownBlock = none ∧ L.nil = true ∧ v = .slice none 0 0 ∨ v.ownBlock = some L.b ∧ L.nil = false ∧ v = .slice (some ⟨L.b, 0, none⟩) rows.length L.cap ∧ L.b < w'.heap.size ∧ rows.length ≤ L.cap) ∧ L.k = k ∧ Holds P (upd loc id L) I w' id (.rw e rows) := by
  rcases ho.2 with ⟨rfl, h0⟩ | ⟨g, cap, cur, rfl, _, hh, h1, h2, h3, h4⟩
  · refine ⟨⟨0, true, k, 0⟩, .inl ⟨rfl, rfl, rfl⟩, rfl, ⟨_, upd_self _ _ _, hk.symm, hok, .inl ⟨rfl, List.eq_nil_of_length_eq_zero h0⟩⟩⟩
  · refine ⟨⟨g, false, k, cap⟩, .inr ⟨rfl, rfl, rfl, (Array.getElem?_eq_some_iff.1 hh).1, h1⟩, rfl, ⟨_, upd_self _ _ _, hk.symm, hok, .inr ⟨rfl, cur, hh, h1, h2, h3, fun i r j d hi hj => ?_⟩⟩⟩
    obtain ⟨u, hu, hr⟩ := hrep i r j d hi hj
    refine ⟨u, ?_, hr⟩
    rw [← h4, List.getElem?_take] at hu
    split at hu
    · simpa using hu
    · cases hu

theorem owns_of_holds {id e k : Nat} {rows : List (List D)} {L : Loc} (hL : loc id = some L) (hk : P.cellsOf e = k) (hh : Holds P loc I w id (.rw e rows)) :
    ∃ xs, w.ownsRow 0 e k (if L.nil then .slice none 0 0 else .slice (some ⟨L.b, 0, none⟩) rows.length L.cap) rows.length xs ∧
      ∀ (i : Nat) (r : List D) (j : Nat) (d : D), rows[i]? = some r → r[j]? = some d → ∃ u, xs[i * k + j]? = some u ∧ Rep I w Locs.no u d := by
  obtain ⟨L', hL', hLk, hok, hh⟩ := hh
  rw [hL] at hL'; injection hL' with hL'; subst hL'
  rcases hh with ⟨h0, rfl⟩ | ⟨hn, cur, hh, h1, h2, h3, h4⟩
  · exact ⟨[], ⟨by simp, .inl ⟨by simp [h0], rfl⟩⟩, fun i r j d hi => by simp at hi⟩
  · rw [hLk, hk] at h3
    refine ⟨cur.toList.take (rows.length * k), ⟨?_, .inr ⟨L.b, L.cap, cur, by simp [hn], Nat.zero_le _, hh, h1, h2, h3, rfl⟩⟩, fun i r j d hi hj => ?_⟩
    · have := Nat.mul_le_mul_right k h1
      simp; omega
    · obtain ⟨u, hu, hr⟩ := h4 i r j d hi hj
      rw [hLk, hk] at hu
      refine ⟨u, ?_, hr⟩
      have hrl : r.length = k := by have := hok r (List.mem_of_getElem? hi); simp [rowOk] at this; rw [this.1, hLk, hk]
      have hil : i < rows.length := (List.getElem?_eq_some_iff.1 hi).1
      have hjl : j < k := by have := (List.getElem?_eq_some_iff.1 hj).1; omega
      have hlt : i * k + j < rows.length * k := by
        have := Nat.mul_le_mul_right k (show i + 1 ≤ rows.length by omega)
        rw [Nat.succ_mul] at this
        omega
      rw [List.getElem?_take, if_pos hlt]
      simpa using hu

theorem append_rows {xs news : List Value} {rows ys : List (List D)} {k : Nat} {I : Nat → Prop} {w w' : World} (hx : xs.length = rows.length * k)
    (h1 : ∀ (i : Nat) (r : List D) (j : Nat) (d : D), rows[i]? = some r → r[j]? = some d → ∃ u, xs[i * k + j]? = some u ∧ Rep I w Locs.no u d) (h2 : ∀ (i : Nat) (r : List D) (j : Nat) (d : D), ys[i]? = some r → r[j]? = some d → ∃ u, news[i * k + j]? = some u ∧ Rep I w Locs.no u d)
    (hw : ∀ b, I b → w'.heap[b]? = w.heap[b]?) :
    ∀ (i : Nat) (r : List D) (j : Nat) (d : D), (rows ++ ys)[i]? = some r → r[j]? = some d → ∃ u, (xs ++ news)[i * k + j]? = some u ∧ Rep I w' Locs.no u d := by
  intro i r j d hi hj
  have mono : ∀ {u d}, Rep I w Locs.no u d → Rep I w' Locs.no u d := fun h => h.mono (fun _ h => h) hw fun _ _ h => h
  by_cases hlt : i < rows.length
  · rw [List.getElem?_append_left hlt] at hi
    obtain ⟨u, hu, hr⟩ := h1 i r j d hi hj
    exact ⟨u, by rw [List.getElem?_append_left (List.getElem?_eq_some_iff.1 hu).1]; exact hu, mono hr⟩
  · rw [List.getElem?_append_right (by omega)] at hi
    obtain ⟨u, hu, hr⟩ := h2 _ r j d hi hj
    have e : i * k + j = xs.length + ((i - rows.length) * k + j) := by
      rw [hx, ← Nat.add_assoc, ← Nat.add_mul]
      congr 2
      omega
    exact ⟨u, by rw [e, List.getElem?_append_right (by omega)]; simpa using hu, mono hr⟩

/-- append's run over a row that is owned, from rows in memory or from nothing. -/
theorem run_app {t ty e k : Nat} (hg : okGrow P t e k = true) {v u : Value} {n : Nat} {xs : List Value} (ho : w.ownsRow 0 e k v n xs) (ys : List (List D)) (hyok : ∀ r ∈ ys, rowOk k r = true)
    (hy : (u = .slice none 0 0 ∧ ys = []) ∨ ∃ b o cap k', u = .slice (some ⟨b, o, none⟩) ys.length cap ∧ RowsAt I w b o k' ys) (hmax : n + ys.length ≤ rowMax) :
    ∃ v' w' news, (Builtin.append_ #[t, t] ty #[v, u]).run P w = .ok v' w' ∧ w'.ownsRow 0 e k v' (n + ys.length) (xs ++ news) ∧ w.grownBy w' v.ownBlock ∧ (v' = .slice none 0 0 ↔ v = .slice none 0 0 ∧ ys = []) ∧
      (v'.ownBlock = v.ownBlock ∨ v'.ownBlock = some w.heap.size) ∧ news.length = ys.length * k ∧
      ∀ (i : Nat) (r : List D) (j : Nat) (d : D), ys[i]? = some r → r[j]? = some d → ∃ u, news[i * k + j]? = some u ∧ Rep I w Locs.no u d := by
  obtain ⟨hu, i, z, hi, hik, hk0, hck, hby, hz, hzs⟩ := okGrow_spec hg
  rcases hy with ⟨rfl, rfl⟩ | ⟨b, o, cap, k', rfl, hrows⟩
  · refine ⟨v, w, [], ?_, by simpa using ho, ⟨rfl, rfl, rfl, Nat.le_refl _, fun _ _ _ => rfl⟩, by simp, .inl rfl, by simp, fun i r j d hi => by simp at hi⟩
    rcases ho.2 with ⟨rfl, hn⟩ | ⟨g, cap, cur, rfl, _, _, hnc, _⟩
    · simp [Builtin.append_, run_underlying hu, sizeOf, typeInfo, hi, Builtin.lenOf, Builtin.firstCells]
    · simp [Builtin.append_, run_underlying hu, sizeOf, typeInfo, hi, Builtin.lenOf, Builtin.firstCells, hnc, storeCells]
  · have hrows' : RowsAt I w b o k ys := by
      refine ⟨fun r hr => by have := hyok r hr; simp [rowOk] at this; exact this.1, fun i r j d hi' hj => ?_⟩
      have e1 := hrows.1 r (List.mem_of_getElem? hi')
      have e2 := hyok r (List.mem_of_getElem? hi')
      simp [rowOk] at e2
      have : k' = k := by rw [← e1, ← e2.1]
      subst this
      exact hrows.2 i r j d hi' hj
    obtain ⟨news, hnl, hnc, hn1, hnr⟩ := rows_flat hrows' hyok
    have hb : (n + ys.length) * i.bytes ≤ 140737488355328 := by
      have := Nat.mul_le_mul hmax hby
      simp only [rowMax] at this
      omega
    obtain ⟨v', w', hr, h1, h2, h3, h4⟩ := run_append_own_at (P := P) w 0 t ty e i z k i.bytes hu hi hz hik rfl hzs (by omega) v n xs ho ⟨b, o, none⟩ ys.length cap news hnl (fun j q hj => by rw [add_at]; exact hnc j q hj) hn1
      (by simp only [maxLen]; simp only [rowMax] at hmax; omega) hb (Nat.zero_le _)
    exact ⟨v', w', news, hr, h1, h2, by rw [h3, List.length_eq_zero_iff], h4, hnl, hnr⟩

theorem app_sound (hs : Sim P loc I st w) {t ty e k : Nat} (hg : okGrow P t e k = true) {v u : Value} {x y : D} (hx : Rep I w loc v x) (hy : Rep I w loc u y) {d : D} {st' : Store} (hd : appE st e k x y = some (d, st')) :
    ∃ q w' loc', (Builtin.append_ #[t, t] ty #[v, u]).run P w = .ok q w' ∧ Rep I w' loc' q d ∧ Later P loc I st w loc' I st' w' ∧ Ext loc loc' := by
  unfold appE at hd
  split at hd
  · rename_i ys hys
    split at hd
    · rename_i hok
      have hyok : ∀ r ∈ ys, rowOk k r = true := List.all_eq_true.1 hok
      have hrows := rows_at hs hy hys
      have hck : P.cellsOf e = k := by obtain ⟨_, _, _, _, _, _, h, _⟩ := okGrow_spec hg; exact h
      unfold appD at hd
      split at hd
      · -- onto nil
        cases hx with
        | nsl =>
          split at hd
          · rename_i hmax
            obtain ⟨v', w', news, hr, ho', hgr, hnil, hat, hnl, hnr⟩ := run_app (ty := ty) hg (World.ownsRow_nil w 0 e k) ys hyok hrows (by simpa using hmax)
            split at hd
            · rename_i he
              injection hd with hd
              injection hd with h1 h2
              subst h1; subst h2
              have hys0 : ys = [] := by simpa using he
              subst hys0
              have hv' := hnil.2 ⟨rfl, rfl⟩
              subst hv'
              have hl := later_drawn hs (w' := w') ?_ hgr.os hgr.tape hgr.output
              · exact ⟨_, w', loc, hr, .nsl _, hl, fun _ _ h => h⟩
              · rcases hrows with ⟨rfl, _⟩ | ⟨b, o, cap, k', rfl, _⟩
                · simp [Builtin.append_, run_underlying (okGrow_spec hg).1, Builtin.lenOf, Builtin.firstCells] at hr
                  obtain ⟨_, i, z, hi, _⟩ := okGrow_spec hg
                  simp [sizeOf, typeInfo, hi] at hr
                  rw [hr]
                · obtain ⟨_, i, z, hi, _⟩ := okGrow_spec hg
                  simp [Builtin.append_, run_underlying (okGrow_spec hg).1, Builtin.lenOf, Builtin.firstCells, sizeOf, typeInfo, hi, loadCells, loadCellsFrom] at hr
                  rw [hr]
            · rename_i he
              injection hd with hd
              injection hd with h1 h2
              subst h1; subst h2
              have hys0 : ys ≠ [] := by simpa using he
              have hI : ∀ b, I b → w'.heap[b]? = w.heap[b]? := fun b hb => hgr.block b (hs.bnd b hb) (by simp [Value.ownBlock])
              obtain ⟨L, hL, hLk, hh⟩ := holds_of_owns hck (rows := ys) (by simpa using ho') hyok (I := I) (by simpa using append_rows (rows := []) (xs := []) (by simp) (fun i r j d hi => by simp at hi) hnr hI) loc st.length
              rcases hL with ⟨_, _, h0⟩ | ⟨hob, hLn, rfl, hlt, hcap⟩
              · exact absurd (hnil.1 h0).2 hys0
              · have hLb : L.b = w.heap.size := by
                  rcases hat with h | h
                  · rw [hob] at h; simp [Value.ownBlock] at h
                  · rw [hob] at h; injection h
                obtain ⟨hl, _⟩ := later_row hs hgr st rfl (fun _ _ h => h) (fun b hb => by simp [Value.ownBlock] at hb) (.rw e ys) L (.inr (.inr (by omega))) (fun _ => hlt) hh
                refine ⟨_, w', _, hr, ?_, hl, upd_ext (hs.new _ (Nat.le_refl _))⟩
                have := Rep.osl (I := I) (w := w') (upd loc st.length L) st.length 0 ys.length L (upd_self _ _ _) hLn (by omega)
                simpa using this
          · cases hd
      · -- onto a row of the call's own
        rename_i id len
        split at hd
        · rename_i e' rows ho
          split at hd
          · rename_i hc
            obtain ⟨rfl, rfl, hmax⟩ := hc
            injection hd with hd
            injection hd with h1 h2
            subst h1; subst h2
            have hid := obj_lt ho
            have hHolds := hs.obj id _ ho
            have hex : ∃ L, loc id = some L := by obtain ⟨L, hL, _⟩ := hHolds; exact ⟨L, hL⟩
            obtain ⟨L, hL⟩ := hex
            obtain ⟨xs, hown, hrep⟩ := owns_of_holds hL hck hHolds
            have hv : v = if L.nil then .slice none 0 0 else .slice (some ⟨L.b, 0, none⟩) rows.length L.cap := by
              generalize rows.length = m at hx ⊢
              cases hx with
              | osl _ _ _ _ M hM hn hcap =>
                rw [hL] at hM; injection hM with hM; subst hM
                simp [hn]
              | onil _ _ M hM hn =>
                rw [hL] at hM; injection hM with hM; subst hM
                simp [hn]
            rw [← hv] at hown
            have hob : ∀ b, v.ownBlock = some b → L.nil = false ∧ b = L.b := by
              intro b hb
              rw [hv] at hb
              split at hb
              · simp [Value.ownBlock] at hb
              · rename_i hn
                simp [Value.ownBlock] at hb
                exact ⟨by simpa using hn, hb.symm⟩
            obtain ⟨v', w', news, hr, ho', hgr, hnil, hat, hnl, hnr⟩ := run_app (ty := ty) hg hown ys hyok hrows hmax
            have hI : ∀ b, I b → w'.heap[b]? = w.heap[b]? := fun b hb => hgr.block b (hs.bnd b hb) fun h => by
              obtain ⟨hn, rfl⟩ := hob b h.symm
              exact hs.sep _ (own_of ho hL hn) hb
            have hrok : ∀ r ∈ rows, rowOk k r = true := by
              obtain ⟨M, hM, hMk, hok', _⟩ := hHolds
              rw [hMk, hck] at hok'
              exact hok'
            obtain ⟨L', hL', hLk, hh⟩ := holds_of_owns hck (rows := rows ++ ys) (by simpa using ho') (by intro r hr; rcases List.mem_append.1 hr with h | h; exact hrok r h; exact hyok r h) (I := I)
              (append_rows hown.1 hrep hnr hI) loc st.length
            have hsub : ∀ j o, Store.obj (st.set id none) j = some o → st.obj j = some o := by
              intro j o hj
              by_cases h : j = id
              · subst h; rw [obj_set_self _ hid] at hj; cases hj
              · rwa [obj_set_ne _ h] at hj
            have hne : ∀ j o, Store.obj (st.set id none) j = some o → j ≠ id := by
              rintro j o hj rfl
              rw [obj_set_self _ hid] at hj; cases hj
            have hLcase : L'.nil = true ∨ v.ownBlock = some L'.b ∨ w.heap.size ≤ L'.b := by
              rcases hL' with ⟨_, h, _⟩ | ⟨hob', hn', _⟩
              · exact .inl h
              · rcases hat with h | h
                · exact .inr (.inl (by rw [← h]; exact hob'))
                · rw [hob'] at h; injection h with h; exact .inr (.inr (by omega))
            obtain ⟨hl, _⟩ := later_row hs hgr (st.set id none) (by simp) hsub (fun b hb => by
                obtain ⟨hn, rfl⟩ := hob b hb
                exact ⟨own_of ho hL hn, fun j o M hj hM hMn => hs.inj j id o _ M L (hsub j o hj) ho (hne j o hj) hM hL hMn hn⟩)
              (.rw e' (rows ++ ys)) L' hLcase (fun hn => by rcases hL' with ⟨_, h, _⟩ | ⟨_, _, _, h, _⟩; rw [hn] at h; cases h; exact h) hh
            refine ⟨v', w', _, hr, ?_, hl, upd_ext (hs.new _ (Nat.le_refl _))⟩
            rcases hL' with ⟨_, hn', rfl⟩ | ⟨_, hn', rfl, _, hcap⟩
            · obtain ⟨hv0, hys0⟩ := hnil.1 rfl
              subst hys0
              have : rows.length = 0 := by
                have := ho'.2
                rcases this with ⟨_, h⟩ | ⟨g, cap, cur, h, _⟩
                · simpa using h
                · cases h
              rw [this]
              exact .onil _ st.length L' (upd_self _ _ _) hn'
            · have := Rep.osl (I := I) (w := w') (upd loc st.length L') st.length 0 (rows.length + ys.length) L' (upd_self _ _ _) hn' (by simpa using hcap)
              simpa using this
          · cases hd
        · cases hd
      · cases hd
    · cases hd
  · cases hd
end Go.Vi
