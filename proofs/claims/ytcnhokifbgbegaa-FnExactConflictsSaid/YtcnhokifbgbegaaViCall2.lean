/- Vi: a call does what the abstract one says. -/
import Derived.Test.YtcnhokifbgbegaaViCall
set_option linter.unusedSimpArgs false
set_option linter.unusedVariables false
namespace Go.Vi
open Go.RowKit
variable {P : Program} {loc : Locs} {I : Nat → Prop} {st : Store} {w : World}

theorem alive_obj {st : Store} {i : Nat} (h : alive st i = true) : ∃ o, st.obj i = some o := Option.isSome_iff_exists.1 h
theorem Sim.loc_of (hs : Sim P loc I st w) {i : Nat} {o : Obj} (h : st.obj i = some o) : ∃ L, loc i = some L := by
  have := hs.obj i o h
  cases o with
  | bx cs => obtain ⟨L, hL, _⟩ := this; exact ⟨L, hL⟩
  | rw e rows => obtain ⟨L, hL, _⟩ := this; exact ⟨L, hL⟩

/-- What a call comes to, seen by the caller. -/
def Came (P : Program) (loc : Locs) (I : Nat → Prop) (st : Store) (w : World) (d : D) (st' : Store) (e : Ending) (w' : World) : Prop :=
  ∃ v loc' I', e = .returned v ∧ Rep I' w' loc' v d ∧ Later P loc I st w loc' I' st' w' ∧ Ext loc loc'

theorem callWith_sound {gl : Nat → Option (List D)} {M : Nat → Nat} {call : Nat → List D → Store → Option (D × Store)} (hcall : CallOk P gl M call) (hs : Sim P loc I st w) (hgl : GlobRep gl I w) {f : Nat} {rw_ : List Bool} {fz : Option (List Nat)} {as : List D} {vs : List Value}
    (has : RepAll I w loc vs as) (hM : (rw_.filter fun b => b).length ≤ M f) {d : D} {st' : Store} (hd : callWith call f rw_ fz as st = some (d, st')) :
    Calls P f vs.toArray w (Came P loc I st w d st') := by
  unfold callWith at hd
  split at hd
  · cases hd
  · rename_i ids hids
    simp only at hd
    split at hd
    · rename_i hc
      obtain ⟨hnd, hal⟩ := hc
      have hn := nodupB_spec hnd
      have halive : ∀ i ∈ ids ++ nested st ids, ∃ o, st.obj i = some o := fun i hi => alive_obj (List.all_eq_true.1 hal i hi)
      generalize hord : ids ++ nested st ids = ord at hd hn halive
      split at hd
      · cases hd
      · rename_i r st2 hcr
        split at hd
        · rename_i hleak
          obtain ⟨hlen2, hbare⟩ := hleak
          -- the callee's view
          let st0 := dropAll st ord
          let I1 : Nat → Prop := fun b => I b ∨ (lendsAny rw_ as = true ∧ Own loc st0 b)
          let loc1 : Locs := fun j => (ord[j]?).bind loc
          have h0len : st0.length = st.length := dropAll_len _ _
          have h0sub : ∀ id o, st0.obj id = some o → st.obj id = some o ∧ id ∉ ord := fun id o h => dropAll_obj.1 h
          have own0 : ∀ b, Own loc st0 b → Own loc st b := by
            rintro b ⟨id, o, L, h, hL, hn, rfl⟩
            exact own_of (h0sub id o h).1 hL hn
          have sel_dis : ∀ id ∈ ord, ∀ o L, st.obj id = some o → loc id = some L → L.nil = false → ¬ Own loc st0 L.b := by
            rintro id hid o L ho hL hn ⟨j, q, M', hq, hM', hMn, e⟩
            obtain ⟨hq', hj⟩ := h0sub j q hq
            exact hs.inj j id q o M' L hq' ho (fun e => hj (e ▸ hid)) hM' hL hMn hn e
          have S1 : Sim P loc1 I1 (select ord st) w := sim_select hs hn (fun b hb => .inl hb)
            (fun id hid o L ho hL hn hb => by
              rcases hb with hb | ⟨_, hb⟩
              · exact hs.sep _ (own_of ho hL hn) hb
              · exact sel_dis id hid o L ho hL hn hb)
            (fun b hb => by
              rcases hb with hb | ⟨_, hb⟩
              · exact hs.bnd b hb
              · exact hs.own_lt (own0 b hb))
          have own1 : ∀ b, Own loc1 (select ord st) b → Own loc st b ∧ ¬ Own loc st0 b := by
            rintro b ⟨j, o, L, h, hL, hn, rfl⟩
            obtain ⟨i, q, h1, h2, _⟩ := select_obj h
            simp only [loc1, h1, Option.bind_some] at hL
            exact ⟨own_of h2 hL hn, sel_dis i (List.mem_of_getElem? h1) q L h2 hL hn⟩
          have A1 : RepAll I1 w loc1 vs (argsOf ord st0 rw_ as) := args_rep (P := P) (fun b hb => .inl hb) (fun i j L h hL => by simp only [loc1, idx_get h, Option.bind_some]; exact hL)
            (fun id o h => hs.obj id o (h0sub id o h).1) rw_ as vs has fun e b hb => .inr ⟨e, hb⟩
          refine Calls.mono (hcall f _ _ r st2 hcr loc1 I1 w vs S1 (hgl.mono (fun b hb => .inl hb) fun _ _ => rfl) A1) ?_
          rintro e w' ⟨v, loc2, I2, rfl, hv, hl, hroot⟩
          -- what nobody writes to, for the caller
          have step : ∃ I' : Nat → Prop, (∀ b, I b → I' b) ∧ (∀ b, I' b → I b ∨ Own loc1 (select ord st) b ∨ w.heap.size ≤ b) ∧ Rep I' w' loc2 v r ∧ Sim P loc2 I' st2 w' := by
            cases hLA : lendsAny rw_ as with
            | true =>
              obtain ⟨hb1, hb2⟩ := hbare hLA
              refine ⟨I, fun _ h => h, fun _ h => .inl h, bare_rep 5 hv hb1, ?_⟩
              refine sim_part hl.sim id (fun i o h => ⟨bare_holds (hl.sim.obj i o h) (List.all_eq_true.1 hb2 _ (obj_mem h)), o, h, fun _ h => h⟩) (fun _ _ _ _ _ _ e => e) (fun i o L h hL hn hb => hl.sim.sep _ (own_of h hL hn) (hl.up _ (.inl hb))) (fun b hb => hl.sim.bnd b (hl.up _ (.inl hb))) hl.sim.new
            | false =>
              refine ⟨I2, fun b hb => hl.up b (.inl hb), fun b hb => ?_, hv, hl.sim⟩
              rcases hl.inew b hb with (h | ⟨h, _⟩) | h | h
              · exact .inl h
              · rw [hLA] at h; cases h
              · exact .inr (.inl h)
              · exact .inr (.inr h)
          obtain ⟨I', hup, hnew', hv', S2⟩ := step
          have hids_lt : ∀ i ∈ ids, i < st0.length := fun i hi => by
            obtain ⟨o, ho⟩ := halive i (by rw [← hord]; exact List.mem_append_left _ hi)
            rw [h0len]; exact obj_lt ho
          have hrootEq : ∀ k id, ids[k]? = some id → loc2 k = loc id := by
            intro k id hk
            have hk' := (List.getElem?_eq_some_iff.1 hk).1
            have ho : ord[k]? = some id := by rw [← hord, List.getElem?_append_left hk']; exact hk
            obtain ⟨o, hq⟩ := halive id (List.mem_of_getElem? ho)
            obtain ⟨L, hL⟩ := hs.loc_of hq
            have h1 : loc1 k = some L := by simp only [loc1, ho, Option.bind_some]; exact hL
            rw [hL]
            exact hroot k L (Nat.lt_of_lt_of_le hk' (Nat.le_trans (rootsOf_len rw_ as hids) hM)) h1
          have hsame : ∀ b, b < w.heap.size → ¬ Own loc1 (select ord st) b → w'.heap[b]? = w.heap[b]? := fun b hb hnb => hl.frm.block b hb hnb
          have own0' : ∀ b, Own loc st0 b → ¬ Own loc1 (select ord st) b ∧ b < w.heap.size := fun b hb => ⟨fun h => (own1 b h).2 hb, hs.own_lt (own0 b hb)⟩
          have hI_same : ∀ b, I b → w'.heap[b]? = w.heap[b]? := fun b hb => hsame b (hs.bnd b hb) fun h => hs.sep b (own1 b h).1 hb
          have h0I : ∀ id o, st0.obj id = some o → ∀ I3 : Nat → Prop, (∀ b, I b → I3 b) → Holds P loc I3 w' id o := fun id o h I3 h3 =>
            (hs.obj id o (h0sub id o h).1).mono (fun _ _ h => h) h3 hI_same fun L hL hn => hsame _ (own0' _ (own_of h hL hn)).2 (own0' _ (own_of h hL hn)).1
          have hinj0 : ∀ i j o o' L L', st0.obj i = some o → st0.obj j = some o' → i ≠ j → loc i = some L → loc j = some L' → L.nil = false → L'.nil = false → L.b ≠ L'.b :=
            fun i j o o' L L' h1 h2 => hs.inj i j o o' L L' (h0sub i o h1).1 (h0sub j o' h2).1
          have own2 : ∀ b, Own loc2 st2 b → ¬ Own loc st0 b := fun b hb h0 => by
            rcases hl.own b hb with h | h
            · exact (own1 b h).2 h0
            · exact absurd (own0' b h0).2 (by omega)
          have hsepI' : ∀ b, Own loc st0 b → ¬ I' b := fun b hb hI => by
            rcases hnew' b hI with h | h | h
            · exact hs.sep b (own0 b hb) h
            · exact (own0' b hb).1 h
            · exact absurd (own0' b hb).2 (by omega)
          have hfrm : Frm (Own loc st) w w' := hl.frm.mono fun b hb => (own1 b hb).1
          -- from a store behind the call to the caller's
          have fin : ∀ (I3 : Nat → Prop) (s3 stx : Store), Sim P loc2 I3 s3 w' → (∀ k q, stx.obj k = some q → s3.obj k = some q) → (∀ k q, s3.obj k = some q → st2.obj k = some q) → (∀ b, I' b → I3 b) →
              (∀ b, I3 b → I' b ∨ Own loc2 st2 b) → Later P loc I st w (backLoc loc loc2 ids st0.length stx.length) I3 (writeBack ids st0 stx) w' ∧ Ext loc (backLoc loc loc2 ids st0.length stx.length) := by
            intro I3 s3 stx S3 hx hsub hI3 hI3'
            have own3 : ∀ b, Own loc2 s3 b → Own loc2 st2 b := by
              rintro b ⟨id, o, L, h, hL, hn, rfl⟩
              exact own_of (hsub id o h) hL hn
            have hsep3 : ∀ b, Own loc st0 b → ¬ I3 b := fun b hb h => by
              rcases hI3' b h with h | h
              · exact hsepI' b hb h
              · exact own2 b h hb
            obtain ⟨S4, own4⟩ := wb_sim (loc := loc) (st0 := st0) S3 hx hids_lt (fun id hid => hs.new id (by rw [← h0len]; exact hid)) (fun id o h => h0I id o h I3 fun b hb => hI3 b (hup b hb)) hrootEq hinj0 (fun b hb h => own2 b (own3 b h) hb) hsep3
            refine ⟨⟨hfrm, fun b hb => hI3 b (hup b hb), fun b hb => ?_, fun b hb => ?_, S4⟩, backLoc_ext fun i hi => hs.new i (by rw [← h0len]; exact hi)⟩
            · rcases hI3' b hb with h | h
              · rcases hnew' b h with h | h | h
                · exact .inl h
                · exact .inr (.inl (own1 b h).1)
                · exact .inr (.inr h)
              · rcases hl.own b h with h | h
                · exact .inr (.inl (own1 b h).1)
                · exact .inr (.inr h)
            · rcases own4 b hb with h | h
              · exact .inl (own0 b h)
              · rcases hl.own b (own3 b h) with h | h
                · exact .inl (own1 b h).1
                · exact .inr h
          split at hd
          · -- the result by content
            split at hd
            · injection hd with hd
              injection hd with e1 e2
              subst e1; subst e2
              let s3 := dropAll st2 (reach 5 st2 r)
              let I3 : Nat → Prop := fun b => I' b ∨ ∃ id o L, st2.obj id = some o ∧ s3.obj id = none ∧ loc2 id = some L ∧ L.nil = false ∧ L.b = b
              have S3 : Sim P loc2 I3 s3 w' := sim_drop S2 (dropAll_len _ _) (fun id o h => (dropAll_obj.1 h).1) (fun b hb => .inl hb) fun b hb => hb
              have hv3 : Rep I3 w' Locs.no v (lend 5 st2 r) := lend_rep (P := P) (fun b hb => .inl hb) 5 hv' fun id hid o ho => ⟨S2.obj id o ho, fun L hL hn => .inr ⟨id, o, L, ho, by
                cases hq : s3.obj id with
                | none => rfl
                | some q => exact absurd hid (dropAll_obj.1 hq).2, hL, hn, rfl⟩⟩
              generalize hstx : (if ids = [] ∨ (s3.drop ids.length).all (·.isNone) = true then s3.take ids.length else s3) = stx
              have hx : ∀ k q, Store.obj stx k = some q → s3.obj k = some q := by
                intro k q hk
                rw [← hstx] at hk
                split at hk
                · unfold Store.obj at hk ⊢
                  rw [List.getElem?_take] at hk
                  split at hk
                  · exact hk
                  · cases hk
                · exact hk
              obtain ⟨g1, g2⟩ := fin I3 s3 stx S3 hx (fun k q h => (dropAll_obj.1 h).1) (fun b hb => .inl hb) fun b hb => by
                rcases hb with h | ⟨id, o, L, h1, _, h3, h4, rfl⟩
                · exact .inl h
                · exact .inr (own_of h1 h3 h4)
              exact ⟨v, _, I3, rfl, hv3.of_no, g1, g2⟩
            · cases hd
          · -- as the caller's own objects
            rename_i es
            injection hd with hd
            obtain ⟨g1, g2⟩ := fin I' st2 st2 S2 (fun _ _ h => h) (fun _ _ h => h) (fun _ h => h) fun _ h => .inl h
            have hv3 : Rep I' w' (backLoc loc loc2 ids st0.length st2.length) v (renum (backF ids st0.length st2.length) 5 r) := renum_rep (backF_ok hids_lt hrootEq) 5 hv'
            obtain ⟨l4, g4, x4, r4⟩ := inflate_sound g1.sim es hv3
            have hst : st0.length = st.length := h0len
            rw [hst] at g4 r4
            rw [hd] at g4 r4
            exact ⟨v, l4, I', rfl, r4, (hst ▸ g1).trans g4, fun i L h => x4 i L (g2 i L h)⟩
        · cases hd
    · cases hd
end Go.Vi
