/- Vi: structs' literals, conversions, arithmetic, comparisons. -/
import Derived.Test.YtcnhokifbgbegaaViLit
import Derived.Laws.Tables
import Derived.Laws.StructEq
set_option linter.unusedSimpArgs false
set_option linter.unusedVariables false
namespace Go.Vi
open Go.RowKit
variable {P : Program} {loc : Locs} {I : Nat → Prop} {st : Store} {w : World}

/-! ### A struct's or array's literal -/
def okBuild (P : Program) (t : TypeId) (ps : List (Nat × Operand)) (z : List D) (qs : List (Nat × Nat × Opd)) : Bool :=
  match P.info? t, P.underlying t with
  | some it, some (.array _ e) =>
    match it.zero, P.info? e with
    | some v, some ie => cellsOk v z && okFields (fun i => some (i * ie.size, ie.size)) ps qs
    | _, _ => false
  | some it, some (.struct fields) =>
    match it.zero, fields.toList.mapM (fun f => (P.info? f.type).map fun i => (f.offset, i.size)) with
    | some v, some places => cellsOk v z && okFields (places.toArray[·]?) ps qs
    | _, _ => false
  | _, _ => false

theorem build_sound {gl : Nat → Option (List D)} {σ : St} {a : Act} (he : EnvRep I w loc σ.env a.tmps) (hgl : GlobRep gl I w) {t : TypeId} {ps : List (Nat × Operand)} {z : List D} {qs : List (Nat × Nat × Opd)}
    (hok : okBuild P t ps z qs = true) {out : List D} (h : fillP (σ.ev gl) z qs = some out) :
    ∃ q, (Instr.build t (ps.map fun p => (p.1, a.eval p.2)).toArray).run P w = .ok q w ∧ Rep I w loc q (.agg out) := by
  have key : ∀ (v : Value) (place : Nat → Option (Nat × Nat)), cellsOk v z = true → okFields place ps qs = true →
      ∃ res : Array Value, Instr.fill place v.cells (ps.map fun p => (p.1, a.eval p.2)) = some res ∧ Rep I w loc (.agg res) (.agg out) := by
    intro v place hv hf
    obtain ⟨hl, hc⟩ := cellsOk_spec hv
    obtain ⟨res, h1, h2, h3⟩ := fill_fields he hgl place ps qs v.cells z out hf (by simpa using hl) (fun j d hd => by
      have hj : j < v.cells.toList.length := by have := (List.getElem?_eq_some_iff.1 hd).1; omega
      exact ⟨v.cells.toList[j], by simp, constOk_rep (hc j _ d (List.getElem?_eq_getElem hj) hd) _ _ _⟩) h
    refine ⟨res, h1, ?_⟩
    have := Rep.agg (I := I) (w := w) loc res.toList out (by simpa using h2) fun i c d hi hd => by
      obtain ⟨u, hu, hr⟩ := h3 i d hd
      have : c = u := by
        have h4 : res[i]? = some c := by simpa using hi
        rw [hu] at h4; injection h4 with h4; exact h4.symm
      rw [this]; exact hr
    simpa using this
  unfold okBuild at hok
  split at hok
  · rename_i it n e hi hu
    split at hok
    · rename_i v ie hz hie
      simp only [Bool.and_eq_true] at hok
      obtain ⟨res, h1, h2⟩ := key v _ hok.1 hok.2
      exact ⟨_, Go.run_build w t _ res (by simp only [Program.built, hi, hu, hz, hie]; exact h1), h2⟩
    · cases hok
  · rename_i it fields hi hu
    split at hok
    · rename_i v places hz hpl
      simp only [Bool.and_eq_true] at hok
      obtain ⟨res, h1, h2⟩ := key v _ hok.1 hok.2
      exact ⟨_, Go.run_build w t _ res (by simp only [Program.built, hi, hu, hz, hpl]; exact h1), h2⟩
    · cases hok
  · cases hok

/-! ### Plain operations -/
theorem nilc_sound {v : Value} {x : D} (hx : Rep I w loc v x) {d : D} (hd : nilcD x = some d) : (∃ a, v = .pointer (some a)) ∧ Rep I w loc v d := by
  cases hx with
  | ptr _ id o L hL hn => injection hd with hd; subst hd; exact ⟨⟨_, rfl⟩, .ptr _ id o L hL hn⟩
  | ept _ id r o L hL hn => injection hd with hd; subst hd; exact ⟨⟨_, rfl⟩, .ept _ id r o L hL hn⟩
  | ipt _ b o cs cell hI hc hr => injection hd with hd; subst hd; exact ⟨⟨_, rfl⟩, .ipt _ b o cs cell hI hc hr⟩
  | _ => simp [nilcD] at hd

theorem not_sound {v : Value} {x : D} (hx : Rep I w loc v x) {d : D} (hd : notD x = some d) : ∃ q, (Op.unary .not v).run P w = .ok q w ∧ Rep I w loc q d := by
  cases hx with
  | bool _ b => injection hd with hd; subst hd; exact ⟨.bool !b, by simp [Op.unary], .bool _ _⟩
  | _ => simp [notD] at hd
theorem neg_sound {v : Value} {x : D} (hx : Rep I w loc v x) {d : D} (hd : negD x = some d) : ∃ q, (Op.unary .neg v).run P w = .ok q w ∧ Rep I w loc q d := by
  cases hx with
  | int _ k n => injection hd with hd; subst hd; exact ⟨_, by simp [Op.unary, Op.intArith], .int _ _ _⟩
  | _ => simp [negD] at hd

def okCvi (P : Program) (src dst : TypeId) (k : IntKind) : Bool := match P.underlying src, P.underlying dst with | some _, some (.int k') => k' == k | _, _ => false
theorem cvi_sound {src dst : TypeId} {k : IntKind} (hok : okCvi P src dst k = true) {v : Value} {x : D} (hx : Rep I w loc v x) {d : D} (hd : cviD k x = some d) :
    ∃ q, (convert src dst v).run P w = .ok q w ∧ Rep I w loc q d := by
  unfold okCvi at hok
  split at hok
  · rename_i a k' hs hdst
    simp only [beq_iff_eq] at hok
    subst hok
    cases hx with
    | int _ q n => injection hd with hd; subst hd; exact ⟨_, by simp [convert, run_underlying hs, run_underlying hdst, Conv.intToInt], .int _ _ _⟩
    | _ => simp [cviD] at hd
  · cases hok

def okCvbs (P : Program) (src dst : TypeId) : Bool := match P.underlying src, P.underlying dst with | some (.slice e), some .string => (match P.underlying e with | some (.int .u8) => true | _ => false) | _, _ => false
theorem bytesD_spec : ∀ {rows : List (List D)} {s : List UInt8}, bytesD rows = some s → ∃ xs : List Int, rows = xs.map (fun n => [D.int .u8 n]) ∧ s = xs.map fun n => UInt8.ofNat n.toNat
  | [], s, h => by injection h with h; exact ⟨[], rfl, h.symm⟩
  | r :: rows, s, h => by
    unfold bytesD at h
    split at h
    · rename_i heq; cases heq
    · rename_i n rs heq
      injection heq with h1 h2
      subst h1; subst h2
      obtain ⟨l, hl, rfl⟩ := Option.map_eq_some_iff.1 h
      obtain ⟨xs, h3, h4⟩ := bytesD_spec hl
      exact ⟨n :: xs, by simp [h3], by simp [h4]⟩
    · cases h
theorem cvbs_sound (hs : Sim P loc I st w) {src dst : TypeId} (hok : okCvbs P src dst = true) {v : Value} {x : D} (hx : Rep I w loc v x) {d : D} (hd : cvbsD st x = some d) :
    ∃ q, (convert src dst v).run P w = .ok q w ∧ Rep I w loc q d := by
  unfold okCvbs at hok
  split at hok
  · rename_i e hsrc hdst
    split at hok
    · rename_i he
      unfold cvbsD at hd
      split at hd
      · rename_i rows hrows
        unfold strD at hd
        split at hd
        · rename_i s hb
          injection hd with hd
          subst hd
          obtain ⟨xs, h1, h2⟩ := bytesD_spec hb
          rcases rows_at hs hx hrows with ⟨rfl, h3⟩ | ⟨b, o, cap, k, rfl, hra⟩
          · subst h3
            have : xs = [] := by cases xs with | nil => rfl | cons => simp at h1
            subst this
            rw [h2]
            exact ⟨_, run_convert_bytes_nil w src e hsrc he 0 0 dst hdst, .str _ ByteArray.empty⟩
          · have hlen : xs.length = rows.length := by rw [h1]; simp
            refine ⟨_, run_convert_bytes_arg w src e hsrc he b o rows.length cap xs hlen (fun i hi => ?_) dst hdst, ?_⟩
            · have hix : i < xs.length := by omega
              have hri : rows[i]? = some [D.int .u8 xs[i]] := by rw [h1]; simp [hix]
              have hk1 : k = 1 := by have := hra.1 _ (List.mem_of_getElem? hri); simpa using this.symm
              obtain ⟨u, hu, hr⟩ := hra.2 i _ 0 _ hri rfl
              rw [hk1] at hu
              cases hr
              simpa [List.getD, hix] using hu
            · rw [h2, ← strOfNums_data]
              exact .str _ _
        · cases hd
      · cases hd
    · cases hok
  · cases hok

def okCvsb (P : Program) (src dst : TypeId) : Bool := match P.underlying src, P.underlying dst with | some _, some (.slice e) => (match P.underlying e with | some (.int .u8) => true | _ => false) | _, _ => false
theorem cvsb_sound (hs : Sim P loc I st w) {src dst : TypeId} (hok : okCvsb P src dst = true) {v : Value} {x : D} (hx : Rep I w loc v x) {d : D} (hd : cvsbD x = some d) :
    ∃ q w' I', (convert src dst v).run P w = .ok q w' ∧ Rep I' w' loc q d ∧ Later P loc I st w loc I' st w' := by
  unfold okCvsb at hok
  split at hok
  · rename_i ds e hsrc hdst
    split at hok
    · rename_i he
      cases hx with
      | str _ s =>
        injection hd with hd
        subst hd
        have hl := later_imm hs (w' := Lib.bytesWorld w e s) (Lib.bytesWorld_size w e s) (fun b hb => Lib.bytesWorld_at_old w e s b hb) rfl rfl rfl
        refine ⟨_, _, _, Lib.run_convert_string_bytes w src dst e s hsrc hdst he, ?_, hl⟩
        have hlen : (s.data.toList.map byteRow).length = s.size := by rw [List.length_map, Array.length_toList]; rfl
        have hra : RowsAt (fun b => I b ∨ b = w.heap.size) (Lib.bytesWorld w e s) w.heap.size 0 1 (s.data.toList.map byteRow) := by
          refine ⟨fun r hr => by obtain ⟨b, _, rfl⟩ := List.mem_map.1 hr; rfl, fun i r j d hi hj => ?_⟩
          have his : i < s.size := by have := (List.getElem?_eq_some_iff.1 hi).1; omega
          have hil : i < s.data.toList.length := by rw [Array.length_toList]; exact his
          rw [List.getElem?_map, List.getElem?_eq_getElem hil] at hi
          injection hi with hi
          subst hi
          have hj0 : j = 0 := by have := (List.getElem?_eq_some_iff.1 hj).1; simpa [byteRow] using this
          subst hj0
          simp [byteRow] at hj
          subst hj
          refine ⟨_, by have := Lib.bytesWorld_cell w e s i his; simpa using this, ?_⟩
          have : s.data[i]?.getD 0 = s.data[i]'(by simpa using hil) := by rw [Array.getElem?_eq_getElem (by simpa using hil)]; rfl
          rw [this]
          exact .int _ _ _
        have hcap : s.size ≤ grownCap w s.size 0 e := by
          exact grownCap_ge _ _ _ _
        have := hra.rep (loc := loc) (cap := grownCap w s.size 0 e) (.inr rfl) (by rw [hlen]; exact hcap)
        rw [hlen] at this
        exact this
      | _ => simp [cvsbD] at hd
    · cases hok
  · cases hok

theorem max_sound {ts : Array TypeId} {ty : TypeId} {u v : Value} {x y : D} (hx : Rep I w loc u x) (hy : Rep I w loc v y) {d : D} (hd : maxD x y = some d) : ∃ q, (Builtin.max_ ts ty #[u, v]).run P w = .ok q w ∧ Rep I w loc q d := by
  unfold maxD at hd
  split at hd
  · cases hx; cases hy
    injection hd with hd
    subst hd
    exact ⟨_, by simp [Builtin.max_, Builtin.max2], .int _ _ _⟩
  · cases hd
theorem min_sound {ts : Array TypeId} {ty : TypeId} {u v : Value} {x y : D} (hx : Rep I w loc u x) (hy : Rep I w loc v y) {d : D} (hd : minD x y = some d) : ∃ q, (Builtin.min_ ts ty #[u, v]).run P w = .ok q w ∧ Rep I w loc q d := by
  unfold minD at hd
  split at hd
  · cases hx; cases hy
    injection hd with hd
    subst hd
    exact ⟨_, by simp [Builtin.min_, Builtin.min2], .int _ _ _⟩
  · cases hd

/-! ### Arithmetic -/
theorem bytes_eq (a b : ByteArray) : (a.toList == b.toList) = (a.data.toList == b.data.toList) := by rw [ByteArray.toList_eq, ByteArray.toList_eq]

theorem guard_int (b : BinOp) (t : TypeId) (xo yo : Operand) (k k' : IntKind) (n m : Int) : (eqGuard b t xo yo (.int k n) (.int k' m)).run P w = .ok () w := by cases b <;> simp [eqGuard]
theorem guard_str (b : BinOp) (t : TypeId) (xo yo : Operand) (n m : ByteArray) : (eqGuard b t xo yo (.string n) (.string m)).run P w = .ok () w := by cases b <;> simp [eqGuard]

theorem bin_sound {b : BinOp} {t : TypeId} {xo yo : Operand} {u v : Value} {x y : D} (hx : Rep I w loc u x) (hy : Rep I w loc v y) {d : D} (hd : bin b x y = some d) :
    ∃ q, (do eqGuard b t xo yo u v; binOp b t u v : Sem Value).run P w = .ok q w ∧ Rep I w loc q d := by
  unfold bin at hd
  split at hd
  · rename_i k a k' c
    cases hx; cases hy
    rw [Sem.run_bind, guard_int, Result.andThen_ok]
    split at hd
    · rename_i hsh
      unfold shiftI at hd
      split at hd
      · cases hd
      · rename_i hc
        split at hd
        · injection hd with hd; subst hd
          exact ⟨_, by simp [binOp, Op.shift, hc], .int _ _ _⟩
        · injection hd with hd; subst hd
          exact ⟨_, by simp [binOp, Op.shift, hc], .int _ _ _⟩
        · cases hd
    · rename_i hsh
      split at hd
      · rename_i hk
        subst hk
        cases b <;> simp only [binI, isShift] at hd hsh
        case add => injection hd with hd; subst hd; exact ⟨_, by simp only [binOp]; simp [Op.intArith], .int _ _ _⟩
        case sub => injection hd with hd; subst hd; exact ⟨_, by simp only [binOp]; simp [Op.intArith], .int _ _ _⟩
        case mul => injection hd with hd; subst hd; exact ⟨_, by simp only [binOp]; simp [Op.intArith], .int _ _ _⟩
        case quo =>
          split at hd
          · cases hd
          · rename_i h0; injection hd with hd; subst hd; exact ⟨_, by simp only [binOp]; simp [Op.intDiv, h0], .int _ _ _⟩
        case rem =>
          split at hd
          · cases hd
          · rename_i h0; injection hd with hd; subst hd; exact ⟨_, by simp only [binOp]; simp [Op.intDiv, h0], .int _ _ _⟩
        case and => injection hd with hd; subst hd; exact ⟨_, by simp only [binOp]; rw [if_neg (by simp)]; simp only [Op.intBits]; rfl, .int _ _ _⟩
        case or => injection hd with hd; subst hd; exact ⟨_, by simp only [binOp]; rw [if_neg (by simp)]; simp only [Op.intBits]; rfl, .int _ _ _⟩
        case xor => injection hd with hd; subst hd; exact ⟨_, by simp only [binOp]; rw [if_neg (by simp)]; simp only [Op.intBits]; rfl, .int _ _ _⟩
        case andNot => injection hd with hd; subst hd; exact ⟨_, by simp only [binOp]; rw [if_neg (by simp)]; simp only [Op.intBits]; rfl, .int _ _ _⟩
        case eql => injection hd with hd; subst hd; exact ⟨_, by simp only [binOp]; rw [if_neg (by simp)]; simp only [Op.intCmp]; rfl, .bool _ _⟩
        case neq => injection hd with hd; subst hd; exact ⟨_, by simp only [binOp]; rw [if_neg (by simp)]; simp only [Op.intCmp]; rfl, .bool _ _⟩
        case lss => injection hd with hd; subst hd; exact ⟨_, by simp only [binOp]; rw [if_neg (by simp)]; simp only [Op.intCmp]; rfl, .bool _ _⟩
        case leq => injection hd with hd; subst hd; exact ⟨_, by simp only [binOp]; rw [if_neg (by simp)]; simp only [Op.intCmp]; rfl, .bool _ _⟩
        case gtr => injection hd with hd; subst hd; exact ⟨_, by simp only [binOp]; rw [if_neg (by simp)]; simp only [Op.intCmp]; rfl, .bool _ _⟩
        case geq => injection hd with hd; subst hd; exact ⟨_, by simp only [binOp]; rw [if_neg (by simp)]; simp only [Op.intCmp]; rfl, .bool _ _⟩
        all_goals first | cases hd | simp at hsh
      · cases hd
  · rename_i a c
    cases hx with
    | str _ s1 =>
      cases hy with
      | str _ s2 =>
        rw [Sem.run_bind, guard_str, Result.andThen_ok]
        unfold binS at hd
        split at hd
        · split at hd
          · rename_i hlt
            injection hd with hd; subst hd
            refine ⟨.string (s1 ++ s2), ?_, ?_⟩
            · have h1 : s1.data.toList.length = s1.size := by rw [Array.length_toList]; rfl
              have h2 : s2.data.toList.length = s2.size := by rw [Array.length_toList]; rfl
              have hle : ¬ ((s1.size + s2.size : Nat) : Int) > IntKind.i64.max := by
                have : IntKind.i64.max = 9223372036854775807 := by decide
                rw [this]
                simp only [strMax] at hlt
                omega
              simp only [binOp, Op.stringOp, if_neg hle]
              rfl
            · have := Rep.str (I := I) (w := w) loc (s1 ++ s2)
              simpa using this
          · cases hd
        · injection hd with hd; subst hd
          exact ⟨_, by simp only [binOp, Op.stringOp, bytes_eq]; rfl, .bool _ _⟩
        · injection hd with hd; subst hd
          exact ⟨_, by simp only [binOp, Op.stringOp, bytes_eq]; rfl, .bool _ _⟩
        · cases hd
  · cases hd

theorem eqb_sound {neg : Bool} {t : TypeId} (ht : P.underlying t = some .bool) {xo yo : Operand} {u v : Value} {x y : D} (hx : Rep I w loc u x) (hy : Rep I w loc v y) {d : D} (hd : eqbD neg x y = some d) :
    ∃ q, (do eqGuard (if neg then .neq else .eql) t xo yo u v; binOp (if neg then .neq else .eql) t u v : Sem Value).run P w = .ok q w ∧ Rep I w loc q d := by
  unfold eqbD at hd
  split at hd
  · rename_i a c
    cases hx; cases hy
    injection hd with hd
    subst hd
    have h1 := run_equal_bool (P := P) w t a c ht
    cases neg
    · refine ⟨.bool (a == c), ?_, .bool _ _⟩
      rw [if_neg (by simp), Sem.run_bind, show (eqGuard .eql t xo yo (.bool a) (.bool c)).run P w = .ok () w by simp [eqGuard], Result.andThen_ok]
      show (do Pure.pure (Value.bool (← Op.equal t (.bool a) (.bool c))) : Sem Value).run P w = _
      rw [Sem.run_bind, h1]; rfl
    · refine ⟨.bool (a != c), ?_, .bool _ _⟩
      rw [if_pos rfl, Sem.run_bind, show (eqGuard .neq t xo yo (.bool a) (.bool c)).run P w = .ok () w by simp [eqGuard], Result.andThen_ok]
      show (do Pure.pure (Value.bool (!(← Op.equal t (.bool a) (.bool c)))) : Sem Value).run P w = _
      rw [Sem.run_bind, h1]; rfl
  · cases hd
end Go.Vi
