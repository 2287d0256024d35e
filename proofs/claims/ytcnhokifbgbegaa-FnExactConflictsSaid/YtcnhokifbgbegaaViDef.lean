/- Vi: an abstract machine on tree values, for the translated Go code of this seat: definitions alone (nothing is claimed here). -/
import Derived.Calls
import Derived.Orders
import Derived.RowKit3
import Derived.Below
namespace Go.Vi

/-- Abstract values. 'sl': a slice by content, nobody writes to it any more; 'osl', 'ptr', 'ept': into the call's own store; 'ipt': a pointer to cells that nobody writes to. -/
inductive D where
  | int (k : IntKind) (n : Int)
  | bool (b : Bool)
  | str (s : List UInt8)
  | agg (cs : List D)
  | sl (rows : List (List D))
  | nsl
  | osl (id off len : Nat)
  | ptr (id off : Nat)
  | ept (id row off : Nat)
  | ipt (cs : List D)
  | clo (f : Nat) (caps : List D)
  | tup (vs : List D)
  | undef
  | junk
  deriving Inhabited

/-- An object of the store: a variable's cells, or a slice's rows. -/
inductive Obj where
  | bx (cs : List D)
  | rw (e : Nat) (rows : List (List D))
  deriving Inhabited

abbrev Store := List (Option Obj)
abbrev Env := Nat → D

def ofL (l : List (Nat × D)) : Env := fun t => match l.lookup t with | some d => d | none => .junk
def put (e : Env) (t : Nat) (d : D) : Env := fun x => if x = t then d else e x
theorem put_ofL (l : List (Nat × D)) (t : Nat) (d : D) : put (ofL l) t d = ofL ((t, d) :: l) := by
  funext x
  simp only [put, ofL, List.lookup_cons]
  by_cases h : x = t
  · subst h; simp
  · have : (x == t) = false := by simpa using h
    simp [h, this]

inductive Opd where
  | t (n : Nat)
  | c (d : D)
  | g (n : Nat)
  deriving Inhabited

/-- The kinds of a struct's cells. -/
inductive Kd where
  | i (k : IntKind)
  | b
  | s
  deriving DecidableEq, Inhabited

inductive VOp where
  | mv (x : Opd)
  | pick (c a b : Opd)
  | alloc (z : List D)
  | box (x : Opd)
  | build (z : List D) (ps : List (Nat × Nat × Opd))
  | bsl (own : Bool) (e k : Nat) (xs : List Opd)
  | ld (n : Option Nat) (x : Opd)
  | sto (n : Nat) (x y : Opd)
  | nilc (x : Opd)
  | bin (b : BinOp) (x y : Opd)
  | eqs (sh : List Kd) (neg : Bool) (x y : Opd)
  | eqb (neg : Bool) (x y : Opd)
  | not (x : Opd)
  | neg (x : Opd)
  | cvi (k : IntKind) (x : Opd)
  | cvbs (x : Opd)
  | cvsb (x : Opd)
  | mkf (f : Nat) (caps : List Opd)
  | mks (e : Nat) (z : List D) (n c : Opd)
  | slc (e k : Nat) (x : Opd) (lo hi : Option Opd)
  | fld (off : Nat) (x : Opd)
  | ixs (e k : Nat) (x i : Opd)
  | ixa (n k : Nat) (x i : Opd)
  | ixt (x i : Opd)
  | extr (x : Opd) (j : Nat)
  | call (f : Nat) (rw : List Bool) (fz : Option (List Nat)) (as : List Opd)
  | callc (x : Opd) (as : List Opd)
  | len (s : Bool) (x : Opd)
  | alen (n : Nat)
  | app (own : Bool) (e : Nat) (z : List D) (x y : Opd)
  | mx (x y : Opd)
  | mn (x y : Opd)
  | copy (x y : Opd)
  deriving Inhabited

structure VOper where
  dst : Option Nat
  op : VOp
  g : Option (Nat × Bool) := none
  deriving Inhabited

inductive VCode where
  | skip
  | reg (ops : List VOper)
  | rgd (qs : List (Nat × Nat)) (ops : List VOper)
  | seq (a b : VCode)
  | cond (c : Opd) (a b : VCode)
  | blk (id : Nat) (b : VCode)
  | loop (keep : List Nat) (b : VCode)
  | exit (id : Nat)
  | ret
  deriving Inhabited

inductive VRes where
  | tmp (t : Nat)
  | cell (a : Nat) (n : Option Nat)
  deriving Inhabited

structure VFunc where
  m : Nat                       -- how many roots (pointers and slices that are written) come in
  res : List VRes
  body : VCode
  deriving Inhabited

inductive Ex where
  | normal
  | exit (id : Nat)
  | ret
  deriving DecidableEq, Inhabited

structure St where
  env : Env
  st : Store
  m : Nat

/-! ### Plain functions on values -/
def oneCell : D → Bool
  | .agg _ | .tup _ | .undef | .junk => false
  | _ => true

def cellsOf : D → List D
  | .agg cs => cs
  | d => [d]

def wordD : D → Bool
  | .int _ _ | .bool _ | .str _ => true
  | _ => false

/-- '==' of cells of these kinds. -/
def eqSh : List Kd → List D → List D → Option Bool
  | [], [], [] => some true
  | .i k :: sh, .int k1 a :: xs, .int k2 b :: ys => if k1 = k ∧ k2 = k then (eqSh sh xs ys).map fun r => a == b && r else none
  | .b :: sh, .bool a :: xs, .bool b :: ys => (eqSh sh xs ys).map fun r => a == b && r
  | .s :: sh, .str a :: xs, .str b :: ys => (eqSh sh xs ys).map fun r => a == b && r
  | _, _, _ => none
def eqsD (sh : List Kd) (neg : Bool) (x y : D) : Option D :=
  match x, y with
  | .agg a, .agg c => (eqSh sh a c).map fun r => .bool (if neg then !r else r)
  | _, _ => none

def strMax : Nat := 4611686018427387904

def binI (b : BinOp) (k : IntKind) (a c : Int) : Option D :=
  match b with
  | .add => some (.int k (k.wrap (a + c)))
  | .sub => some (.int k (k.wrap (a - c)))
  | .mul => some (.int k (k.wrap (a * c)))
  | .quo => if c = 0 then none else some (.int k (k.wrap (a.tdiv c)))
  | .rem => if c = 0 then none else some (.int k (a.tmod c))
  | .and => some (.int k (k.wrap (BitVec.ofInt k.bits a &&& BitVec.ofInt k.bits c).toNat))
  | .or => some (.int k (k.wrap (BitVec.ofInt k.bits a ||| BitVec.ofInt k.bits c).toNat))
  | .xor => some (.int k (k.wrap (BitVec.ofInt k.bits a ^^^ BitVec.ofInt k.bits c).toNat))
  | .andNot => some (.int k (k.wrap (BitVec.ofInt k.bits a &&& ~~~ BitVec.ofInt k.bits c).toNat))
  | .eql => some (.bool (a == c))
  | .neq => some (.bool (a != c))
  | .lss => some (.bool (decide (a < c)))
  | .leq => some (.bool (decide (a ≤ c)))
  | .gtr => some (.bool (decide (a > c)))
  | .geq => some (.bool (decide (a ≥ c)))
  | _ => none
def shiftI (b : BinOp) (k : IntKind) (a c : Int) : Option D :=
  if c < 0 then none else
  match b with
  | .shl => some (.int k (k.wrap (a * 2 ^ min c.toNat k.bits)))
  | .shr => some (.int k (a.fdiv (2 ^ min c.toNat k.bits)))
  | _ => none
def isShift : BinOp → Bool | .shl => true | .shr => true | _ => false
def binS (b : BinOp) (a c : List UInt8) : Option D :=
  match b with
  | .add => if a.length + c.length < strMax then some (.str (a ++ c)) else none
  | .eql => some (.bool (a == c))
  | .neq => some (.bool (a != c))
  | _ => none
def eqbD (neg : Bool) (x y : D) : Option D :=
  match x, y with
  | .bool a, .bool c => some (.bool (if neg then a != c else a == c))
  | _, _ => none
def bin (b : BinOp) (x y : D) : Option D :=
  match x, y with
  | .int k a, .int k' c => if isShift b then shiftI b k a c else if k = k' then binI b k a c else none
  | .str a, .str c => binS b a c
  | _, _ => none

def pickD (b : Bool) (x y : D) : D :=
  match x, y with
  | .bool p, .bool q => .bool (if b then p else q)
  | _, _ => if b then x else y

/-- The parts of a literal laid into its zero cells. -/
def fillP (ev : Opd → D) : List D → List (Nat × Nat × Opd) → Option (List D)
  | z, [] => some z
  | z, (off, n, x) :: ps =>
    if (cellsOf (ev x)).length = n ∧ (cellsOf (ev x)).all oneCell = true ∧ off + n ≤ z.length then fillP ev (z.take off ++ cellsOf (ev x) ++ z.drop (off + n)) ps else none

/-! ### The store -/
def Store.obj (st : Store) (id : Nat) : Option Obj := (st[id]?).join

/-- As a value that nobody writes to: own slices and variables by their content. -/
def lend : Nat → Store → D → D
  | 0, _, _ => .junk
  | n + 1, st, d =>
    match d with
    | .agg cs => .agg (cs.map (lend n st))
    | .tup vs => .tup (vs.map (lend n st))
    | .clo f caps => .clo f (caps.map (lend n st))
    | .nsl => .sl []
    | .osl id off len =>
      match st.obj id with
      | some (.rw _ rows) => if off + len ≤ rows.length then .sl ((rows.drop off).take len) else .junk
      | _ => .junk
    | .ptr id off =>
      match st.obj id with
      | some (.bx cs) => .ipt ((cs.drop off).map (lend n st))
      | _ => .junk
    | .ept _ _ _ => .junk
    | d => d

/-- The objects that 'lend' looks at. -/
def reach : Nat → Store → D → List Nat
  | 0, _, _ => []
  | n + 1, st, d =>
    match d with
    | .agg cs => cs.flatMap (reach n st)
    | .tup vs => vs.flatMap (reach n st)
    | .clo _ caps => caps.flatMap (reach n st)
    | .osl id _ _ => [id]
    | .ptr id off => id :: (match st.obj id with | some (.bx cs) => (cs.drop off).flatMap (reach n st) | _ => [])
    | _ => []

/-- The objects that a value names. -/
def refs : Nat → D → List Nat
  | 0, _ => []
  | n + 1, d =>
    match d with
    | .agg cs => cs.flatMap (refs n)
    | .tup vs => vs.flatMap (refs n)
    | .clo _ caps => caps.flatMap (refs n)
    | .osl id _ _ => [id]
    | .ptr id _ => [id]
    | _ => []

/-- Renumbered; what has no new number is lost. -/
def renum (f : Nat → Option Nat) : Nat → D → D
  | 0, _ => .junk
  | n + 1, d =>
    match d with
    | .agg cs => .agg (cs.map (renum f n))
    | .tup vs => .tup (vs.map (renum f n))
    | .clo g caps => .clo g (caps.map (renum f n))
    | .osl id off len => match f id with | some j => .osl j off len | none => .junk
    | .ptr id off => match f id with | some j => .ptr j off | none => .junk
    | .ept _ _ _ => .junk
    | d => d

def Obj.renum (f : Nat → Option Nat) : Obj → Obj
  | .bx cs => .bx (cs.map (Vi.renum f 3))
  | .rw e rows => .rw e rows

/-- No name of an object of the store within (content that nobody writes to has none). -/
def pure : Nat → D → Bool
  | 0, _ => false
  | n + 1, d =>
    match d with
    | .agg cs => cs.all (pure n)
    | .tup vs => vs.all (pure n)
    | .clo _ caps => caps.all (pure n)
    | .osl _ _ _ | .ptr _ _ | .ept _ _ _ | .nsl => false
    | _ => true

/-- Holds no slice or pointer to memory that came from elsewhere. -/
def bare : Nat → D → Bool
  | 0, _ => false
  | n + 1, d =>
    match d with
    | .agg cs => cs.all (bare n)
    | .tup vs => vs.all (bare n)
    | .sl rows => rows.isEmpty
    | .ipt _ | .clo _ _ | .ept _ _ _ => false
    | _ => true

def bareO : Option Obj → Bool
  | some (.bx cs) => cs.all (bare 5)
  | some (.rw _ rows) => rows.all (·.all (bare 5))
  | none => true

/-- A row as the store takes it: so many cells, each one cell, none that names an object. -/
def rowOk (k : Nat) (r : List D) : Bool := r.length == k && r.all fun d => pure 5 d && oneCell d

/-- What the objects 'ids' name, variables alone (rows name nothing). -/
def nested (st : Store) (ids : List Nat) : List Nat :=
  ids.flatMap fun id => match st.obj id with
    | some (.bx cs) => cs.flatMap (refs 3)
    | _ => []

def alive (st : Store) (id : Nat) : Bool := (st.obj id).isSome

/-- The objects 'ord', renumbered by their places there. -/
def select (ord : List Nat) (st : Store) : Store := ord.map fun id => (st.obj id).map (Obj.renum (fun i => ord.idxOf? i))

/-- Each once, at its first place. -/
def uniq : List Nat → List Nat
  | [] => []
  | x :: xs => x :: (uniq xs).filter (· != x)
def nodupB : List Nat → Bool
  | [] => true
  | x :: xs => !xs.contains x && nodupB xs
/-- A store gone over by place. -/
def overStore (g : Nat → Option Obj → Option Obj) : Nat → Store → Store
  | _, [] => []
  | i, o :: os => g i o :: overStore g (i + 1) os

/-- In the order of naming: the roots, what they name, then what the values name. -/
def orderOf (m : Nat) (st : Store) (vs : List D) : List Nat :=
  let o1 := List.range m ++ nested st (List.range m)
  let r := vs.flatMap (refs 5)
  let o2 := r ++ nested st r
  uniq ((o1 ++ o2).filter (alive st))

/-- At a loop's head: only the temporaries 'keep' live on, and the objects that they name. -/
def renorm (keep : List Nat) (σ : St) : St :=
  let vs := keep.map σ.env
  let ord := orderOf σ.m σ.st vs
  { env := ofL (keep.zip (vs.map (renum (fun i => ord.idxOf? i) 5))), st := select ord σ.st, m := σ.m }

/-! ### Operations -/
section
variable (gl : Nat → Option (List D))

def St.ev (σ : St) : Opd → D
  | .t n => σ.env n
  | .c d => d
  | .g n => match gl n with | some cs => .ipt cs | none => .junk

/-- 'n cells (none: one)' as a value. -/
def valOf (n : Option Nat) (cs : List D) : Option D :=
  match n with
  | some n => if n ≤ cs.length then some (.agg (cs.take n)) else none
  | none => match cs with | c :: _ => some c | [] => none

def loadD (st : Store) (n : Option Nat) (x : D) : Option D :=
  match x with
  | .ptr id off =>
    match st.obj id with
    | some (.bx cs) => valOf n (cs.drop off)
    | _ => none
  | .ept id row off =>
    match st.obj id with
    | some (.rw _ rows) => match rows[row]? with | some r => valOf n (r.drop off) | none => none
    | _ => none
  | .ipt cs => valOf n cs
  | _ => none

def spliceD (cs : List D) (off : Nat) (xs : List D) : List D := cs.take off ++ xs ++ cs.drop (off + xs.length)

def storeD (st : Store) (n : Nat) (x : D) (y : D) : Option Store :=
  if (cellsOf y).length = n ∧ (cellsOf y).all oneCell then
    match x with
    | .ptr id off =>
      match st.obj id with
      | some (.bx cs) => if off + n ≤ cs.length then some (st.set id (some (.bx (spliceD cs off (cellsOf y))))) else none
      | _ => none
    | .ept id row off =>
      match st.obj id with
      | some (.rw e rows) =>
        match rows[row]? with
        | some r => if off + n ≤ r.length ∧ (cellsOf y).all (pure 5) then some (st.set id (some (.rw e (rows.set row (spliceD r off (cellsOf y)))))) else none
        | none => none
      | _ => none
    | _ => none
  else none

def lenD : D → Option Nat
  | .sl rows => some rows.length
  | .nsl => some 0
  | .osl _ _ len => some len
  | .str s => some s.length
  | _ => none

def rowsD (st : Store) : D → Option (List (List D))
  | .sl rows => some rows
  | .nsl => some []
  | .osl id off len =>
    match st.obj id with
    | some (.rw _ rows) => if off + len ≤ rows.length then some ((rows.drop off).take len) else none
    | _ => none
  | _ => none

def rowMax : Nat := 1073741824

/-- 'append': the row that was is gone; its content lives on in a new object. -/
def appD (st : Store) (e : Nat) (x : D) (ys : List (List D)) : Option (D × Store) :=
  match x with
  | .nsl =>
    if ys.length ≤ rowMax then
      if ys.isEmpty then some (.nsl, st) else some (.osl st.length 0 ys.length, st ++ [some (.rw e ys)])
    else none
  | .osl id 0 len =>
    match st.obj id with
    | some (.rw e' rows) =>
      if e' = e ∧ len = rows.length ∧ len + ys.length ≤ rowMax then
        some (.osl st.length 0 (len + ys.length), st.set id none ++ [some (.rw e (rows ++ ys))])
      else none
    | _ => none
  | _ => none

def rowFits (k : Nat) (r : Option (List D)) : Bool := match r with | some r => r.length == k | none => true

def sliceV (st : Store) (e k : Nat) (x : D) (l h : Int) : Option D :=
  match x with
  | .sl rows => if 0 ≤ l ∧ l ≤ h ∧ h ≤ rows.length ∧ rowFits k rows[l.toNat]? = true ∧ k ≠ 0 then some (.sl ((rows.drop l.toNat).take (h.toNat - l.toNat))) else none
  | .osl id off len =>
    match st.obj id with
    | some (.rw e' _) => if 0 ≤ l ∧ l ≤ h ∧ h ≤ len ∧ e' = e ∧ k ≠ 0 ∧ (l = 0 ∨ l < len) then some (.osl id (off + l.toNat) (h.toNat - l.toNat)) else none
    | _ => none
  | .str s => if 0 ≤ l ∧ l ≤ h ∧ h ≤ s.length ∧ k = 0 then some (.str ((s.drop l.toNat).take (h.toNat - l.toNat))) else none
  | .nsl => if l = 0 ∧ h = 0 ∧ k ≠ 0 then some .nsl else none
  | _ => none

def sliceD (st : Store) (e k : Nat) (x : D) (lo hi : Option D) : Option D :=
  match lo, hi with
  | none, none => match lenD x with | some n => sliceV st e k x 0 n | none => none
  | some (.int _ l), none => match lenD x with | some n => sliceV st e k x l n | none => none
  | none, some (.int _ h) => sliceV st e k x 0 h
  | some (.int _ l), some (.int _ h) => sliceV st e k x l h
  | _, _ => none

def rowPt (k : Nat) (r : Option (List D)) : Option D := match r with | some r => if r.length = k then some (.ipt r) else none | none => none
def indexD (st : Store) (e k : Nat) (x : D) (i : Int) : Option D :=
  match x with
  | .sl rows => if 0 ≤ i then rowPt k rows[i.toNat]? else none
  | .osl id off len =>
    match st.obj id with
    | some (.rw e' _) => if 0 ≤ i ∧ i < len ∧ e' = e then some (.ept id (off + i.toNat) 0) else none
    | _ => none
  | _ => none

def fieldD (off : Nat) : D → Option D
  | .ptr id o => some (.ptr id (o + off))
  | .ept id r o => some (.ept id r (o + off))
  | .ipt cs => some (.ipt (cs.drop off))
  | _ => none

def bytesD : List (List D) → Option (List UInt8)
  | [] => some []
  | [.int .u8 n] :: rs => (bytesD rs).map fun l => UInt8.ofNat n.toNat :: l
  | _ => none

/-- What a call's result becomes: by content, or as objects of the caller's own. -/
def inflate1 (e : Nat) : D × Store → D × Store
  | (.nsl, st) => (.osl st.length 0 0, st ++ [some (.rw e [])])
  | p => p
def inflateAll : List Nat → List D → Store → List D × Store
  | e :: es, d :: ds, st =>
    let p := if e = 0 then (d, st) else inflate1 e (d, st)
    let q := inflateAll es ds p.2
    (p.1 :: q.1, q.2)
  | _, ds, st => (ds, st)
/-- 'es': by component the type of a slice's elements, 0 for what is no slice. -/
def inflate (es : List Nat) : D × Store → D × Store
  | (.tup vs, st) => let p := inflateAll es vs st; (.tup p.1, p.2)
  | (d, st) => match es with | e :: _ => if e = 0 then (d, st) else inflate1 e (d, st) | [] => (d, st)

def rootId : D → Option Nat
  | .ptr id 0 => some id
  | .osl id 0 _ => some id
  | _ => none

def rootsOf : List Bool → List D → Option (List Nat)
  | true :: bs, d :: ds => (rootId d).bind fun i => (rootsOf bs ds).map (i :: ·)
  | false :: bs, _ :: ds => rootsOf bs ds
  | [], _ => some []
  | _, [] => some []

def argsOf (ord : List Nat) (st0 : Store) : List Bool → List D → List D
  | true :: bs, d :: ds => renum (fun i => ord.idxOf? i) 5 d :: argsOf ord st0 bs ds
  | _ :: bs, d :: ds => lend 5 st0 d :: argsOf ord st0 bs ds
  | [], d :: ds => lend 5 st0 d :: argsOf ord st0 [] ds
  | _, [] => []

def lendsAny : List Bool → List D → Bool
  | true :: bs, _ :: ds => lendsAny bs ds
  | _ :: bs, d :: ds => !(refs 5 d).isEmpty || lendsAny bs ds
  | [], d :: ds => !(refs 5 d).isEmpty || lendsAny [] ds
  | _, [] => false

def dropAll (st : Store) (ids : List Nat) : Store := overStore (fun i o => if ids.contains i then none else o) 0 st

/-- The callee's numbers as the caller's: the roots, then behind the caller's store; 'n': how many there are. -/
def backF (ids : List Nat) (base n : Nat) (i : Nat) : Option Nat := if i < ids.length then ids[i]? else if i < n then some (base + (i - ids.length)) else none
/-- The roots written back, what is new behind the store. -/
def writeBack (ids : List Nat) (st0 : Store) (st2 : Store) : Store :=
  overStore (fun i o => match ids.idxOf? i with | some k => (st2.obj k).map (Obj.renum (backF ids st0.length st2.length)) | none => o) 0 st0
    ++ (st2.drop ids.length).map fun o => o.map (Obj.renum (backF ids st0.length st2.length))

/-- 'fz': none: the result by content; some es: as objects of the caller's own. -/
def callWith (call : Nat → List D → Store → Option (D × Store)) (f : Nat) (rw : List Bool) (fz : Option (List Nat)) (as : List D) (st : Store) : Option (D × Store) :=
  match rootsOf rw as with
  | none => none
  | some ids =>
    let ord := ids ++ nested st ids
    if nodupB ord = true ∧ ord.all (alive st) = true then
      let st0 := dropAll st ord
      match call f (argsOf ord st0 rw as) (select ord st) with
      | none => none
      | some (r, st2) =>
        if ids.length ≤ st2.length ∧ (lendsAny rw as = true → bare 5 r = true ∧ st2.all bareO = true) then
          match fz with
          | none =>
            let s3 := dropAll st2 (reach 5 st2 r)
            if (s3.take ids.length).all (·.isSome) = true then
              some (lend 5 st2 r, writeBack ids st0 (if ids = [] ∨ (s3.drop ids.length).all (·.isNone) = true then s3.take ids.length else s3))
            else none
          | some es => some (inflate es (renum (backF ids st.length st2.length) 5 r, writeBack ids st0 st2))
        else none
    else none

def pickE (c a b : D) (st : Store) : Option (D × Store) := match c with | .bool p => some (pickD p a b, st) | _ => none
def boxE (x : D) (st : Store) : Option (D × Store) := if (cellsOf x).all oneCell then some (.ptr st.length 0, st ++ [some (.bx (cellsOf x))]) else none
def bslE (own : Bool) (e k : Nat) (rows : List (List D)) (st : Store) : Option (D × Store) :=
  if rows.all (rowOk k) then (if own then some (.osl st.length 0 rows.length, st ++ [some (.rw e rows)]) else some (.sl rows, st)) else none
def giveE (d : Option D) (st : Store) : Option (D × Store) := match d with | some d => some (d, st) | none => none
def stoE (s : Option Store) : Option (D × Store) := match s with | some s => some (.undef, s) | none => none
def nilcD : D → Option D
  | .ptr id off => some (.ptr id off)
  | .ept id r off => some (.ept id r off)
  | .ipt cs => some (.ipt cs)
  | _ => none
def notD : D → Option D | .bool p => some (.bool (!p)) | _ => none
def negD : D → Option D | .int k n => some (.int k (k.wrap (0 - n))) | _ => none
def cviD (k : IntKind) : D → Option D | .int _ n => some (.int k (k.wrap n)) | _ => none
def strD (b : Option (List UInt8)) : Option D := match b with | some s => some (.str s) | none => none
def cvbsD (st : Store) (x : D) : Option D := match rowsD st x with | some rows => strD (bytesD rows) | none => none
def byteRow (b : UInt8) : List D := [.int .u8 (Int.ofNat b.toNat)]
def cvsbD : D → Option D | .str s => some (.sl (s.map byteRow)) | _ => none
def mksE (e : Nat) (z : List D) (n c : D) (st : Store) : Option (D × Store) := match n, c with
  | .int _ n, .int _ c => if 0 ≤ n ∧ n ≤ c ∧ c ≤ rowMax ∧ rowOk z.length z then some (.osl st.length 0 n.toNat, st ++ [some (.rw e (List.replicate n.toNat z))]) else none
  | _, _ => none
def ixsD (st : Store) (e k : Nat) (x i : D) : Option D := match i with | .int _ i => indexD st e k x i | _ => none
def ixaD (n k : Nat) (x i : D) : Option D := match i with | .int _ i => if 0 ≤ i ∧ i < n then fieldD (i.toNat * k) x else none | _ => none
def byteAt (b : Option UInt8) : Option D := match b with | some b => some (.int .u8 (Int.ofNat b.toNat)) | none => none
def ixtD (x i : D) : Option D := match x, i with | .str s, .int _ i => if 0 ≤ i then byteAt s[i.toNat]? else none | _, _ => none
def extrD (x : D) (j : Nat) : Option D := match x with | .tup vs => vs[j]? | _ => none
def isStr : D → Bool | .str _ => true | _ => false
def lenE (s : Bool) (x : D) : Option D := if isStr x = s then (match lenD x with | some n => some (.int .i64 (Int.ofNat n)) | none => none) else none
def appE (st : Store) (e k : Nat) (x y : D) : Option (D × Store) := match rowsD st y with
  | some ys => if ys.all (rowOk k) then appD st e x ys else none
  | none => none
/-- A new slice that nobody will write to from here on: by content; its object is gone. -/
def frzW (o : Option Obj) (id off len : Nat) (st : Store) : Option (D × Store) := match o with
  | some (.rw _ rows) => if off + len ≤ rows.length then some (.sl ((rows.drop off).take len), st.set id none) else none
  | _ => none
def frzE : D → Store → Option (D × Store)
  | .osl id off len, st => frzW (st.obj id) id off len st
  | .nsl, st => some (.sl [], st)
  | _, _ => none
def frzO (own : Bool) (r : Option (D × Store)) : Option (D × Store) := if own then r else match r with | some p => frzE p.1 p.2 | none => none
def maxD (x y : D) : Option D := match x, y with | .int k a, .int _ b => some (.int k (if b > a then b else a)) | _, _ => none
def minD (x y : D) : Option D := match x, y with | .int k a, .int _ b => some (.int k (if b < a then b else a)) | _, _ => none
def callE (call : Nat → List D → Store → Option (D × Store)) (x : D) (as : List D) (st : Store) : Option (D × Store) :=
  match x with | .clo f caps => callWith call f [] none (as ++ caps) st | _ => none

def evalOp (call : Nat → List D → Store → Option (D × Store)) (σ : St) : VOp → Option (D × Store)
  | .mv x => some (σ.ev gl x, σ.st)
  | .pick c a b => pickE (σ.ev gl c) (σ.ev gl a) (σ.ev gl b) σ.st
  | .alloc z => some (.ptr σ.st.length 0, σ.st ++ [some (.bx z)])
  | .box x => boxE (σ.ev gl x) σ.st
  | .build z ps => giveE ((fillP (σ.ev gl) z ps).map .agg) σ.st
  | .bsl own e k xs => bslE own e k (xs.map fun x => cellsOf (σ.ev gl x)) σ.st
  | .ld n x => giveE (loadD σ.st n (σ.ev gl x)) σ.st
  | .sto n x y => stoE (storeD σ.st n (σ.ev gl x) (σ.ev gl y))
  | .nilc x => giveE (nilcD (σ.ev gl x)) σ.st
  | .bin b x y => giveE (bin b (σ.ev gl x) (σ.ev gl y)) σ.st
  | .eqb neg x y => giveE (eqbD neg (σ.ev gl x) (σ.ev gl y)) σ.st
  | .eqs sh neg x y => giveE (eqsD sh neg (σ.ev gl x) (σ.ev gl y)) σ.st
  | .not x => giveE (notD (σ.ev gl x)) σ.st
  | .neg x => giveE (negD (σ.ev gl x)) σ.st
  | .cvi k x => giveE (cviD k (σ.ev gl x)) σ.st
  | .cvbs x => giveE (cvbsD σ.st (σ.ev gl x)) σ.st
  | .cvsb x => giveE (cvsbD (σ.ev gl x)) σ.st
  | .mkf f caps => some (.clo f (caps.map (σ.ev gl)), σ.st)
  | .mks e z n c => mksE e z (σ.ev gl n) (σ.ev gl c) σ.st
  | .slc e k x lo hi => giveE (sliceD σ.st e k (σ.ev gl x) (lo.map (σ.ev gl)) (hi.map (σ.ev gl))) σ.st
  | .fld off x => giveE (fieldD off (σ.ev gl x)) σ.st
  | .ixs e k x i => giveE (ixsD σ.st e k (σ.ev gl x) (σ.ev gl i)) σ.st
  | .ixa n k x i => giveE (ixaD n k (σ.ev gl x) (σ.ev gl i)) σ.st
  | .ixt x i => giveE (ixtD (σ.ev gl x) (σ.ev gl i)) σ.st
  | .extr x j => giveE (extrD (σ.ev gl x) j) σ.st
  | .call f rw fz as => callWith call f rw fz (as.map (σ.ev gl)) σ.st
  | .callc x as => callE call (σ.ev gl x) (as.map (σ.ev gl)) σ.st
  | .len s x => giveE (lenE s (σ.ev gl x)) σ.st
  | .alen n => some (.int .i64 (Int.ofNat n), σ.st)
  | .app own e z x y => frzO own (appE σ.st e z.length (σ.ev gl x) (σ.ev gl y))
  | .mx x y => giveE (maxD (σ.ev gl x) (σ.ev gl y)) σ.st
  | .mn x y => giveE (minD (σ.ev gl x) (σ.ev gl y)) σ.st
  | .copy _ _ => none

def putO (e : Env) (t : Option Nat) (d : D) : Env := match t with | some t => put e t d | none => e

/-- One operation of a region: done, or passed over. -/
def stepOp (call : Nat → List D → Store → Option (D × Store)) (o : VOper) (σ : St) : Option St :=
  match o.g with
  | none => (evalOp gl call σ o.op).map fun p => { σ with env := putO σ.env o.dst p.1, st := p.2 }
  | some (t, want) =>
    match σ.env t with
    | .bool b => if b = want then (evalOp gl call σ o.op).map fun p => { σ with env := putO σ.env o.dst p.1, st := p.2 } else some { σ with env := putO σ.env o.dst .undef }
    | .undef => some { σ with env := putO σ.env o.dst .undef }
    | _ => none

def runOps (call : Nat → List D → Store → Option (D × Store)) : List VOper → St → Option St
  | [], σ => some σ
  | o :: os, σ => (stepOp gl call o σ).bind (runOps call os)

/-- Into different objects. -/
def objOf : D → Option Nat
  | .ptr id _ => some id
  | .ept id _ _ => some id
  | _ => none
def disjO : Option Nat → Option Nat → Bool
  | some a, some b => a != b
  | _, _ => false
def disjD (d e : D) : Bool := disjO (objOf d) (objOf e)
/-- At the end of a region whose order is open: these pairs of pointers go into different objects. -/
def dynOk (qs : List (Nat × Nat)) (e : Env) : Bool := qs.all fun x => disjD (e x.1) (e x.2)

def resOf (σ : St) : VRes → Option D
  | .tmp t => some (σ.env t)
  | .cell a n => loadD σ.st n (σ.env a)

def resAll (σ : St) (rs : List VRes) : Option D :=
  match rs.mapM (resOf σ) with
  | some [d] => some d
  | some ds => some (.tup ds)
  | none => none

/-- What a call hands back: the roots, what they name, what the result names. -/
def rootsLive (m : Nat) (st : Store) : Bool := (List.range m).all (alive st)
def finish (m : Nat) (st : Store) (r : D) : D × Store :=
  let ord := orderOf m st [r]
  (renum (fun i => ord.idxOf? i) 5 r, select ord st)
def finishO (m : Nat) (st : Store) (r : D) : Option (D × Store) := if rootsLive m st then some (finish m st r) else none

def params : Nat → List D → List (Nat × D)
  | _, [] => []
  | i, d :: ds => (i, d) :: params (i + 1) ds

variable (C : Nat → Option VFunc) (prim : Nat → List D → Store → Option (D × Store))

mutual
def exec : Nat → VCode → St → Option (Ex × St)
  | 0, _, _ => none
  | _ + 1, .skip, σ => some (.normal, σ)
  | n + 1, .reg ops, σ => (runOps gl (callN n) ops σ).map fun σ => (.normal, σ)
  | n + 1, .rgd qs ops, σ => (runOps gl (callN n) ops σ).bind fun σ => if dynOk qs σ.env = true then some (.normal, σ) else none
  | n + 1, .seq a b, σ => (exec n a σ).bind fun p => match p.1 with | .normal => exec n b p.2 | e => some (e, p.2)
  | n + 1, .cond c a b, σ => match σ.ev gl c with | .bool t => if t then exec n a σ else exec n b σ | _ => none
  | n + 1, .blk id b, σ => (exec n b σ).map fun p => match p.1 with | .exit j => if j = id then (.normal, p.2) else p | _ => p
  | n + 1, .loop keep b, σ => if rootsLive σ.m σ.st then (exec n b (renorm keep σ)).bind fun p => match p.1 with | .normal => exec n (.loop keep b) p.2 | e => some (e, p.2) else none
  | _ + 1, .exit id, σ => some (.exit id, σ)
  | _ + 1, .ret, σ => some (.ret, σ)
def callN : Nat → Nat → List D → Store → Option (D × Store)
  | 0, _, _, _ => none
  | n + 1, f, as, st =>
    match C f with
    | none => prim f as st
    | some F =>
      match exec n F.body { env := ofL (params 0 as), st := st, m := F.m } with
      | some (.normal, σ) | some (.ret, σ) => (resAll σ F.res).bind fun r => finishO F.m σ.st r
      | _ => none
end
end
end Go.Vi
