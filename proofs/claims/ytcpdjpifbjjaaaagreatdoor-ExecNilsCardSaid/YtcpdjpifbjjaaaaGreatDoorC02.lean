/-
  THE CLEAN MACHINE, the operations of the clean machine: a machine of values by name that the model follows; each law here says that a step of the model does what the clean machine says. Nothing here speaks of this program.
-/
import Derived.Test.YtcpdjpifbjjaaaaGreatDoorC01
set_option linter.unusedVariables false
set_option linter.unusedSimpArgs false
namespace Go.Cl
open Go.RowKit (Below)
-- THE CLEAN MACHINE
structure St where
  slots : List D
  heap : List CObj
def elemT (tt : TT) (t : TypeId) : TypeId := match (tt t).td with | .sl e => e | _ => 0
def constD (tt : TT) (hint : TypeId) : Value → D
  | .int k n => .pv (.int k n)
  | .bool b => .pv (.bool b)
  | .float k b => .pv (.flt k b)
  | .string s => .pv (.str s.data.toList)
  | .slice none 0 0 => .nilsl (elemT tt hint)
  | .pointer none => .pv .nilp
  | .nilFunc => .pv .nilf
  | .nilIface => .pv .nili
  | .map none => .pv .nilm
  | _ => .junk
def evalD (tt : TT) (slots : List D) (hint : TypeId) : Operand → D
  | .tmp t => slots.getD t .junk
  | .const v => constD tt hint v
  | .func f => .fn f [] []
  | .global _ => .junk
/-- What an operation does to the objects. -/
inductive Eff where
  | none
  | set (id : Nat) (o : CObj)
abbrev Reads := List (Nat × CObj)
structure Out where
  side : Prop
  [dec : Decidable side]
  v : D
  reads : Reads
  eff : Eff
def ok0 (v : D) : Option Out := some ⟨True, v, [], .none⟩
def okS (side : Prop) [Decidable side] (v : D) : Option Out := some ⟨side, v, [], .none⟩
abbrev Look := Nat → Option CObj
-- TELLING BY VALUE
def mapSnap (f : D → Option (Pv × Reads)) : List D → Option (List Pv × Reads)
  | [] => some ([], [])
  | d :: ds => match f d, mapSnap f ds with
    | some (p, r), some (ps, r') => some (p :: ps, r ++ r')
    | _, _ => none
def snap : Nat → Look → D → Option (Pv × Reads)
  | _, _, .pv p => some (p, [])
  | 0, _, _ => none
  | n + 1, look, .agg ds => match mapSnap (snap n look) ds with | some (ps, r) => some (.agg ps, r) | none => none
  | _ + 1, _, .nilsl T => some (.sl T [], [])
  | n + 1, look, .own T id ver off len _ =>
    match look id with
    | some (.parr T' v ps) => if T = T' ∧ ver = v ∧ off + len ≤ ps.length then some (.sl T ((ps.drop off).take len), [(id, .parr T' v ps)]) else none
    | some (.arr T' v ds) => if T = T' ∧ ver = v ∧ off + len ≤ ds.length then
        match mapSnap (snap n look) ((ds.drop off).take len) with | some (ps, r) => some (.sl T ps, (id, .arr T' v ds) :: r) | none => none
      else none
    | _ => none
  | _ + 1, _, _ => none
/-- Is an own slice of the present version? -/
def verIs (look : Look) (T id ver : Nat) : Option CObj :=
  match look id with
  | some (.parr T' v ps) => if T = T' ∧ ver = v then some (.parr T' v ps) else none
  | some (.arr T' v ds) => if T = T' ∧ ver = v then some (.arr T' v ds) else none
  | _ => none
-- PLAIN OPERATIONS
def opLen (tt : TT) (look : Look) (t : TypeId) : D → Option Out
  | .pv (.str s) => match (tt t).td with | .str => ok0 (.pv (.int .i64 s.length)) | _ => none
  | .pv (.sl _ ps) => match (tt t).td with | .sl _ => ok0 (.pv (.int .i64 ps.length)) | _ => none
  | .nilsl _ => match (tt t).td with | .sl _ => ok0 (.pv (.int .i64 0)) | _ => none
  | .own T id ver _ len _ => match (tt t).td with
    | .sl _ => match verIs look T id ver with
      | some o => some ⟨True, .pv (.int .i64 len), [(id, o)], .none⟩
      | none => none
    | _ => none
  | _ => none
def opIndexAddr (tt : TT) (look : Look) (t : TypeId) : D → D → Option Out
  | .pv (.sl T ps), .pv (.int _ i) => match (tt t).td with
    | .sl e => if e = T then okS (0 ≤ i ∧ i < ps.length) (.sptr T ps i.toNat 0) else none
    | _ => none
  | .own T id ver off len _, .pv (.int _ i) => match (tt t).td with
    | .sl e => if e = T then match verIs look T id ver with
        | some o => some ⟨0 ≤ i ∧ i < len, .aptr T id ver (off + i.toNat) 0, [(id, o)], .none⟩
        | none => none
      else none
    | _ => none
  | .cptr id off, .pv (.int _ i) => match (tt t).td with
    | .arr n e => okS (0 ≤ i ∧ i < n) (.cptr id (off + i.toNat * (tt e).size))
    | _ => none
  | _, _ => none
def opFieldAddr (tt : TT) (look : Look) (t : TypeId) (x : D) (f : Nat) : Option Out :=
  match (tt t).td with
  | .struct fs => match fs[f]? with
    | some (o, ft) => if (tt ft).size = 0 then none else match x with
      | .cptr id off => ok0 (.cptr id (off + o))
      | .aptr T id ver i off => match verIs look T id ver with | some ob => some ⟨True, .aptr T id ver i (off + o), [(id, ob)], .none⟩ | none => none
      | .sptr T ps i off => ok0 (.sptr T ps i (off + o))
      | _ => none
    | none => none
  | _ => none
def opLoad (tt : TT) (look : Look) (t : TypeId) : D → Option Out
  | .cptr id off => match look id with
    | some (.cell d) => match D.sub d off (tt t).size (tt t).td.isAgg with | some v => some ⟨True, v, [(id, .cell d)], .none⟩ | none => none
    | _ => none
  | .aptr T id ver i off => match verIs look T id ver with
    | some (.parr T' v ps) => match Pv.sub (ps.getD i .nilp) off (tt t).size (tt t).td.isAgg with | some p => some ⟨i < ps.length, .pv p, [(id, .parr T' v ps)], .none⟩ | none => none
    | some (.arr T' v ds) => match D.sub (ds.getD i .junk) off (tt t).size (tt t).td.isAgg with | some d => some ⟨i < ds.length, d, [(id, .arr T' v ds)], .none⟩ | none => none
    | _ => none
  | .sptr _ ps i off => match Pv.sub (ps.getD i .nilp) off (tt t).size (tt t).td.isAgg with | some p => some ⟨i < ps.length, .pv p, [], .none⟩ | none => none
  | _ => none
/-- May it lie in a cell? -/
def D.plain : D → Bool
  | .tup _ | .ite .. | .junk => false
  | _ => true
def opStore (tt : TT) (look : Look) (t : TypeId) (x v : D) : Option Out :=
  if v.plain = true ∧ v.size = (tt t).size ∧ v.isAgg = (tt t).td.isAgg then match x with
  | .cptr id off => match look id with
    | some (.cell d) => match D.put d off (tt t).size (tt t).td.isAgg v with | some d' => some ⟨True, .junk, [(id, .cell d)], .set id (.cell d')⟩ | none => none
    | _ => none
  | .aptr T id ver i off => match verIs look T id ver with
    | some (.parr T' u ps) => match D.put (.pv (ps.getD i .nilp)) off (tt t).size (tt t).td.isAgg v with
      | some (.pv p) => some ⟨i < ps.length, .junk, [(id, .parr T' u ps)], .set id (.parr T' u (ps.set i p))⟩
      | some d => some ⟨i < ps.length, .junk, [(id, .parr T' u ps)], .set id (.arr T' u ((ps.map .pv).set i d))⟩
      | none => none
    | some (.arr T' u ds) => match D.put (ds.getD i .junk) off (tt t).size (tt t).td.isAgg v with
      | some d => some ⟨i < ds.length, .junk, [(id, .arr T' u ds)], .set id (.arr T' u (ds.set i d))⟩
      | none => none
    | _ => none
  | _ => none
  else none
def opBox (nid : Nat) (v : D) : Option Out := if v.plain = true then some ⟨True, .cptr nid 0, [], .set nid (.cell v)⟩ else none
def opAlloc (tt : TT) (nid : Nat) (t : TypeId) : Option Out := match (tt t).td with | .other => none | _ => some ⟨True, .cptr nid 0, [], .set nid (.cell (tt t).zero)⟩
def setParts (tt : TT) (ts : List TypeId) : List (Nat × D) → List D → Option (List D)
  | [], ds => some ds
  | (i, v) :: r, ds => match ts[i]? with
    | some t => if v.plain = true ∧ v.size = (tt t).size ∧ v.isAgg = (tt t).td.isAgg then setParts tt ts r (ds.set i v) else none
    | none => none
def opBuild (tt : TT) (t : TypeId) (parts : List (Nat × D)) : Option Out :=
  match (tt t).td with
  | .struct fs => match setParts tt (fs.map (·.2)) parts (zlist (tt t).zero) with
      | some ds => ok0 (mkAgg ds)
      | none => none
  | .arr n e => match setParts tt (List.replicate n e) parts (zlist (tt t).zero) with
      | some ds => ok0 (mkAgg ds)
      | none => none
  | _ => none
def mkArr (T ver : Nat) (ds : List D) : CObj := match allPv ds with | some ps => .parr T ver ps | none => .arr T ver ds
def opBuildSlice (tt : TT) (nid : Nat) (t : TypeId) (len : Nat) (parts : List (Nat × D)) : Option Out :=
  match (tt t).td with
  | .sl e => match setParts tt (List.replicate len e) parts (List.replicate len (tt e).zero) with
    | some ds => some ⟨len * (tt e).size ≤ 16777216, .own e nid 1 0 len (some len), [], .set nid (mkArr e 1 ds)⟩
    | none => none
  | _ => none
def opMakeSlice (tt : TT) (nid : Nat) (t : TypeId) : D → D → Option Out
  | .pv (.int _ l), .pv (.int _ c) => match (tt t).td with
    | .sl e => some ⟨0 ≤ l ∧ l ≤ c ∧ c * (tt e).bytes ≤ 140737488355328 ∧ c ≤ 9223372036854775807, .own e nid 1 0 l.toNat (some c.toNat), [],
        .set nid (match (tt e).zero with | .pv p => .parr e 1 (List.replicate c.toNat p) | d => .arr e 1 (List.replicate c.toNat d))⟩
    | _ => none
  | _, _ => none
def intBound (d : Option D) (dflt : Int) : Option Int := match d with | none => some dflt | some (.pv (.int _ n)) => some n | _ => none
def opSlice (tt : TT) (look : Look) (t : TypeId) (x : D) (lo hi mx : Option D) : Option Out :=
  match x with
  | .pv (.str s) => match (tt t).td, mx with
    | .str, none => match intBound lo 0, intBound hi s.length with
      | some l, some h => okS (0 ≤ l ∧ l ≤ h ∧ h ≤ s.length) (.pv (.str ((s.drop l.toNat).take (h.toNat - l.toNat))))
      | _, _ => none
    | _, _ => none
  | .pv (.sl T ps) => match (tt t).td with
    | .sl e => if e = T then match intBound lo 0, intBound hi ps.length with
      | some l, some h => match mx with
        | none => okS (0 ≤ l ∧ l ≤ h ∧ h ≤ ps.length) (.pv (.sl T ((ps.drop l.toNat).take (h.toNat - l.toNat))))
        | some m => match m, h with
          | .pv (.int _ m'), h => some ⟨0 ≤ l ∧ l ≤ h ∧ h ≤ m' ∧ m' ≤ ps.length, if m' = l then .nilsl T else .pv (.sl T ((ps.drop l.toNat).take (h.toNat - l.toNat))), [], .none⟩
          | _, _ => none
      | _, _ => none
      else none
    | _ => none
  | .nilsl T => match (tt t).td with
    | .sl _ => match intBound lo 0, intBound hi 0, intBound mx 0 with
      | some l, some h, some m => okS (l = 0 ∧ h = 0 ∧ m = 0) (.nilsl T)
      | _, _, _ => none
    | _ => none
  | .own T id ver off len lim => match (tt t).td with
    | .sl e => if e = T then match verIs look T id ver with
      | some o => match intBound lo 0, intBound hi len with
        | some l, some h => match mx with
          | none => some ⟨0 ≤ l ∧ l ≤ h ∧ h ≤ len, .own T id ver (off + l.toNat) (h.toNat - l.toNat) (match lim with | some c => some (c - l.toNat) | none => none), [(id, o)], .none⟩
          | some m => match m with
            | .pv (.int _ m') => some ⟨0 ≤ l ∧ l ≤ h ∧ h ≤ m' ∧ m' ≤ len, if m' = l then .nilsl T else .own T id ver (off + l.toNat) (h.toNat - l.toNat) (some (m'.toNat - l.toNat)), [(id, o)], .none⟩
            | _ => none
        | _, _ => none
      | none => none
      else none
    | _ => none
  | _ => none
def intBitsV (op : BinOp) (k : IntKind) (x y : Int) : Option Int :=
  let a := BitVec.ofInt k.bits x
  let b := BitVec.ofInt k.bits y
  match op with
  | .and => some (k.wrap (a &&& b).toNat)
  | .or => some (k.wrap (a ||| b).toNat)
  | .xor => some (k.wrap (a ^^^ b).toNat)
  | .andNot => some (k.wrap (a &&& ~~~b).toNat)
  | _ => none
def opInt (op : BinOp) (k : IntKind) (a b : Int) : Option Out :=
  match op with
  | .add => ok0 (.pv (.int k (k.wrap (a + b))))
  | .sub => ok0 (.pv (.int k (k.wrap (a - b))))
  | .mul => ok0 (.pv (.int k (k.wrap (a * b))))
  | .quo => okS (b ≠ 0) (.pv (.int k (k.wrap (a.tdiv b))))
  | .rem => okS (b ≠ 0) (.pv (.int k (a.tmod b)))
  | .eql => ok0 (.pv (.bool (a == b)))
  | .neq => ok0 (.pv (.bool (a != b)))
  | .lss => ok0 (.pv (.bool (decide (a < b))))
  | .leq => ok0 (.pv (.bool (decide (a ≤ b))))
  | .gtr => ok0 (.pv (.bool (decide (b < a))))
  | .geq => ok0 (.pv (.bool (decide (b ≤ a))))
  | .shl | .shr => none
  | op => match intBitsV op k a b with | some n => ok0 (.pv (.int k n)) | none => none
def opShift (op : BinOp) (k : IntKind) (x y : Int) : Option Out :=
  match op with
  | .shl => okS (0 ≤ y) (.pv (.int k (k.wrap (x * 2 ^ (min y.toNat k.bits)))))
  | .shr => okS (0 ≤ y) (.pv (.int k (x.fdiv (2 ^ (min y.toNat k.bits)))))
  | _ => none
def opStr (op : BinOp) (x y : List UInt8) : Option Out :=
  match op with
  | .add => okS (x.length + y.length ≤ 9223372036854775807) (.pv (.str (x ++ y)))
  | .eql => ok0 (.pv (.bool (x == y)))
  | .neq => ok0 (.pv (.bool (x != y)))
  | .lss => ok0 (.pv (.bool (Op.bytesLess x y)))
  | .leq => ok0 (.pv (.bool (Op.bytesLess x y || x == y)))
  | .gtr => ok0 (.pv (.bool (!(Op.bytesLess x y || x == y))))
  | .geq => ok0 (.pv (.bool (!Op.bytesLess x y)))
  | _ => none
def opFlt (op : BinOp) (k : FloatKind) (x y : Nat) : Option Out :=
  let r (z : Option Nat) : Option Out := match z with | some b => ok0 (.pv (.flt k b)) | none => none
  let c := k.format.order x y
  match op with
  | .add => r (k.format.add x y)
  | .sub => r (k.format.sub x y)
  | .mul => r (k.format.mul x y)
  | .quo => r (k.format.div x y)
  | .eql => ok0 (.pv (.bool (c == some .eq)))
  | .neq => ok0 (.pv (.bool (c != some .eq)))
  | .lss => ok0 (.pv (.bool (c == some .lt)))
  | .leq => ok0 (.pv (.bool (c == some .lt || c == some .eq)))
  | .gtr => ok0 (.pv (.bool (c == some .gt)))
  | .geq => ok0 (.pv (.bool (c == some .gt || c == some .eq)))
  | _ => none
/-- Two values of a type that may be compared. -/
def eqFs (f : TypeId → Pv → Pv → Option Bool) : List (Nat × TypeId) → List Pv → List Pv → Option Bool
  | [], [], [] => some true
  | (_, t) :: fs, x :: xs, y :: ys => match f t x y, eqFs f fs xs ys with
    | some a, some b => some (a && b)
    | _, _ => none
  | _, _, _ => none
def eqT (tt : TT) : Nat → TypeId → Pv → Pv → Option Bool
  | 0, _, _, _ => none
  | n + 1, t, x, y => match (tt t).td, x, y with
    | .bool, .bool a, .bool b => some (a == b)
    | .int _, .int k a, .int k' b => if k = k' then some (a == b) else none
    | .str, .str a, .str b => some (a == b)
    | .struct fs, .agg xs, .agg ys => eqFs (eqT tt n) fs xs ys
    | _, _, _ => none
def opEq (tt : TT) (t : TypeId) (x y : D) : Option Bool :=
  match x, y with
  | .pv .nilp, .pv .nilp => match (tt t).td with | .ptr _ => some true | _ => none
  | .pv .nilp, .cptr .. => match (tt t).td with | .ptr _ => some false | _ => none
  | .cptr .., .pv .nilp => match (tt t).td with | .ptr _ => some false | _ => none
  | .pv p, .pv q => eqT tt 9 t p q
  | _, _ => none
def opBin (tt : TT) (op : BinOp) (t : TypeId) : D → D → Option Out
  | .pv (.int k a), .pv (.int k' b) => match op with
    | .shl | .shr => opShift op k a b
    | op => if k = k' then opInt op k a b else none
  | .pv (.flt k a), .pv (.flt k' b) => if k = k' then opFlt op k a b else none
  | .pv (.str a), .pv (.str b) => opStr op a b
  | x, y => match op with
    | .eql => match opEq tt t x y with | some b => ok0 (.pv (.bool b)) | none => none
    | .neq => match opEq tt t x y with | some b => ok0 (.pv (.bool (!b))) | none => none
    | _ => none
def opUn (op : UnOp) : D → Option Out
  | .pv (.bool b) => match op with | .not => ok0 (.pv (.bool (!b))) | _ => none
  | .pv (.int k n) => match op with | .neg => ok0 (.pv (.int k (k.wrap (0 - n)))) | _ => none
  | .pv (.flt k b) => match op with | .neg => ok0 (.pv (.flt k (Op.negFloat k b))) | _ => none
  | _ => none
/-- The elements of what is appended. -/
inductive Els where
  | ps (l : List Pv)
  | ds (l : List D)
def Els.length : Els → Nat
  | .ps l => l.length
  | .ds l => l.length
def elsOf (e : TypeId) (look : Look) : D → Option (Els × Reads)
  | .pv (.sl T ps) => if T = e then some (.ps ps, []) else none
  | .nilsl _ => some (.ps [], [])
  | .own T id ver off len _ => if T = e then match verIs look T id ver with
    | some (.parr T' v ps) => if off + len ≤ ps.length then some (.ps ((ps.drop off).take len), [(id, .parr T' v ps)]) else none
    | some (.arr T' v ds) => if off + len ≤ ds.length then some (.ds ((ds.drop off).take len), [(id, .arr T' v ds)]) else none
    | _ => none
    else none
  | _ => none
/-- The elements of what is appended: of a slice, or of a string. -/
def srcOf (tt : TT) (e xt : TypeId) (look : Look) (x : D) : Option (Els × Reads) :=
  match (tt xt).td with
  | .str => match (tt e).td, x with
    | .int .u8, .pv (.str s) => some (.ps (s.map fun b => .int .u8 b.toNat), [])
    | _, _ => none
  | .sl _ => elsOf e look x
  | _ => none
/-- Elements that own arrays are told by value, and their arrays are settled. -/
def settle (look : Look) : Els → Els × Reads
  | .ps l => (.ps l, [])
  | .ds l => match mapSnap (snap 3 look) l with | some (ps, r) => (.ps ps, r) | none => (.ds l, [])
structure Out2 where
  side : Prop
  [dec : Decidable side]
  v : D
  reads : Reads
  kills : Reads
  eff : Eff
def addEls (T ver : Nat) : CObj → Els → CObj
  | .parr _ _ ps, .ps l => .parr T ver (ps ++ l)
  | .parr _ _ ps, .ds l => .arr T ver (ps.map .pv ++ l)
  | .arr _ _ ds, .ps l => .arr T ver (ds ++ l.map .pv)
  | .arr _ _ ds, .ds l => .arr T ver (ds ++ l)
  | o, _ => o
def CObj.len : CObj → Nat
  | .parr _ _ ps => ps.length
  | .arr _ _ ds => ds.length
  | _ => 0
def opAppend (tt : TT) (look : Look) (nid : Nat) (st : Bool) (t xt : TypeId) (s x : D) : Option Out2 :=
  match (tt t).td with
  | .sl e => if 16384 < (tt e).bytes then none else
    match srcOf tt e xt look x with
    | none => none
    | some (els0, r0) =>
      match (if st = true then settle look els0 else (els0, [])) with
      | (els, r1) =>
      match s with
      | .nilsl _ => some ⟨els.length ≤ 4294967296, .own e nid 1 0 els.length none, r0 ++ r1, r1, .set nid (addEls e 1 (.parr e 1 []) els)⟩
      | .own T id ver off len lim => if T = e ∧ off = 0 ∧ r1.all (fun r => r.1 != id) = true then match verIs look T id ver with
          | some o => if len = o.len then some ⟨len + els.length ≤ 4294967296, .own T id (ver + 1) 0 (len + els.length) (match lim with | some c => if len + els.length ≤ c then some c else none | none => none),
              (id, o) :: r0 ++ r1, r1, .set id (addEls T (ver + 1) o els)⟩ else none
          | none => none
        else none
      | _ => none
  | _ => none
def byteOf : Pv → Option UInt8
  | .int .u8 n => some (UInt8.ofNat n.toNat)
  | _ => none
def bytesOf : List Pv → Option (List UInt8)
  | [] => some []
  | p :: ps => match byteOf p, bytesOf ps with | some b, some l => some (b :: l) | _, _ => none
def opConvert (tt : TT) (look : Look) (nid : Nat) (src dst : TypeId) : D → Option Out
  | .pv (.int k n) => match (tt src).td, (tt dst).td with
    | .int _, .int k' => ok0 (.pv (.int k' (k'.wrap n)))
    | .int _, .flt k' => ok0 (.pv (.flt k' (k'.nearest n)))
    | _, _ => none
  | .pv (.flt k b) => match (tt dst).td with
    | .int k' => match (k.decode b).toInt .zero with
      | some n => okS (k'.min ≤ n ∧ n ≤ k'.max) (.pv (.int k' n))
      | none => none
    | _ => none
  | .pv (.str s) => match (tt dst).td with
    | .sl e => match (tt e).td with
      | .int .u8 => some ⟨True, .own e nid 1 0 s.length none, [], .set nid (.parr e 1 (s.map fun b => .int .u8 b.toNat))⟩
      | _ => none
    | _ => none
  | d => match (tt src).td, (tt dst).td with
    | .sl e, .str => match (tt e).td with
      | .int .u8 => match elsOf e look d with
        | some (.ps ps, r) => match bytesOf ps with | some l => some ⟨True, .pv (.str l), r, .none⟩ | none => none
        | _ => none
      | _ => none
    | _, _ => none
def opMinMax (mx : Bool) : List D → Option Out
  | [.pv (.int k a), .pv (.int k' b)] => if k = k' then ok0 (.pv (.int k (if mx = true then (if b > a then b else a) else (if b < a then b else a)))) else none
  | [.pv (.int k a), .pv (.int k' b), .pv (.int k'' c)] => if k = k' ∧ k = k'' then
      let m := if mx = true then (if b > a then b else a) else (if b < a then b else a)
      ok0 (.pv (.int k (if mx = true then (if c > m then c else m) else (if c < m then c else m)))) else none
  | _ => none
def pickD (t : Bool) : D → D → D
  | .pv (.bool a), .pv (.bool b) => .pv (.bool (if t = true then a else b))
  | a, b => if t = true then a else b
def opField (tt : TT) (t : TypeId) (f : Nat) (x : D) : Option Out :=
  match (tt t).td with
  | .struct fs => match fs[f]? with
    | some (o, ft) => match x.isAgg, D.sub x o (tt ft).size (tt ft).td.isAgg with | true, some d => ok0 d | _, _ => none
    | none => none
  | _ => none
def opIndex (tt : TT) (t : TypeId) : D → D → Option Out
  | .pv (.str s), .pv (.int _ i) => match (tt t).td with
    | .str => okS (0 ≤ i ∧ i < s.length) (.pv (.int .u8 (s.getD i.toNat 0).toNat))
    | _ => none
  | _, _ => none
def opNil : D → Option Out
  | .cptr a b => ok0 (.cptr a b)
  | .aptr a b c d e => ok0 (.aptr a b c d e)
  | .sptr a b c d => ok0 (.sptr a b c d)
  | .fn a b c => ok0 (.fn a b c)
  | _ => none
end Go.Cl
