/-
  THE CLEAN MACHINE, part 10: a machine of values by name that the model follows; each law here says that a step of the model does what the clean machine says. Nothing here speaks of this program.
-/
import Derived.Test.YtcpdjpifbjjaaaaGreatDoorC09
set_option linter.unusedVariables false
set_option linter.unusedSimpArgs false
namespace Go.Cl
open Go.RowKit (Below)
section
variable {P : Program} {tt : TT}
-- ONE OPERATION
instance (o : Out) : Decidable o.side := o.dec
instance (o : Out2) : Decidable o.side := o.dec
def Out.up (o : Out) : Out2 := { side := o.side, v := o.v, reads := o.reads, kills := [], eff := o.eff }
def opConvN (tt : TT) (src dst : TypeId) : D → Option Out
  | .pv (.int _ n) => match (tt src).td, (tt dst).td with
    | .int _, .int k' => ok0 (.pv (.int k' (k'.wrap n)))
    | .int _, .flt k' => ok0 (.pv (.flt k' (k'.nearest n)))
    | _, _ => none
  | .pv (.flt k b) => match (tt src).td, (tt dst).td with
    | .flt _, .int k' => match (k.decode b).toInt .zero with
      | some n => okS (k'.min ≤ n ∧ n ≤ k'.max) (.pv (.int k' n))
      | none => none
    | _, _ => none
  | _ => none
theorem convN_sound (htt : TTok P tt) {g : Ghost} {w : World} {H : List CObj} (hr : HRel tt g w.heap H) {src dst : TypeId} {x : D} {v : Value} (hx : V tt g w.heap x v) {out : Out}
    (h : opConvN tt src dst x = some out) (hs : out.side) : Good P tt (convert src dst v) g w H out := by
  unfold opConvN at h
  split at h
  · rw [v_int] at hx
    subst hx
    split at h
    · rename_i h1 h2
      cases h
      exact good_pure hr rfl (by simp only [convert, Sem.run_bind, Result.andThen_ok, run_und (und_int htt h1), run_und (und_int htt h2), Conv.intToInt, Sem.run_pure]) (v_int.2 rfl)
    · rename_i h1 h2
      cases h
      exact good_pure hr rfl (by simp only [convert, Sem.run_bind, Result.andThen_ok, run_und (und_int htt h1), run_und (und_flt htt h2), Conv.intToFloat, Sem.run_pure]) (v_flt.2 rfl)
    · cases h
  · rw [v_flt] at hx
    subst hx
    split at h
    · rename_i h1 h2
      split at h
      · rename_i n hn
        cases h
        simp only [okS] at hs
        exact good_pure hr rfl (by simp only [convert, Sem.run_bind, Result.andThen_ok, run_und (und_flt htt h1), run_und (und_int htt h2), Conv.floatToInt, hn, hs, and_self, if_true, Sem.run_pure]) (v_int.2 rfl)
      · cases h
    · cases h
  · cases h
/-- What comes of an operation: a value, or a call. -/
inductive Doing where
  | val (r : Out2)
  | call (f : FuncId) (args : List D)
def D.strip : D → D
  | .ite _ d => d
  | d => d
def D.cond : D → Bool
  | .ite c _ => c
  | _ => true
def D.isIte : D → Bool
  | .ite .. => true
  | _ => false
def okV (r : Out2) : Option Doing := if r.v.isIte = true then none else some (.val r)
def upO (o : Option Out) : Option Doing := match o with | some o => okV o.up | none => none
def ifTd (tt : TT) (t : TypeId) (o : Option Out) : Option Out := match (tt t).td with | .other => none | _ => o
def ifLive (d : D) (o : Option Out) : Option Out := if d.plain = true then o else none
def doPick (t a b : D) : Option Doing :=
  match t with
  | .pv (.bool t) => okV { side := (t = true → a.cond = true) ∧ (t = false → b.cond = true), v := pickD t a.strip b.strip, reads := [], kills := [], eff := .none }
  | _ => none
def doBuiltin (tt : TT) (look : Look) (nid : Nat) (ts : Array TypeId) (ds : List D) : Builtin → Option Doing
  | .len => match ts.toList, ds with
    | [t], [d] => upO (opLen tt look t d)
    | _, _ => none
  | .append => match ts.toList, ds with
    | [t, xt], [s, x] => match opAppend tt look nid true t xt s x with | some r => okV r | none => none
    | _, _ => none
  | .min => upO (opMinMax false ds)
  | .max => upO (opMinMax true ds)
  | _ => none
def fieldT (tt : TT) (t : TypeId) (i : Nat) : TypeId := match (tt t).td with | .struct fs => (fs.getD i (0, 0)).2 | .arr _ e => e | .sl e => e | _ => 0
/-- The operation, on the clean machine. -/
def clOp (tt : TT) (look : Look) (nid : Nat) (slots : List D) (o : Oper) : Option Doing :=
  let ev (t : TypeId) (x : Operand) : D := (evalD tt slots t x).strip
  match o.op with
  | .move x | .assign x => some (.val { side := True, v := evalD tt slots o.type x, reads := [], kills := [], eff := .none })
  | .pick c a b => doPick (evalD tt slots 0 c) (evalD tt slots o.type a) (evalD tt slots o.type b)
  | .alloc t => upO (opAlloc tt nid t)
  | .box t x => upO (opBox nid (ev t x))
  | .build t ps => upO (opBuild tt t (ps.toList.map fun p => (p.1, ev (fieldT tt t p.1) p.2)))
  | .buildSlice t n ps => upO (opBuildSlice tt nid t n (ps.toList.map fun p => (p.1, ev (fieldT tt t p.1) p.2)))
  | .load t a => upO (ifTd tt t (opLoad tt look t (ev 0 a)))
  | .store t a x => upO (ifTd tt t (opStore tt look t (ev 0 a) (ev t x)))
  | .nilCheck x => match ev 0 x with
    | .aptr .. => none
    | d => upO (opNil d)
  | .binOp op t x y ty => upO (opBin tt op t (ev t x) (ev ty y))
  | .unOp op t x => upO (opUn op (ev t x))
  | .convert src dst x => upO (opConvN tt src dst (ev src x))
  | .makeFunc (.func f) a b => if (a.toList ++ b.toList).all (fun x => (ev 0 x).plain) = true then
      some (.val { side := True, v := .fn f (a.toList.map (ev 0)) (b.toList.map (ev 0)), reads := [], kills := [], eff := .none }) else none
  | .makeSlice t l c => upO (opMakeSlice tt nid t (ev 0 l) (ev 0 c))
  | .slice t x lo hi mx => if mx.isSome = true → hi.isSome = true then upO (opSlice tt look t (ev t x) (lo.map (ev 0)) (hi.map (ev 0)) (mx.map (ev 0))) else none
  | .fieldAddr t x f => upO (opFieldAddr tt look t (ev 0 x) f)
  | .field t x f => upO (opField tt t f (ev t x))
  | .indexAddr t x i => upO (opIndexAddr tt look t (ev t x) (ev 0 i))
  | .index t x i => upO (opIndex tt t (ev t x) (ev 0 i))
  | .extract x i => match ev 0 x with
    | .tup ds => match ds[i]? with
      | some d => okV { side := True, v := d, reads := [], kills := [], eff := .none }
      | none => none
    | _ => none
  | .call c => match c.callee with
    | .builtin b => doBuiltin tt look nid c.argTypes (c.args.toList.mapIdx fun i x => ev (c.argTypes.getD i 0) x) b
    | .value f => match ev 0 f with
      | .fn f a b => let ds := a ++ c.args.toList.mapIdx (fun i x => ev (c.argTypes.getD i 0) x) ++ b
        if ds.all D.plain = true then some (.call f ds) else none
      | _ => none
    | _ => none
  | _ => none
/-- Are the operands there? -/
def opsOk (tt : TT) (slots : List D) (o : Oper) : Bool :=
  match o.op with
  | .move _ | .assign _ | .pick .. => true
  | op => op.operands.toList.all fun x => (evalD tt slots 0 x).cond
def isAlloc : Op → Bool
  | .alloc _ | .box .. | .buildSlice .. | .makeSlice .. => true
  | .call c => match c.callee with | .builtin .append => true | _ => false
  | _ => false
/-- What a slot holds; of one that is passed over: nothing. -/
def SV (tt : TT) (g : Ghost) (h : Array Obj) : D → Value → Prop
  | .ite c d, v => (c = true → V tt g h d v) ∧ (c = false → v = undef)
  | d, v => V tt g h d v
def SlotsV (tt : TT) (g : Ghost) (h : Array Obj) (slots : List D) (tmps : Array Value) : Prop :=
  slots.length = tmps.size ∧ ∀ i, SV tt g h (slots.getD i .junk) (tmps.getD i undef)
theorem sv_of_v {g : Ghost} {h : Array Obj} {d : D} {v : Value} (hi : ∀ c e, d ≠ .ite c e) (hv : V tt g h d v) : SV tt g h d v := by
  cases d <;> first | exact hv | exact absurd rfl (hi _ _)
theorem sv_strip {g : Ghost} {h : Array Obj} {d : D} {v : Value} (hv : SV tt g h d v) (hc : d.cond = true) : V tt g h d.strip v := by
  cases d <;> first | exact hv | exact hv.1 hc
theorem SV.mono {g g' : Ghost} {h h' : Array Obj} (hm : GMono g g' h h') (d : D) (v : Value) (hv : SV tt g h d v) : SV tt g' h' d v := by
  cases d with
  | ite c d => exact ⟨fun hc => V.mono hm _ _ (hv.1 hc), hv.2⟩
  | _ => simp only [SV] at hv ⊢; exact V.mono hm _ _ hv
theorem SlotsV.mono {g g' : Ghost} {h h' : Array Obj} (hm : GMono g g' h h') {slots : List D} {tmps : Array Value} (hv : SlotsV tt g h slots tmps) : SlotsV tt g' h' slots tmps :=
  ⟨hv.1, fun i => SV.mono hm _ _ (hv.2 i)⟩
def putD (slots : List D) (dst : Option Tmp) (d : D) : List D := match dst with | some t => slots.set t d | none => slots
theorem SlotsV.put {g : Ghost} {h : Array Obj} {slots : List D} {a : Act} (hv : SlotsV tt g h slots a.tmps) (dst : Option Tmp) {d : D} {v : Value} (hd : SV tt g h d v) :
    SlotsV tt g h (putD slots dst d) (a.put dst v).tmps := by
  cases dst with
  | none => exact hv
  | some t =>
    refine ⟨by simpa [putD, Act.put] using hv.1, fun i => ?_⟩
    have h1 := hv.1
    by_cases hi : i = t
    · subst hi
      by_cases hl : i < slots.length
      · have hl' : i < a.tmps.size := by omega
        simpa [putD, Act.put, List.getD_eq_getElem?_getD, hl, hl'] using hd
      · have hl' : ¬ i < a.tmps.size := by omega
        have := hv.2 i
        simp [putD, Act.put, List.getD_eq_getElem?_getD, hl, hl', Array.getD] at this ⊢
        exact this
    · have := hv.2 i
      simp only [putD, Act.put, List.getD_eq_getElem?_getD, List.getElem?_set_ne (Ne.symm hi)] at this ⊢
      rw [Array.getD_eq_getD_getElem?, Array.getElem?_setIfInBounds_ne (Ne.symm hi), ← Array.getD_eq_getD_getElem?]
      exact this
theorem const_sound {g : Ghost} {h : Array Obj} (t : TypeId) (v : Value) : V tt g h (constD tt t v) v := by
  unfold constD
  split
  · rw [v_int]
  · rw [v_bool]
  · rw [v_flt]
  · rw [v_str]; exact ⟨_, rfl, rfl⟩
  · rw [v_nilsl]; exact ⟨_, rfl⟩
  · rw [v_nilp]
  · rw [v_pv rfl]; simp [Flat, Value.oneCell']
  · rw [v_pv rfl]; simp [Flat, Value.oneCell']
  · rw [v_pv rfl]; simp [Flat, Value.oneCell']
  · trivial
theorem constD_ite {t : TypeId} {v : Value} (c : Bool) (e : D) : constD tt t v ≠ .ite c e := by
  unfold constD
  split <;> simp
theorem eval_sound {g : Ghost} {h : Array Obj} {slots : List D} {a : Act} (hv : SlotsV tt g h slots a.tmps) (t : TypeId) (x : Operand) : SV tt g h (evalD tt slots t x) (a.eval x) := by
  cases x with
  | tmp i => exact hv.2 i
  | const v => exact sv_of_v (fun c e => constD_ite c e) (const_sound t v)
  | global n => exact trivial
  | func f =>
    show V tt g h (.fn f [] []) _
    simp only [V, VOf, D.isAgg, Bool.false_eq_true, if_false, DFlat, DVL, Act.eval]
    exact ⟨⟨#[], #[], rfl, rfl, rfl⟩, rfl⟩
end
end Go.Cl
