/-
  THE CLEAN MACHINE, values, memory, steps of memory: a machine of values by name that the model follows; each law here says that a step of the model does what the clean machine says. Nothing here speaks of this program.
-/
import Derived.Below
import Derived.Laws.Rows
import Derived.Laws.IdiomCopy
import Derived.Calls
import Derived.Orders
import Derived.KernelRfl
set_option linter.unusedVariables false
set_option linter.unusedSimpArgs false
namespace Go.Cl

/-- Data by value: what a settled Go value says. -/
inductive Pv where
  | bool (b : Bool)
  | int (k : IntKind) (n : Int)
  | flt (k : FloatKind) (bits : Nat)
  | str (s : List UInt8)
  | agg (ps : List Pv)
  | sl (T : TypeId) (ps : List Pv)
  | nilp
  | nilf
  | nili
  | nilm

mutual
def Pv.size : Pv → Nat
  | .agg ps => Pv.sizeL ps
  | .bool _ | .int _ _ | .flt _ _ | .str _ | .sl _ _ | .nilp | .nilf | .nili | .nilm => 1
def Pv.sizeL : List Pv → Nat
  | [] => 0
  | p :: ps => p.size + Pv.sizeL ps
end
def Pv.isAgg : Pv → Bool
  | .agg _ => true
  | _ => false

inductive TD where
  | bool | int (k : IntKind) | flt (k : FloatKind) | str
  | ptr (e : TypeId) | sl (e : TypeId) | arr (n : Nat) (e : TypeId)
  | struct (fs : List (Nat × TypeId))
  | map (k e : TypeId) | func | iface | other

/-- A value in a slot or a cell, of a machine whose objects have names in the place of addresses. -/
inductive D where
  | pv (p : Pv)
  | agg (ds : List D)
  | nilsl (T : TypeId)
  | own (T : TypeId) (id ver off len : Nat) (lim : Option Nat)
  | cptr (id off : Nat)
  | aptr (T : TypeId) (id ver i off : Nat)
  | sptr (T : TypeId) (ps : List Pv) (i off : Nat)
  | map (id : Nat)
  | fn (f : FuncId) (first captured : List D)
  | iface (T : TypeId) (d : D)
  | tup (ds : List D)
  | ite (t : Bool) (d : D)
  | junk

/-- What is known of a type: how its values lie, how many cells, how many bytes, its zero value. -/
structure TI where
  td : TD
  size : Nat
  bytes : Nat
  zero : D

abbrev TT := TypeId → TI

mutual
def D.size : D → Nat
  | .pv p => p.size
  | .agg ds => D.sizeL ds
  | .nilsl _ | .own .. | .cptr .. | .aptr .. | .sptr .. | .map _ | .fn .. | .iface .. | .tup _ | .ite .. | .junk => 1
def D.sizeL : List D → Nat
  | [] => 0
  | d :: ds => d.size + D.sizeL ds
end
def D.isAgg : D → Bool
  | .agg _ => true
  | .pv p => p.isAgg
  | _ => false

inductive CObj where
  | cell (d : D)
  | arr (T : TypeId) (ver : Nat) (ds : List D)
  | parr (T : TypeId) (ver : Nat) (ps : List Pv)
  | mapo (K E : TypeId) (es : List (Pv × D))
  | dead
  | free
@[simp] def CObj.live : CObj → Prop
  | .dead | .free => False
  | _ => True

/-- Where an object lies: a block with room for so many elements; or a slice that has no room at all. -/
inductive Gl where
  | blk (b N : Nat)
  | none0

structure Ghost where
  φ : Nat → Option (Gl × Nat)
  B : TypeId → Nat → Prop

/-- A whole value, not its cells. -/
def VOf (agg : Bool) (F : List Value → Prop) (v : Value) : Prop :=
  if agg = true then ∃ cs, v = .agg cs ∧ F cs.toList else (F [v] ∧ v.oneCell' = true)

section
variable (tt : TT)

mutual
def Flat (B : TypeId → Nat → Prop) (h : Array Obj) : Pv → List Value → Prop
  | .bool b, cs => cs = [.bool b]
  | .int k n, cs => cs = [.int k n]
  | .flt k n, cs => cs = [.float k n]
  | .str s, cs => ∃ b : ByteArray, cs = [.string b] ∧ b.data.toList = s
  | .agg ps, cs => FlatL B h ps cs
  | .sl T ps, cs => (ps = [] ∧ ∃ a c, cs = [.slice a 0 c]) ∨
      ∃ blk off cap c E fz, cs = [.slice (some ⟨blk, off, none⟩) ps.length cap] ∧ ps.length ≤ cap ∧ B T blk ∧ h[blk]? = some (.cells c E fz) ∧
        off + ps.length * (tt T).size ≤ c.size ∧ (∀ p ∈ ps, p.size = (tt T).size) ∧ FlatL B h ps ((c.toList.drop off).take (ps.length * (tt T).size))
  | .nilp, cs => cs = [.pointer none]
  | .nilf, cs => cs = [.nilFunc]
  | .nili, cs => cs = [.nilIface]
  | .nilm, cs => cs = [.map none]
def FlatL (B : TypeId → Nat → Prop) (h : Array Obj) : List Pv → List Value → Prop
  | [], cs => cs = []
  | p :: ps, cs => ∃ c1 c2, cs = c1 ++ c2 ∧ Flat B h p c1 ∧ FlatL B h ps c2
end

/-- What the value of an own slice is. -/
def OwnV (T : TypeId) (off len : Nat) (lim : Option Nat) (v : Value) : Gl → Prop
  | .none0 => off = 0 ∧ len = 0 ∧ (lim = none ∨ lim = some 0) ∧ ∃ a, v = .slice a 0 0
  | .blk b N => ∃ a cap, v = .slice (some a) len cap ∧ (0 < cap → a = ⟨b, off * (tt T).size, none⟩) ∧ len ≤ cap ∧ off + cap ≤ N ∧
      (match lim with | some c => cap = c | none => off + cap = N)

mutual
def DFlat (g : Ghost) (h : Array Obj) : D → List Value → Prop
  | .pv p, cs => Flat tt g.B h p cs
  | .agg ds, cs => DFlatL g h ds cs
  | .nilsl _, cs => ∃ a, cs = [.slice a 0 0]
  | .own T id ver off len lim, cs => ∃ v, cs = [v] ∧ v.oneCell' = true ∧ ∃ gl cur, g.φ id = some (gl, cur) ∧ ver ≤ cur ∧ 0 < ver ∧ (ver = cur → OwnV tt T off len lim v gl)
  | .cptr id off, cs => ∃ b N, cs = [.pointer (some ⟨b, off, none⟩)] ∧ g.φ id = some (.blk b N, 0)
  | .aptr T id ver i off, cs => ∃ v, cs = [v] ∧ v.oneCell' = true ∧ ∃ gl cur, g.φ id = some (gl, cur) ∧ ver ≤ cur ∧ 0 < ver ∧
      (ver = cur → ∃ b N, gl = .blk b N ∧ v = .pointer (some ⟨b, i * (tt T).size + off, none⟩))
  | .sptr T ps i off, cs => ∃ b o c E fz, cs = [.pointer (some ⟨b, o + i * (tt T).size + off, none⟩)] ∧ g.B T b ∧ h[b]? = some (.cells c E fz) ∧
      o + ps.length * (tt T).size ≤ c.size ∧ (∀ p ∈ ps, p.size = (tt T).size) ∧ FlatL tt g.B h ps ((c.toList.drop o).take (ps.length * (tt T).size))
  | .map id, cs => ∃ b N, g.φ id = some (.blk b N, 0) ∧ cs = [.map (some b)]
  | .fn f a b, cs => ∃ va vb, cs = [.func (.func f) va vb] ∧ DVL g h a va.toList ∧ DVL g h b vb.toList
  | .iface T d, cs => ∃ v, cs = [.iface T v] ∧ VOf d.isAgg (DFlat g h d) v
  | .tup _, _ => False
  | .ite .., _ => False
  | .junk, _ => False
def DFlatL (g : Ghost) (h : Array Obj) : List D → List Value → Prop
  | [], cs => cs = []
  | d :: ds, cs => ∃ c1 c2, cs = c1 ++ c2 ∧ DFlat g h d c1 ∧ DFlatL g h ds c2
def DVL (g : Ghost) (h : Array Obj) : List D → List Value → Prop
  | [], vs => vs = []
  | d :: ds, vs => ∃ v r, vs = v :: r ∧ VOf d.isAgg (DFlat g h d) v ∧ DVL g h ds r
end

/-- What a slot holds. -/
def V (g : Ghost) (h : Array Obj) : D → Value → Prop
  | .junk, _ => True
  | .tup ds, v => ∃ vs, v = .tuple vs ∧ DVL tt g h ds vs.toList
  | .ite t d, v => t = true → VOf d.isAgg (DFlat tt g h d) v
  | d, v => VOf d.isAgg (DFlat tt g h d) v

-- LENGTHS
variable {tt}
mutual
theorem Flat.len {B : TypeId → Nat → Prop} {h : Array Obj} : ∀ (p : Pv) (cs : List Value), Flat tt B h p cs → cs.length = p.size
  | .bool _, cs, hf => by simp only [Flat] at hf; subst hf; rfl
  | .int _ _, cs, hf => by simp only [Flat] at hf; subst hf; rfl
  | .flt _ _, cs, hf => by simp only [Flat] at hf; subst hf; rfl
  | .str _, cs, hf => by simp only [Flat] at hf; obtain ⟨b, rfl, _⟩ := hf; rfl
  | .agg ps, cs, hf => by simp only [Flat] at hf; simpa [Pv.size] using FlatL.len ps cs hf
  | .sl T ps, cs, hf => by
    simp only [Flat] at hf
    rcases hf with ⟨_, a, c, rfl⟩ | ⟨_, _, _, _, _, _, rfl, _⟩ <;> rfl
  | .nilp, cs, hf => by simp only [Flat] at hf; subst hf; rfl
  | .nilf, cs, hf => by simp only [Flat] at hf; subst hf; rfl
  | .nili, cs, hf => by simp only [Flat] at hf; subst hf; rfl
  | .nilm, cs, hf => by simp only [Flat] at hf; subst hf; rfl
theorem FlatL.len {B : TypeId → Nat → Prop} {h : Array Obj} : ∀ (ps : List Pv) (cs : List Value), FlatL tt B h ps cs → cs.length = Pv.sizeL ps
  | [], cs, hf => by simp only [FlatL] at hf; subst hf; rfl
  | p :: ps, cs, hf => by
    simp only [FlatL] at hf
    obtain ⟨c1, c2, rfl, h1, h2⟩ := hf
    simp [Pv.sizeL, Flat.len p c1 h1, FlatL.len ps c2 h2]
end
mutual
theorem DFlat.len {g : Ghost} {h : Array Obj} : ∀ (d : D) (cs : List Value), DFlat tt g h d cs → cs.length = d.size
  | .pv p, cs, hf => by simp only [DFlat] at hf; exact Flat.len p cs hf
  | .agg ds, cs, hf => by simp only [DFlat] at hf; simpa [D.size] using DFlatL.len ds cs hf
  | .nilsl _, cs, hf => by simp only [DFlat] at hf; obtain ⟨_, rfl⟩ := hf; rfl
  | .own .., cs, hf => by simp only [DFlat] at hf; obtain ⟨_, rfl, _⟩ := hf; rfl
  | .cptr .., cs, hf => by simp only [DFlat] at hf; obtain ⟨_, _, rfl, _⟩ := hf; rfl
  | .aptr .., cs, hf => by simp only [DFlat] at hf; obtain ⟨_, rfl, _⟩ := hf; rfl
  | .sptr .., cs, hf => by simp only [DFlat] at hf; obtain ⟨_, _, _, _, _, rfl, _⟩ := hf; rfl
  | .map _, cs, hf => by simp only [DFlat] at hf; obtain ⟨_, _, _, rfl⟩ := hf; rfl
  | .fn .., cs, hf => by simp only [DFlat] at hf; obtain ⟨_, _, rfl, _⟩ := hf; rfl
  | .iface .., cs, hf => by simp only [DFlat] at hf; obtain ⟨_, rfl, _⟩ := hf; rfl
  | .tup _, cs, hf => by simp only [DFlat] at hf
  | .ite .., cs, hf => by simp only [DFlat] at hf
  | .junk, cs, hf => by simp only [DFlat] at hf
theorem DFlatL.len {g : Ghost} {h : Array Obj} : ∀ (ds : List D) (cs : List Value), DFlatL tt g h ds cs → cs.length = D.sizeL ds
  | [], cs, hf => by simp only [DFlatL] at hf; subst hf; rfl
  | d :: ds, cs, hf => by
    simp only [DFlatL] at hf
    obtain ⟨c1, c2, rfl, h1, h2⟩ := hf
    simp [D.sizeL, DFlat.len d c1 h1, DFlatL.len ds c2 h2]
end

-- A LATER MEMORY
/-- What is settled stays so. -/
def BMono (B B' : TypeId → Nat → Prop) (h h' : Array Obj) : Prop := ∀ T b, B T b → B' T b ∧ h'[b]? = h[b]?
theorem BMono.refl (B : TypeId → Nat → Prop) (h : Array Obj) : BMono B B h h := fun _ _ x => ⟨x, rfl⟩
theorem BMono.trans {B B' B'' : TypeId → Nat → Prop} {h h' h'' : Array Obj} (a : BMono B B' h h') (b : BMono B' B'' h' h'') : BMono B B'' h h'' :=
  fun T x hx => ⟨(b T x (a T x hx).1).1, (b T x (a T x hx).1).2.trans (a T x hx).2⟩
mutual
theorem Flat.mono {B B' : TypeId → Nat → Prop} {h h' : Array Obj} (hm : BMono B B' h h') : ∀ (p : Pv) (cs : List Value), Flat tt B h p cs → Flat tt B' h' p cs
  | .bool _, cs, hf => by simpa only [Flat] using hf
  | .int _ _, cs, hf => by simpa only [Flat] using hf
  | .flt _ _, cs, hf => by simpa only [Flat] using hf
  | .str _, cs, hf => by simpa only [Flat] using hf
  | .agg ps, cs, hf => by simp only [Flat] at hf ⊢; exact FlatL.mono hm ps cs hf
  | .sl T ps, cs, hf => by
    simp only [Flat] at hf ⊢
    rcases hf with hf | ⟨blk, off, cap, c, E, fz, h1, h2, h3, h4, h5, h6, h7⟩
    · exact .inl hf
    · exact .inr ⟨blk, off, cap, c, E, fz, h1, h2, (hm T blk h3).1, (hm T blk h3).2.trans h4, h5, h6, FlatL.mono hm ps _ h7⟩
  | .nilp, cs, hf => by simpa only [Flat] using hf
  | .nilf, cs, hf => by simpa only [Flat] using hf
  | .nili, cs, hf => by simpa only [Flat] using hf
  | .nilm, cs, hf => by simpa only [Flat] using hf
theorem FlatL.mono {B B' : TypeId → Nat → Prop} {h h' : Array Obj} (hm : BMono B B' h h') : ∀ (ps : List Pv) (cs : List Value), FlatL tt B h ps cs → FlatL tt B' h' ps cs
  | [], cs, hf => by simpa only [FlatL] using hf
  | p :: ps, cs, hf => by
    simp only [FlatL] at hf ⊢
    obtain ⟨c1, c2, e, h1, h2⟩ := hf
    exact ⟨c1, c2, e, Flat.mono hm p c1 h1, FlatL.mono hm ps c2 h2⟩
end
/-- Objects keep their places, or get a new version. -/
def PMono (φ φ' : Nat → Option (Gl × Nat)) : Prop := ∀ id gl v, φ id = some (gl, v) → ∃ gl' v', φ' id = some (gl', v') ∧ v ≤ v' ∧ (v' = v → gl' = gl) ∧ (v = 0 → v' = 0)
theorem PMono.refl (φ : Nat → Option (Gl × Nat)) : PMono φ φ := fun _ gl v h => ⟨gl, v, h, Nat.le_refl _, fun _ => rfl, id⟩
theorem PMono.trans {a b c : Nat → Option (Gl × Nat)} (x : PMono a b) (y : PMono b c) : PMono a c := by
  intro id gl v h
  obtain ⟨g1, v1, h1, l1, e1, z1⟩ := x id gl v h
  obtain ⟨g2, v2, h2, l2, e2, z2⟩ := y id g1 v1 h1
  refine ⟨g2, v2, h2, Nat.le_trans l1 l2, fun e => ?_, fun e => z2 (z1 e)⟩
  have : v1 = v := by omega
  rw [e2 (by omega), e1 this]
structure GMono (g g' : Ghost) (h h' : Array Obj) : Prop where
  b : BMono g.B g'.B h h'
  p : PMono g.φ g'.φ
theorem GMono.refl (g : Ghost) (h : Array Obj) : GMono g g h h := ⟨.refl _ _, .refl _⟩
theorem GMono.trans {g g' g'' : Ghost} {h h' h'' : Array Obj} (x : GMono g g' h h') (y : GMono g' g'' h' h'') : GMono g g'' h h'' := ⟨x.b.trans y.b, x.p.trans y.p⟩

theorem VOf.imp {agg : Bool} {F G : List Value → Prop} {v : Value} (h : VOf agg F v) (i : ∀ cs, F cs → G cs) : VOf agg G v := by
  unfold VOf at *
  split <;> simp_all
  · obtain ⟨cs, e, f⟩ := h; exact ⟨cs, e, i _ f⟩
mutual
theorem DFlat.mono {g g' : Ghost} {h h' : Array Obj} (hm : GMono g g' h h') : ∀ (d : D) (cs : List Value), DFlat tt g h d cs → DFlat tt g' h' d cs
  | .pv p, cs, hf => by simp only [DFlat] at hf ⊢; exact Flat.mono hm.b p cs hf
  | .agg ds, cs, hf => by simp only [DFlat] at hf ⊢; exact DFlatL.mono hm ds cs hf
  | .nilsl _, cs, hf => by simpa only [DFlat] using hf
  | .own T id ver off len lim, cs, hf => by
    simp only [DFlat] at hf ⊢
    obtain ⟨v, e, na, gl, cur, h1, h2, h0, h3⟩ := hf
    obtain ⟨gl', cur', k1, k2, k3, k4⟩ := hm.p id gl cur h1
    refine ⟨v, e, na, gl', cur', k1, by omega, h0, fun e' => ?_⟩
    have : cur = cur' := by omega
    rw [k3 this.symm]; exact h3 (by omega)
  | .cptr id off, cs, hf => by
    simp only [DFlat] at hf ⊢
    obtain ⟨b, N, e, h1⟩ := hf
    obtain ⟨gl', cur', k1, k2, k3, k4⟩ := hm.p id _ _ h1
    have e0 := k4 rfl
    subst e0
    rw [k3 rfl] at k1
    exact ⟨b, N, e, k1⟩
  | .aptr T id ver i off, cs, hf => by
    simp only [DFlat] at hf ⊢
    obtain ⟨v, e, na, gl, cur, h1, h2, h0, h3⟩ := hf
    obtain ⟨gl', cur', k1, k2, k3, k4⟩ := hm.p id gl cur h1
    refine ⟨v, e, na, gl', cur', k1, by omega, h0, fun e' => ?_⟩
    have : cur = cur' := by omega
    rw [k3 this.symm]; exact h3 (by omega)
  | .sptr T ps i off, cs, hf => by
    simp only [DFlat] at hf ⊢
    obtain ⟨b, o, c, E, fz, h1, h2, h3, h4, h5, h6⟩ := hf
    exact ⟨b, o, c, E, fz, h1, (hm.b T b h2).1, (hm.b T b h2).2.trans h3, h4, h5, FlatL.mono hm.b ps _ h6⟩
  | .map id, cs, hf => by
    simp only [DFlat] at hf ⊢
    obtain ⟨b, N, h1, e⟩ := hf
    obtain ⟨gl', cur', k1, k2, k3, k4⟩ := hm.p id _ _ h1
    have e0 := k4 rfl
    subst e0
    rw [k3 rfl] at k1
    exact ⟨b, N, k1, e⟩
  | .fn f a b, cs, hf => by
    simp only [DFlat] at hf ⊢
    obtain ⟨va, vb, e, h1, h2⟩ := hf
    exact ⟨va, vb, e, DVL.mono hm a _ h1, DVL.mono hm b _ h2⟩
  | .iface T d, cs, hf => by
    simp only [DFlat] at hf ⊢
    obtain ⟨v, e, h1⟩ := hf
    exact ⟨v, e, h1.imp fun cs => DFlat.mono hm d cs⟩
  | .tup _, cs, hf => by simp only [DFlat] at hf
  | .ite .., cs, hf => by simp only [DFlat] at hf
  | .junk, cs, hf => by simp only [DFlat] at hf
theorem DFlatL.mono {g g' : Ghost} {h h' : Array Obj} (hm : GMono g g' h h') : ∀ (ds : List D) (cs : List Value), DFlatL tt g h ds cs → DFlatL tt g' h' ds cs
  | [], cs, hf => by simpa only [DFlatL] using hf
  | d :: ds, cs, hf => by
    simp only [DFlatL] at hf ⊢
    obtain ⟨c1, c2, e, h1, h2⟩ := hf
    exact ⟨c1, c2, e, DFlat.mono hm d c1 h1, DFlatL.mono hm ds c2 h2⟩
theorem DVL.mono {g g' : Ghost} {h h' : Array Obj} (hm : GMono g g' h h') : ∀ (ds : List D) (vs : List Value), DVL tt g h ds vs → DVL tt g' h' ds vs
  | [], vs, hf => by simpa only [DVL] using hf
  | d :: ds, vs, hf => by
    simp only [DVL] at hf ⊢
    obtain ⟨v, r, e, h1, h2⟩ := hf
    exact ⟨v, r, e, h1.imp fun cs => DFlat.mono hm d cs, DVL.mono hm ds r h2⟩
end
theorem V.mono {g g' : Ghost} {h h' : Array Obj} (hm : GMono g g' h h') (d : D) (v : Value) (hv : V tt g h d v) : V tt g' h' d v := by
  cases d <;> simp only [V] at hv ⊢
  case tup ds => obtain ⟨vs, e, h1⟩ := hv; exact ⟨vs, e, h1.mono hm⟩
  case ite t d => exact fun e => (hv e).imp fun cs => DFlat.mono hm d cs
  all_goals exact hv.imp fun cs => DFlat.mono hm _ cs
end
-- NAVIGATION
mutual
/-- The part of a value that begins at a cell and takes so many. -/
def Pv.sub : Pv → Nat → Nat → Bool → Option Pv
  | .agg ps, off, sz, ag => if off = 0 ∧ sz = Pv.sizeL ps ∧ ag = true then some (.agg ps) else Pv.subL ps off sz ag
  | .bool b, off, sz, ag => if off = 0 ∧ sz = 1 ∧ ag = false then some (.bool b) else none
  | .int k n, off, sz, ag => if off = 0 ∧ sz = 1 ∧ ag = false then some (.int k n) else none
  | .flt k n, off, sz, ag => if off = 0 ∧ sz = 1 ∧ ag = false then some (.flt k n) else none
  | .str s, off, sz, ag => if off = 0 ∧ sz = 1 ∧ ag = false then some (.str s) else none
  | .sl T ps, off, sz, ag => if off = 0 ∧ sz = 1 ∧ ag = false then some (.sl T ps) else none
  | .nilp, off, sz, ag => if off = 0 ∧ sz = 1 ∧ ag = false then some .nilp else none
  | .nilf, off, sz, ag => if off = 0 ∧ sz = 1 ∧ ag = false then some .nilf else none
  | .nili, off, sz, ag => if off = 0 ∧ sz = 1 ∧ ag = false then some .nili else none
  | .nilm, off, sz, ag => if off = 0 ∧ sz = 1 ∧ ag = false then some .nilm else none
def Pv.subL : List Pv → Nat → Nat → Bool → Option Pv
  | [], _, _, _ => none
  | p :: ps, off, sz, ag => if off < p.size then Pv.sub p off sz ag else Pv.subL ps (off - p.size) sz ag
end
def D.leafSub (d : D) (off sz : Nat) (ag : Bool) : Option D := if off = 0 ∧ sz = 1 ∧ ag = false then some d else none
mutual
def D.sub : D → Nat → Nat → Bool → Option D
  | .pv p, off, sz, ag => (Pv.sub p off sz ag).map .pv
  | .agg ds, off, sz, ag => if off = 0 ∧ sz = D.sizeL ds ∧ ag = true then some (.agg ds) else D.subL ds off sz ag
  | .nilsl T, off, sz, ag => D.leafSub (.nilsl T) off sz ag
  | .own T a b c d e, off, sz, ag => D.leafSub (.own T a b c d e) off sz ag
  | .cptr a b, off, sz, ag => D.leafSub (.cptr a b) off sz ag
  | .aptr T a b c d, off, sz, ag => D.leafSub (.aptr T a b c d) off sz ag
  | .sptr T a b c, off, sz, ag => D.leafSub (.sptr T a b c) off sz ag
  | .map a, off, sz, ag => D.leafSub (.map a) off sz ag
  | .fn a b c, off, sz, ag => D.leafSub (.fn a b c) off sz ag
  | .iface a b, off, sz, ag => D.leafSub (.iface a b) off sz ag
  | .tup _, _, _, _ => none
  | .ite .., _, _, _ => none
  | .junk, _, _, _ => none
def D.subL : List D → Nat → Nat → Bool → Option D
  | [], _, _, _ => none
  | d :: ds, off, sz, ag => if off < d.size then D.sub d off sz ag else D.subL ds (off - d.size) sz ag
end
/-- All of a list by value, if they are. -/
def allPv : List D → Option (List Pv)
  | [] => some []
  | .pv p :: ds => (allPv ds).map (p :: ·)
  | _ :: _ => none
def mkAgg (ds : List D) : D := match allPv ds with | some ps => .pv (.agg ps) | none => .agg ds
mutual
/-- With another part at a cell. -/
def Pv.put : Pv → Nat → Nat → Bool → D → Option D
  | .agg ps, off, sz, ag, new => if off = 0 ∧ sz = Pv.sizeL ps ∧ ag = true then some new else (Pv.putL ps off sz ag new).map mkAgg
  | .bool _, off, sz, ag, new => if off = 0 ∧ sz = 1 ∧ ag = false then some new else none
  | .int _ _, off, sz, ag, new => if off = 0 ∧ sz = 1 ∧ ag = false then some new else none
  | .flt _ _, off, sz, ag, new => if off = 0 ∧ sz = 1 ∧ ag = false then some new else none
  | .str _, off, sz, ag, new => if off = 0 ∧ sz = 1 ∧ ag = false then some new else none
  | .sl _ _, off, sz, ag, new => if off = 0 ∧ sz = 1 ∧ ag = false then some new else none
  | .nilp, off, sz, ag, new => if off = 0 ∧ sz = 1 ∧ ag = false then some new else none
  | .nilf, off, sz, ag, new => if off = 0 ∧ sz = 1 ∧ ag = false then some new else none
  | .nili, off, sz, ag, new => if off = 0 ∧ sz = 1 ∧ ag = false then some new else none
  | .nilm, off, sz, ag, new => if off = 0 ∧ sz = 1 ∧ ag = false then some new else none
def Pv.putL : List Pv → Nat → Nat → Bool → D → Option (List D)
  | [], _, _, _, _ => none
  | p :: ps, off, sz, ag, new => if off < p.size then (Pv.put p off sz ag new).map (· :: ps.map .pv) else (Pv.putL ps (off - p.size) sz ag new).map (.pv p :: ·)
end
def D.leafPut (off sz : Nat) (ag : Bool) (new : D) : Option D := if off = 0 ∧ sz = 1 ∧ ag = false then some new else none
mutual
def D.put : D → Nat → Nat → Bool → D → Option D
  | .pv p, off, sz, ag, new => Pv.put p off sz ag new
  | .agg ds, off, sz, ag, new => if off = 0 ∧ sz = D.sizeL ds ∧ ag = true then some new else (D.putL ds off sz ag new).map mkAgg
  | .nilsl _, off, sz, ag, new => D.leafPut off sz ag new
  | .own .., off, sz, ag, new => D.leafPut off sz ag new
  | .cptr .., off, sz, ag, new => D.leafPut off sz ag new
  | .aptr .., off, sz, ag, new => D.leafPut off sz ag new
  | .sptr .., off, sz, ag, new => D.leafPut off sz ag new
  | .map _, off, sz, ag, new => D.leafPut off sz ag new
  | .fn .., off, sz, ag, new => D.leafPut off sz ag new
  | .iface .., off, sz, ag, new => D.leafPut off sz ag new
  | .tup _, _, _, _, _ => none
  | .ite .., _, _, _, _ => none
  | .junk, _, _, _, _ => none
def D.putL : List D → Nat → Nat → Bool → D → Option (List D)
  | [], _, _, _, _ => none
  | d :: ds, off, sz, ag, new => if off < d.size then (D.put d off sz ag new).map (· :: ds) else (D.putL ds (off - d.size) sz ag new).map (d :: ·)
end
section
variable {tt : TT}
theorem take_drop_app (c1 c2 : List Value) (off sz : Nat) (h : off + sz ≤ c1.length) : ((c1 ++ c2).drop off).take sz = (c1.drop off).take sz := by
  rw [List.drop_append_of_le_length (by omega), List.take_append_of_le_length (by simp; omega)]
theorem take_drop_app' (c1 c2 : List Value) (off sz : Nat) (h : c1.length ≤ off) : ((c1 ++ c2).drop off).take sz = (c2.drop (off - c1.length)).take sz := by
  rw [List.drop_append, List.drop_eq_nil_of_le h, List.nil_append]
/-- What a part's cells are. -/
def SubAt (F : Pv → List Value → Prop) (r : Pv) (cs : List Value) (off sz : Nat) (ag : Bool) : Prop :=
  F r ((cs.drop off).take sz) ∧ r.size = sz ∧ r.isAgg = ag ∧ off + sz ≤ cs.length
theorem sub_leaf {F : Pv → List Value → Prop} {p q : Pv} {cs : List Value} {off sz : Nat} {ag : Bool} (hl : cs.length = 1) (hp : p.size = 1) (ha : p.isAgg = false)
    (hf : F p cs) (h : (if off = 0 ∧ sz = 1 ∧ ag = false then some p else none) = some q) : SubAt F q cs off sz ag := by
  split at h
  · rename_i hc
    obtain ⟨rfl, rfl, rfl⟩ := hc
    cases h
    refine ⟨?_, hp, ha, by omega⟩
    rw [List.drop_zero, List.take_of_length_le (by omega)]; exact hf
  · cases h
mutual
theorem Pv.sub_flat {B : TypeId → Nat → Prop} {h : Array Obj} : ∀ (p : Pv) (off sz : Nat) (ag : Bool) (cs : List Value) (q : Pv),
    Flat tt B h p cs → Pv.sub p off sz ag = some q → SubAt (Flat tt B h) q cs off sz ag
  | .bool _, off, sz, ag, cs, q, hf, he => sub_leaf (Flat.len _ _ hf) rfl rfl hf (by simpa only [Pv.sub] using he)
  | .int _ _, off, sz, ag, cs, q, hf, he => sub_leaf (Flat.len _ _ hf) rfl rfl hf (by simpa only [Pv.sub] using he)
  | .flt _ _, off, sz, ag, cs, q, hf, he => sub_leaf (Flat.len _ _ hf) rfl rfl hf (by simpa only [Pv.sub] using he)
  | .str _, off, sz, ag, cs, q, hf, he => sub_leaf (Flat.len _ _ hf) rfl rfl hf (by simpa only [Pv.sub] using he)
  | .sl _ _, off, sz, ag, cs, q, hf, he => sub_leaf (Flat.len _ _ hf) rfl rfl hf (by simpa only [Pv.sub] using he)
  | .nilp, off, sz, ag, cs, q, hf, he => sub_leaf (Flat.len _ _ hf) rfl rfl hf (by simpa only [Pv.sub] using he)
  | .nilf, off, sz, ag, cs, q, hf, he => sub_leaf (Flat.len _ _ hf) rfl rfl hf (by simpa only [Pv.sub] using he)
  | .nili, off, sz, ag, cs, q, hf, he => sub_leaf (Flat.len _ _ hf) rfl rfl hf (by simpa only [Pv.sub] using he)
  | .nilm, off, sz, ag, cs, q, hf, he => sub_leaf (Flat.len _ _ hf) rfl rfl hf (by simpa only [Pv.sub] using he)
  | .agg ps, off, sz, ag, cs, q, hf, he => by
    have hl := Flat.len _ _ hf
    simp only [Pv.sub] at he
    split at he
    · rename_i hc
      obtain ⟨rfl, rfl, rfl⟩ := hc
      cases he
      simp only [Pv.size] at hl
      refine ⟨?_, rfl, rfl, by omega⟩
      rw [List.drop_zero, List.take_of_length_le (by omega)]; exact hf
    · simp only [Flat] at hf
      exact Pv.subL_flat ps off sz ag cs q hf he
theorem Pv.subL_flat {B : TypeId → Nat → Prop} {h : Array Obj} : ∀ (ps : List Pv) (off sz : Nat) (ag : Bool) (cs : List Value) (q : Pv),
    FlatL tt B h ps cs → Pv.subL ps off sz ag = some q → SubAt (Flat tt B h) q cs off sz ag
  | [], off, sz, ag, cs, q, hf, he => by simp [Pv.subL] at he
  | p :: ps, off, sz, ag, cs, q, hf, he => by
    simp only [FlatL] at hf
    obtain ⟨c1, c2, rfl, h1, h2⟩ := hf
    have hl := Flat.len _ _ h1
    simp only [Pv.subL] at he
    split at he
    · obtain ⟨a1, a2, a3, a4⟩ := Pv.sub_flat p off sz ag c1 q h1 he
      refine ⟨?_, a2, a3, by simp; omega⟩
      rw [take_drop_app _ _ _ _ a4]; exact a1
    · rename_i hge
      obtain ⟨a1, a2, a3, a4⟩ := Pv.subL_flat ps (off - p.size) sz ag c2 q h2 he
      refine ⟨?_, a2, a3, by simp; omega⟩
      rw [take_drop_app' _ _ _ _ (by omega), hl]; exact a1
end
def DSubAt (F : D → List Value → Prop) (r : D) (cs : List Value) (off sz : Nat) (ag : Bool) : Prop :=
  F r ((cs.drop off).take sz) ∧ r.size = sz ∧ r.isAgg = ag ∧ off + sz ≤ cs.length
theorem dsub_leaf {F : D → List Value → Prop} {p q : D} {cs : List Value} {off sz : Nat} {ag : Bool} (hl : cs.length = 1) (hp : p.size = 1) (ha : p.isAgg = false)
    (hf : F p cs) (h : D.leafSub p off sz ag = some q) : DSubAt F q cs off sz ag := by
  unfold D.leafSub at h
  split at h
  · rename_i hc
    obtain ⟨rfl, rfl, rfl⟩ := hc
    cases h
    refine ⟨?_, hp, ha, by omega⟩
    rw [List.drop_zero, List.take_of_length_le (by omega)]; exact hf
  · cases h
mutual
theorem D.sub_flat {g : Ghost} {h : Array Obj} : ∀ (p : D) (off sz : Nat) (ag : Bool) (cs : List Value) (q : D),
    DFlat tt g h p cs → D.sub p off sz ag = some q → DSubAt (DFlat tt g h) q cs off sz ag
  | .pv p, off, sz, ag, cs, q, hf, he => by
    simp only [D.sub, Option.map_eq_some_iff] at he
    obtain ⟨q', he, rfl⟩ := he
    simp only [DFlat] at hf
    obtain ⟨a1, a2, a3, a4⟩ := Pv.sub_flat p off sz ag cs q' hf he
    exact ⟨by simpa only [DFlat] using a1, by simpa only [D.size] using a2, by simpa only [D.isAgg] using a3, a4⟩
  | .nilsl _, off, sz, ag, cs, q, hf, he => dsub_leaf (DFlat.len _ _ hf) rfl rfl hf (by simpa only [D.sub] using he)
  | .own .., off, sz, ag, cs, q, hf, he => dsub_leaf (DFlat.len _ _ hf) rfl rfl hf (by simpa only [D.sub] using he)
  | .cptr .., off, sz, ag, cs, q, hf, he => dsub_leaf (DFlat.len _ _ hf) rfl rfl hf (by simpa only [D.sub] using he)
  | .aptr .., off, sz, ag, cs, q, hf, he => dsub_leaf (DFlat.len _ _ hf) rfl rfl hf (by simpa only [D.sub] using he)
  | .sptr .., off, sz, ag, cs, q, hf, he => dsub_leaf (DFlat.len _ _ hf) rfl rfl hf (by simpa only [D.sub] using he)
  | .map _, off, sz, ag, cs, q, hf, he => dsub_leaf (DFlat.len _ _ hf) rfl rfl hf (by simpa only [D.sub] using he)
  | .fn .., off, sz, ag, cs, q, hf, he => dsub_leaf (DFlat.len _ _ hf) rfl rfl hf (by simpa only [D.sub] using he)
  | .iface .., off, sz, ag, cs, q, hf, he => dsub_leaf (DFlat.len _ _ hf) rfl rfl hf (by simpa only [D.sub] using he)
  | .tup _, off, sz, ag, cs, q, hf, he => by simp [D.sub] at he
  | .ite .., off, sz, ag, cs, q, hf, he => by simp [D.sub] at he
  | .junk, off, sz, ag, cs, q, hf, he => by simp [D.sub] at he
  | .agg ps, off, sz, ag, cs, q, hf, he => by
    have hl := DFlat.len _ _ hf
    simp only [D.sub] at he
    split at he
    · rename_i hc
      obtain ⟨rfl, rfl, rfl⟩ := hc
      cases he
      simp only [D.size] at hl
      refine ⟨?_, rfl, rfl, by omega⟩
      rw [List.drop_zero, List.take_of_length_le (by omega)]; exact hf
    · simp only [DFlat] at hf
      exact D.subL_flat ps off sz ag cs q hf he
theorem D.subL_flat {g : Ghost} {h : Array Obj} : ∀ (ps : List D) (off sz : Nat) (ag : Bool) (cs : List Value) (q : D),
    DFlatL tt g h ps cs → D.subL ps off sz ag = some q → DSubAt (DFlat tt g h) q cs off sz ag
  | [], off, sz, ag, cs, q, hf, he => by simp [D.subL] at he
  | p :: ps, off, sz, ag, cs, q, hf, he => by
    simp only [DFlatL] at hf
    obtain ⟨c1, c2, rfl, h1, h2⟩ := hf
    have hl := DFlat.len _ _ h1
    simp only [D.subL] at he
    split at he
    · obtain ⟨a1, a2, a3, a4⟩ := D.sub_flat p off sz ag c1 q h1 he
      refine ⟨?_, a2, a3, by simp; omega⟩
      rw [take_drop_app _ _ _ _ a4]; exact a1
    · obtain ⟨a1, a2, a3, a4⟩ := D.subL_flat ps (off - p.size) sz ag c2 q h2 he
      refine ⟨?_, a2, a3, by simp; omega⟩
      rw [take_drop_app' _ _ _ _ (by omega), hl]; exact a1
end
-- PUTTING
theorem flatL_pv {g : Ghost} {h : Array Obj} : ∀ (ps : List Pv) (cs : List Value), FlatL tt g.B h ps cs ↔ DFlatL tt g h (ps.map .pv) cs
  | [], cs => by simp [FlatL, DFlatL]
  | p :: ps, cs => by
    simp only [FlatL, List.map_cons, DFlatL, DFlat]
    constructor
    · rintro ⟨c1, c2, e, h1, h2⟩; exact ⟨c1, c2, e, h1, (flatL_pv ps c2).1 h2⟩
    · rintro ⟨c1, c2, e, h1, h2⟩; exact ⟨c1, c2, e, h1, (flatL_pv ps c2).2 h2⟩
theorem sizeL_pv : ∀ ps : List Pv, D.sizeL (ps.map .pv) = Pv.sizeL ps
  | [] => rfl
  | p :: ps => by simp [D.sizeL, Pv.sizeL, D.size, sizeL_pv ps]
theorem allPv_eq : ∀ (ds : List D) (ps : List Pv), allPv ds = some ps → ds = ps.map .pv
  | [], ps, h => by simp only [allPv, Option.some.injEq] at h; subst h; rfl
  | d :: ds, ps, h => by
    cases d <;> simp only [allPv, Option.map_eq_some_iff, reduceCtorEq] at h
    obtain ⟨qs, hq, rfl⟩ := h
    rw [allPv_eq ds qs hq]; rfl
theorem mkAgg_flat {g : Ghost} {h : Array Obj} {ds : List D} {cs : List Value} (hf : DFlatL tt g h ds cs) : DFlat tt g h (mkAgg ds) cs := by
  unfold mkAgg
  split
  · rename_i ps hp
    rw [allPv_eq ds ps hp] at hf
    simp only [DFlat, Flat]
    exact (flatL_pv ps cs).2 hf
  · simpa only [DFlat] using hf
theorem mkAgg_size (ds : List D) : (mkAgg ds).size = D.sizeL ds := by
  unfold mkAgg
  split
  · rename_i ps hp
    rw [allPv_eq ds ps hp, sizeL_pv]; rfl
  · rfl
theorem mkAgg_isAgg (ds : List D) : (mkAgg ds).isAgg = true := by
  unfold mkAgg
  split <;> rfl
/-- The cells with a part replaced. -/
def cutIn (cs : List Value) (off : Nat) (ns : List Value) : List Value := cs.take off ++ ns ++ cs.drop (off + ns.length)
theorem cutIn_len (cs ns : List Value) (off : Nat) (h : off + ns.length ≤ cs.length) : (cutIn cs off ns).length = cs.length := by
  simp [cutIn]; omega
theorem cutIn_app (c1 c2 ns : List Value) (off : Nat) (h : off + ns.length ≤ c1.length) : cutIn (c1 ++ c2) off ns = cutIn c1 off ns ++ c2 := by
  unfold cutIn
  rw [List.take_append_of_le_length (by omega), List.drop_append_of_le_length (by omega)]
  simp
theorem cutIn_app' (c1 c2 ns : List Value) (off : Nat) (h : c1.length ≤ off) : cutIn (c1 ++ c2) off ns = c1 ++ cutIn c2 (off - c1.length) ns := by
  unfold cutIn
  rw [List.take_append, List.take_of_length_le h, List.drop_append, List.drop_eq_nil_of_le (by omega)]
  simp
  congr 1; omega
def DPutAt (F : D → List Value → Prop) (old r : D) (cs ns : List Value) (off sz : Nat) : Prop :=
  F r (cutIn cs off ns) ∧ r.size = old.size ∧ r.isAgg = old.isAgg ∧ off + sz ≤ cs.length
theorem dput_leaf {F : D → List Value → Prop} {old new r : D} {cs ns : List Value} {off sz : Nat} {ag : Bool} (hl : cs.length = 1) (hp : old.size = 1) (ha : old.isAgg = false)
    (hn : F new ns) (hns : ns.length = sz) (hs : new.size = sz) (hg : new.isAgg = ag) (h : (if off = 0 ∧ sz = 1 ∧ ag = false then some new else none) = some r) : DPutAt F old r cs ns off sz := by
  split at h
  · rename_i hc
    obtain ⟨rfl, rfl, rfl⟩ := hc
    cases h
    refine ⟨?_, by omega, by rw [hg, ha], by omega⟩
    unfold cutIn
    rw [List.take_zero, List.nil_append, List.drop_eq_nil_of_le (by omega), List.append_nil]; exact hn
  · cases h
mutual
theorem Pv.put_flat {g : Ghost} {h : Array Obj} {sz : Nat} {ag : Bool} {new : D} {ns : List Value} (hn : DFlat tt g h new ns) (hs : new.size = sz) (hg : new.isAgg = ag) :
    ∀ (p : Pv) (off : Nat) (cs : List Value) (r : D), Flat tt g.B h p cs → Pv.put p off sz ag new = some r → DPutAt (DFlat tt g h) (.pv p) r cs ns off sz
  | .bool _, off, cs, q, hf, he => dput_leaf (Flat.len _ _ hf) rfl rfl hn ((DFlat.len _ _ hn).trans hs) hs hg (by simpa only [Pv.put] using he)
  | .int _ _, off, cs, q, hf, he => dput_leaf (Flat.len _ _ hf) rfl rfl hn ((DFlat.len _ _ hn).trans hs) hs hg (by simpa only [Pv.put] using he)
  | .flt _ _, off, cs, q, hf, he => dput_leaf (Flat.len _ _ hf) rfl rfl hn ((DFlat.len _ _ hn).trans hs) hs hg (by simpa only [Pv.put] using he)
  | .str _, off, cs, q, hf, he => dput_leaf (Flat.len _ _ hf) rfl rfl hn ((DFlat.len _ _ hn).trans hs) hs hg (by simpa only [Pv.put] using he)
  | .sl _ _, off, cs, q, hf, he => dput_leaf (Flat.len _ _ hf) rfl rfl hn ((DFlat.len _ _ hn).trans hs) hs hg (by simpa only [Pv.put] using he)
  | .nilp, off, cs, q, hf, he => dput_leaf (Flat.len _ _ hf) rfl rfl hn ((DFlat.len _ _ hn).trans hs) hs hg (by simpa only [Pv.put] using he)
  | .nilf, off, cs, q, hf, he => dput_leaf (Flat.len _ _ hf) rfl rfl hn ((DFlat.len _ _ hn).trans hs) hs hg (by simpa only [Pv.put] using he)
  | .nili, off, cs, q, hf, he => dput_leaf (Flat.len _ _ hf) rfl rfl hn ((DFlat.len _ _ hn).trans hs) hs hg (by simpa only [Pv.put] using he)
  | .nilm, off, cs, q, hf, he => dput_leaf (Flat.len _ _ hf) rfl rfl hn ((DFlat.len _ _ hn).trans hs) hs hg (by simpa only [Pv.put] using he)
  | .agg ps, off, cs, q, hf, he => by
    have hl := Flat.len _ _ hf
    have hns := (DFlat.len _ _ hn).trans hs
    simp only [Pv.put] at he
    split at he
    · rename_i hc
      obtain ⟨rfl, rfl, rfl⟩ := hc
      cases he
      simp only [Pv.size] at hl
      refine ⟨?_, by simpa only [D.size, Pv.size] using hs, by rw [hg]; rfl, by omega⟩
      unfold cutIn
      rw [List.take_zero, List.nil_append, List.drop_eq_nil_of_le (by omega), List.append_nil]; exact hn
    · simp only [Option.map_eq_some_iff] at he
      obtain ⟨ds, he, rfl⟩ := he
      simp only [Flat] at hf
      obtain ⟨a1, a2, a3⟩ := Pv.putL_flat hn hs hg ps off cs ds hf he
      exact ⟨mkAgg_flat a1, by rw [mkAgg_size, a2]; rfl, by rw [mkAgg_isAgg]; rfl, a3⟩
theorem Pv.putL_flat {g : Ghost} {h : Array Obj} {sz : Nat} {ag : Bool} {new : D} {ns : List Value} (hn : DFlat tt g h new ns) (hs : new.size = sz) (hg : new.isAgg = ag) :
    ∀ (ps : List Pv) (off : Nat) (cs : List Value) (r : List D), FlatL tt g.B h ps cs → Pv.putL ps off sz ag new = some r →
      DFlatL tt g h r (cutIn cs off ns) ∧ D.sizeL r = Pv.sizeL ps ∧ off + sz ≤ cs.length
  | [], off, cs, q, hf, he => by simp [Pv.putL] at he
  | p :: ps, off, cs, q, hf, he => by
    have hns := (DFlat.len _ _ hn).trans hs
    simp only [FlatL] at hf
    obtain ⟨c1, c2, rfl, h1, h2⟩ := hf
    have hl := Flat.len _ _ h1
    simp only [Pv.putL] at he
    split at he
    · simp only [Option.map_eq_some_iff] at he
      obtain ⟨d, he, rfl⟩ := he
      obtain ⟨a1, a2, a3, a4⟩ := Pv.put_flat hn hs hg p off c1 d h1 he
      refine ⟨?_, ?_, by simp; omega⟩
      · rw [cutIn_app _ _ _ _ (by omega)]
        simp only [DFlatL]
        exact ⟨_, _, rfl, a1, (flatL_pv ps c2).1 h2⟩
      · simp only [D.sizeL, sizeL_pv, Pv.sizeL, a2]; rfl
    · simp only [Option.map_eq_some_iff] at he
      obtain ⟨ds, he, rfl⟩ := he
      obtain ⟨a1, a2, a3⟩ := Pv.putL_flat hn hs hg ps (off - p.size) c2 ds h2 he
      refine ⟨?_, ?_, by simp; omega⟩
      · rw [cutIn_app' _ _ _ _ (by omega), hl]
        simp only [DFlatL, DFlat]
        exact ⟨_, _, rfl, h1, a1⟩
      · simp only [D.sizeL, Pv.sizeL, a2]; rfl
end
mutual
theorem D.put_flat {g : Ghost} {h : Array Obj} {sz : Nat} {ag : Bool} {new : D} {ns : List Value} (hn : DFlat tt g h new ns) (hs : new.size = sz) (hg : new.isAgg = ag) :
    ∀ (p : D) (off : Nat) (cs : List Value) (r : D), DFlat tt g h p cs → D.put p off sz ag new = some r → DPutAt (DFlat tt g h) p r cs ns off sz
  | .pv p, off, cs, q, hf, he => by
    simp only [DFlat] at hf
    simp only [D.put] at he
    exact Pv.put_flat hn hs hg p off cs q hf he
  | .nilsl _, off, cs, q, hf, he => dput_leaf (DFlat.len _ _ hf) rfl rfl hn ((DFlat.len _ _ hn).trans hs) hs hg (by simpa only [D.put, D.leafPut] using he)
  | .own .., off, cs, q, hf, he => dput_leaf (DFlat.len _ _ hf) rfl rfl hn ((DFlat.len _ _ hn).trans hs) hs hg (by simpa only [D.put, D.leafPut] using he)
  | .cptr .., off, cs, q, hf, he => dput_leaf (DFlat.len _ _ hf) rfl rfl hn ((DFlat.len _ _ hn).trans hs) hs hg (by simpa only [D.put, D.leafPut] using he)
  | .aptr .., off, cs, q, hf, he => dput_leaf (DFlat.len _ _ hf) rfl rfl hn ((DFlat.len _ _ hn).trans hs) hs hg (by simpa only [D.put, D.leafPut] using he)
  | .sptr .., off, cs, q, hf, he => dput_leaf (DFlat.len _ _ hf) rfl rfl hn ((DFlat.len _ _ hn).trans hs) hs hg (by simpa only [D.put, D.leafPut] using he)
  | .map _, off, cs, q, hf, he => dput_leaf (DFlat.len _ _ hf) rfl rfl hn ((DFlat.len _ _ hn).trans hs) hs hg (by simpa only [D.put, D.leafPut] using he)
  | .fn .., off, cs, q, hf, he => dput_leaf (DFlat.len _ _ hf) rfl rfl hn ((DFlat.len _ _ hn).trans hs) hs hg (by simpa only [D.put, D.leafPut] using he)
  | .iface .., off, cs, q, hf, he => dput_leaf (DFlat.len _ _ hf) rfl rfl hn ((DFlat.len _ _ hn).trans hs) hs hg (by simpa only [D.put, D.leafPut] using he)
  | .tup _, off, cs, q, hf, he => by simp [D.put] at he
  | .ite .., off, cs, q, hf, he => by simp [D.put] at he
  | .junk, off, cs, q, hf, he => by simp [D.put] at he
  | .agg ps, off, cs, q, hf, he => by
    have hl := DFlat.len _ _ hf
    have hns := (DFlat.len _ _ hn).trans hs
    simp only [D.put] at he
    split at he
    · rename_i hc
      obtain ⟨rfl, rfl, rfl⟩ := hc
      cases he
      simp only [D.size] at hl
      refine ⟨?_, by simpa only [D.size] using hs, by rw [hg]; rfl, by omega⟩
      unfold cutIn
      rw [List.take_zero, List.nil_append, List.drop_eq_nil_of_le (by omega), List.append_nil]; exact hn
    · simp only [Option.map_eq_some_iff] at he
      obtain ⟨ds, he, rfl⟩ := he
      simp only [DFlat] at hf
      obtain ⟨a1, a2, a3⟩ := D.putL_flat hn hs hg ps off cs ds hf he
      exact ⟨mkAgg_flat a1, by rw [mkAgg_size, a2]; rfl, by rw [mkAgg_isAgg]; rfl, a3⟩
theorem D.putL_flat {g : Ghost} {h : Array Obj} {sz : Nat} {ag : Bool} {new : D} {ns : List Value} (hn : DFlat tt g h new ns) (hs : new.size = sz) (hg : new.isAgg = ag) :
    ∀ (ps : List D) (off : Nat) (cs : List Value) (r : List D), DFlatL tt g h ps cs → D.putL ps off sz ag new = some r →
      DFlatL tt g h r (cutIn cs off ns) ∧ D.sizeL r = D.sizeL ps ∧ off + sz ≤ cs.length
  | [], off, cs, q, hf, he => by simp [D.putL] at he
  | p :: ps, off, cs, q, hf, he => by
    have hns := (DFlat.len _ _ hn).trans hs
    simp only [DFlatL] at hf
    obtain ⟨c1, c2, rfl, h1, h2⟩ := hf
    have hl := DFlat.len _ _ h1
    simp only [D.putL] at he
    split at he
    · simp only [Option.map_eq_some_iff] at he
      obtain ⟨d, he, rfl⟩ := he
      obtain ⟨a1, a2, a3, a4⟩ := D.put_flat hn hs hg p off c1 d h1 he
      refine ⟨?_, ?_, by simp; omega⟩
      · rw [cutIn_app _ _ _ _ (by omega)]
        simp only [DFlatL]
        exact ⟨_, _, rfl, a1, h2⟩
      · simp only [D.sizeL, a2]
    · simp only [Option.map_eq_some_iff] at he
      obtain ⟨ds, he, rfl⟩ := he
      obtain ⟨a1, a2, a3⟩ := D.putL_flat hn hs hg ps (off - p.size) c2 ds h2 he
      refine ⟨?_, ?_, by simp; omega⟩
      · rw [cutIn_app' _ _ _ _ (by omega), hl]
        simp only [DFlatL]
        exact ⟨_, _, rfl, h1, a1⟩
      · simp only [D.sizeL, a2]
end
-- ELEMENTS
theorem FlatL.at {B : TypeId → Nat → Prop} {h : Array Obj} {sz : Nat} : ∀ (ps : List Pv) (cs : List Value) (i : Nat) (p : Pv), FlatL tt B h ps cs → (∀ p ∈ ps, p.size = sz) →
    ps[i]? = some p → Flat tt B h p ((cs.drop (i * sz)).take sz) ∧ i * sz + sz ≤ cs.length
  | [], cs, i, p, hf, hs, hi => by simp at hi
  | q :: ps, cs, i, p, hf, hs, hi => by
    simp only [FlatL] at hf
    obtain ⟨c1, c2, rfl, h1, h2⟩ := hf
    have hl := Flat.len _ _ h1
    have hq : q.size = sz := hs q (by simp)
    cases i with
    | zero =>
      simp at hi; subst hi
      refine ⟨?_, by simp; omega⟩
      rw [take_drop_app _ _ _ _ (by omega), Nat.zero_mul, List.drop_zero, List.take_of_length_le (by omega)]; exact h1
    | succ i =>
      simp at hi
      obtain ⟨a, b⟩ := FlatL.at ps c2 i p h2 (fun p hp => hs p (by simp [hp])) hi
      have e : (i + 1) * sz = i * sz + sz := by rw [Nat.add_mul, Nat.one_mul]
      refine ⟨?_, by simp; omega⟩
      rw [take_drop_app' _ _ _ _ (by omega), show (i + 1) * sz - c1.length = i * sz by omega]; exact a
theorem DFlatL.at {g : Ghost} {h : Array Obj} {sz : Nat} : ∀ (ps : List D) (cs : List Value) (i : Nat) (p : D), DFlatL tt g h ps cs → (∀ p ∈ ps, p.size = sz) →
    ps[i]? = some p → DFlat tt g h p ((cs.drop (i * sz)).take sz) ∧ i * sz + sz ≤ cs.length
  | [], cs, i, p, hf, hs, hi => by simp at hi
  | q :: ps, cs, i, p, hf, hs, hi => by
    simp only [DFlatL] at hf
    obtain ⟨c1, c2, rfl, h1, h2⟩ := hf
    have hl := DFlat.len _ _ h1
    have hq : q.size = sz := hs q (by simp)
    cases i with
    | zero =>
      simp at hi; subst hi
      refine ⟨?_, by simp; omega⟩
      rw [take_drop_app _ _ _ _ (by omega), Nat.zero_mul, List.drop_zero, List.take_of_length_le (by omega)]; exact h1
    | succ i =>
      simp at hi
      obtain ⟨a, b⟩ := DFlatL.at ps c2 i p h2 (fun p hp => hs p (by simp [hp])) hi
      have e : (i + 1) * sz = i * sz + sz := by rw [Nat.add_mul, Nat.one_mul]
      refine ⟨?_, by simp; omega⟩
      rw [take_drop_app' _ _ _ _ (by omega), show (i + 1) * sz - c1.length = i * sz by omega]; exact a
/-- An element is stored: its cells are cut in. -/
theorem DFlatL.set {g : Ghost} {h : Array Obj} {sz : Nat} {d : D} {ns : List Value} (hn : DFlat tt g h d ns) (hd : d.size = sz) : ∀ (ps : List D) (cs : List Value) (i : Nat), DFlatL tt g h ps cs → (∀ p ∈ ps, p.size = sz) →
    i < ps.length → DFlatL tt g h (ps.set i d) (cutIn cs (i * sz) ns) ∧ i * sz + sz ≤ cs.length
  | [], cs, i, hf, hs, hi => by simp at hi
  | q :: ps, cs, i, hf, hs, hi => by
    have hns := (DFlat.len _ _ hn).trans hd
    simp only [DFlatL] at hf
    obtain ⟨c1, c2, rfl, h1, h2⟩ := hf
    have hl := DFlat.len _ _ h1
    have hq : q.size = sz := hs q (by simp)
    cases i with
    | zero =>
      refine ⟨?_, by simp; omega⟩
      rw [cutIn_app _ _ _ _ (by omega)]
      simp only [List.set_cons_zero, DFlatL]
      refine ⟨_, _, rfl, ?_, h2⟩
      unfold cutIn
      rw [Nat.zero_mul, List.take_zero, List.nil_append, List.drop_eq_nil_of_le (by omega), List.append_nil]; exact hn
    | succ i =>
      simp at hi
      obtain ⟨a, b⟩ := DFlatL.set hn hd ps c2 i h2 (fun p hp => hs p (by simp [hp])) hi
      have e : (i + 1) * sz = i * sz + sz := by rw [Nat.add_mul, Nat.one_mul]
      refine ⟨?_, by simp; omega⟩
      rw [cutIn_app' _ _ _ _ (by omega), show (i + 1) * sz - c1.length = i * sz by omega]
      simp only [List.set_cons_succ, DFlatL]
      exact ⟨_, _, rfl, h1, a⟩
theorem DFlatL.append {g : Ghost} {h : Array Obj} : ∀ (ds es : List D) (cs ns : List Value), DFlatL tt g h ds cs → DFlatL tt g h es ns → DFlatL tt g h (ds ++ es) (cs ++ ns)
  | [], es, cs, ns, hf, hn => by simp only [DFlatL] at hf; subst hf; simpa using hn
  | d :: ds, es, cs, ns, hf, hn => by
    simp only [DFlatL] at hf
    obtain ⟨c1, c2, rfl, h1, h2⟩ := hf
    simp only [List.cons_append, DFlatL]
    exact ⟨c1, c2 ++ ns, by simp, h1, DFlatL.append ds es c2 ns h2 hn⟩
theorem FlatL.append {B : TypeId → Nat → Prop} {h : Array Obj} : ∀ (ds es : List Pv) (cs ns : List Value), FlatL tt B h ds cs → FlatL tt B h es ns → FlatL tt B h (ds ++ es) (cs ++ ns)
  | [], es, cs, ns, hf, hn => by simp only [FlatL] at hf; subst hf; simpa using hn
  | d :: ds, es, cs, ns, hf, hn => by
    simp only [FlatL] at hf
    obtain ⟨c1, c2, rfl, h1, h2⟩ := hf
    simp only [List.cons_append, FlatL]
    exact ⟨c1, c2 ++ ns, by simp, h1, FlatL.append ds es c2 ns h2 hn⟩
theorem sizeL_all {sz : Nat} : ∀ ps : List Pv, (∀ p ∈ ps, p.size = sz) → Pv.sizeL ps = ps.length * sz
  | [], _ => by simp [Pv.sizeL]
  | p :: ps, h => by
    have h1 := h p (by simp)
    have h2 := sizeL_all ps (fun q hq => h q (by simp [hq]))
    simp only [Pv.sizeL, List.length_cons, h1, h2, Nat.add_mul, Nat.one_mul]; omega
theorem dsizeL_all {sz : Nat} : ∀ ps : List D, (∀ p ∈ ps, p.size = sz) → D.sizeL ps = ps.length * sz
  | [], _ => by simp [D.sizeL]
  | p :: ps, h => by
    have h1 := h p (by simp)
    have h2 := dsizeL_all ps (fun q hq => h q (by simp [hq]))
    simp only [D.sizeL, List.length_cons, h1, h2, Nat.add_mul, Nat.one_mul]; omega
/-- A stretch of a row. -/
theorem FlatL.part {B : TypeId → Nat → Prop} {h : Array Obj} {sz : Nat} : ∀ (ps : List Pv) (cs : List Value) (i n : Nat), FlatL tt B h ps cs → (∀ p ∈ ps, p.size = sz) →
    FlatL tt B h ((ps.drop i).take n) ((cs.drop (i * sz)).take (((ps.drop i).take n).length * sz))
  | [], cs, i, n, hf, hs => by simp [FlatL]
  | q :: ps, cs, i, n, hf, hs => by
    simp only [FlatL] at hf
    obtain ⟨c1, c2, rfl, h1, h2⟩ := hf
    have hl := Flat.len _ _ h1
    have hq : q.size = sz := hs q (by simp)
    have hs' : ∀ p ∈ ps, p.size = sz := fun p hp => hs p (by simp [hp])
    cases i with
    | zero =>
      cases n with
      | zero => simp [FlatL]
      | succ n =>
        have := FlatL.part ps c2 0 n h2 hs'
        simp only [List.drop_zero, Nat.zero_mul, List.take_succ_cons, FlatL, List.length_cons] at this ⊢
        refine ⟨c1, _, ?_, h1, this⟩
        rw [List.take_append, List.take_of_length_le (by rw [hl, hq, Nat.add_mul, Nat.one_mul]; omega)]
        congr 2
        rw [hl, hq, Nat.add_mul, Nat.one_mul]; omega
    | succ i =>
      have := FlatL.part ps c2 i n h2 hs'
      have e : (i + 1) * sz = i * sz + sz := by rw [Nat.add_mul, Nat.one_mul]
      rw [List.drop_succ_cons, take_drop_app' _ _ _ _ (by omega), show (i + 1) * sz - c1.length = i * sz by omega]
      exact this
theorem DFlatL.part {g : Ghost} {h : Array Obj} {sz : Nat} : ∀ (ps : List D) (cs : List Value) (i n : Nat), DFlatL tt g h ps cs → (∀ p ∈ ps, p.size = sz) →
    DFlatL tt g h ((ps.drop i).take n) ((cs.drop (i * sz)).take (((ps.drop i).take n).length * sz))
  | [], cs, i, n, hf, hs => by simp [DFlatL]
  | q :: ps, cs, i, n, hf, hs => by
    simp only [DFlatL] at hf
    obtain ⟨c1, c2, rfl, h1, h2⟩ := hf
    have hl := DFlat.len _ _ h1
    have hq : q.size = sz := hs q (by simp)
    have hs' : ∀ p ∈ ps, p.size = sz := fun p hp => hs p (by simp [hp])
    cases i with
    | zero =>
      cases n with
      | zero => simp [DFlatL]
      | succ n =>
        have := DFlatL.part ps c2 0 n h2 hs'
        simp only [List.drop_zero, Nat.zero_mul, List.take_succ_cons, DFlatL, List.length_cons] at this ⊢
        refine ⟨c1, _, ?_, h1, this⟩
        rw [List.take_append, List.take_of_length_le (by rw [hl, hq, Nat.add_mul, Nat.one_mul]; omega)]
        congr 2
        rw [hl, hq, Nat.add_mul, Nat.one_mul]; omega
    | succ i =>
      have := DFlatL.part ps c2 i n h2 hs'
      have e : (i + 1) * sz = i * sz + sz := by rw [Nat.add_mul, Nat.one_mul]
      rw [List.drop_succ_cons, take_drop_app' _ _ _ _ (by omega), show (i + 1) * sz - c1.length = i * sz by omega]
      exact this
end
-- OBJECTS
section
variable (tt : TT)
/-- No cell of the block is frozen. -/
def NF (c : Array Value) (fz : Nat × Nat) : Prop := ∀ o, o < c.size → ¬ (fz.1 ≤ o ∧ o < fz.2)
def ArrRel (g : Ghost) (h : Array Obj) (T : TypeId) (ds : List D) : Gl → Prop
  | .none0 => ds = []
  | .blk b N => ∃ c E fz, h[b]? = some (.cells c E fz) ∧ NF c fz ∧ c.size = N * (tt T).size ∧ ds.length ≤ N ∧ (∀ d ∈ ds, d.size = (tt T).size) ∧ DFlatL tt g h ds (c.toList.take (ds.length * (tt T).size))
def EntRel (g : Ghost) (h : Array Obj) : List (Pv × D) → List MapEntry → Prop
  | [], es => es = []
  | x :: xs, es => ∃ e r, es = e :: r ∧ VOf x.1.isAgg (Flat tt g.B h x.1) e.key ∧ VOf x.2.isAgg (DFlat tt g h x.2) e.val ∧ EntRel g h xs r
def ORel (g : Ghost) (h : Array Obj) (x : Gl × Nat) : CObj → Prop
  | .cell d => x.2 = 0 ∧ ∃ b N c E fz, x.1 = .blk b N ∧ h[b]? = some (.cells c E fz) ∧ NF c fz ∧ DFlat tt g h d c.toList
  | .arr T v ds => x.2 = v ∧ 0 < v ∧ ArrRel tt g h T ds x.1
  | .parr T v ps => x.2 = v ∧ 0 < v ∧ ArrRel tt g h T (ps.map .pv) x.1
  | .mapo _ _ xs => x.2 = 0 ∧ ∃ b N es clock, x.1 = .blk b N ∧ h[b]? = some (.map es clock) ∧ (∀ e ∈ es.toList, e.born < clock) ∧ (es.toList.map (·.born)).Nodup ∧ EntRel tt g h xs es.toList
  | .dead | .free => True
def Alive (H : List CObj) (id : Nat) : Prop := ∃ o, H[id]? = some o ∧ o.live
def AliveB (g : Ghost) (H : List CObj) (b : Nat) : Prop := ∃ id N v, Alive H id ∧ g.φ id = some (.blk b N, v)
structure HRel (g : Ghost) (h : Array Obj) (H : List CObj) : Prop where
  objs : ∀ id o, H[id]? = some o → o.live → ∃ x, g.φ id = some x ∧ ORel tt g h x o
  inj : ∀ i j b N v N' v', Alive H i → Alive H j → g.φ i = some (.blk b N, v) → g.φ j = some (.blk b N', v') → i = j
  sep : ∀ b, AliveB g H b → ∀ T, ¬ g.B T b
  bsz : ∀ T b, g.B T b → b < h.size
  hi : ∀ id, (∀ o, H[id]? = some o → o = .free) → g.φ id = none
variable {tt}
theorem ArrRel.mono {g g' : Ghost} {h h' : Array Obj} {T : TypeId} {ds : List D} {gl : Gl} (hm : GMono g g' h h') (hb : ∀ b N, gl = .blk b N → h'[b]? = h[b]?)
    (ha : ArrRel tt g h T ds gl) : ArrRel tt g' h' T ds gl := by
  cases gl with
  | none0 => exact ha
  | blk b N =>
    obtain ⟨c, E, fz, h1, h2, h3, h4, h5, h6⟩ := ha
    exact ⟨c, E, fz, (hb b N rfl).trans h1, h2, h3, h4, h5, DFlatL.mono hm _ _ h6⟩
theorem EntRel.mono {g g' : Ghost} {h h' : Array Obj} (hm : GMono g g' h h') : ∀ (xs : List (Pv × D)) (es : List MapEntry), EntRel tt g h xs es → EntRel tt g' h' xs es
  | [], es, he => he
  | x :: xs, es, he => by
    obtain ⟨e, r, rfl, h1, h2, h3⟩ := he
    exact ⟨e, r, rfl, h1.imp fun cs => Flat.mono hm.b _ cs, h2.imp fun cs => DFlat.mono hm _ cs, EntRel.mono hm xs r h3⟩
theorem ORel.mono {g g' : Ghost} {h h' : Array Obj} {x : Gl × Nat} {o : CObj} (hm : GMono g g' h h') (hb : ∀ b N, x.1 = .blk b N → h'[b]? = h[b]?)
    (ho : ORel tt g h x o) : ORel tt g' h' x o := by
  cases o with
  | cell d =>
    obtain ⟨e, b, N, c, E, fz, h1, h2, h3, h4⟩ := ho
    exact ⟨e, b, N, c, E, fz, h1, (hb b N h1).trans h2, h3, DFlat.mono hm _ _ h4⟩
  | arr T v ds => exact ⟨ho.1, ho.2.1, ho.2.2.mono hm hb⟩
  | parr T v ds => exact ⟨ho.1, ho.2.1, ho.2.2.mono hm hb⟩
  | mapo K E xs =>
    obtain ⟨e, b, N, es, cl, h1, h2, h3, h4, h5⟩ := ho
    exact ⟨e, b, N, es, cl, h1, (hb b N h1).trans h2, h3, h4, h5.mono hm⟩
  | dead => trivial
  | free => trivial
/-- One object turns (or is new); the others lie as they lay. -/
theorem HRel.step {g g' : Ghost} {h h' : Array Obj} {H H' : List CObj} (hr : HRel tt g h H) (hm : GMono g g' h h') (id0 : Nat)
    (hid : ∀ id, id ≠ id0 → Alive H' id → Alive H id ∧ H'[id]? = H[id]? ∧ g'.φ id = g.φ id)
    (hblk : ∀ id b N v, id ≠ id0 → Alive H' id → g.φ id = some (.blk b N, v) → h'[b]? = h[b]? ∧ ∀ T, ¬ g'.B T b)
    (h0 : ∀ o', H'[id0]? = some o' → o'.live → ∃ x, g'.φ id0 = some x ∧ ORel tt g' h' x o' ∧
      ∀ b N v, x = (.blk b N, v) → (∀ T, ¬ g'.B T b) ∧ ∀ id N' v', id ≠ id0 → Alive H' id → g.φ id ≠ some (.blk b N', v'))
    (hbsz : ∀ T b, g'.B T b → b < h'.size) (hhi : ∀ id, (∀ o, H'[id]? = some o → o = .free) → g'.φ id = none) : HRel tt g' h' H' := by
  refine ⟨?_, ?_, ?_, hbsz, hhi⟩
  · intro id o ho hd
    by_cases e : id = id0
    · subst e
      obtain ⟨x, h1, h2, _⟩ := h0 o ho hd
      exact ⟨x, h1, h2⟩
    · obtain ⟨h1, h2, h3⟩ := hid id e ⟨o, ho, hd⟩
      obtain ⟨x, hx, hox⟩ := hr.objs id o (h2 ▸ ho) hd
      refine ⟨x, h3.trans hx, hox.mono hm fun b N hb => ?_⟩
      exact (hblk id b N x.2 e ⟨o, ho, hd⟩ (by rw [hx, ← hb])).1
  · intro i j b N v N' v' hi hj e1 e2
    by_cases ei : i = id0
    · by_cases ej : j = id0
      · rw [ei, ej]
      · exfalso
        obtain ⟨o, ho, hd⟩ := hi
        subst ei
        obtain ⟨x, h1, _, h2⟩ := h0 o ho hd
        rw [h1] at e1
        obtain ⟨_, h3⟩ := h2 b N v (Option.some.inj e1)
        exact h3 j N' v' ej hj ((hid j ej hj).2.2 ▸ e2)
    · by_cases ej : j = id0
      · exfalso
        obtain ⟨o, ho, hd⟩ := hj
        subst ej
        obtain ⟨x, h1, _, h2⟩ := h0 o ho hd
        rw [h1] at e2
        obtain ⟨_, h3⟩ := h2 b N' v' (Option.some.inj e2)
        exact h3 i N v ei hi ((hid i ei hi).2.2 ▸ e1)
      · have ai := hid i ei hi
        have aj := hid j ej hj
        exact hr.inj i j b N v N' v' ai.1 aj.1 (ai.2.2 ▸ e1) (aj.2.2 ▸ e2)
  · rintro b ⟨id, N, v, ha, hp⟩ T
    by_cases e : id = id0
    · subst e
      obtain ⟨o, ho, hd⟩ := ha
      obtain ⟨x, h1, _, h2⟩ := h0 o ho hd
      rw [h1] at hp
      exact (h2 b N v (Option.some.inj hp)).1 T
    · exact (hblk id b N v e ha ((hid id e ha).2.2 ▸ hp)).2 T
/-- From one state of the run to a later one. -/
structure Ext (g : Ghost) (w : World) (H : List CObj) (g' : Ghost) (w' : World) (H' : List CObj) : Prop where
  os : w'.os = w.os
  tape : w'.tape = w.tape
  output : w'.output = w.output
  size : w.heap.size ≤ w'.heap.size
  frame : ∀ b, b < w.heap.size → ¬ AliveB g H b → w'.heap[b]? = w.heap[b]?
  bm : ∀ T b, g.B T b → g'.B T b
  bb : ∀ T b, g'.B T b → g.B T b ∨ w.heap.size ≤ b ∨ AliveB g H b
  pm : PMono g.φ g'.φ
  al : ∀ b, AliveB g' H' b → AliveB g H b ∨ w.heap.size ≤ b
theorem Ext.refl (g : Ghost) (w : World) (H : List CObj) : Ext g w H g w H :=
  ⟨rfl, rfl, rfl, Nat.le_refl _, fun _ _ _ => rfl, fun _ _ => id, fun _ _ => .inl, .refl _, fun _ => .inl⟩
theorem Ext.trans {g g' g'' : Ghost} {w w' w'' : World} {H H' H'' : List CObj} (x : Ext g w H g' w' H') (y : Ext g' w' H' g'' w'' H'') : Ext g w H g'' w'' H'' := by
  refine ⟨y.os.trans x.os, y.tape.trans x.tape, y.output.trans x.output, Nat.le_trans x.size y.size, ?_, fun T b hb => y.bm T b (x.bm T b hb), ?_, x.pm.trans y.pm, ?_⟩
  · intro b hb hn
    have hs := x.size
    rw [y.frame b (by omega) (fun ha => ?_), x.frame b hb hn]
    rcases x.al b ha with h | h
    · exact hn h
    · omega
  · intro T b hb
    have hs := x.size
    rcases y.bb T b hb with h | h | h
    · exact x.bb T b h
    · exact .inr (.inl (by omega))
    · exact .inr ((x.al b h).symm)
  · intro b hb
    have hs := x.size
    rcases y.al b hb with h | h
    · exact x.al b h
    · exact .inr (by omega)
theorem Ext.gmono {g g' : Ghost} {w w' : World} {H H' : List CObj} (x : Ext g w H g' w' H') (hr : HRel tt g w.heap H) : GMono g g' w.heap w'.heap :=
  ⟨fun T b hb => ⟨x.bm T b hb, x.frame b (hr.bsz T b hb) fun ha => hr.sep b ha T hb⟩, x.pm⟩
/-- A draw. -/
theorem Ext.drawn {g : Ghost} {w w' : World} {H : List CObj} (h1 : w'.os = w.os) (h2 : w'.tape = w.tape) (h3 : w'.output = w.output) (h4 : w'.heap = w.heap) : Ext g w H g w' H :=
  ⟨h1, h2, h3, by rw [h4]; exact Nat.le_refl _, fun _ _ _ => by rw [h4], fun _ _ => id, fun _ _ => .inl, .refl _, fun _ => .inl⟩
/-- The world with a block more. -/
def pushW (w : World) (o : Obj) : World := { w with heap := w.heap.push o }
def updφ (φ : Nat → Option (Gl × Nat)) (i : Nat) (x : Option (Gl × Nat)) : Nat → Option (Gl × Nat) := fun j => if j = i then x else φ j
theorem updφ_same (φ : Nat → Option (Gl × Nat)) (i : Nat) (x : Option (Gl × Nat)) : updφ φ i x i = x := by simp [updφ]
theorem updφ_ne (φ : Nat → Option (Gl × Nat)) {i j : Nat} (x : Option (Gl × Nat)) (h : j ≠ i) : updφ φ i x j = φ j := by simp [updφ, h]
theorem pushW_get (w : World) (o : Obj) (b : Nat) (h : b < w.heap.size) : (pushW w o).heap[b]? = w.heap[b]? := by
  show (w.heap.push o)[b]? = _
  rw [Array.getElem?_push, if_neg (by omega)]
theorem pushW_new (w : World) (o : Obj) : (pushW w o).heap[w.heap.size]? = some o := by
  show (w.heap.push o)[w.heap.size]? = _
  simp
theorem Alive.lt {H : List CObj} {id : Nat} (h : Alive H id) : id < H.length := by
  obtain ⟨o, ho, _⟩ := h
  exact (List.getElem?_eq_some_iff.1 ho).1
theorem alive_set {H : List CObj} {o : CObj} {i id : Nat} (h : id ≠ i) : Alive (H.set i o) id ↔ Alive H id := by
  unfold Alive
  rw [List.getElem?_set_ne (Ne.symm h)]
/-- What lies in a block that is there is below the heap's end. -/
theorem HRel.lt {g : Ghost} {h : Array Obj} {H : List CObj} (hr : HRel tt g h H) {id b N v : Nat} (ha : Alive H id) (hp : g.φ id = some (.blk b N, v)) : b < h.size := by
  obtain ⟨o, ho, hd⟩ := ha
  obtain ⟨x, hx, hox⟩ := hr.objs id o ho hd
  rw [hp] at hx
  cases hx
  have get : ∀ {y : Obj}, h[b]? = some y → b < h.size := fun e => (Array.getElem?_eq_some_iff.1 e).1
  cases o with
  | cell d => obtain ⟨_, b', N', c, E, fz, h1, h2, _⟩ := hox; cases h1; exact get h2
  | arr T v' ds => obtain ⟨_, _, c, E, fz, h2, _⟩ := hox; exact get h2
  | parr T v' ds => obtain ⟨_, _, c, E, fz, h2, _⟩ := hox; exact get h2
  | mapo K E xs => obtain ⟨_, b', N', es, cl, h1, h2, _⟩ := hox; cases h1; exact get h2
  | dead => exact hd.elim
  | free => exact hd.elim
/-- A new object in a new block. -/
theorem step_new {g : Ghost} {w : World} {H : List CObj} (hr : HRel tt g w.heap H) {id0 : Nat} (h0 : H[id0]? = some .free) (blk : Obj) (o : CObj) (hol : o ≠ .free) (N v : Nat)
    (ho : ∀ g' , g' = ({ φ := updφ g.φ id0 (some (.blk w.heap.size N, v)), B := g.B } : Ghost) → GMono g g' w.heap (pushW w blk).heap → ORel tt g' (pushW w blk).heap (.blk w.heap.size N, v) o) :
    ∃ g', HRel tt g' (pushW w blk).heap (H.set id0 o) ∧ Ext g w H g' (pushW w blk) (H.set id0 o) ∧ g'.φ id0 = some (.blk w.heap.size N, v) ∧ g'.B = g.B := by
  let g' : Ghost := { φ := updφ g.φ id0 (some (.blk w.heap.size N, v)), B := g.B }
  have hsz : (pushW w blk).heap.size = w.heap.size + 1 := by simp [pushW]
  have hlt : id0 < H.length := (List.getElem?_eq_some_iff.1 h0).1
  have hno : g.φ id0 = none := hr.hi id0 fun o ho => by rw [h0] at ho; exact (Option.some.inj ho).symm
  have hpm : PMono g.φ g'.φ := by
    intro id gl u hu
    have : id ≠ id0 := by rintro rfl; rw [hno] at hu; cases hu
    exact ⟨gl, u, by show updφ _ _ _ _ = _; rw [updφ_ne _ _ this]; exact hu, Nat.le_refl _, fun _ => rfl, fun h => h⟩
  have hx : Ext g w H g' (pushW w blk) (H.set id0 o) := by
    refine ⟨rfl, rfl, rfl, by omega, fun b hb _ => pushW_get w blk b hb, fun _ _ => id, fun _ _ => .inl, hpm, ?_⟩
    rintro b ⟨id, N', v', ha, hp⟩
    by_cases e : id = id0
    · subst e
      rw [show g'.φ id = _ from updφ_same _ _ _] at hp
      cases hp; exact .inr (Nat.le_refl _)
    · rw [show g'.φ id = _ from updφ_ne _ _ e] at hp
      exact .inl ⟨id, N', v', (alive_set e).1 ha, hp⟩
  have hgm := hx.gmono hr
  refine ⟨g', ?_, hx, updφ_same _ _ _, rfl⟩
  refine hr.step hgm id0 ?_ ?_ ?_ ?_ ?_
  · intro id e ha
    exact ⟨(alive_set e).1 ha, List.getElem?_set_ne (Ne.symm e), updφ_ne _ _ e⟩
  · intro id b N' v' e ha hp
    have ha' := (alive_set e).1 ha
    exact ⟨pushW_get w blk b (hr.lt ha' hp), fun T => hr.sep b ⟨id, N', v', ha', hp⟩ T⟩
  · intro o' ho' _
    rw [List.getElem?_set_self hlt] at ho'
    cases ho'
    refine ⟨_, updφ_same _ _ _, ho g' rfl hgm, ?_⟩
    intro b N' v' e
    cases e
    refine ⟨fun T hB => ?_, fun id N' v' e ha hp => ?_⟩
    · have := hr.bsz T _ hB; omega
    · have := hr.lt ((alive_set e).1 ha) hp
      omega
  · intro T b hB
    have := hr.bsz T b hB
    omega
  · intro id hid
    by_cases e : id = id0
    · subst e
      exact absurd (hid o (List.getElem?_set_self hlt)) hol
    · rw [show g'.φ id = _ from updφ_ne _ _ e]
      exact hr.hi id fun o ho => hid o (by rw [List.getElem?_set_ne (Ne.symm e)]; exact ho)
/-- A new object without a block: a slice that has no room. -/
theorem step_nil {g : Ghost} {w : World} {H : List CObj} (hr : HRel tt g w.heap H) {id0 : Nat} (h0 : H[id0]? = some .free) (o : CObj) (hol : o ≠ .free) (ho : ∀ g' : Ghost, ORel tt g' w.heap (.none0, 1) o) :
    ∃ g', HRel tt g' w.heap (H.set id0 o) ∧ Ext g w H g' w (H.set id0 o) ∧ g'.φ id0 = some (.none0, 1) ∧ g'.B = g.B := by
  let g' : Ghost := { φ := updφ g.φ id0 (some (.none0, 1)), B := g.B }
  have hlt : id0 < H.length := (List.getElem?_eq_some_iff.1 h0).1
  have hno : g.φ id0 = none := hr.hi id0 fun o ho => by rw [h0] at ho; exact (Option.some.inj ho).symm
  have hpm : PMono g.φ g'.φ := by
    intro id gl u hu
    have : id ≠ id0 := by rintro rfl; rw [hno] at hu; cases hu
    exact ⟨gl, u, by show updφ _ _ _ _ = _; rw [updφ_ne _ _ this]; exact hu, Nat.le_refl _, fun _ => rfl, fun h => h⟩
  have hx : Ext g w H g' w (H.set id0 o) := by
    refine ⟨rfl, rfl, rfl, Nat.le_refl _, fun b hb _ => rfl, fun _ _ => id, fun _ _ => .inl, hpm, ?_⟩
    rintro b ⟨id, N', v', ha, hp⟩
    by_cases e : id = id0
    · subst e
      rw [show g'.φ id = _ from updφ_same _ _ _] at hp
      cases hp
    · rw [show g'.φ id = _ from updφ_ne _ _ e] at hp
      exact .inl ⟨id, N', v', (alive_set e).1 ha, hp⟩
  have hgm := hx.gmono hr
  refine ⟨g', ?_, hx, updφ_same _ _ _, rfl⟩
  refine hr.step hgm id0 ?_ ?_ ?_ hr.bsz ?_
  · intro id e ha
    exact ⟨(alive_set e).1 ha, List.getElem?_set_ne (Ne.symm e), updφ_ne _ _ e⟩
  · intro id b N' v' e ha hp
    have ha' := (alive_set e).1 ha
    exact ⟨rfl, fun T => hr.sep b ⟨id, N', v', ha', hp⟩ T⟩
  · intro o' ho' _
    rw [List.getElem?_set_self hlt] at ho'
    cases ho'
    exact ⟨_, updφ_same _ _ _, ho g', fun b N v e => by cases e⟩
  · intro id hid
    by_cases e : id = id0
    · subst e
      exact absurd (hid _ (List.getElem?_set_self hlt)) hol
    · rw [show g'.φ id = _ from updφ_ne _ _ e]
      exact hr.hi id fun o ho => hid o (by rw [List.getElem?_set_ne (Ne.symm e)]; exact ho)
theorem alive_reserve {H : List CObj} {n id : Nat} : Alive (H ++ List.replicate n .free) id ↔ Alive H id := by
  unfold Alive
  by_cases h : id < H.length
  · rw [List.getElem?_append_left h]
  · rw [List.getElem?_append_right (by omega), List.getElem?_eq_none (l := H) (by omega)]
    constructor
    · rintro ⟨o, ho, hl⟩
      have := List.eq_of_mem_replicate (List.mem_of_getElem? ho)
      subst this
      exact hl.elim
    · rintro ⟨o, ho, _⟩; cases ho
/-- Room for new objects. -/
theorem HRel.reserve {g : Ghost} {h : Array Obj} {H : List CObj} (hr : HRel tt g h H) (n : Nat) : HRel tt g h (H ++ List.replicate n .free) := by
  have get : ∀ {id : Nat} {o : CObj}, (H ++ List.replicate n CObj.free)[id]? = some o → o ≠ CObj.free → H[id]? = some o := by
    intro id o (ho : _ = some o) (hf : o ≠ CObj.free)
    by_cases hl : id < H.length
    · rwa [List.getElem?_append_left hl] at ho
    · rw [List.getElem?_append_right (by omega)] at ho
      exact absurd (List.eq_of_mem_replicate (List.mem_of_getElem? ho)) hf
  refine ⟨fun id o ho hl => hr.objs id o (get ho (by rintro rfl; exact hl.elim)) hl, fun i j b N v N' v' hi hj => hr.inj i j b N v N' v' (alive_reserve.1 hi) (alive_reserve.1 hj),
    fun b ⟨id, N, v, ha, hp⟩ => hr.sep b ⟨id, N, v, alive_reserve.1 ha, hp⟩, hr.bsz, fun id hid => hr.hi id fun o ho => hid o ?_⟩
  rw [List.getElem?_append_left (List.getElem?_eq_some_iff.1 ho).1]
  exact ho
theorem Ext.reserve (g : Ghost) (w : World) (H : List CObj) (n : Nat) : Ext g w H g w (H ++ List.replicate n .free) :=
  ⟨rfl, rfl, rfl, Nat.le_refl _, fun _ _ _ => rfl, fun _ _ => id, fun _ _ => .inl, .refl _, fun b ⟨id, N, v, ha, hp⟩ => .inl ⟨id, N, v, alive_reserve.1 ha, hp⟩⟩
/-- A block's contents replaced. -/
def setB (w : World) (b : Nat) (o : Obj) : World := { w with heap := w.heap.setIfInBounds b o }
theorem setB_get (w : World) (b : Nat) (o : Obj) (h : b < w.heap.size) : (setB w b o).heap[b]? = some o := by simp [setB, h]
theorem setB_ne (w : World) {b k : Nat} (o : Obj) (h : k ≠ b) : (setB w b o).heap[k]? = w.heap[k]? := by
  simp only [setB, Array.getElem?_setIfInBounds]
  rw [if_neg (Ne.symm h)]
theorem setB_size (w : World) (b : Nat) (o : Obj) : (setB w b o).heap.size = w.heap.size := by simp [setB]
/-- An object of its own block is written, in its block; the version may rise. -/
theorem step_set {g : Ghost} {w : World} {H : List CObj} (hr : HRel tt g w.heap H) {id b N v : Nat} {o0 : CObj} (hH : H[id]? = some o0) (hd : o0.live)
    (hp : g.φ id = some (.blk b N, v)) (blk : Obj) (o : CObj) (v' : Nat) (hv : v ≤ v') (hv0 : v = 0 → v' = 0)
    (hol : o ≠ .free) (ho : ∀ g' , g' = ({ φ := updφ g.φ id (some (.blk b N, v')), B := g.B } : Ghost) → GMono g g' w.heap (setB w b blk).heap → ORel tt g' (setB w b blk).heap (.blk b N, v') o) :
    ∃ g', HRel tt g' (setB w b blk).heap (H.set id o) ∧ Ext g w H g' (setB w b blk) (H.set id o) ∧ g'.φ id = some (.blk b N, v') ∧ g'.B = g.B := by
  let g' : Ghost := { φ := updφ g.φ id (some (.blk b N, v')), B := g.B }
  have hal : Alive H id := ⟨o0, hH, hd⟩
  have hb := hr.lt hal hp
  have hil := hal.lt
  have hpm : PMono g.φ g'.φ := by
    intro i gl u hu
    by_cases e : i = id
    · subst e
      rw [hp] at hu
      cases hu
      exact ⟨_, v', updφ_same _ _ _, hv, fun _ => rfl, hv0⟩
    · exact ⟨gl, u, by show updφ _ _ _ _ = _; rw [updφ_ne _ _ e]; exact hu, Nat.le_refl _, fun _ => rfl, fun h => h⟩
  have hx : Ext g w H g' (setB w b blk) (H.set id o) := by
    refine ⟨rfl, rfl, rfl, by rw [setB_size]; exact Nat.le_refl _, ?_, fun _ _ => fun h => h, fun _ _ => .inl, hpm, ?_⟩
    · intro k hk hn
      exact setB_ne w blk (fun e => hn (e ▸ ⟨id, N, v, hal, hp⟩))
    · rintro k ⟨i, N', u, ha, hq⟩
      by_cases e : i = id
      · subst e
        rw [show g'.φ i = _ from updφ_same _ _ _] at hq
        cases hq; exact .inl ⟨i, N, v, hal, hp⟩
      · rw [show g'.φ i = _ from updφ_ne _ _ e] at hq
        exact .inl ⟨i, N', u, (alive_set e).1 ha, hq⟩
  have hgm := hx.gmono hr
  refine ⟨g', ?_, hx, updφ_same _ _ _, rfl⟩
  refine hr.step hgm id ?_ ?_ ?_ ?_ ?_
  · intro i e ha
    exact ⟨(alive_set e).1 ha, List.getElem?_set_ne (Ne.symm e), updφ_ne _ _ e⟩
  · intro i k N' u e ha hq
    have ha' := (alive_set e).1 ha
    refine ⟨setB_ne w blk (fun ek => e (hr.inj i id b N' u N v ha' hal (ek ▸ hq) hp)), fun T => hr.sep k ⟨i, N', u, ha', hq⟩ T⟩
  · intro o' ho' _
    rw [List.getElem?_set_self hil] at ho'
    cases ho'
    refine ⟨_, updφ_same _ _ _, ho g' rfl hgm, ?_⟩
    intro k N' u e
    cases e
    refine ⟨fun T => hr.sep b ⟨id, N, v, hal, hp⟩ T, fun i N' u e ha hq => ?_⟩
    exact e (hr.inj i id b N' u N v ((alive_set e).1 ha) hal hq hp)
  · intro T k hB
    rw [setB_size]; exact hr.bsz T k hB
  · intro i hi
    by_cases e : i = id
    · subst e
      exact absurd (hi _ (List.getElem?_set_self hil)) hol
    · rw [show g'.φ i = _ from updφ_ne _ _ e]
      exact hr.hi i fun o ho => hi o (by rw [List.getElem?_set_ne (Ne.symm e)]; exact ho)
/-- An object moves to a new block (an append that finds no room), or gets its first one. -/
theorem step_move {g : Ghost} {w : World} {H : List CObj} (hr : HRel tt g w.heap H) {id v : Nat} {gl : Gl} {o0 : CObj} (hH : H[id]? = some o0) (hd : o0.live)
    (hp : g.φ id = some (gl, v)) (blk : Obj) (o : CObj) (N v' : Nat) (hv : v < v') (hv0 : 0 < v)
    (hol : o ≠ .free) (ho : ∀ g' , g' = ({ φ := updφ g.φ id (some (.blk w.heap.size N, v')), B := g.B } : Ghost) → GMono g g' w.heap (pushW w blk).heap → ORel tt g' (pushW w blk).heap (.blk w.heap.size N, v') o) :
    ∃ g', HRel tt g' (pushW w blk).heap (H.set id o) ∧ Ext g w H g' (pushW w blk) (H.set id o) ∧ g'.φ id = some (.blk w.heap.size N, v') ∧ g'.B = g.B := by
  let g' : Ghost := { φ := updφ g.φ id (some (.blk w.heap.size N, v')), B := g.B }
  have hal : Alive H id := ⟨o0, hH, hd⟩
  have hil := hal.lt
  have hsz : (pushW w blk).heap.size = w.heap.size + 1 := by simp [pushW]
  have hpm : PMono g.φ g'.φ := by
    intro i gl' u hu
    by_cases e : i = id
    · subst e
      rw [hp] at hu
      cases hu
      exact ⟨_, v', updφ_same _ _ _, by omega, fun e => by omega, fun e => by omega⟩
    · exact ⟨gl', u, by show updφ _ _ _ _ = _; rw [updφ_ne _ _ e]; exact hu, Nat.le_refl _, fun _ => rfl, fun h => h⟩
  have hx : Ext g w H g' (pushW w blk) (H.set id o) := by
    refine ⟨rfl, rfl, rfl, by omega, fun b hb _ => pushW_get w blk b hb, fun _ _ => fun h => h, fun _ _ => .inl, hpm, ?_⟩
    rintro k ⟨i, N', u, ha, hq⟩
    by_cases e : i = id
    · subst e
      rw [show g'.φ i = _ from updφ_same _ _ _] at hq
      cases hq; exact .inr (Nat.le_refl _)
    · rw [show g'.φ i = _ from updφ_ne _ _ e] at hq
      exact .inl ⟨i, N', u, (alive_set e).1 ha, hq⟩
  have hgm := hx.gmono hr
  refine ⟨g', ?_, hx, updφ_same _ _ _, rfl⟩
  refine hr.step hgm id ?_ ?_ ?_ ?_ ?_
  · intro i e ha
    exact ⟨(alive_set e).1 ha, List.getElem?_set_ne (Ne.symm e), updφ_ne _ _ e⟩
  · intro i k N' u e ha hq
    have ha' := (alive_set e).1 ha
    exact ⟨pushW_get w blk k (hr.lt ha' hq), fun T => hr.sep k ⟨i, N', u, ha', hq⟩ T⟩
  · intro o' ho' _
    rw [List.getElem?_set_self hil] at ho'
    cases ho'
    refine ⟨_, updφ_same _ _ _, ho g' rfl hgm, ?_⟩
    intro k N' u e
    cases e
    refine ⟨fun T hB => ?_, fun i N' u e ha hq => ?_⟩
    · have := hr.bsz T _ hB; omega
    · have := hr.lt ((alive_set e).1 ha) hq; omega
  · intro T k hB
    have := hr.bsz T k hB; omega
  · intro i hi
    by_cases e : i = id
    · subst e
      exact absurd (hi _ (List.getElem?_set_self hil)) hol
    · rw [show g'.φ i = _ from updφ_ne _ _ e]
      exact hr.hi i fun o ho => hi o (by rw [List.getElem?_set_ne (Ne.symm e)]; exact ho)
/-- An object without a block turns; it stays without one. -/
theorem step_none0 {g : Ghost} {w : World} {H : List CObj} (hr : HRel tt g w.heap H) {id v : Nat} {o0 : CObj} (hH : H[id]? = some o0) (hd : o0.live)
    (hp : g.φ id = some (.none0, v)) (o : CObj) (v' : Nat) (hv : v ≤ v') (hv0 : v = 0 → v' = 0) (hol : o ≠ .free) (ho : ∀ g' : Ghost, ORel tt g' w.heap (.none0, v') o) :
    ∃ g', HRel tt g' w.heap (H.set id o) ∧ Ext g w H g' w (H.set id o) ∧ g'.φ id = some (.none0, v') ∧ g'.B = g.B := by
  let g' : Ghost := { φ := updφ g.φ id (some (.none0, v')), B := g.B }
  have hal : Alive H id := ⟨o0, hH, hd⟩
  have hil := hal.lt
  have hpm : PMono g.φ g'.φ := by
    intro i gl u hu
    by_cases e : i = id
    · subst e
      rw [hp] at hu
      cases hu
      exact ⟨_, v', updφ_same _ _ _, hv, fun _ => rfl, hv0⟩
    · exact ⟨gl, u, by show updφ _ _ _ _ = _; rw [updφ_ne _ _ e]; exact hu, Nat.le_refl _, fun _ => rfl, fun h => h⟩
  have hx : Ext g w H g' w (H.set id o) := by
    refine ⟨rfl, rfl, rfl, Nat.le_refl _, fun b hb _ => rfl, fun _ _ => fun h => h, fun _ _ => .inl, hpm, ?_⟩
    rintro k ⟨i, N', u, ha, hq⟩
    by_cases e : i = id
    · subst e
      rw [show g'.φ i = _ from updφ_same _ _ _] at hq
      cases hq
    · rw [show g'.φ i = _ from updφ_ne _ _ e] at hq
      exact .inl ⟨i, N', u, (alive_set e).1 ha, hq⟩
  have hgm := hx.gmono hr
  refine ⟨g', ?_, hx, updφ_same _ _ _, rfl⟩
  refine hr.step hgm id ?_ ?_ ?_ hr.bsz ?_
  · intro i e ha
    exact ⟨(alive_set e).1 ha, List.getElem?_set_ne (Ne.symm e), updφ_ne _ _ e⟩
  · intro i k N' u e ha hq
    have ha' := (alive_set e).1 ha
    exact ⟨rfl, fun T => hr.sep k ⟨i, N', u, ha', hq⟩ T⟩
  · intro o' ho' _
    rw [List.getElem?_set_self hil] at ho'
    cases ho'
    exact ⟨_, updφ_same _ _ _, ho g', fun b N v e => by cases e⟩
  · intro i hi
    by_cases e : i = id
    · subst e
      exact absurd (hi _ (List.getElem?_set_self hil)) hol
    · rw [show g'.φ i = _ from updφ_ne _ _ e]
      exact hr.hi i fun o ho => hi o (by rw [List.getElem?_set_ne (Ne.symm e)]; exact ho)
/-- An array that is written no more is settled: what it holds by value may be told by value. -/
theorem step_settle {g : Ghost} {w : World} {H : List CObj} (hr : HRel tt g w.heap H) {id v : Nat} {gl : Gl} {o0 : CObj} (hH : H[id]? = some o0) (hd : o0.live)
    (hp : g.φ id = some (gl, v)) (T : TypeId) :
    ∃ g', HRel tt g' w.heap (H.set id .dead) ∧ Ext g w H g' w (H.set id .dead) ∧ (∀ b N, gl = .blk b N → g'.B T b) ∧ (∀ j, j ≠ id → g'.φ j = g.φ j) ∧ ∃ v', g'.φ id = some (gl, v') := by
  let g' : Ghost := { φ := updφ g.φ id (some (gl, if v = 0 then 0 else v + 1)), B := fun T' b => g.B T' b ∨ (T' = T ∧ ∃ N, gl = .blk b N) }
  have hal : Alive H id := ⟨o0, hH, hd⟩
  have hil := hal.lt
  have hpm : PMono g.φ g'.φ := by
    intro i gl' u hu
    by_cases e : i = id
    · subst e
      rw [hp] at hu
      cases hu
      refine ⟨_, _, updφ_same _ _ _, by split <;> omega, fun _ => rfl, fun e => by simp [e]⟩
    · exact ⟨gl', u, by show updφ _ _ _ _ = _; rw [updφ_ne _ _ e]; exact hu, Nat.le_refl _, fun _ => rfl, fun h => h⟩
  have hx : Ext g w H g' w (H.set id .dead) := by
    refine ⟨rfl, rfl, rfl, Nat.le_refl _, fun b hb _ => rfl, fun _ _ h => .inl h, ?_, hpm, ?_⟩
    · rintro T' b (h | ⟨_, N, rfl⟩)
      · exact .inl h
      · exact .inr (.inr ⟨id, N, v, hal, hp⟩)
    · rintro k ⟨i, N', u, ha, hq⟩
      by_cases e : i = id
      · subst e
        obtain ⟨o, h1, h2⟩ := ha
        rw [List.getElem?_set_self hil] at h1
        cases h1; exact h2.elim
      · rw [show g'.φ i = _ from updφ_ne _ _ e] at hq
        exact .inl ⟨i, N', u, (alive_set e).1 ha, hq⟩
  have hgm := hx.gmono hr
  refine ⟨g', ?_, hx, fun b N e => .inr ⟨rfl, N, e⟩, fun j hj => updφ_ne _ _ hj, _, updφ_same _ _ _⟩
  refine hr.step hgm id ?_ ?_ ?_ ?_ ?_
  · intro i e ha
    exact ⟨(alive_set e).1 ha, List.getElem?_set_ne (Ne.symm e), updφ_ne _ _ e⟩
  · intro i k N' u e ha hq
    have ha' := (alive_set e).1 ha
    refine ⟨rfl, fun T' hB => ?_⟩
    rcases hB with hB | ⟨_, N, rfl⟩
    · exact hr.sep k ⟨i, N', u, ha', hq⟩ T' hB
    · exact e (hr.inj i id k N' u N v ha' hal hq hp)
  · intro o' ho' hd'
    rw [List.getElem?_set_self hil] at ho'
    cases ho'
    exact hd'.elim
  · rintro T' k (hB | ⟨_, N, rfl⟩)
    · exact hr.bsz T' k hB
    · exact hr.lt hal hp
  · intro i hi
    by_cases e : i = id
    · subst e
      exact absurd (hi _ (List.getElem?_set_self hil)) (by simp)
    · rw [show g'.φ i = _ from updφ_ne _ _ e]
      exact hr.hi i fun o ho => hi o (by rw [List.getElem?_set_ne (Ne.symm e)]; exact ho)
end
-- THE TABLE OF TYPES
def TD.isAgg : TD → Bool
  | .struct _ | .arr .. => true
  | _ => false
/-- A type as the model has it, and as the table has it. -/
def TDrel : TD → TypeDesc → Prop
  | .bool, .bool => True
  | .int k, .int k' => k = k'
  | .flt k, .float k' => k = k'
  | .str, .string => True
  | .ptr e, .pointer e' => e = e'
  | .sl e, .slice e' => e = e'
  | .arr n e, .array n' e' => n = n' ∧ e = e'
  | .struct fs, .struct F => F.toList.map (fun f => (f.offset, f.type)) = fs ∧ ∀ f ∈ F.toList, f.name ≠ "_"
  | .map k e, .map k' e' => k = k' ∧ e = e'
  | .func, .func .. => True
  | .iface, .interface _ => True
  | _, _ => False
def TD.kids : TD → List TypeId
  | .sl e => [e]
  | .arr _ e => [e]
  | .struct fs => fs.map (·.2)
  | .map k e => [k, e]
  | _ => []
/-- The parts of a zero value. -/
def zlist : D → List D
  | .agg ds => ds
  | .pv (.agg ps) => ps.map .pv
  | _ => []
def layOk (tt : TT) : Nat → List (Nat × TypeId) → List D → Bool
  | _, [], [] => true
  | o, (off, t) :: fs, d :: ds => off == o && d.size == (tt t).size && layOk tt (o + d.size) fs ds
  | _, _, _ => false
structure TIok (P : Program) (tt : TT) (t : TypeId) : Prop where
  ex : ∃ d i z, P.underlying t = some d ∧ TDrel (tt t).td d ∧ P.info? t = some i ∧ i.size = (tt t).size ∧ i.bytes = (tt t).bytes ∧ i.zero = some z ∧
    (∀ g h, VOf (tt t).zero.isAgg (DFlat tt g h (tt t).zero) z)
  zsize : (tt t).zero.size = (tt t).size
  zagg : (tt t).zero.isAgg = (tt t).td.isAgg
  one : (tt t).td.isAgg = false → (tt t).size = 1
  kids : ∀ e ∈ (tt t).td.kids, (tt e).td ≠ .other
  lay : ∀ fs, (tt t).td = .struct fs → layOk tt 0 fs (zlist (tt t).zero) = true
  cmp : ∀ fs, (tt t).td = .struct fs → P.stoodInHeld t = false ∧ P.eqGuardType P.depth t = false
  layA : ∀ n e, (tt t).td = .arr n e → (zlist (tt t).zero).length = n ∧ ∀ d ∈ zlist (tt t).zero, d.size = (tt e).size
def TTok (P : Program) (tt : TT) : Prop := ∀ t, (tt t).td ≠ .other → TIok P tt t
section
variable {P : Program} {tt : TT}
theorem TIok.und {t : TypeId} (h : TIok P tt t) : ∃ d, P.underlying t = some d ∧ TDrel (tt t).td d := by
  obtain ⟨d, i, z, h1, h2, _⟩ := h.ex
  exact ⟨d, h1, h2⟩
theorem run_und {t : TypeId} {d : TypeDesc} (h : P.underlying t = some d) (w : World) : (underlying t).run P w = .ok d w := by
  simp [underlying, program, Sem.run, h]
theorem TIok.isAgg {t : TypeId} (h : TIok P tt t) (w : World) : (Go.isAgg t).run P w = .ok (tt t).td.isAgg w := by
  obtain ⟨d, h1, h2⟩ := h.und
  unfold Go.isAgg
  rw [Sem.run_bind, run_und h1]
  generalize (tt t).td = td at h2 ⊢
  cases td <;> cases d <;> simp_all [TDrel, TD.isAgg]
theorem TIok.info {t : TypeId} (h : TIok P tt t) (w : World) : ∃ i, P.info? t = some i ∧ i.size = (tt t).size ∧ i.bytes = (tt t).bytes ∧ (typeInfo t).run P w = .ok i w := by
  obtain ⟨d, i, z, _, _, h1, h2, h3, _⟩ := h.ex
  exact ⟨i, h1, h2, h3, by simp [typeInfo, program, Sem.run, h1]⟩
theorem TIok.sizeOf {t : TypeId} (h : TIok P tt t) (w : World) : (Go.sizeOf t).run P w = .ok (tt t).size w := by
  obtain ⟨i, _, h2, _, h3⟩ := h.info w
  simp [Go.sizeOf, h3, h2]
theorem TIok.zero {t : TypeId} (h : TIok P tt t) (w : World) : ∃ z, (zeroValue t).run P w = .ok z w ∧ ∀ g h, VOf (tt t).zero.isAgg (DFlat tt g h (tt t).zero) z := by
  obtain ⟨d, i, z, _, _, h1, h2, h3, h4, h5⟩ := h.ex
  exact ⟨z, by simp [zeroValue, typeInfo, program, Sem.run, h1, h4], h5⟩
-- ONE CELL EACH
mutual
theorem Flat.one {B : TypeId → Nat → Prop} {h : Array Obj} : ∀ (p : Pv) (cs : List Value), Flat tt B h p cs → ∀ v ∈ cs, v.oneCell' = true
  | .bool _, cs, hf => by simp only [Flat] at hf; subst hf; simp [Value.oneCell']
  | .int _ _, cs, hf => by simp only [Flat] at hf; subst hf; simp [Value.oneCell']
  | .flt _ _, cs, hf => by simp only [Flat] at hf; subst hf; simp [Value.oneCell']
  | .str _, cs, hf => by simp only [Flat] at hf; obtain ⟨b, rfl, _⟩ := hf; simp [Value.oneCell']
  | .agg ps, cs, hf => by simp only [Flat] at hf; exact FlatL.one ps cs hf
  | .sl T ps, cs, hf => by
    simp only [Flat] at hf
    rcases hf with ⟨_, a, c, rfl⟩ | ⟨_, _, _, _, _, _, rfl, _⟩ <;> simp [Value.oneCell']
  | .nilp, cs, hf => by simp only [Flat] at hf; subst hf; simp [Value.oneCell']
  | .nilf, cs, hf => by simp only [Flat] at hf; subst hf; simp [Value.oneCell']
  | .nili, cs, hf => by simp only [Flat] at hf; subst hf; simp [Value.oneCell']
  | .nilm, cs, hf => by simp only [Flat] at hf; subst hf; simp [Value.oneCell']
theorem FlatL.one {B : TypeId → Nat → Prop} {h : Array Obj} : ∀ (ps : List Pv) (cs : List Value), FlatL tt B h ps cs → ∀ v ∈ cs, v.oneCell' = true
  | [], cs, hf => by simp only [FlatL] at hf; subst hf; simp
  | p :: ps, cs, hf => by
    simp only [FlatL] at hf
    obtain ⟨c1, c2, rfl, h1, h2⟩ := hf
    intro v hv
    rcases List.mem_append.1 hv with hv | hv
    · exact Flat.one p c1 h1 v hv
    · exact FlatL.one ps c2 h2 v hv
end
mutual
theorem DFlat.one {g : Ghost} {h : Array Obj} : ∀ (d : D) (cs : List Value), DFlat tt g h d cs → ∀ v ∈ cs, v.oneCell' = true
  | .pv p, cs, hf => by simp only [DFlat] at hf; exact Flat.one p cs hf
  | .agg ds, cs, hf => by simp only [DFlat] at hf; exact DFlatL.one ds cs hf
  | .nilsl _, cs, hf => by simp only [DFlat] at hf; obtain ⟨_, rfl⟩ := hf; simp [Value.oneCell']
  | .own .., cs, hf => by simp only [DFlat] at hf; obtain ⟨v, rfl, h1, _⟩ := hf; simpa using h1
  | .cptr .., cs, hf => by simp only [DFlat] at hf; obtain ⟨_, _, rfl, _⟩ := hf; simp [Value.oneCell']
  | .aptr .., cs, hf => by simp only [DFlat] at hf; obtain ⟨v, rfl, h1, _⟩ := hf; simpa using h1
  | .sptr .., cs, hf => by simp only [DFlat] at hf; obtain ⟨_, _, _, _, _, rfl, _⟩ := hf; simp [Value.oneCell']
  | .map _, cs, hf => by simp only [DFlat] at hf; obtain ⟨_, _, _, rfl⟩ := hf; simp [Value.oneCell']
  | .fn .., cs, hf => by simp only [DFlat] at hf; obtain ⟨_, _, rfl, _⟩ := hf; simp [Value.oneCell']
  | .iface .., cs, hf => by simp only [DFlat] at hf; obtain ⟨_, rfl, _⟩ := hf; simp [Value.oneCell']
  | .tup _, cs, hf => by simp only [DFlat] at hf
  | .ite .., cs, hf => by simp only [DFlat] at hf
  | .junk, cs, hf => by simp only [DFlat] at hf
theorem DFlatL.one {g : Ghost} {h : Array Obj} : ∀ (ds : List D) (cs : List Value), DFlatL tt g h ds cs → ∀ v ∈ cs, v.oneCell' = true
  | [], cs, hf => by simp only [DFlatL] at hf; subst hf; simp
  | d :: ds, cs, hf => by
    simp only [DFlatL] at hf
    obtain ⟨c1, c2, rfl, h1, h2⟩ := hf
    intro v hv
    rcases List.mem_append.1 hv with hv | hv
    · exact DFlat.one d c1 h1 v hv
    · exact DFlatL.one ds c2 h2 v hv
end
/-- A whole value of its cells. -/
def whole (ag : Bool) (cs : List Value) : Value := if ag = true then .agg cs.toArray else cs.headD undef
theorem vof_whole {d : D} {g : Ghost} {h : Array Obj} {ag : Bool} {cs : List Value} (hf : DFlat tt g h d cs) (ha : d.isAgg = ag) (h1 : ag = false → d.size = 1) : VOf d.isAgg (DFlat tt g h d) (whole ag cs) := by
  unfold VOf whole
  rw [ha]
  cases ag with
  | true => simp; exact hf
  | false =>
    have hl := (DFlat.len d cs hf).trans (h1 rfl)
    match cs, hl with
    | [v], _ => simp; exact ⟨hf, DFlat.one d _ hf v (by simp)⟩
theorem vof_cells {d : D} {g : Ghost} {h : Array Obj} {v : Value} (hv : VOf d.isAgg (DFlat tt g h d) v) : DFlat tt g h d v.cells.toList := by
  unfold VOf at hv
  split at hv
  · obtain ⟨cs, rfl, hf⟩ := hv; exact hf
  · obtain ⟨hf, h1⟩ := hv
    cases v <;> simp_all [Value.cells, Value.oneCell']
theorem add_add (b o i : Nat) : (⟨b, o, none⟩ : Addr).add i = ⟨b, o + i, none⟩ := by unfold Addr.add; split <;> simp_all
theorem run_load {T : TypeId} (hT : TIok P tt T) (w : World) {b off : Nat} {c : Array Value} {E : TypeId} {fz : Nat × Nat} (hb : w.heap[b]? = some (.cells c E fz)) (hl : off + (tt T).size ≤ c.size) :
    (loadVar T ⟨b, off, none⟩).run P w = .ok (whole (tt T).td.isAgg ((c.toList.drop off).take (tt T).size)) w := by
  have hcell : ∀ j, w.cell? ⟨b, j, none⟩ = c[j]? := fun j => by simp [World.cell?, hb]
  unfold loadVar
  rw [Sem.run_bind, hT.isAgg, Result.andThen_ok]
  cases hag : (tt T).td.isAgg with
  | true =>
    simp only [if_true, Sem.run_bind, hT.sizeOf, Result.andThen_ok]
    have hlen : ((c.toList.drop off).take (tt T).size).length = (tt T).size := by simp; omega
    have hx := run_loadCells_list (P := P) w ⟨b, off, none⟩ ((c.toList.drop off).take (tt T).size) (fun j v hv => by
      rw [add_add, hcell]
      rw [List.getElem?_take] at hv
      split at hv
      · rw [List.getElem?_drop] at hv; simpa using hv
      · cases hv)
    rw [hlen] at hx
    rw [hx]
    simp [whole]
  | false =>
    have h1 := hT.one hag
    rw [h1] at hl ⊢
    have hlt : off < c.size := by omega
    have e : (c.toList.drop off).take 1 = [c[off]] := by
      rw [List.drop_eq_getElem_cons (by simpa using hlt)]
      simp
    simp only [Bool.false_eq_true, if_false]
    rw [e]
    have hc : w.cell? ⟨b, off, none⟩ = some c[off] := by rw [hcell]; simp [hlt]
    simp [hc, whole]
theorem setB_self {w : World} {b : Nat} {o : Obj} (h : w.heap[b]? = some o) : setB w b o = w := by
  have hb := (Array.getElem?_eq_some_iff.1 h).1
  cases w
  simp only [setB, World.mk.injEq, and_true]
  apply Array.ext (by simp)
  intro i h1 h2
  rw [Array.getElem_setIfInBounds]
  split
  · subst_vars
    exact ((Array.getElem?_eq_some_iff.1 h).2).symm
  · rfl
theorem setB_setB (w : World) (b : Nat) (o o' : Obj) : setB (setB w b o) b o' = setB w b o' := by simp [setB]
theorem run_storeCells (w : World) {b : Nat} {E : TypeId} {fz : Nat × Nat} (off : Nat) : ∀ (vs : List Value) (i : Nat) (c : Array Value) (w : World), w.heap[b]? = some (.cells c E fz) → NF c fz → off + i + vs.length ≤ c.size →
    (∀ v ∈ vs, v.oneCell' = true) → (storeCells ⟨b, off, none⟩ vs i).run P w = .ok () (setB w b (.cells (cutIn c.toList (off + i) vs).toArray E fz))
  | [], i, c, w, hb, hn, hl, h1 => by
    have : cutIn c.toList (off + i) [] = c.toList := by simp [cutIn]
    rw [this, Array.toArray_toList, setB_self hb]
    rfl
  | v :: vs, i, c, w, hb, hn, hl, h1 => by
    simp only [List.length_cons] at hl
    have hcell : w.cell? ⟨b, off + i, none⟩ = some (c[off + i]'(by omega)) := by simp [World.cell?, hb]
    have hfr : w.frozen? ⟨b, off + i, none⟩ = false := by
      obtain ⟨lo, hi⟩ := fz
      have := hn (off + i) (by omega)
      simp only [World.frozen?, hb]
      simp only [Bool.and_eq_false_iff, decide_eq_false_iff_not]
      omega
    have hv1 := h1 v (by simp)
    have hset : w.setCell ⟨b, off + i, none⟩ v = setB w b (.cells (c.setIfInBounds (off + i) v) E fz) := by
      have hbl := (Array.getElem?_eq_some_iff.1 hb).1
      have hbe := (Array.getElem?_eq_some_iff.1 hb).2
      simp only [World.setCell, setB, Option.isSome_none, Bool.false_eq_true, if_false]
      congr 1
      apply Array.ext (by simp)
      intro k h1 h2
      rw [Array.getElem_modify, Array.getElem_setIfInBounds]
      split
      · subst_vars; rw [hbe]
      · rfl
    have hst : (store ((⟨b, off, none⟩ : Addr).add i) v).run P w = .ok () (setB w b (.cells (c.setIfInBounds (off + i) v) E fz)) := by
      rw [add_add, ← hset]
      cases v <;> simp_all [Value.oneCell', store, Sem.run]
    simp only [storeCells, Sem.run_bind, hst, Result.andThen_ok]
    have hbl := (Array.getElem?_eq_some_iff.1 hb).1
    rw [run_storeCells w off vs (i + 1) (c.setIfInBounds (off + i) v) _ (setB_get _ _ _ hbl) (fun o ho => hn o (by simpa using ho)) (by simp; omega) (fun u hu => h1 u (by simp [hu])), setB_setB]
    congr 4
    unfold cutIn
    rw [Array.toList_setIfInBounds]
    have hlt : off + i < c.toList.length := by simp; omega
    rw [show off + (i + 1) = off + i + 1 by omega, List.take_add_one, List.take_set_of_le (by omega), List.getElem?_set_self hlt, List.drop_set_of_lt (by omega)]
    simp
    congr 1; omega
theorem run_store {T : TypeId} (hT : TIok P tt T) (w : World) {b off : Nat} {c : Array Value} {E : TypeId} {fz : Nat × Nat} (hb : w.heap[b]? = some (.cells c E fz)) (hn : NF c fz)
    (hl : off + (tt T).size ≤ c.size) {v : Value} (hv : v.cells.size = (tt T).size) (h1 : ∀ u ∈ v.cells.toList, u.oneCell' = true) :
    (storeVar T ⟨b, off, none⟩ v).run P w = .ok () (setB w b (.cells (cutIn c.toList off v.cells.toList).toArray E fz)) := by
  unfold storeVar
  simp only [Sem.run_bind, hT.sizeOf, Result.andThen_ok, ne_eq, hv, not_true_eq_false, if_false, Sem.run_pure, Sem.run_ite]
  exact run_storeCells w off v.cells.toList 0 c w hb hn (by simp; omega) h1
end
end Go.Cl
