/-
  THE CLEAN MACHINE, part 18: a machine of values by name that the model follows; each law here says that a step of the model does what the clean machine says. Nothing here speaks of this program.
-/
import Derived.Test.YtcpdjpifbjjaaaaGreatDoorC17
set_option linter.unusedVariables false
set_option linter.unusedSimpArgs false
namespace Go.Cl
open Go.RowKit (Below)
section
variable {P : Program} {tt : TT}
-- THE TABLE OF TYPES, OUT OF THE PROGRAM
def tdOf : TypeDesc → TD
  | .bool => .bool
  | .int k => .int k
  | .float k => .flt k
  | .string => .str
  | .pointer e => .ptr e
  | .slice e => .sl e
  | .array n e => .arr n e
  | .struct F => if F.toList.all (fun f => f.name != "_") = true then .struct (F.toList.map fun f => (f.offset, f.type)) else .other
  | .map k e => .map k e
  | .func .. => .func
  | .interface _ => .iface
  | _ => .other
theorem tdOf_rel : ∀ (d : TypeDesc), tdOf d ≠ .other → TDrel (tdOf d) d := by
  intro d h
  cases d <;> simp only [tdOf, ne_eq, not_true_eq_false] at h ⊢ <;> try simp only [TDrel]
  case struct F =>
    split at h
    · rename_i hn
      rw [if_pos hn]
      refine ⟨rfl, fun f hf => ?_⟩
      have := List.all_eq_true.1 hn f hf
      simpa using this
    · exact absurd rfl h
  case array => exact ⟨trivial, trivial⟩
  case map => exact ⟨trivial, trivial⟩
def zeroOf (P : Program) : Nat → TypeId → D
  | 0, _ => .junk
  | n + 1, t => match P.underlying t with
    | some .bool => .pv (.bool false)
    | some (.int k) => .pv (.int k 0)
    | some (.float k) => .pv (.flt k 0)
    | some .string => .pv (.str [])
    | some (.pointer _) => .pv .nilp
    | some (.slice e) => .nilsl e
    | some (.map ..) => .pv .nilm
    | some (.func ..) => .pv .nilf
    | some (.interface _) => .pv .nili
    | some (.array m e) => mkAgg (List.replicate m (zeroOf P n e))
    | some (.struct F) => mkAgg (F.toList.map fun f => zeroOf P n f.type)
    | _ => .junk
def otherTI : TI := ⟨.other, 0, 0, .junk⟩
/-- The table, but for types that are left out. -/
def ttOf (P : Program) (n : Nat) (bad : List TypeId) : TT := fun t =>
  if (Nat.ble n t || bad.contains t) = true then otherTI else match P.underlying t, P.info? t with
    | some d, some i => ⟨tdOf d, i.size, i.bytes, zeroOf P 9 t⟩
    | _, _ => otherTI
mutual
def zEatP : Pv → List Value → Option (List Value)
  | .bool b, cs => match cs with | .bool b' :: r => if b = b' then some r else none | _ => none
  | .int k n, cs => match cs with | .int k' n' :: r => if k = k' ∧ n = n' then some r else none | _ => none
  | .flt k n, cs => match cs with | .float k' n' :: r => if k = k' ∧ n = n' then some r else none | _ => none
  | .str s, cs => match cs with | .string b :: r => if b.data.toList = s then some r else none | _ => none
  | .agg ps, cs => zEatPL ps cs
  | .nilp, cs => match cs with | .pointer none :: r => some r | _ => none
  | .nilf, cs => match cs with | .nilFunc :: r => some r | _ => none
  | .nili, cs => match cs with | .nilIface :: r => some r | _ => none
  | .nilm, cs => match cs with | .map none :: r => some r | _ => none
  | .sl _ _, _ => none
def zEatPL : List Pv → List Value → Option (List Value)
  | [], cs => some cs
  | p :: ps, cs => match zEatP p cs with | some r => zEatPL ps r | none => none
end
mutual
theorem zEatP_ok {B : TypeId → Nat → Prop} {h : Array Obj} : ∀ (p : Pv) (cs r : List Value), zEatP p cs = some r → ∃ c1, cs = c1 ++ r ∧ Flat tt B h p c1
  | .bool b, cs, r, e => by
    simp only [zEatP] at e
    split at e
    · split at e
      · cases e; subst_vars; exact ⟨[_], rfl, by simp only [Flat]⟩
      · cases e
    · cases e
  | .int k n, cs, r, e => by
    simp only [zEatP] at e
    split at e
    · split at e
      · rename_i hc; cases e; obtain ⟨rfl, rfl⟩ := hc; exact ⟨[_], rfl, by simp only [Flat]⟩
      · cases e
    · cases e
  | .flt k n, cs, r, e => by
    simp only [zEatP] at e
    split at e
    · split at e
      · rename_i hc; cases e; obtain ⟨rfl, rfl⟩ := hc; exact ⟨[_], rfl, by simp only [Flat]⟩
      · cases e
    · cases e
  | .str s, cs, r, e => by
    simp only [zEatP] at e
    split at e
    · split at e
      · rename_i hc; cases e; exact ⟨[_], rfl, by simp only [Flat]; exact ⟨_, rfl, hc⟩⟩
      · cases e
    · cases e
  | .agg ps, cs, r, e => by
    simp only [zEatP] at e
    obtain ⟨c1, h1, h2⟩ := zEatPL_ok ps cs r e
    exact ⟨c1, h1, by simpa only [Flat] using h2⟩
  | .nilp, cs, r, e => by
    simp only [zEatP] at e
    split at e
    · cases e; exact ⟨[_], rfl, by simp only [Flat]⟩
    · cases e
  | .nilf, cs, r, e => by
    simp only [zEatP] at e
    split at e
    · cases e; exact ⟨[_], rfl, by simp only [Flat]⟩
    · cases e
  | .nili, cs, r, e => by
    simp only [zEatP] at e
    split at e
    · cases e; exact ⟨[_], rfl, by simp only [Flat]⟩
    · cases e
  | .nilm, cs, r, e => by
    simp only [zEatP] at e
    split at e
    · cases e; exact ⟨[_], rfl, by simp only [Flat]⟩
    · cases e
  | .sl _ _, cs, r, e => by simp [zEatP] at e
theorem zEatPL_ok {B : TypeId → Nat → Prop} {h : Array Obj} : ∀ (ps : List Pv) (cs r : List Value), zEatPL ps cs = some r → ∃ c1, cs = c1 ++ r ∧ FlatL tt B h ps c1
  | [], cs, r, e => by simp only [zEatPL, Option.some.injEq] at e; subst e; exact ⟨[], rfl, by simp only [FlatL]⟩
  | p :: ps, cs, r, e => by
    simp only [zEatPL] at e
    split at e
    · rename_i r1 hp
      obtain ⟨c1, rfl, h1⟩ := zEatP_ok p cs r1 hp
      obtain ⟨c2, rfl, h2⟩ := zEatPL_ok ps r1 r e
      exact ⟨c1 ++ c2, by simp, by simp only [FlatL]; exact ⟨c1, c2, rfl, h1, h2⟩⟩
    · cases e
end
mutual
def zEat : D → List Value → Option (List Value)
  | .pv p, cs => zEatP p cs
  | .agg ds, cs => zEatL ds cs
  | .nilsl _, cs => match cs with | .slice none 0 0 :: r => some r | _ => none
  | .own .., _ | .cptr .., _ | .aptr .., _ | .sptr .., _ | .map _, _ | .fn .., _ | .iface .., _ | .tup _, _ | .ite .., _ | .junk, _ => none
def zEatL : List D → List Value → Option (List Value)
  | [], cs => some cs
  | d :: ds, cs => match zEat d cs with | some r => zEatL ds r | none => none
end
mutual
theorem zEat_ok {g : Ghost} {h : Array Obj} : ∀ (d : D) (cs r : List Value), zEat d cs = some r → ∃ c1, cs = c1 ++ r ∧ DFlat tt g h d c1
  | .pv p, cs, r, e => by
    simp only [zEat] at e
    obtain ⟨c1, h1, h2⟩ := zEatP_ok (tt := tt) (B := g.B) (h := h) p cs r e
    exact ⟨c1, h1, by simpa only [DFlat] using h2⟩
  | .agg ds, cs, r, e => by
    simp only [zEat] at e
    obtain ⟨c1, h1, h2⟩ := zEatL_ok ds cs r e
    exact ⟨c1, h1, by simpa only [DFlat] using h2⟩
  | .nilsl _, cs, r, e => by
    simp only [zEat] at e
    split at e
    · cases e; exact ⟨[_], rfl, by simp only [DFlat]; exact ⟨_, rfl⟩⟩
    · cases e
  | .own .., cs, r, e => by simp [zEat] at e
  | .cptr .., cs, r, e => by simp [zEat] at e
  | .aptr .., cs, r, e => by simp [zEat] at e
  | .sptr .., cs, r, e => by simp [zEat] at e
  | .map _, cs, r, e => by simp [zEat] at e
  | .fn .., cs, r, e => by simp [zEat] at e
  | .iface .., cs, r, e => by simp [zEat] at e
  | .tup _, cs, r, e => by simp [zEat] at e
  | .ite .., cs, r, e => by simp [zEat] at e
  | .junk, cs, r, e => by simp [zEat] at e
theorem zEatL_ok {g : Ghost} {h : Array Obj} : ∀ (ds : List D) (cs r : List Value), zEatL ds cs = some r → ∃ c1, cs = c1 ++ r ∧ DFlatL tt g h ds c1
  | [], cs, r, e => by simp only [zEatL, Option.some.injEq] at e; subst e; exact ⟨[], rfl, by simp only [DFlatL]⟩
  | p :: ps, cs, r, e => by
    simp only [zEatL] at e
    split at e
    · rename_i r1 hp
      obtain ⟨c1, rfl, h1⟩ := zEat_ok p cs r1 hp
      obtain ⟨c2, rfl, h2⟩ := zEatL_ok ps r1 r e
      exact ⟨c1 ++ c2, by simp, by simp only [DFlatL]; exact ⟨c1, c2, rfl, h1, h2⟩⟩
    · cases e
end
def zIs (d : D) (z : Value) : Bool :=
  if d.isAgg = true then (match z with | .agg cs => (match zEat d cs.toList with | some [] => true | _ => false) | _ => false)
  else z.oneCell' && (match zEat d [z] with | some [] => true | _ => false)
theorem zIs_ok {d : D} {z : Value} (h : zIs d z = true) (g : Ghost) (hp : Array Obj) : VOf d.isAgg (DFlat tt g hp d) z := by
  unfold zIs at h
  unfold VOf
  split at h
  · rename_i ha
    rw [if_pos ha]
    split at h
    · rename_i cs
      split at h
      · rename_i e
        obtain ⟨c1, h1, h2⟩ := zEat_ok (tt := tt) (g := g) (h := hp) d _ _ e
        exact ⟨cs, rfl, by rw [h1, List.append_nil]; exact h2⟩
      · cases h
    · cases h
  · rename_i ha
    rw [if_neg ha]
    simp only [Bool.and_eq_true] at h
    obtain ⟨h0, h⟩ := h
    split at h
    · rename_i e
      obtain ⟨c1, h1, h2⟩ := zEat_ok (tt := tt) (g := g) (h := hp) d _ _ e
      rw [List.append_nil] at h1
      rw [← h1] at h2
      exact ⟨h2, h0⟩
    · cases h
def isOther : TD → Bool
  | .other => true
  | _ => false
theorem isOther_iff (td : TD) : isOther td = true ↔ td = .other := by cases td <;> simp [isOther]
/-- Is what the table says of a type so? -/
def tiCheck (P : Program) (tt : TT) (t : TypeId) : Bool :=
  isOther (tt t).td || (
    (match P.info? t with | some i => (match i.zero with | some z => zIs (tt t).zero z | none => false) | none => false) &&
    (tt t).zero.size == (tt t).size && (tt t).zero.isAgg == (tt t).td.isAgg && ((tt t).td.isAgg || (tt t).size == 1) && (tt t).td.kids.all (fun e => !isOther (tt e).td) &&
    (match (tt t).td with
      | .struct fs => layOk tt 0 fs (zlist (tt t).zero) && !P.stoodInHeld t && !P.eqGuardType P.depth t
      | .arr n e => (zlist (tt t).zero).length == n && (zlist (tt t).zero).all (fun d => d.size == (tt e).size)
      | _ => true))
theorem ttOf_ok {P : Program} {bad : List TypeId} (n : Nat) (h : (List.range n).all (tiCheck P (ttOf P n bad)) = true) : TTok P (ttOf P n bad) := by
  intro t hto
  have hlt : t < n := by
    rcases Nat.lt_or_ge t n with h' | h'
    · exact h'
    · exfalso
      apply hto
      unfold ttOf
      rw [if_pos (by rw [Nat.ble_eq_true_of_le h']; rfl)]
      rfl
  have hc := List.all_eq_true.1 h t (List.mem_range.2 hlt)
  unfold tiCheck at hc
  rw [Bool.or_eq_true, isOther_iff] at hc
  have hc := hc.resolve_left hto
  simp only [Bool.and_eq_true] at hc
  obtain ⟨⟨⟨⟨⟨h1, h2⟩, h3⟩, h4⟩, h5⟩, h6⟩ := hc
  have hex : ∃ d i, P.underlying t = some d ∧ P.info? t = some i ∧ ttOf P n bad t = ⟨tdOf d, i.size, i.bytes, zeroOf P 9 t⟩ := by
    unfold ttOf at hto ⊢
    split at hto
    · exact absurd rfl hto
    · rename_i hb
      rw [if_neg hb]
      cases hu : P.underlying t with
      | none => rw [hu] at hto; exact absurd rfl hto
      | some d =>
        cases hi : P.info? t with
        | none => rw [hu, hi] at hto; exact absurd rfl hto
        | some i => exact ⟨d, i, rfl, rfl, rfl⟩
  obtain ⟨d, i, hu, hi, hte⟩ := hex
  refine ⟨?_, by simpa using h2, by simpa using h3, ?_, ?_, ?_, ?_, ?_⟩
  · rw [hi] at h1
    simp only at h1
    split at h1
    · rename_i z hz
      refine ⟨d, i, z, hu, ?_, hi, by rw [hte], by rw [hte], hz, fun g hp => zIs_ok h1 g hp⟩
      rw [hte] at hto ⊢
      exact tdOf_rel d hto
    · cases h1
  · intro ha
    simpa [ha] using h4
  · intro e he hk
    have := List.all_eq_true.1 h5 e he
    simp [hk, isOther] at this
  · intro fs hfs
    rw [hfs] at h6
    simp only [Bool.and_eq_true] at h6
    exact h6.1.1
  · intro fs hfs
    rw [hfs] at h6
    simp only [Bool.and_eq_true, Bool.not_eq_true'] at h6
    exact ⟨h6.1.2, h6.2⟩
  · intro m e hfs
    rw [hfs] at h6
    simp only [Bool.and_eq_true, beq_iff_eq] at h6
    exact ⟨h6.1, fun d hd => by simpa using List.all_eq_true.1 h6.2 d hd⟩
end
end Go.Cl
