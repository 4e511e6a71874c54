/-
  THE CLEAN MACHINE, part 16: a machine of values by name that the model follows; each law here says that a step of the model does what the clean machine says. Nothing here speaks of this program.
-/
import Derived.Test.YtcpdjpifbjjaaaaGreatDoorC15
import Derived.Scope
set_option linter.unusedVariables false
set_option linter.unusedSimpArgs false
namespace Go.Cl
open Go.RowKit (Below)
section
variable {P : Program} {tt : TT}
-- WHAT IS LOOKED AT
theorem verIs_same {l l' : Look} {T id ver : Nat} (h : l' id = l id) : verIs l' T id ver = verIs l T id ver := by unfold verIs; rw [h]
theorem opLen_reads {l l' : Look} {t : TypeId} {x : D} {o : Out} (h : opLen tt l t x = some o) (hl : ∀ y ∈ o.reads, l' y.1 = l y.1) : opLen tt l' t x = some o := by
  unfold opLen at h ⊢
  split at h <;> try exact h
  try dsimp only at h ⊢
  split at h
  · split at h
    · rename_i e; cases h; rw [verIs_same (hl _ (List.mem_singleton.2 rfl)), e]
    · cases h
  · cases h
theorem opIndexAddr_reads {l l' : Look} {t : TypeId} {x y : D} {o : Out} (h : opIndexAddr tt l t x y = some o) (hl : ∀ y ∈ o.reads, l' y.1 = l y.1) : opIndexAddr tt l' t x y = some o := by
  unfold opIndexAddr at h ⊢
  split at h <;> try exact h
  try dsimp only at h ⊢
  split at h
  · split at h
    · split at h
      · rename_i e; cases h; rw [if_pos ‹_›, verIs_same (hl _ (List.mem_singleton.2 rfl)), e]
      · cases h
    · cases h
  · cases h
theorem opFieldAddr_reads {l l' : Look} {t : TypeId} {x : D} {f : Nat} {o : Out} (h : opFieldAddr tt l t x f = some o) (hl : ∀ y ∈ o.reads, l' y.1 = l y.1) : opFieldAddr tt l' t x f = some o := by
  unfold opFieldAddr at h ⊢
  split at h
  · split at h
    · split at h
      · cases h
      · rw [if_neg ‹_›]
        cases x <;> try exact h
        simp only at h ⊢
        split at h
        · rename_i e; cases h; rw [verIs_same (hl _ (List.mem_singleton.2 rfl)), e]
        · cases h
    · cases h
  · cases h
theorem opLoad_reads {l l' : Look} {t : TypeId} {x : D} {o : Out} (h : opLoad tt l t x = some o) (hl : ∀ y ∈ o.reads, l' y.1 = l y.1) : opLoad tt l' t x = some o := by
  unfold opLoad at h ⊢
  split at h
  · split at h
    · split at h
      · cases h
        rw [hl _ (List.mem_singleton.2 rfl)]
        simp only [*]
      · cases h
    · cases h
  · split at h
    · split at h
      · cases h
        rw [verIs_same (hl _ (List.mem_singleton.2 rfl))]
        simp only [*]
      · cases h
    · split at h
      · cases h
        rw [verIs_same (hl _ (List.mem_singleton.2 rfl))]
        simp only [*]
      · cases h
    · cases h
  · exact h
  · cases h
theorem opSlice_reads {l l' : Look} {t : TypeId} {x : D} {a b c : Option D} {o : Out} (h : opSlice tt l t x a b c = some o) (hl : ∀ y ∈ o.reads, l' y.1 = l y.1) : opSlice tt l' t x a b c = some o := by
  unfold opSlice at h ⊢
  split at h <;> try exact h
  try dsimp only at h ⊢
  split at h
  · split at h
    · rw [if_pos ‹_›]
      split at h
      · rename_i T id ver off _ _ _ _ _ _ _ o0 e
        have key : ∀ {z : Out}, z = o → z.reads = [(id, o0)] → verIs l' T id ver = some o0 := by
          rintro z rfl hz
          rw [verIs_same (hl (id, o0) (by rw [hz]; simp)), e]
        split at h
        · split at h
          · rw [key (Option.some.inj h) rfl]
            simp only [*]
          · split at h
            · rw [key (Option.some.inj h) rfl]
              simp only [*]
            · cases h
        · cases h
      · cases h
    · cases h
  · cases h
theorem upO_reads {x y : Option Out} {r : Out2} (h : ∀ o, x = some o → (∀ z ∈ o.reads, z ∈ r.reads) → y = some o) (hd : upO x = some (.val r)) : upO y = some (.val r) := by
  obtain ⟨out, h1, h2⟩ := upO_eff hd
  rw [h out h1 (by rw [h2]; exact fun z hz => hz)]
  rw [h1] at hd
  exact hd
theorem clOp_reads {l l' : Look} {nid : Nat} {slots : List D} {o : Oper} (hc : clsR o.op = true) {r : Out2} (h : clOp tt l nid slots o = some (.val r)) (hl : ∀ y ∈ r.reads, l' y.1 = l y.1) : clOp tt l' nid slots o = some (.val r) := by
  obtain ⟨dst, op, ty, pos, after, guard⟩ := o
  unfold clOp at h ⊢
  cases op <;> simp only [clsR, Bool.false_eq_true] at hc <;> dsimp only at h ⊢ <;> try exact h
  case load => exact upO_reads (fun o ho hz => by
    unfold ifTd at ho ⊢
    split at ho
    · cases ho
    · exact opLoad_reads ho fun y hy => hl y (hz y hy)) h
  case slice =>
    split at h
    · rw [if_pos ‹_›]; exact upO_reads (fun o ho hz => opSlice_reads ho fun y hy => hl y (hz y hy)) h
    · cases h
  case fieldAddr => exact upO_reads (fun o ho hz => opFieldAddr_reads ho fun y hy => hl y (hz y hy)) h
  case indexAddr => exact upO_reads (fun o ho hz => opIndexAddr_reads ho fun y hy => hl y (hz y hy)) h
  case call c =>
    obtain ⟨callee, args, ats⟩ := c
    cases callee with
    | builtin b =>
      cases b <;> simp only [Bool.false_eq_true] at hc
      simp only [doBuiltin] at h ⊢
      split at h
      · exact upO_reads (fun o ho hz => opLen_reads ho fun y hy => hl y (hz y hy)) h
      · cases h
    | _ => simp only [Bool.false_eq_true] at hc
-- THE SAME OBJECT?
mutual
def pvEq : Pv → Pv → Bool
  | .bool a, q => match q with | .bool b => a == b | _ => false
  | .int k a, q => match q with | .int k' b => decide (k = k') && a == b | _ => false
  | .flt k a, q => match q with | .flt k' b => decide (k = k') && a == b | _ => false
  | .str a, q => match q with | .str b => decide (a = b) | _ => false
  | .agg ps, q => match q with | .agg qs => pvEqL ps qs | _ => false
  | .sl T ps, q => match q with | .sl T' qs => T == T' && pvEqL ps qs | _ => false
  | .nilp, q => match q with | .nilp => true | _ => false
  | .nilf, q => match q with | .nilf => true | _ => false
  | .nili, q => match q with | .nili => true | _ => false
  | .nilm, q => match q with | .nilm => true | _ => false
def pvEqL : List Pv → List Pv → Bool
  | [], q => match q with | [] => true | _ => false
  | p :: ps, q => match q with | p' :: qs => pvEq p p' && pvEqL ps qs | [] => false
end
mutual
theorem pvEq_ok : ∀ (p q : Pv), pvEq p q = true → p = q
  | .bool a, q, h => by cases q <;> simp_all [pvEq]
  | .int k a, q, h => by cases q <;> simp_all [pvEq]
  | .flt k a, q, h => by cases q <;> simp_all [pvEq]
  | .str a, q, h => by cases q <;> simp_all [pvEq]
  | .agg ps, q, h => by
    cases q <;> simp only [pvEq, Bool.false_eq_true] at h
    rw [pvEqL_ok ps _ h]
  | .sl T ps, q, h => by
    cases q <;> simp only [pvEq, Bool.false_eq_true, Bool.and_eq_true, beq_iff_eq] at h
    rw [h.1, pvEqL_ok ps _ h.2]
  | .nilp, q, h => by cases q <;> simp_all [pvEq]
  | .nilf, q, h => by cases q <;> simp_all [pvEq]
  | .nili, q, h => by cases q <;> simp_all [pvEq]
  | .nilm, q, h => by cases q <;> simp_all [pvEq]
theorem pvEqL_ok : ∀ (p q : List Pv), pvEqL p q = true → p = q
  | [], q, h => by cases q <;> simp_all [pvEqL]
  | p :: ps, q, h => by
    cases q <;> simp only [pvEqL, Bool.false_eq_true, Bool.and_eq_true] at h
    rw [pvEq_ok p _ h.1, pvEqL_ok ps _ h.2]
end
mutual
def dEq : D → D → Bool
  | .pv p, e => match e with | .pv q => pvEq p q | _ => false
  | .agg ds, e => match e with | .agg es => dEqL ds es | _ => false
  | .nilsl T, e => match e with | .nilsl T' => T == T' | _ => false
  | .own T id ver off len lim, e => match e with | .own T' id' ver' off' len' lim' => decide (T = T' ∧ id = id' ∧ ver = ver' ∧ off = off' ∧ len = len' ∧ lim = lim') | _ => false
  | .cptr id off, e => match e with | .cptr id' off' => decide (id = id' ∧ off = off') | _ => false
  | .aptr T id ver i off, e => match e with | .aptr T' id' ver' i' off' => decide (T = T' ∧ id = id' ∧ ver = ver' ∧ i = i' ∧ off = off') | _ => false
  | .sptr T ps i off, e => match e with | .sptr T' qs i' off' => decide (T = T' ∧ i = i' ∧ off = off') && pvEqL ps qs | _ => false
  | .map id, e => match e with | .map id' => id == id' | _ => false
  | .fn f a b, e => match e with | .fn f' a' b' => f == f' && dEqL a a' && dEqL b b' | _ => false
  | .iface T d, e => match e with | .iface T' d' => T == T' && dEq d d' | _ => false
  | .tup ds, e => match e with | .tup es => dEqL ds es | _ => false
  | .ite t d, e => match e with | .ite t' d' => t == t' && dEq d d' | _ => false
  | .junk, e => match e with | .junk => true | _ => false
def dEqL : List D → List D → Bool
  | [], q => match q with | [] => true | _ => false
  | p :: ps, q => match q with | p' :: qs => dEq p p' && dEqL ps qs | [] => false
end
mutual
theorem dEq_ok : ∀ (d e : D), dEq d e = true → d = e
  | .pv p, e, h => by
    cases e <;> simp only [dEq, Bool.false_eq_true] at h
    rw [pvEq_ok _ _ h]
  | .agg ds, e, h => by
    cases e <;> simp only [dEq, Bool.false_eq_true] at h
    rw [dEqL_ok _ _ h]
  | .nilsl T, e, h => by cases e <;> simp_all [dEq]
  | .own .., e, h => by cases e <;> simp_all [dEq]
  | .cptr .., e, h => by cases e <;> simp_all [dEq]
  | .aptr .., e, h => by cases e <;> simp_all [dEq]
  | .sptr T ps i off, e, h => by
    cases e <;> simp only [dEq, Bool.false_eq_true, Bool.and_eq_true, decide_eq_true_eq] at h
    obtain ⟨⟨rfl, rfl, rfl⟩, h2⟩ := h
    rw [pvEqL_ok _ _ h2]
  | .map _, e, h => by cases e <;> simp_all [dEq]
  | .fn f a b, e, h => by
    cases e <;> simp only [dEq, Bool.false_eq_true, Bool.and_eq_true, beq_iff_eq] at h
    rw [h.1.1, dEqL_ok _ _ h.1.2, dEqL_ok _ _ h.2]
  | .iface T d, e, h => by
    cases e <;> simp only [dEq, Bool.false_eq_true, Bool.and_eq_true, beq_iff_eq] at h
    rw [h.1, dEq_ok _ _ h.2]
  | .tup ds, e, h => by
    cases e <;> simp only [dEq, Bool.false_eq_true] at h
    rw [dEqL_ok _ _ h]
  | .ite t d, e, h => by
    cases e <;> simp only [dEq, Bool.false_eq_true, Bool.and_eq_true, beq_iff_eq] at h
    rw [h.1, dEq_ok _ _ h.2]
  | .junk, e, h => by cases e <;> simp_all [dEq]
theorem dEqL_ok : ∀ (p q : List D), dEqL p q = true → p = q
  | [], q, h => by cases q <;> simp_all [dEqL]
  | p :: ps, q, h => by
    cases q <;> simp only [dEqL, Bool.false_eq_true, Bool.and_eq_true] at h
    rw [dEq_ok p _ h.1, dEqL_ok ps _ h.2]
end
def objEq : CObj → CObj → Bool
  | .cell d, e => match e with | .cell d' => dEq d d' | _ => false
  | .arr T v ds, e => match e with | .arr T' v' es => decide (T = T' ∧ v = v') && dEqL ds es | _ => false
  | .parr T v ps, e => match e with | .parr T' v' qs => decide (T = T' ∧ v = v') && pvEqL ps qs | _ => false
  | .mapo .., _ => false
  | .dead, e => match e with | .dead => true | _ => false
  | .free, e => match e with | .free => true | _ => false
theorem objEq_ok (o e : CObj) (h : objEq o e = true) : o = e := by
  cases o <;> cases e <;> simp only [objEq, Bool.false_eq_true, Bool.and_eq_true, decide_eq_true_eq] at h
  · rw [dEq_ok _ _ h]
  · obtain ⟨⟨rfl, rfl⟩, h2⟩ := h; rw [dEqL_ok _ _ h2]
  · obtain ⟨⟨rfl, rfl⟩, h2⟩ := h; rw [pvEqL_ok _ _ h2]
  · rfl
  · rfl
-- CODE
section loops
variable {Q : Exit → Act → World → Prop}
/-- A loop, at the head of a round. -/
def LoopWp (P : Program) (c : Code) (Q : Exit → Act → World → Prop) (a : Act) (w : World) : Prop :=
  ∀ (b : Frame) (k : List Item) (cs : List Frame), ∃ e a' w', Q e a' w' ∧ Arrives P (lone (b.at a (.code c :: .inLoop c :: k)) cs w) b k cs e a' w'
theorem loop_of {c : Code} {a : Act} {w : World} (h : LoopWp P c Q a w) : (Code.loop c).wp P Q a w := fun b k cs =>
  let ⟨e, a', w', hq, harr⟩ := h b k cs
  ⟨e, a', w', hq, .of_steps (.one step_loop) harr⟩
theorem LoopWp.mono {c : Code} {Q' : Exit → Act → World → Prop} {a : Act} {w : World} (h : LoopWp P c Q a w) (hq : ∀ e a w, Q e a w → Q' e a w) : LoopWp P c Q' a w := fun b k cs =>
  let ⟨e, a', w', q, r⟩ := h b k cs
  ⟨e, a', w', hq _ _ _ q, r⟩
theorem loop_step {c : Code} {a : Act} {w : World} (h : c.wp P (Exit.then (LoopWp P c Q) Q) a w) : LoopWp P c Q a w := by
  intro b k cs
  obtain ⟨e, a₁, w₁, hq, harr⟩ := h b (.inLoop c :: k) cs
  cases e with
  | normal =>
    obtain ⟨e₂, a₂, w₂, hq₂, harr₂⟩ := hq b k cs
    exact ⟨e₂, a₂, w₂, hq₂, .of_steps (Steps.trans harr (.one step_inLoop)) harr₂⟩
  | exit id => exact ⟨_, a₁, w₁, hq, .pass (x := .inLoop c) rfl (fun _ _ => .inl (by simp)) harr⟩
  | goto l => exact ⟨_, a₁, w₁, hq, .pass (x := .inLoop c) rfl (fun _ _ => .inl (by simp)) harr⟩
  | ret => exact ⟨_, a₁, w₁, hq, .pass (x := .inLoop c) rfl (fun _ _ => .inl (by simp)) harr⟩
  | panic ch => exact ⟨_, a₁, w₁, hq, .pass (x := .inLoop c) rfl (fun _ _ => .inl (by simp)) harr⟩
  | outgrown => exact ⟨_, a₁, w₁, hq, .pass (x := .inLoop c) rfl (fun _ _ => .inl (by simp)) harr⟩
end loops
abbrev Caller := FuncId → List D → List CObj → Option (D × List CObj)
def freeOk (H : List CObj) (nid : Nat) (op : Op) : Bool := if isAlloc op = true then (match H[nid]? with | some .free => true | _ => false) else true
theorem freeOk_spec {H : List CObj} {nid : Nat} {op : Op} (h : freeOk H nid op = true) (ha : isAlloc op = true) : H[nid]? = some .free := by
  unfold freeOk at h
  rw [if_pos ha] at h
  exact fr_spec.1 h
/-- What a slot gets of an operation that is passed over. -/
def missed (o : Oper) (d : Option Doing) : D :=
  match d with
  | some (.val r) => if r.quiet = true then mkIte o.guard false r.v else .ite false .junk
  | _ => .ite false .junk
/-- The operations of a region, one by one. -/
def clOps (tt : TT) (call : Caller) (L : Looks) (ops : List Oper) (base : Nat) : List Nat → St → Option St
  | [], s => some s
  | i :: l, s => match ops[i]? with
    | none => clOps tt call L ops base l s
    | some o => match guardC ops s.slots o.guard with
      | none => none
      | some false => clOps tt call L ops base l (s.put o.dst (missed o (clOp tt (L o s.heap) (nidAt ops base i) s.slots o)))
      | some true => if opsOk tt s.slots o = true then match clOp tt (L o s.heap) (nidAt ops base i) s.slots o with
          | none => none
          | some (.val r) => if r.side then
              if freeOk s.heap (nidAt ops base i) o.op = true then
                if r.quiet = true then clOps tt call L ops base l (s.put o.dst (mkIte o.guard true r.v)) else clOps tt call L ops base l ⟨putD s.slots o.dst r.v, r.eff.app (killH r.kills s.heap)⟩
              else none
            else none
          | some (.call f ds) => match call f ds s.heap with
            | some (d, H') => clOps tt call L ops base l ⟨putD s.slots o.dst d, H'⟩
            | none => none
        else none
theorem clOps_sound {call : Caller} (hcall : ∀ f ds H d H', call f ds H = some (d, H') → EvK P tt f ds H fun d1 H1 => d1 = d ∧ H1 = H') {L : Looks} {ops : List Oper} {base : Nat} : ∀ (l : List Nat) (s s' : St), clOps tt call L ops base l s = some s' →
    wIdx P tt L ops base l (fun s1 => s1 = s') s
  | [], s, s', h => by simp only [clOps, Option.some.injEq] at h; exact h
  | i :: l, s, s', h => by
    unfold clOps at h
    unfold wIdx wOp
    split at h
    · rename_i e; rw [e]; exact clOps_sound hcall l s s' h
    · rename_i o e
      rw [e]
      simp only
      split at h
      · cases h
      · rename_i hg
        rw [hg]
        simp only
        have hs := clOps_sound hcall l _ s' h
        split
        · rename_i hd; rw [hd] at hs; exact ⟨trivial, hs⟩
        · rename_i r hd
          rw [hd] at hs
          refine ⟨fun e => (by cases e), ?_⟩
          simp only [missed] at hs
          split
          · rename_i hq; rw [if_pos hq] at hs; exact hs
          · rename_i hq; rw [if_neg hq] at hs; exact ⟨fun e => (by cases e), fun _ => hs⟩
        · rename_i hd; rw [hd] at hs; exact ⟨fun e => (by cases e), fun _ => hs⟩
      · rename_i hg
        rw [hg]
        simp only
        split at h
        · rename_i hok
          split at h
          · cases h
          · rename_i r hd
            rw [hd]
            simp only
            split at h
            · rename_i hside
              split at h
              · rename_i hal
                refine ⟨fun _ => ⟨hok, hside, freeOk_spec hal⟩, ?_⟩
                · split at h
                  · rename_i hq; rw [if_pos hq]; exact clOps_sound hcall l _ s' h
                  · rename_i hq; rw [if_neg hq]; exact ⟨fun _ => clOps_sound hcall l _ s' h, fun e => (by cases e)⟩
              · cases h
            · cases h
          · rename_i f ds hd
            rw [hd]
            simp only
            split at h
            · rename_i d H' hc
              refine ⟨fun _ => ⟨hok, (hcall _ _ _ _ _ hc).mono ?_⟩, fun e => (by cases e)⟩
              rintro d1 H1 ⟨rfl, rfl⟩
              exact clOps_sound hcall l _ s' h
            · cases h
        · cases h
def sameAt (H H' : List CObj) (id : Nat) : Bool :=
  match H[id]?, H'[id]? with
  | some a, some b => objEq a b
  | none, none => true
  | _, _ => false
theorem sameAt_ok {H H' : List CObj} {id : Nat} (h : sameAt H H' id = true) : H[id]? = H'[id]? := by
  unfold sameAt at h
  split at h
  · rename_i a b e1 e2; rw [e1, e2, objEq_ok a b h]
  · rename_i e1 e2; rw [e1, e2]
  · cases h
def rdOf (tt : TT) (ops : List Oper) (base i : Nat) (s : St) : List Nat :=
  match ops[i]? with
  | some o => if clsR o.op = true then (match clOp tt (lk s.heap) (nidAt ops base i) s.slots o with | some (.val r) => r.reads.map (·.1) | _ => []) else []
  | none => []
def chOf (keep : Nat → Bool) (base i : Nat) (s s' : St) : List Nat := if keep i = true then (List.range base).filter (fun id => !sameAt s.heap s'.heap id) else []
/-- A region whose order is open, in the text's order: what comes of it, what was looked at, what turned. -/
def clOpsD (tt : TT) (call : Caller) (keep : Nat → Bool) (ops : List Oper) (base : Nat) : List Nat → St → Option (St × List Nat × List Nat)
  | [], s => some (s, [], [])
  | i :: l, s => match clOps tt call lkAll ops base [i] s with
    | none => none
    | some s' => match clOpsD tt call keep ops base l s' with
      | none => none
      | some (s2, rd, ch) => some (s2, rdOf tt ops base i s ++ rd, chOf keep base i s s' ++ ch)
theorem wOp_looks {S : Nat → Bool} {ops : List Oper} {base i : Nat} {K : St → Prop} {s : St} (hrd : ∀ id ∈ rdOf tt ops base i s, id < base ∧ S id = true) (h : wOp P tt lkAll ops base i K s) : wOp P tt (lkBase base S) ops base i K s := by
  unfold wOp at h ⊢
  cases ho : ops[i]? with
  | none => rw [ho] at h; exact h
  | some o =>
    rw [ho] at h
    simp only at h ⊢
    by_cases hc : clsR o.op = true
    · have hd : clOp tt (lkBase base S o s.heap) (nidAt ops base i) s.slots o = clOp tt (lkAll o s.heap) (nidAt ops base i) s.slots o := by
        have hsub : ∀ id x, lkBase base S o s.heap id = some x → lkAll o s.heap id = some x := by
          intro id x hx
          unfold lkBase at hx
          rw [if_pos hc] at hx
          split at hx
          · exact hx
          · cases hx
        cases hcl : clOp tt (lkAll o s.heap) (nidAt ops base i) s.slots o with
        | none =>
          cases hcl2 : clOp tt (lkBase base S o s.heap) (nidAt ops base i) s.slots o with
          | none => rfl
          | some d => rw [clOp_mono hsub hc hcl2] at hcl; cases hcl
        | some d =>
          cases d with
          | call f ds => exact absurd hcl (no_call (.inr hc))
          | val r =>
            refine clOp_reads hc hcl fun y hy => ?_
            have : y.1 ∈ rdOf tt ops base i s := by
              unfold rdOf
              rw [ho]
              simp only
              rw [if_pos hc, show clOp tt (lk s.heap) (nidAt ops base i) s.slots o = some (.val r) from hcl]
              exact List.mem_map.2 ⟨y, hy, rfl⟩
            unfold lkBase
            rw [if_pos hc, if_pos (hrd _ this)]
            rfl
      rw [hd]; exact h
    · have : lkBase base S o s.heap = lkAll o s.heap := by unfold lkBase; rw [if_neg hc]; rfl
      rw [this]; exact h
theorem clOpsD_sound {call : Caller} (hcall : ∀ f ds H d H', call f ds H = some (d, H') → EvK P tt f ds H fun d1 H1 => d1 = d ∧ H1 = H') {S keep : Nat → Bool} {ops : List Oper} {base : Nat} : ∀ (l : List Nat) (s s2 : St) (rd ch : List Nat), clOpsD tt call keep ops base l s = some (s2, rd, ch) →
    (∀ id ∈ rd, id < base ∧ S id = true) → (∀ id, S id = true → id ∉ ch) → wIdxS P tt S keep ops base l (fun s1 => s1 = s2) s
  | [], s, s2, rd, ch, h, _, _ => by simp only [clOpsD, Option.some.injEq, Prod.mk.injEq] at h; exact h.1
  | i :: l, s, s2, rd, ch, h, hrd, hch => by
    simp only [clOpsD] at h
    split at h
    · cases h
    · rename_i s' h1
      split at h
      · cases h
      · rename_i s2' rd' ch' h2
        cases h
        have hw : wOp P tt lkAll ops base i (fun s1 => s1 = s') s := clOps_sound hcall [i] s s' h1
        have hr := clOpsD_sound hcall (S := S) l s' s2 rd' ch' h2 (fun id hid => hrd id (by simp [hid])) (fun id hid hc => hch id hid (by simp [hc]))
        unfold wIdxS wOpS
        refine wOp_looks (fun id hid => hrd id (by simp [hid])) (wOp_mono ?_ hw)
        rintro s1 rfl
        refine ⟨fun hk id hlt hS => ?_, hr⟩
        have hn := hch id hS
        simp only [chOf, hk, if_true, List.mem_append, List.mem_filter, List.mem_range, hlt, true_and, not_or] at hn
        have : sameAt s.heap s1.heap id = true := by
          have := hn.1
          simpa using this
        exact (sameAt_ok this).symm
def fitD (base : Nat) (rd ch : List Nat) : Bool := rd.all fun id => decide (id < base) && !ch.contains id
noncomputable def clCode (tt : TT) (call : Caller) (fuel : Nat) : Code → St → Option (Exit × St) :=
  Nat.rec (motive := fun _ => Code → St → Option (Exit × St)) (fun _ _ => none) (fun _ ih c s =>
    match c with
    | .skip => some (.normal, s)
    | .label _ => some (.normal, s)
    | .seq a b => match ih a s with
      | some (.normal, s') => ih b s'
      | r => r
    | .cond x a b => match evalD tt s.slots 0 x with
      | .pv (.bool true) => ih a s
      | .pv (.bool false) => ih b s
      | _ => none
    | .block id b => match ih b s with
      | some (.exit id', s') => if id' = id then some (.normal, s') else some (.exit id', s')
      | r => r
    | .loop b => match ih b s with
      | some (.normal, s') => ih (.loop b) s'
      | r => r
    | .scope b => match ih b s with
      | some (.goto _, _) => none
      | r => r
    | .exit id => some (.exit id, s)
    | .goto l => some (.goto l, s)
    | .ret => some (.ret, s)
    | .region _ ops draw =>
      let s0 : St := ⟨s.slots, s.heap ++ List.replicate (ops.toList.countP fun o => isAlloc o.op) .free⟩
      if draw = true then
        if okDraw ops (List.range ops.size) = true then
          match clOpsD tt call (keepOf ops (ancs ops.toList)) ops.toList s.heap.length (List.range ops.size) s0 with
          | some (s', rd, ch) => if fitD s.heap.length rd ch = true then some (.normal, s') else none
          | none => none
        else none
      else match clOps tt call lkAll ops.toList s.heap.length (List.range ops.size) s0 with
        | some s' => some (.normal, s')
        | none => none
    | _ => none) fuel
theorem clCode_zero (call : Caller) (c : Code) (s : St) : clCode tt call 0 c s = none := rfl
def Ends (tt : TT) (g : Ghost) (w : World) (s : St) (e : Exit) (s' : St) : Exit → Act → World → Prop := fun e' a' w' => e' = e ∧ ∃ g', Rel tt g' a' w' s' ∧ Ext g w s.heap g' w' s'.heap
theorem clCode_sound (htt : TTok P tt) (hm : P.follows .mixedOrders = true) {call : Caller} (hcall : ∀ f ds H d H', call f ds H = some (d, H') → EvK P tt f ds H fun d1 H1 => d1 = d ∧ H1 = H') : ∀ (n : Nat),
    (∀ c s e s', clCode tt call n c s = some (e, s') → ∀ g a w, Rel tt g a w s → c.wp P (Ends tt g w s e s') a w) ∧
    (∀ c s e s', clCode tt call n (.loop c) s = some (e, s') → ∀ g a w, Rel tt g a w s → LoopWp P c (Ends tt g w s e s') a w) := by
  intro n
  induction n with
  | zero => exact ⟨fun c s e s' h => (by cases h), fun c s e s' h => (by cases h)⟩
  | succ n ih =>
    obtain ⟨ih1, ih2⟩ := ih
    have trans : ∀ {g g1 : Ghost} {w w1 : World} {s s1 : St} {e : Exit} {s' : St}, Ext g w s.heap g1 w1 s1.heap → ∀ e' a' w', Ends tt g1 w1 s1 e s' e' a' w' → Ends tt g w s e s' e' a' w' :=
      fun hx e' a' w' ⟨h1, g', h2, h3⟩ => ⟨h1, g', h2, hx.trans h3⟩
    have hloop : ∀ c s e s', clCode tt call (n + 1) (.loop c) s = some (e, s') → ∀ g a w, Rel tt g a w s → LoopWp P c (Ends tt g w s e s') a w := by
      intro c s e s' h g a w hr
      change (match clCode tt call n c s with
        | some (.normal, s') => clCode tt call n (.loop c) s'
        | r => r) = some (e, s') at h
      refine loop_step ?_
      split at h
      · rename_i s1 hb
        refine wp_mono (ih1 c s _ _ hb g a w hr) ?_
        rintro e' a' w' ⟨rfl, g1, hr1, hx1⟩
        exact (ih2 c s1 e s' h g1 a' w' hr1).mono (trans hx1)
      · rename_i hne
        refine wp_mono (ih1 c s _ _ h g a w hr) ?_
        rintro e' a' w' ⟨rfl, g1, hr1, hx1⟩
        cases e' with
        | normal => exact absurd h (hne _)
        | _ => exact ⟨rfl, g1, hr1, hx1⟩
    refine ⟨?_, hloop⟩
    intro c s e s' h g a w hr
    have stay : ∀ {e0 : Exit}, some (e0, s) = some (e, s') → Ends tt g w s e s' e0 a w := by
      intro e0 h
      cases h
      exact ⟨rfl, g, hr, Ext.refl _ _ _⟩
    cases c with
    | skip => exact wp_skip (stay h)
    | label l => exact wp_label (stay h)
    | exit id => exact wp_exit (stay h)
    | goto l => exact wp_goto (stay h)
    | ret => exact wp_ret (stay h)
    | rangeFunc f ps x y => cases h
    | scope b =>
      change (match clCode tt call n b s with
        | some (.goto _, _) => none
        | r => r) = some (e, s') at h
      refine wp_scope_straight ?_
      split at h
      · cases h
      · rename_i hne
        refine wp_mono (ih1 b s _ _ h g a w hr) ?_
        rintro e' a' w' ⟨rfl, g1, hr1, hx1⟩
        cases e' with
        | goto l => exact absurd h (hne _ _)
        | _ => exact ⟨rfl, g1, hr1, hx1⟩
    | refuse w => cases h
    | loop b => exact loop_of (hloop b s e s' h g a w hr)
    | seq x y =>
      change (match clCode tt call n x s with
        | some (.normal, s') => clCode tt call n y s'
        | r => r) = some (e, s') at h
      refine wp_seq ?_
      split at h
      · rename_i s1 hb
        refine wp_mono (ih1 x s _ _ hb g a w hr) ?_
        rintro e' a' w' ⟨rfl, g1, hr1, hx1⟩
        exact wp_mono (ih1 y s1 e s' h g1 a' w' hr1) (trans hx1)
      · rename_i hne
        refine wp_mono (ih1 x s _ _ h g a w hr) ?_
        rintro e' a' w' ⟨rfl, g1, hr1, hx1⟩
        cases e' with
        | normal => exact absurd h (hne _)
        | _ => exact ⟨rfl, g1, hr1, hx1⟩
    | cond x y z =>
      change (match evalD tt s.slots 0 x with
        | .pv (.bool true) => clCode tt call n y s
        | .pv (.bool false) => clCode tt call n z s
        | _ => none) = some (e, s') at h
      have hx := eval_sound (tt := tt) hr.slots 0 x
      split at h
      · rename_i hd
        rw [hd] at hx
        exact wp_cond_true (v_bool.1 hx) (ih1 y s e s' h g a w hr)
      · rename_i hd
        rw [hd] at hx
        exact wp_cond_false (v_bool.1 hx) (ih1 z s e s' h g a w hr)
      · cases h
    | block id b =>
      change (match clCode tt call n b s with
        | some (.exit id', s') => if id' = id then some (.normal, s') else some (.exit id', s')
        | r => r) = some (e, s') at h
      refine wp_block ?_
      split at h
      · rename_i id' s1 hb
        refine wp_mono (ih1 b s _ _ hb g a w hr) ?_
        rintro e' a' w' ⟨rfl, g1, hr1, hx1⟩
        split at h
        · rename_i hid
          cases h
          simp only [Exit.inBlock, hid, if_true]
          exact ⟨rfl, g1, hr1, hx1⟩
        · rename_i hid
          cases h
          simp only [Exit.inBlock, hid, if_false]
          exact ⟨rfl, g1, hr1, hx1⟩
      · rename_i hne
        refine wp_mono (ih1 b s _ _ h g a w hr) ?_
        rintro e' a' w' ⟨rfl, g1, hr1, hx1⟩
        cases e' with
        | exit id' => exact absurd h (hne _ _)
        | _ => exact ⟨rfl, g1, hr1, hx1⟩
    | region id ops draw =>
      have key : ∀ (L : Looks) (s1 : St), clOps tt call L ops.toList s.heap.length (List.range ops.size) ⟨s.slots, s.heap ++ List.replicate (ops.toList.countP fun o => isAlloc o.op) .free⟩ = some s1 → some (Exit.normal, s1) = some (e, s') →
          wIdx P tt L ops.toList s.heap.length (List.range ops.size) (fun s2 => s2 = s1) ⟨s.slots, s.heap ++ List.replicate (ops.toList.countP fun o => isAlloc o.op) .free⟩ := fun L s1 h _ => clOps_sound hcall _ _ _ h
      have hx0 : ∀ w0 : World, w0.os = w.os → w0.tape = w.tape → w0.output = w.output → w0.heap = w.heap → Rel tt g a w0 ⟨s.slots, s.heap ++ List.replicate (ops.toList.countP fun o => isAlloc o.op) .free⟩ ∧
          Ext g w s.heap g w0 (s.heap ++ List.replicate (ops.toList.countP fun o => isAlloc o.op) .free) := by
        intro w0 h1 h2 h3 h4
        refine ⟨⟨?_, ?_, hr.defers⟩, (Ext.drawn h1 h2 h3 h4).trans (Ext.reserve _ _ _ _)⟩
        · rw [h4]; exact hr.heap.reserve _
        · rw [h4]; exact hr.slots
      have fin : ∀ (s1 : St) (w0 : World), Ext g w s.heap g w0 (s.heap ++ List.replicate (ops.toList.countP fun o => isAlloc o.op) .free) → some (Exit.normal, s1) = some (e, s') → ∀ g' a' w' s2, Rel tt g' a' w' s2 →
          Ext g w0 (s.heap ++ List.replicate (ops.toList.countP fun o => isAlloc o.op) .free) g' w' s2.heap → s2 = s1 → Ends tt g w s e s' .normal a' w' := by
        rintro s1 w0 hx h g' a' w' s2 hr2 hx2 rfl
        cases h
        exact ⟨rfl, g', hr2, hx.trans hx2⟩
      cases draw with
      | true =>
        change (if okDraw ops (List.range ops.size) = true then
          match clOpsD tt call (keepOf ops (ancs ops.toList)) ops.toList s.heap.length (List.range ops.size) ⟨s.slots, s.heap ++ List.replicate (ops.toList.countP fun o => isAlloc o.op) .free⟩ with
          | some (s', rd, ch) => if fitD s.heap.length rd ch = true then some (.normal, s') else none
          | none => none
        else none) = some (e, s') at h
        split at h
        · rename_i hok
          split at h
          · rename_i s1 rd ch hs1
            split at h
            · rename_i hfit
              obtain ⟨hr0, hx0'⟩ := hx0 { w with drawn := w.drawn + 1 } rfl rfl rfl rfl
              refine wp_region_any hm (drawn_sound htt hok hr0 (clOpsD_sound (S := fun id => !ch.contains id) hcall _ _ _ _ _ hs1 (fun id hid => ?_) (fun id hid hc => ?_)) (fin s1 _ hx0' h))
              · have := List.all_eq_true.1 hfit id hid
                simpa using this
              · simp [hc] at hid
            · cases h
          · cases h
        · cases h
      | false =>
        change (match clOps tt call lkAll ops.toList s.heap.length (List.range ops.size) ⟨s.slots, s.heap ++ List.replicate (ops.toList.countP fun o => isAlloc o.op) .free⟩ with
          | some s' => some (.normal, s')
          | none => none) = some (e, s') at h
        split at h
        · rename_i s1 hs1
          obtain ⟨hr0, hx0'⟩ := hx0 w rfl rfl rfl rfl
          exact wp_region (wIdx_sound htt lkAll_ok _ hr0 (key _ _ hs1 h) (fin s1 _ hx0' h))
        · cases h
end
end Go.Cl
