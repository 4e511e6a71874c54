/-
  THE CLEAN MACHINE, part 13: a machine of values by name that the model follows; each law here says that a step of the model does what the clean machine says. Nothing here speaks of this program.
-/
import Derived.Test.YtcpdjpifbjjaaaaGreatDoorC12
set_option linter.unusedVariables false
set_option linter.unusedSimpArgs false
namespace Go.Cl
open Go.RowKit (Below)
section
variable {P : Program} {tt : TT}
-- REGIONS WHOSE ORDER IS OPEN
/-- What looks at objects sees those that were there ahead of the region. -/
def lkBase (base : Nat) (S : Nat → Bool) : Looks := fun o H => if clsR o.op = true then (fun id => if id < base ∧ S id = true then H[id]? else none) else lk H
theorem lkBase_ok (base : Nat) (S : Nat → Bool) : LooksOk (lkBase base S) := fun o H => by
  unfold lkBase
  by_cases h : clsR o.op = true
  · refine .inr ⟨h, fun id x hx => ?_⟩
    rw [if_pos h] at hx
    split at hx
    · exact hx
    · cases hx
  · exact .inl (if_neg h)
theorem EvK.congr {f : FuncId} {ds : List D} {H : List CObj} {K K' : D → List CObj → Prop} (hk : ∀ d H', K d H' → K' d H') (h : EvK P tt f ds H K) : EvK P tt f ds H K' := h.mono hk
theorem wOp_mono {L : Looks} {ops : List Oper} {base i : Nat} {K K' : St → Prop} (hk : ∀ s, K s → K' s) {s : St} (h : wOp P tt L ops base i K s) : wOp P tt L ops base i K' s := by
  unfold wOp at h ⊢
  split
  · rename_i e; rw [e] at h; exact hk _ h
  · rename_i o e
    rw [e] at h
    simp only at h
    split
    · rename_i e2; rw [e2] at h; exact h
    · rename_i c e2
      rw [e2] at h
      simp only at h
      split
      · rename_i e3; rw [e3] at h; exact ⟨h.1, hk _ h.2⟩
      · rename_i r e3
        rw [e3] at h
        simp only at h
        refine ⟨h.1, ?_⟩
        have h2 := h.2
        split
        · rename_i hq; rw [if_pos hq] at h2; exact hk _ h2
        · rename_i hq; rw [if_neg hq] at h2; exact ⟨fun e => hk _ (h2.1 e), fun e => hk _ (h2.2 e)⟩
      · rename_i f ds e3
        rw [e3] at h
        exact ⟨fun e => ⟨(h.1 e).1, (h.1 e).2.mono fun d H' => hk _⟩, fun e => hk _ (h.2 e)⟩
theorem wIdx_mono {L : Looks} {ops : List Oper} {base : Nat} {K K' : St → Prop} (hk : ∀ s, K s → K' s) : ∀ (l : List Nat) {s : St}, wIdx P tt L ops base l K s → wIdx P tt L ops base l K' s
  | [], s, h => hk s h
  | i :: l, s, h => wOp_mono (fun s hs => wIdx_mono hk l hs) h
/-- One operation of a region whose order is open: some leave what is looked at as it is. -/
def wOpS (P : Program) (tt : TT) (S keep : Nat → Bool) (ops : List Oper) (base i : Nat) (K : St → Prop) (s : St) : Prop :=
  wOp P tt (lkBase base S) ops base i (fun s' => (keep i = true → ∀ id, id < base → S id = true → s'.heap[id]? = s.heap[id]?) ∧ K s') s
def wIdxS (P : Program) (tt : TT) (S keep : Nat → Bool) (ops : List Oper) (base : Nat) : List Nat → (St → Prop) → St → Prop
  | [], K, s => K s
  | i :: l, K, s => wOpS P tt S keep ops base i (wIdxS P tt S keep ops base l K) s
theorem wOpS_mono {S keep : Nat → Bool} {ops : List Oper} {base i : Nat} {K K' : St → Prop} (hk : ∀ s, K s → K' s) {s : St} (h : wOpS P tt S keep ops base i K s) : wOpS P tt S keep ops base i K' s :=
  wOp_mono (fun s' h' => ⟨h'.1, hk s' h'.2⟩) h
-- what an operation depends on
theorem clOp_congr {l : Look} {nid : Nat} {slots slots' : List D} {o : Oper} (h : ∀ x ∈ o.op.operands.toList, ∀ t, evalD tt slots t x = evalD tt slots' t x) : clOp tt l nid slots o = clOp tt l nid slots' o := by
  obtain ⟨dst, op, ty, pos, after, guard⟩ := o
  have pairs : ∀ (ps : Array (Nat × Operand)) (t : Nat → TypeId), (∀ x ∈ (ps.toList.map (·.2)), ∀ t, evalD tt slots t x = evalD tt slots' t x) →
      (ps.toList.map fun p => (p.1, (evalD tt slots (t p.1) p.2).strip)) = ps.toList.map fun p => (p.1, (evalD tt slots' (t p.1) p.2).strip) := fun ps t hp =>
    List.map_congr_left fun p hm => by simp only [hp p.2 (List.mem_map.2 ⟨p, hm, rfl⟩)]
  have opt : ∀ (o : Option Operand), (∀ x, o = some x → ∀ t, evalD tt slots t x = evalD tt slots' t x) → o.map (fun x => (evalD tt slots 0 x).strip) = o.map fun x => (evalD tt slots' 0 x).strip := by
    intro o ho
    cases o with
    | none => rfl
    | some x => simp [ho x rfl]
  unfold clOp
  cases op <;> simp only [Op.operands] at h <;> dsimp only
  case move x => rw [h x (by simp)]
  case assign x => rw [h x (by simp)]
  case pick a b c => rw [h a (by simp), h b (by simp), h c (by simp)]
  case box t x => rw [h x (by simp)]
  case build t ps => rw [pairs ps _ (by simpa using h)]
  case buildSlice t n ps => rw [pairs ps _ (by simpa using h)]
  case load t x => rw [h x (by simp)]
  case store t x y => rw [h x (by simp), h y (by simp)]
  case nilCheck x => rw [h x (by simp)]
  case binOp op t x y u => rw [h x (by simp), h y (by simp)]
  case unOp op t x => rw [h x (by simp)]
  case convert s t x => rw [h x (by simp)]
  case makeFunc fn a b =>
    cases fn with
    | func f =>
      dsimp only
      have ha : a.toList.map (fun x => (evalD tt slots 0 x).strip) = a.toList.map fun x => (evalD tt slots' 0 x).strip := List.map_congr_left fun x hx => by rw [h x (by simp only [Array.toList_append, List.mem_append]; exact .inl hx)]
      have hb : b.toList.map (fun x => (evalD tt slots 0 x).strip) = b.toList.map fun x => (evalD tt slots' 0 x).strip := List.map_congr_left fun x hx => by rw [h x (by simp only [Array.toList_append, List.mem_append]; exact .inr hx)]
      have hc : (a.toList ++ b.toList).all (fun x => (evalD tt slots 0 x).strip.plain) = (a.toList ++ b.toList).all fun x => (evalD tt slots' 0 x).strip.plain := by
        rw [Bool.eq_iff_iff]
        simp only [List.all_eq_true]
        constructor
        · intro hh x hx; rw [← h x (by simpa using hx)]; exact hh x hx
        · intro hh x hx; rw [h x (by simpa using hx)]; exact hh x hx
      rw [ha, hb, hc]
    | _ => rfl
  case makeSlice t x y => rw [h x (by simp), h y (by simp)]
  case slice t x lo hi mx => rw [h x (by simp), opt lo fun y hy => h y (by subst hy; simp), opt hi fun y hy => h y (by subst hy; simp), opt mx fun y hy => h y (by subst hy; simp)]
  case fieldAddr t x f => rw [h x (by simp)]
  case field t x f => rw [h x (by simp)]
  case indexAddr t x y => rw [h x (by simp), h y (by simp)]
  case index t x y => rw [h x (by simp), h y (by simp)]
  case extract x i => rw [h x (by simp)]
  case call c =>
    obtain ⟨callee, args, ats⟩ := c
    have hm : args.toList.mapIdx (fun i x => (evalD tt slots (ats.getD i 0) x).strip) = args.toList.mapIdx fun i x => (evalD tt slots' (ats.getD i 0) x).strip := by
      apply List.ext_getElem (by simp)
      intro i h1 h2
      simp only [List.getElem_mapIdx]
      rw [h _ (by simp [Call.operands])]
    cases callee with
    | builtin b => dsimp only; rw [hm]
    | value f => dsimp only; rw [hm, h f (by simp [Call.operands])]
    | invoke r m => rfl
theorem opsOk_congr {slots slots' : List D} {o : Oper} (h : ∀ x ∈ o.op.operands.toList, ∀ t, evalD tt slots t x = evalD tt slots' t x) : opsOk tt slots o = opsOk tt slots' o := by
  have key : o.op.operands.toList.all (fun x => (evalD tt slots 0 x).cond) = o.op.operands.toList.all fun x => (evalD tt slots' 0 x).cond := by
    rw [Bool.eq_iff_iff]
    simp only [List.all_eq_true]
    constructor
    · intro hh x hx; rw [← h x hx]; exact hh x hx
    · intro hh x hx; rw [h x hx]; exact hh x hx
  unfold opsOk
  split <;> first | rfl | exact key
theorem clOp_P {l l' : Look} {nid nid' : Nat} {slots : List D} {o : Oper} (hc : clsP o.op = true) : clOp tt l nid slots o = clOp tt l' nid' slots o := by
  obtain ⟨dst, op, ty, pos, after, guard⟩ := o
  unfold clOp
  cases op <;> simp only [clsP, Bool.false_eq_true] at hc <;> try rfl
  case makeFunc fn _ _ => cases fn <;> rfl
  case call c =>
    obtain ⟨callee, args, ats⟩ := c
    cases callee with
    | builtin b => cases b <;> simp only [Bool.false_eq_true] at hc <;> rfl
    | _ => simp only [Bool.false_eq_true] at hc
theorem evalD_put {slots : List D} {dst : Option Tmp} {d : D} {x : Operand} (h : ∀ t, dst = some t → x ≠ .tmp t) (u : TypeId) : evalD tt (putD slots dst d) u x = evalD tt slots u x := by
  cases dst with
  | none => rfl
  | some t =>
    cases x with
    | tmp i =>
      have hne : t ≠ i := fun e => h t rfl (e ▸ rfl)
      simp [evalD, putD, List.getD_eq_getElem?_getD, List.getElem?_set_ne hne]
    | _ => rfl
theorem putD_comm (slots : List D) {a b : Option Tmp} (x y : D) (h : ∀ t, a = some t → b ≠ some t) : putD (putD slots a x) b y = putD (putD slots b y) a x := by
  cases a with
  | none => rfl
  | some t =>
    cases b with
    | none => rfl
    | some u =>
      have hne : t ≠ u := fun e => h t rfl (e ▸ rfl)
      exact List.set_comm _ _ hne
/-- What an operation is about to do. -/
structure View where
  c : Option Bool
  d : Option Doing
  ok : Bool
  fr : Bool
def viewOf (tt : TT) (L : Looks) (ops : List Oper) (base i : Nat) (o : Oper) (s : St) : View :=
  { c := guardC ops s.slots o.guard, d := clOp tt (L o s.heap) (nidAt ops base i) s.slots o, ok := opsOk tt s.slots o, fr := if isAlloc o.op = true then (match s.heap[nidAt ops base i]? with | some .free => true | _ => false) else true }
theorem fr_spec {H : List CObj} {n : Nat} : (match H[n]? with | some .free => true | _ => false) = true ↔ H[n]? = some .free := by
  split
  · rename_i e; simp [e]
  · rename_i e; simp; exact e
/-- Where an operation that looks at objects or makes one leads. -/
def nxt (o : Oper) (c : Bool) (d : Option Doing) (s : St) : St :=
  match d with
  | none => s.put o.dst (.ite false .junk)
  | some (.val r) => if r.quiet = true then s.put o.dst (mkIte o.guard c r.v) else if c = true then ⟨putD s.slots o.dst r.v, r.eff.app (killH r.kills s.heap)⟩ else s.put o.dst (.ite false .junk)
  | some (.call ..) => s
def vok (o : Oper) (c : Bool) (v : View) : Prop :=
  match v.d with
  | none => c = false
  | some (.val r) => c = true → v.ok = true ∧ r.side ∧ (isAlloc o.op = true → v.fr = true)
  | some (.call ..) => False
theorem no_call {l : Look} {nid : Nat} {slots : List D} {o : Oper} (hc : clsP o.op = true ∨ clsR o.op = true) {f : FuncId} {ds : List D} : clOp tt l nid slots o ≠ some (.call f ds) := by
  have hup : ∀ {x : Option Out}, upO x ≠ some (.call f ds) := by
    intro x
    unfold upO okV
    split
    · split <;> simp
    · simp
  have hok' : ∀ {x : Out2}, okV x ≠ some (.call f ds) := by
    intro x
    unfold okV
    split <;> simp
  obtain ⟨dst, op, ty, pos, after, guard⟩ := o
  unfold clOp
  cases op <;> simp only [clsP, clsR, Bool.false_eq_true, or_self, or_false, false_or] at hc <;> dsimp only <;> (try exact hup) <;> (try simp; done)
  case pick => unfold doPick; split; exact hok'; simp
  case nilCheck => split; simp; exact hup
  case makeFunc fn _ _ =>
    cases fn with
    | func f => dsimp only; split <;> simp
    | _ => simp
  case slice => split; exact hup; simp
  case extract => split; split; exact hok'; simp; simp
  case call c =>
    obtain ⟨callee, args, ats⟩ := c
    cases callee with
    | builtin b =>
      cases b <;> simp only [Bool.false_eq_true, or_self, or_false, false_or] at hc <;> simp only [doBuiltin]
      · split; exact hup; simp
      · exact hup
      · exact hup
    | _ => simp at hc
theorem wOp_PR {L : Looks} {ops : List Oper} {base i : Nat} {o : Oper} (ho : ops[i]? = some o) (hc : clsP o.op = true ∨ clsR o.op = true) {K : St → Prop} {s : St} :
    wOp P tt L ops base i K s ↔ ∃ c, (viewOf tt L ops base i o s).c = some c ∧ vok o c (viewOf tt L ops base i o s) ∧ K (nxt o c (viewOf tt L ops base i o s).d s) := by
  have hnc : ∀ f ds, clOp tt (L o s.heap) (nidAt ops base i) s.slots o ≠ some (.call f ds) := fun f ds => no_call hc
  unfold wOp vok nxt viewOf
  rw [ho]
  simp only
  cases hg : guardC ops s.slots o.guard with
  | none => simp
  | some c =>
    simp only [Option.some.injEq, exists_eq_left']
    cases hd : clOp tt (L o s.heap) (nidAt ops base i) s.slots o with
    | none => simp
    | some d =>
      cases d with
      | call f ds => exact absurd hd (hnc f ds)
      | val r =>
        refine and_congr ?_ ?_
        · unfold opFit
          simp only
          refine imp_congr Iff.rfl (and_congr Iff.rfl (and_congr Iff.rfl ⟨fun h e => ?_, fun h e => ?_⟩))
          · rw [if_pos e]; exact fr_spec.2 (h e)
          · have := h e; rw [if_pos e] at this; exact fr_spec.1 this
        by_cases hq : r.quiet = true
        · simp [hq]
        · cases c <;> simp [hq]
theorem guardC_put {ops : List Oper} {slots : List D} {dst : Option Tmp} {d : D} {gd : Option (Nat × Bool)} (h : ∀ t, dst = some t → ∀ j w, gd = some (j, w) → (ops[j]?).bind (·.dst) ≠ some t) :
    guardC ops (putD slots dst d) gd = guardC ops slots gd := by
  cases gd with
  | none => rfl
  | some jw =>
    obtain ⟨j, w⟩ := jw
    unfold guardC
    simp only
    cases hd : (ops[j]?).bind (·.dst) with
    | none => rfl
    | some t =>
      simp only
      cases dst with
      | none => rfl
      | some u =>
        have hne : u ≠ t := fun e => h u rfl j w rfl (e ▸ hd)
        simp only [putD, List.getElem?_set_ne hne]
/-- What a slot gets that an operation does not look at leaves its view. -/
theorem view_slots {L : Looks} {ops : Array Oper} {base i : Nat} {x o : Oper} (hd : ∀ t, x.dst = some t → t ∉ o.looksAt ops) (slots : List D) (H : List CObj) (d : D) :
    viewOf tt L ops.toList base i o ⟨putD slots x.dst d, H⟩ = viewOf tt L ops.toList base i o ⟨slots, H⟩ := by
  have he : ∀ y ∈ o.op.operands.toList, ∀ t, evalD tt (putD slots x.dst d) t y = evalD tt slots t y := fun y hy t => evalD_put (fun u hu e => hd u hu (by
    subst e
    exact List.mem_append_left _ (List.mem_filterMap.2 ⟨.tmp u, hy, rfl⟩))) t
  unfold viewOf
  simp only
  rw [clOp_congr he, opsOk_congr he, guardC_put fun t ht j w hg hb => hd t ht (List.mem_append_right _ (by rw [hg]; simp only; rw [Array.getElem?_toList] at hb; rw [hb]; simp))]
theorem upO_eff {o : Option Out} {r : Out2} (h : upO o = some (.val r)) : ∃ out, o = some out ∧ r = out.up := by
  obtain ⟨out, h1, h2, _⟩ := upO_some h
  exact ⟨out, h1, h2⟩
theorem eff_PR {l : Look} {nid : Nat} {slots : List D} {o : Oper} {r : Out2} (hc : clsP o.op = true ∨ clsR o.op = true) (h : clOp tt l nid slots o = some (.val r)) :
    r.kills = [] ∧ (r.eff = .none ∨ isAlloc o.op = true ∧ ∃ ob, r.eff = .set nid ob) := by
  have up : ∀ {x : Option Out}, (∀ out, x = some out → out.eff = .none ∨ isAlloc o.op = true ∧ ∃ ob, out.eff = .set nid ob) → upO x = some (.val r) → r.kills = [] ∧ (r.eff = .none ∨ isAlloc o.op = true ∧ ∃ ob, r.eff = .set nid ob) := by
    intro x hx hu
    obtain ⟨out, h1, rfl⟩ := upO_eff hu
    exact ⟨rfl, hx out h1⟩
  obtain ⟨dst, op, ty, pos, after, guard⟩ := o
  unfold clOp at h
  cases op <;> simp only [clsP, clsR, Bool.false_eq_true, or_self, or_false, false_or] at hc <;> dsimp only at h up
  case move => cases h; exact ⟨rfl, .inl rfl⟩
  case assign => cases h; exact ⟨rfl, .inl rfl⟩
  case pick =>
    unfold doPick at h
    split at h
    · obtain ⟨rfl, _⟩ := okV_some h; exact ⟨rfl, .inl rfl⟩
    · cases h
  case alloc => exact up (fun out ho => by unfold opAlloc at ho; split at ho <;> cases ho; exact .inr ⟨rfl, _, rfl⟩) h
  case box => exact up (fun out ho => by unfold opBox at ho; split at ho <;> cases ho; exact .inr ⟨rfl, _, rfl⟩) h
  case build => exact up (fun out ho => by unfold opBuild at ho; (repeat' split at ho) <;> cases ho <;> exact .inl rfl) h
  case buildSlice => exact up (fun out ho => by unfold opBuildSlice at ho; (repeat' split at ho) <;> cases ho <;> exact .inr ⟨rfl, _, rfl⟩) h
  case load => exact up (fun out ho => by unfold ifTd opLoad at ho; (repeat' split at ho) <;> cases ho <;> exact .inl rfl) h
  case nilCheck =>
    split at h
    · cases h
    · exact up (fun out ho => by unfold opNil at ho; (repeat' split at ho) <;> cases ho <;> exact .inl rfl) h
  case binOp => exact up (fun out ho => by
    left
    unfold opBin at ho
    (repeat' split at ho) <;> first
      | (cases ho; rfl)
      | (unfold opShift okS at ho; (repeat' split at ho) <;> cases ho <;> rfl)
      | (unfold opInt intBitsV ok0 okS at ho; (repeat' split at ho) <;> cases ho <;> rfl)
      | (unfold opFlt ok0 at ho; dsimp only at ho; (repeat' split at ho) <;> cases ho <;> rfl)
      | (unfold opStr ok0 okS at ho; (repeat' split at ho) <;> cases ho <;> rfl)
      | cases ho) h
  case unOp => exact up (fun out ho => by unfold opUn at ho; (repeat' split at ho) <;> cases ho <;> exact .inl rfl) h
  case convert => exact up (fun out ho => by unfold opConvN at ho; (repeat' split at ho) <;> cases ho <;> exact .inl rfl) h
  case makeFunc fn _ _ =>
    cases fn with
    | func f =>
      dsimp only at h
      split at h
      · cases h; exact ⟨rfl, .inl rfl⟩
      · cases h
    | _ => cases h
  case makeSlice => exact up (fun out ho => by unfold opMakeSlice at ho; (repeat' split at ho) <;> cases ho <;> exact .inr ⟨rfl, _, rfl⟩) h
  case slice =>
    split at h
    · exact up (fun out ho => by unfold opSlice at ho; (repeat' split at ho) <;> cases ho <;> exact .inl rfl) h
    · cases h
  case fieldAddr => exact up (fun out ho => by unfold opFieldAddr at ho; (repeat' split at ho) <;> cases ho <;> exact .inl rfl) h
  case field => exact up (fun out ho => by unfold opField at ho; (repeat' split at ho) <;> cases ho <;> exact .inl rfl) h
  case indexAddr => exact up (fun out ho => by unfold opIndexAddr at ho; (repeat' split at ho) <;> cases ho <;> exact .inl rfl) h
  case index => exact up (fun out ho => by unfold opIndex at ho; (repeat' split at ho) <;> cases ho <;> exact .inl rfl) h
  case extract =>
    split at h
    · split at h
      · obtain ⟨rfl, _⟩ := okV_some h; exact ⟨rfl, .inl rfl⟩
      · cases h
    · cases h
  case call c =>
    obtain ⟨callee, args, ats⟩ := c
    cases callee with
    | builtin b =>
      cases b <;> simp only [Bool.false_eq_true, or_self, or_false, false_or] at hc <;> simp only [doBuiltin] at h
      · split at h
        · exact up (fun out ho => by unfold opLen at ho; (repeat' split at ho) <;> cases ho <;> exact .inl rfl) h
        · cases h
      · exact up (fun out ho => by unfold opMinMax at ho; (repeat' split at ho) <;> cases ho <;> exact .inl rfl) h
      · exact up (fun out ho => by unfold opMinMax at ho; (repeat' split at ho) <;> cases ho <;> exact .inl rfl) h
    | _ => simp at hc
theorem alloc_P {op : Op} (h : clsP op = true) : isAlloc op = false := by
  cases op <;> simp only [clsP, Bool.false_eq_true] at h <;> try rfl
  case call c =>
    obtain ⟨callee, args, ats⟩ := c
    cases callee with
    | builtin b => cases b <;> simp only [Bool.false_eq_true] at h <;> rfl
    | _ => simp only [Bool.false_eq_true] at h
end
end Go.Cl
