/-
  THE CLEAN MACHINE, part 12: a machine of values by name that the model follows; each law here says that a step of the model does what the clean machine says. Nothing here speaks of this program.
-/
import Derived.Test.YtcpdjpifbjjaaaaGreatDoorC11
set_option linter.unusedVariables false
set_option linter.unusedSimpArgs false
namespace Go.Cl
open Go.RowKit (Below)
section
variable {P : Program} {tt : TT}
-- REGIONS
structure Rel (tt : TT) (g : Ghost) (a : Act) (w : World) (s : St) : Prop where
  heap : HRel tt g w.heap s.heap
  slots : SlotsV tt g w.heap s.slots a.tmps
  defers : a.defers = []
/-- The function, entered at these arguments, returns; and so it lies. -/
def EvK (P : Program) (tt : TT) (f : FuncId) (ds : List D) (H : List CObj) (K : D → List CObj → Prop) : Prop :=
  (∃ fn, P.funcs[f]? = some fn ∧ fn.body.isNone = false ∧ (fn.name == "runtime.NumGoroutine") = false) ∧
  ∀ (g : Ghost) (w : World) (vs : Array Value), HRel tt g w.heap H → DVL tt g w.heap ds vs.toList →
    Calls P f vs w fun e w' => ∃ v g' d H', e = .returned v ∧ HRel tt g' w'.heap H' ∧ Ext g w H g' w' H' ∧ SV tt g' w'.heap d v ∧ K d H'
theorem EvK.mono {f : FuncId} {ds : List D} {H : List CObj} {K K' : D → List CObj → Prop} (h : EvK P tt f ds H K) (hk : ∀ d H', K d H' → K' d H') : EvK P tt f ds H K' :=
  ⟨h.1, fun g w vs h1 h2 => (h.2 g w vs h1 h2).mono fun e w' ⟨v, g', d, H', e1, e2, e3, e4, e5⟩ => ⟨v, g', d, H', e1, e2, e3, e4, hk _ _ e5⟩⟩
def guardC (ops : List Oper) (slots : List D) : Option (Nat × Bool) → Option Bool
  | none => some true
  | some (j, want) => match (ops[j]?).bind (·.dst) with
    | some t => match slots[t]? with
      | some (.pv (.bool x)) => some (x == want)
      | some (.ite c (.pv (.bool x))) => some (c && (x == want))
      | _ => none
    | none => some false
def mkIte (gd : Option (Nat × Bool)) (c : Bool) (d : D) : D :=
  match gd with
  | none => d
  | some _ => match d with
    | .ite c' d => .ite (c && c') d
    | d => .ite c d
def Out2.quiet (r : Out2) : Bool := r.kills.isEmpty && match r.eff with | .none => true | _ => false
def nidAt (ops : List Oper) (base i : Nat) : Nat := base + (ops.take i).countP fun o => isAlloc o.op
def St.put (s : St) (dst : Option Tmp) (d : D) : St := ⟨putD s.slots dst d, s.heap⟩
def opFit (tt : TT) (s : St) (nid : Nat) (o : Oper) (r : Out2) : Prop := opsOk tt s.slots o = true ∧ r.side ∧ (isAlloc o.op = true → s.heap[nid]? = some .free)
/-- Operations that look at no object and make none. -/
def clsP : Op → Bool
  | .move _ | .assign _ | .pick .. | .build .. | .nilCheck _ | .binOp .. | .unOp .. | .convert .. | .makeFunc .. | .field .. | .index .. | .extract .. => true
  | .call c => match c.callee with | .builtin .min | .builtin .max => true | _ => false
  | _ => false
/-- Operations that look at objects, or make new ones. -/
def clsR : Op → Bool
  | .alloc _ | .box .. | .buildSlice .. | .makeSlice .. | .load .. | .indexAddr .. | .fieldAddr .. | .slice .. => true
  | .call c => match c.callee with | .builtin .len => true | _ => false
  | _ => false
/-- How the objects are looked at. -/
abbrev Looks := Oper → List CObj → Look
def LooksOk (L : Looks) : Prop := ∀ o H, L o H = lk H ∨ clsR o.op = true ∧ ∀ id x, L o H id = some x → H[id]? = some x
def lkAll : Looks := fun _ H => lk H
theorem lkAll_ok : LooksOk lkAll := fun _ _ => .inl rfl
theorem verIs_mono {l l' : Look} (hl : ∀ id x, l id = some x → l' id = some x) {T id ver : Nat} {o : CObj} (h : verIs l T id ver = some o) : verIs l' T id ver = some o := by
  unfold verIs at h ⊢
  split at h
  · rename_i e; rw [hl _ _ e]; exact h
  · rename_i e; rw [hl _ _ e]; exact h
  · cases h
theorem opLen_mono {l l' : Look} (hl : ∀ id x, l id = some x → l' id = some x) {t : TypeId} {x : D} {o : Out} (h : opLen tt l t x = some o) : opLen tt l' t x = some o := by
  unfold opLen at h ⊢
  split at h <;> try exact h
  try dsimp only at h ⊢
  split at h
  · split at h
    · rename_i e; rw [verIs_mono hl e]; exact h
    · cases h
  · cases h
theorem opIndexAddr_mono {l l' : Look} (hl : ∀ id x, l id = some x → l' id = some x) {t : TypeId} {x y : D} {o : Out} (h : opIndexAddr tt l t x y = some o) : opIndexAddr tt l' t x y = some o := by
  unfold opIndexAddr at h ⊢
  split at h <;> try exact h
  try dsimp only at h ⊢
  split at h
  · split at h
    · split at h
      · rename_i e; rw [if_pos ‹_›, verIs_mono hl e]; exact h
      · cases h
    · cases h
  · cases h
theorem opFieldAddr_mono {l l' : Look} (hl : ∀ id x, l id = some x → l' id = some x) {t : TypeId} {x : D} {f : Nat} {o : Out} (h : opFieldAddr tt l t x f = some o) : opFieldAddr tt l' t x f = some o := by
  unfold opFieldAddr at h ⊢
  split at h
  · split at h
    · split at h
      · cases h
      · rw [if_neg ‹_›]
        cases x <;> try exact h
        simp only at h ⊢
        split at h
        · rename_i e; rw [verIs_mono hl e]; exact h
        · cases h
    · cases h
  · cases h
theorem opLoad_mono {l l' : Look} (hl : ∀ id x, l id = some x → l' id = some x) {t : TypeId} {x : D} {o : Out} (h : opLoad tt l t x = some o) : opLoad tt l' t x = some o := by
  unfold opLoad at h ⊢
  split at h
  · split at h
    · rename_i e; rw [hl _ _ e]; exact h
    · cases h
  · split at h
    · rename_i e; rw [verIs_mono hl e]; exact h
    · rename_i e; rw [verIs_mono hl e]; exact h
    · cases h
  · exact h
  · cases h
theorem opSlice_mono {l l' : Look} (hl : ∀ id x, l id = some x → l' id = some x) {t : TypeId} {x : D} {a b c : Option D} {o : Out} (h : opSlice tt l t x a b c = some o) : opSlice tt l' t x a b c = some o := by
  unfold opSlice at h ⊢
  split at h <;> try exact h
  try dsimp only at h ⊢
  split at h
  · split at h
    · split at h
      · rename_i e; rw [if_pos ‹_›, verIs_mono hl e]; exact h
      · cases h
    · cases h
  · cases h
theorem upO_mono {x y : Option Out} (h : ∀ o, x = some o → y = some o) {d : Doing} (hd : upO x = some d) : upO y = some d := by
  cases x with
  | none => cases hd
  | some o => rw [h o rfl]; exact hd
theorem clOp_mono {l l' : Look} (hl : ∀ id x, l id = some x → l' id = some x) {nid : Nat} {slots : List D} {o : Oper} (hc : clsR o.op = true) {d : Doing} (h : clOp tt l nid slots o = some d) : clOp tt l' nid slots o = some d := by
  obtain ⟨dst, op, ty, pos, after, guard⟩ := o
  unfold clOp at h ⊢
  cases op <;> simp only [clsR, Bool.false_eq_true] at hc <;> dsimp only at h ⊢ <;> try exact h
  case load => exact upO_mono (fun o ho => by
    unfold ifTd at ho ⊢
    split at ho
    · cases ho
    · exact opLoad_mono hl ho) h
  case slice =>
    split at h
    · rw [if_pos ‹_›]; exact upO_mono (fun o ho => opSlice_mono hl ho) h
    · cases h
  case fieldAddr => exact upO_mono (fun o ho => opFieldAddr_mono hl ho) h
  case indexAddr => exact upO_mono (fun o ho => opIndexAddr_mono hl ho) h
  case call c =>
    obtain ⟨callee, args, ats⟩ := c
    cases callee with
    | builtin b =>
      cases b <;> simp only [Bool.false_eq_true] at hc
      simp only [doBuiltin] at h ⊢
      split at h
      · exact upO_mono (fun o ho => opLen_mono hl ho) h
      · cases h
    | _ => simp only [Bool.false_eq_true] at hc
/-- One operation of a region. -/
def wOp (P : Program) (tt : TT) (L : Looks) (ops : List Oper) (base i : Nat) (K : St → Prop) (s : St) : Prop :=
  match ops[i]? with
  | none => K s
  | some o => match guardC ops s.slots o.guard with
    | none => False
    | some c => match clOp tt (L o s.heap) (nidAt ops base i) s.slots o with
      | none => c = false ∧ K (s.put o.dst (.ite false .junk))
      | some (.val r) => (c = true → opFit tt s (nidAt ops base i) o r) ∧
        if r.quiet = true then K (s.put o.dst (mkIte o.guard c r.v))
        else (c = true → K ⟨putD s.slots o.dst r.v, r.eff.app (killH r.kills s.heap)⟩) ∧ (c = false → K (s.put o.dst (.ite false .junk)))
      | some (.call f ds) => (c = true → opsOk tt s.slots o = true ∧ EvK P tt f ds s.heap fun d H' => K ⟨putD s.slots o.dst d, H'⟩) ∧ (c = false → K (s.put o.dst (.ite false .junk)))
def wIdx (P : Program) (tt : TT) (L : Looks) (ops : List Oper) (base : Nat) : List Nat → (St → Prop) → St → Prop
  | [], K, s => K s
  | i :: l, K, s => wOp P tt L ops base i (wIdx P tt L ops base l K) s
theorem guard_sound {g : Ghost} {h : Array Obj} {slots : List D} {tmps : Array Value} (hv : SlotsV tt g h slots tmps) {ops : Array Oper} {o : Oper} {c : Bool} (hc : guardC ops.toList slots o.guard = some c) :
    Region.wanted o (yielded ops tmps) = c := by
  unfold Region.wanted
  unfold guardC at hc
  split at hc
  · rename_i hg
    rw [hg]
    cases hc; rfl
  · rename_i j want hg
    rw [hg]
    simp only
    unfold yielded
    rw [Array.getElem?_toList] at hc
    split at hc
    · rename_i t ht
      rw [ht]
      split at hc
      · rename_i x hs
        cases hc
        have hl := (List.getElem?_eq_some_iff.1 hs).1
        have hl' : t < tmps.size := by rw [← hv.1]; exact hl
        have := hv.2 t
        rw [List.getD_eq_getElem?_getD, hs, Array.getD_eq_getD_getElem?, getElem?_pos tmps t hl'] at this
        have hb : tmps[t] = .bool x := v_bool.1 this
        simp only [Option.bind_some, getElem?_pos tmps t hl', hb]
        cases x <;> cases want <;> rfl
      · rename_i c x hs
        cases hc
        have hl := (List.getElem?_eq_some_iff.1 hs).1
        have hl' : t < tmps.size := by rw [← hv.1]; exact hl
        have := hv.2 t
        rw [List.getD_eq_getElem?_getD, hs, Array.getD_eq_getD_getElem?, getElem?_pos tmps t hl'] at this
        obtain ⟨h1, h2⟩ := this
        simp only [Option.bind_some, getElem?_pos tmps t hl']
        simp only [Option.getD_some] at h1 h2
        cases c with
        | true =>
          have hb : tmps[t] = .bool x := v_bool.1 (h1 rfl)
          rw [hb]
          cases x <;> cases want <;> rfl
        | false =>
          rw [h2 rfl]
          rfl
      · cases hc
    · rename_i hn
      rw [hn]
      cases hc
      rfl
theorem sv_undef {g : Ghost} {h : Array Obj} : SV tt g h (.ite false .junk) undef := ⟨fun h => (by cases h), fun _ => rfl⟩
theorem sv_mkIte {g : Ghost} {h : Array Obj} {gd : Option (Nat × Bool)} {d : D} {v : Value} (hv : SV tt g h d v) : SV tt g h (mkIte gd true d) v := by
  unfold mkIte
  split
  · exact hv
  · split
    · simpa [SV] using hv
    · rename_i hi
      refine ⟨fun _ => ?_, fun h => (by cases h)⟩
      cases d <;> first | exact hv | exact absurd rfl (hi _ _)
theorem sv_mkIte_false {g : Ghost} {h : Array Obj} {x : Nat × Bool} {d : D} : SV tt g h (mkIte (some x) false d) undef := by
  unfold mkIte
  simp only
  split
  · exact ⟨fun h => (by simp at h), fun _ => rfl⟩
  · exact ⟨fun h => (by cases h), fun _ => rfl⟩
theorem Rel.put {g g' : Ghost} {a : Act} {w w' : World} {s : St} {H' : List CObj} (hr : Rel tt g a w s) (hx : Ext g w s.heap g' w' H') (hh : HRel tt g' w'.heap H') (dst : Option Tmp) {d : D} {v : Value} (hd : SV tt g' w'.heap d v) :
    Rel tt g' (a.put dst v) w' ⟨putD s.slots dst d, H'⟩ :=
  ⟨hh, SlotsV.put (hr.slots.mono (hx.gmono hr.heap)) dst hd, by cases dst <;> exact hr.defers⟩
theorem call_run {g : Ghost} {w : World} {slots : List D} {a : Act} (hv : SlotsV tt g w.heap slots a.tmps) {nid : Nat} {o : Oper} {f : FuncId} {ds : List D}
    {l : Look} (h : clOp tt l nid slots o = some (.call f ds)) (hok : opsOk tt slots o = true) (hf : ∃ fn, P.funcs[f]? = some fn ∧ fn.body.isNone = false ∧ (fn.name == "runtime.NumGoroutine") = false) :
    ∃ vs : Array Value, (execOp a.eval o).run P w = .ok (.enter f vs) w ∧ DVL tt g w.heap ds vs.toList := by
  have ev : (∀ x, o.op ≠ .move x) → (∀ x, o.op ≠ .assign x) → (∀ a b c, o.op ≠ .pick a b c) → ∀ (t : TypeId) (x : Operand), x ∈ o.op.operands.toList → V tt g w.heap (evalD tt slots t x).strip (a.eval x) :=
    fun h1 h2 h3 t x hx => sv_strip (eval_sound hv t x) (opsOk_at hok h1 h2 h3 hx t)
  have hup : ∀ {x : Option Out}, upO x ≠ some (.call f ds) := by
    intro x
    unfold upO okV
    split
    · split <;> simp
    · simp
  have hok' : ∀ {x : Out2}, okV x ≠ some (.call f ds) := by
    intro x
    unfold okV
    split <;> simp
  obtain ⟨dst, op, ty, pos, after, guard⟩ := o
  unfold clOp at h
  simp only at h ev
  cases op <;> (try (cases h; done)) <;> (try dsimp only at h) <;> (try exact absurd h hup)
  case pick => unfold doPick at h; split at h; exact absurd h hok'; cases h
  case nilCheck => split at h; cases h; exact absurd h hup
  case makeFunc fn _ _ => cases fn <;> (try (cases h; done)); dsimp only at h; split at h <;> cases h
  case slice => split at h; exact absurd h hup; cases h
  case extract => split at h; split at h; exact absurd h hok'; cases h; cases h
  case call c =>
    obtain ⟨callee, args, ats⟩ := c
    dsimp only at h
    cases callee with
    | invoke => cases h
    | builtin b =>
      dsimp only at h
      cases b <;> simp only [doBuiltin, reduceCtorEq] at h
      case len => split at h; exact absurd h hup; cases h
      case append => split at h; split at h; exact absurd h hok'; cases h; cases h
      case min => exact absurd h hup
      case max => exact absurd h hup
    | value fx =>
      dsimp only at h
      split at h
      · rename_i f' fa fb hfx
        split at h
        · rename_i hp
          cases h
          have hfv := ev (by simp) (by simp) (by simp) 0 fx (by simp [Op.operands, Call.operands])
          rw [hfx] at hfv
          simp only [V, VOf, D.isAgg, Bool.false_eq_true, if_false, DFlat] at hfv
          obtain ⟨⟨va, vb, e, h1, h2⟩, _⟩ := hfv
          simp at e
          refine ⟨va ++ args.map a.eval ++ vb, ?_, ?_⟩
          · obtain ⟨fn, g1, g2, g3⟩ := hf
            have g2' : fn.body ≠ none := by rintro e; rw [e] at g2; cases g2
            have g3' : fn.name ≠ "runtime.NumGoroutine" := by simpa using g3
            simp [execOp, resolve, e, Deferred.ofValue, invoke, callFunc, program, Sem.run, g1, g2', g3']
          · rw [Array.toList_append, Array.toList_append]
            refine DVL.append _ _ _ _ (DVL.append _ _ _ _ h1 ?_) h2
            refine dvl_of _ _ (by simp) (fun i hi => ?_) fun d hd => List.all_eq_true.1 hp d (by simp only [List.mem_append]; exact .inl (.inr hd))
            have hi' : i < args.toList.length := by simpa using hi
            rw [mapIdx_getD _ _ _ _ hi', Array.toList_map, getD_map _ _ _ _ hi']
            exact ev (by simp) (by simp) (by simp) _ _ (by simp [Op.operands, Call.operands])
        · cases h
      · cases h
theorem wOp_sound (htt : TTok P tt) {L : Looks} (hL : LooksOk L) {g : Ghost} {a : Act} {w : World} {s : St} (hr : Rel tt g a w s) {ops : Array Oper} {base i : Nat} {K : St → Prop} (h : wOp P tt L ops.toList base i K s) {Q : Exit → Act → World → Prop}
    {Kw : Act → World → Prop} (hK : ∀ g' a' w' s', Rel tt g' a' w' s' → Ext g w s.heap g' w' s'.heap → K s' → Kw a' w') : wpOp P ops Q i Kw a w := by
  unfold wOp at h
  unfold wpOp
  rw [Array.getElem?_toList] at h
  have skip : ∀ (o : Oper), K (s.put o.dst (.ite false .junk)) → Kw (a.put o.dst undef) w := fun o hk =>
    hK g _ _ _ (hr.put (Ext.refl g w s.heap) hr.heap o.dst sv_undef) (Ext.refl _ _ _) hk
  cases ho : ops[i]? with
  | none =>
    rw [ho] at h
    exact hK g a w s hr (Ext.refl _ _ _) h
  | some o =>
    rw [ho] at h
    simp only at h ⊢
    split at h
    · exact h.elim
    · rename_i c hc
      have hw := guard_sound hr.slots hc
      split at h
      · obtain ⟨rfl, hk⟩ := h
        rw [if_neg (by rw [hw]; simp)]
        exact skip o hk
      · rename_i r hcl
        obtain ⟨hfit, hk⟩ := h
        cases c with
        | false =>
          rw [if_neg (by rw [hw]; simp)]
          split at hk
          · cases hg : o.guard with
            | none => rw [hg] at hc; cases hc
            | some x =>
              rw [hg] at hk
              exact hK g _ _ _ (hr.put (Ext.refl g w s.heap) hr.heap o.dst sv_mkIte_false) (Ext.refl _ _ _) hk
          · exact skip o (hk.2 rfl)
        | true =>
          rw [if_pos (by rw [hw])]
          left
          obtain ⟨hok, hs, hal⟩ := hfit rfl
          have hcl : clOp tt (lk s.heap) (nidAt ops.toList base i) s.slots o = some (.val r) := by
            rcases hL o s.heap with e | ⟨e1, e2⟩
            · rw [← e]; exact hcl
            · exact clOp_mono e2 e1 hcl
          obtain ⟨n, w', g', h1, h2, h3, h4, h5⟩ := op_sound htt hr.heap hr.slots hal hcl hok hs
          unfold Oper.wp
          rw [h1]
          have fin : ∀ v, valOf n = v → Kw (a.put o.dst v) w' := by
            rintro v rfl
            split at hk
            · rename_i hq
              have hq1 : r.kills = [] ∧ r.eff = .none := by
                unfold Out2.quiet at hq
                simp only [Bool.and_eq_true] at hq
                refine ⟨List.isEmpty_iff.1 hq.1, ?_⟩
                have := hq.2
                split at this <;> first | assumption | cases this
              rw [hq1.1, hq1.2] at h3 h4
              exact hK g' _ _ _ (hr.put h4 h3 o.dst (sv_mkIte h5)) h4 hk
            · exact hK g' _ _ _ (hr.put h4 h3 o.dst h5) h4 (hk.1 rfl)
          rcases h2 with rfl | ⟨v, rfl⟩
          · exact fin _ rfl
          · exact fin _ rfl
      · rename_i f ds hcl
        obtain ⟨hcall, hskip⟩ := h
        cases c with
        | false =>
          rw [if_neg (by rw [hw]; simp)]
          exact skip o (hskip rfl)
        | true =>
          rw [if_pos (by rw [hw])]
          left
          obtain ⟨hok, hev⟩ := hcall rfl
          obtain ⟨vs, h1, h2⟩ := call_run (P := P) (w := w) hr.slots hcl hok hev.1
          unfold Oper.wp
          rw [h1, Oper.upon_enter]
          refine (hev.2 g w vs hr.heap h2).mono ?_
          rintro e w' ⟨v, g', d, H', rfl, k1, k2, k3, k4⟩
          exact hK g' _ _ _ (hr.put k2 k1 o.dst k3) k2 k4
theorem wIdx_sound (htt : TTok P tt) {L : Looks} (hL : LooksOk L) {ops : Array Oper} {base : Nat} {Q : Exit → Act → World → Prop} {K : St → Prop} : ∀ (l : List Nat) {g : Ghost} {a : Act} {w : World} {s : St}, Rel tt g a w s → wIdx P tt L ops.toList base l K s →
    (∀ g' a' w' s', Rel tt g' a' w' s' → Ext g w s.heap g' w' s'.heap → K s' → Q .normal a' w') → wpOps P ops Q l a w
  | [], g, a, w, s, hr, h, hK => hK g a w s hr (Ext.refl _ _ _) h
  | i :: l, g, a, w, s, hr, h, hK => by
    rw [wpOps_cons]
    exact wOp_sound htt hL hr h fun g' a' w' s' hr' hx hk => wIdx_sound htt hL l hr' hk fun g2 a2 w2 s2 hr2 hx2 hk2 => hK g2 a2 w2 s2 hr2 (hx.trans hx2) hk2
end
end Go.Cl
