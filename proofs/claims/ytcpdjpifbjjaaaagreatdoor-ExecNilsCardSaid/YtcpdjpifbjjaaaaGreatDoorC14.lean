/-
  THE CLEAN MACHINE, part 14: a machine of values by name that the model follows; each law here says that a step of the model does what the clean machine says. Nothing here speaks of this program.
-/
import Derived.Test.YtcpdjpifbjjaaaaGreatDoorC13
set_option linter.unusedVariables false
set_option linter.unusedSimpArgs false
namespace Go.Cl
open Go.RowKit (Below)
section
variable {P : Program} {tt : TT}
-- SWAPS
def nxtV (o : Oper) (c : Bool) (d : Option Doing) : D :=
  match d with
  | some (.val r) => if r.quiet = true then mkIte o.guard c r.v else if c = true then r.v else .ite false .junk
  | _ => .ite false .junk
def nxtE (c : Bool) (d : Option Doing) : Eff :=
  match d with
  | some (.val r) => if c = true then r.eff else .none
  | _ => .none
theorem quiet_eff {r : Out2} (h : r.quiet = true) : r.kills = [] ∧ r.eff = .none := by
  unfold Out2.quiet at h
  simp only [Bool.and_eq_true] at h
  refine ⟨List.isEmpty_iff.1 h.1, ?_⟩
  have := h.2
  split at this <;> first | assumption | cases this
theorem nxt_eq {o : Oper} {c : Bool} {d : Option Doing} {s : St} (hk : ∀ r, d = some (.val r) → r.kills = []) (hn : ∀ f ds, d ≠ some (.call f ds)) : nxt o c d s = ⟨putD s.slots o.dst (nxtV o c d), (nxtE c d).app s.heap⟩ := by
  match d with
  | none => rfl
  | some (.call f ds) => exact absurd rfl (hn f ds)
  | some (.val r) =>
    have hk' := hk r rfl
    simp only [nxt, nxtV, nxtE]
    by_cases hq : r.quiet = true
    · simp only [hq, if_true]
      have := (quiet_eff hq).2
      cases c <;> simp [this, Eff.app, St.put]
    · simp only [hq, Bool.false_eq_true, if_false]
      cases c <;> simp [hk', killH, Eff.app, St.put]
def AddE (base : Nat) (ops : List Oper) (j : Nat) (o : Oper) (E : Eff) : Prop := E = .none ∨ isAlloc o.op = true ∧ ∃ ob, E = .set (nidAt ops base j) ob
theorem nxtE_add {L : Looks} {ops : List Oper} {base j : Nat} {o : Oper} (hc : clsP o.op = true ∨ clsR o.op = true) {c : Bool} {s : St} : AddE base ops j o (nxtE c (viewOf tt L ops base j o s).d) := by
  unfold nxtE
  split
  · rename_i r hd
    split
    · exact (eff_PR hc hd).2
    · exact .inl rfl
  · exact .inl rfl
theorem nidAt_ge (ops : List Oper) (base i : Nat) : base ≤ nidAt ops base i := Nat.le_add_right _ _
theorem nidAt_lt {ops : List Oper} {base i j : Nat} {o : Oper} (hij : i < j) (ho : ops[i]? = some o) (ha : isAlloc o.op = true) : nidAt ops base i < nidAt ops base j := by
  unfold nidAt
  have hi := (List.getElem?_eq_some_iff.1 ho).1
  have h1 : ops.take (i + 1) = ops.take i ++ [o] := by rw [List.take_add_one, ho]; rfl
  have h2 : (ops.take (i + 1)).countP (fun o => isAlloc o.op) ≤ (ops.take j).countP fun o => isAlloc o.op := by
    apply List.Sublist.countP_le
    exact List.IsPrefix.sublist (List.take_prefix_take_left (by omega))
  rw [h1, List.countP_append] at h2
  simp [ha] at h2
  omega
theorem nidAt_ne {ops : List Oper} {base i j : Nat} {oi oj : Oper} (hij : i ≠ j) (hi : ops[i]? = some oi) (hj : ops[j]? = some oj) (ai : isAlloc oi.op = true) (aj : isAlloc oj.op = true) : nidAt ops base i ≠ nidAt ops base j := by
  rcases Nat.lt_or_gt_of_ne hij with h | h
  · have := nidAt_lt (base := base) h hi ai; omega
  · have := nidAt_lt (base := base) h hj aj; omega
/-- A new object made by one operation leaves another's view. -/
theorem view_heap {S : Nat → Bool} {ops : List Oper} {base i j : Nat} {oi oj : Oper} (hij : i ≠ j) (hi : ops[i]? = some oi) (hj : ops[j]? = some oj) (hc : clsP oi.op = true ∨ clsR oi.op = true) {E : Eff} (hE : AddE base ops j oj E) (slots : List D) (H : List CObj) :
    viewOf tt (lkBase base S) ops base i oi ⟨slots, E.app H⟩ = viewOf tt (lkBase base S) ops base i oi ⟨slots, H⟩ := by
  rcases hE with rfl | ⟨aj, ob, rfl⟩
  · rfl
  · unfold viewOf
    simp only [Eff.app]
    have hge := nidAt_ge ops base j
    congr 1
    · rcases hc with hc | hc
      · exact clOp_P hc
      · congr 1
        unfold lkBase
        rw [if_pos hc, if_pos hc]
        funext id
        split
        · rw [List.getElem?_set_ne (by omega)]
        · rfl
    · by_cases ai : isAlloc oi.op = true
      · have hne := nidAt_ne (base := base) hij hi hj ai aj
        simp only [ai, if_true, List.getElem?_set_ne (Ne.symm hne)]
      · simp only [ai, Bool.false_eq_true, if_false]
theorem eff_comm {ops : List Oper} {base i j : Nat} {oi oj : Oper} (hij : i ≠ j) (hi : ops[i]? = some oi) (hj : ops[j]? = some oj) {E F : Eff} (hE : AddE base ops i oi E) (hF : AddE base ops j oj F) (H : List CObj) :
    E.app (F.app H) = F.app (E.app H) := by
  rcases hE with rfl | ⟨ai, ob, rfl⟩
  · rfl
  · rcases hF with rfl | ⟨aj, ob', rfl⟩
    · rfl
    · exact List.set_comm _ _ (Ne.symm (nidAt_ne (base := base) hij hi hj ai aj))
theorem swap_PR {S : Nat → Bool} {ops : Array Oper} {base i j : Nat} {oi oj : Oper} (hij : i ≠ j) (hi : ops.toList[i]? = some oi) (hj : ops.toList[j]? = some oj) (hci : clsP oi.op = true ∨ clsR oi.op = true) (hcj : clsP oj.op = true ∨ clsR oj.op = true)
    (hap : oj.apart ops oi = true) {K : St → Prop} {s : St} (h : wOp P tt (lkBase base S) ops.toList base j (wOp P tt (lkBase base S) ops.toList base i K) s) :
    wOp P tt (lkBase base S) ops.toList base i (wOp P tt (lkBase base S) ops.toList base j K) s := by
  obtain ⟨h1, h2, h3⟩ := Oper.apart_spec hap
  have nj : ∀ (c : Bool) (s : St), nxt oj c (viewOf tt (lkBase base S) ops.toList base j oj s).d s = ⟨putD s.slots oj.dst (nxtV oj c (viewOf tt (lkBase base S) ops.toList base j oj s).d), (nxtE c (viewOf tt (lkBase base S) ops.toList base j oj s).d).app s.heap⟩ :=
    fun c s => nxt_eq (fun r hr => (eff_PR hcj hr).1) (fun f ds => no_call hcj)
  have ni : ∀ (c : Bool) (s : St), nxt oi c (viewOf tt (lkBase base S) ops.toList base i oi s).d s = ⟨putD s.slots oi.dst (nxtV oi c (viewOf tt (lkBase base S) ops.toList base i oi s).d), (nxtE c (viewOf tt (lkBase base S) ops.toList base i oi s).d).app s.heap⟩ :=
    fun c s => nxt_eq (fun r hr => (eff_PR hci hr).1) (fun f ds => no_call hci)
  rw [wOp_PR hj hcj] at h
  obtain ⟨cj, a1, a2, a3⟩ := h
  rw [nj, wOp_PR hi hci] at a3
  obtain ⟨ci, b1, b2, b3⟩ := a3
  have hvi : viewOf tt (lkBase base S) ops.toList base i oi ⟨putD s.slots oj.dst (nxtV oj cj (viewOf tt (lkBase base S) ops.toList base j oj s).d), (nxtE cj (viewOf tt (lkBase base S) ops.toList base j oj s).d).app s.heap⟩ = viewOf tt (lkBase base S) ops.toList base i oi s := by
    rw [view_slots h1, view_heap hij hi hj hci (nxtE_add hcj)]
  rw [hvi] at b1 b2
  rw [ni, hvi] at b3
  rw [wOp_PR hi hci]
  refine ⟨ci, b1, b2, ?_⟩
  rw [ni, wOp_PR hj hcj]
  have hvj : viewOf tt (lkBase base S) ops.toList base j oj ⟨putD s.slots oi.dst (nxtV oi ci (viewOf tt (lkBase base S) ops.toList base i oi s).d), (nxtE ci (viewOf tt (lkBase base S) ops.toList base i oi s).d).app s.heap⟩ = viewOf tt (lkBase base S) ops.toList base j oj s := by
    rw [view_slots h3, view_heap (Ne.symm hij) hj hi hcj (nxtE_add hci)]
  refine ⟨cj, by rw [hvj]; exact a1, by rw [hvj]; exact a2, ?_⟩
  rw [nj, hvj]
  simp only at b3 ⊢
  rw [putD_comm _ _ _ (fun t ht hs => h2 t hs ht), eff_comm (Ne.symm hij) hj hi (nxtE_add hcj) (nxtE_add hci)]
  exact b3
theorem wOpS_PR {S keep : Nat → Bool} {ops : List Oper} {base i : Nat} (hk : keep i = false) {K : St → Prop} {s : St} : wOpS P tt S keep ops base i K s ↔ wOp P tt (lkBase base S) ops base i K s :=
  ⟨fun h => wOp_mono (fun s' h' => h'.2) h, fun h => wOp_mono (fun s' h' => ⟨fun e => (by rw [hk] at e; cases e), h'⟩) h⟩
theorem wOp_slots {L : Looks} {ops : Array Oper} {base i : Nat} {oi x : Oper} (hi : ops.toList[i]? = some oi) (h1 : ∀ t, x.dst = some t → t ∉ oi.looksAt ops) {s : St} {v : D} {K1 K2 : St → Prop}
    (hk : ∀ y H', K1 ⟨putD (putD s.slots x.dst v) oi.dst y, H'⟩ → K2 ⟨putD s.slots oi.dst y, H'⟩) (a3 : wOp P tt L ops.toList base i K1 ⟨putD s.slots x.dst v, s.heap⟩) : wOp P tt L ops.toList base i K2 s := by
  have hview := view_slots (tt := tt) (L := L) (base := base) (i := i) h1 s.slots s.heap v
  have e1 : guardC ops.toList (putD s.slots x.dst v) oi.guard = guardC ops.toList s.slots oi.guard := congrArg View.c hview
  have e2 : clOp tt (L oi s.heap) (nidAt ops.toList base i) (putD s.slots x.dst v) oi = clOp tt (L oi s.heap) (nidAt ops.toList base i) s.slots oi := congrArg View.d hview
  have e3 : opsOk tt (putD s.slots x.dst v) oi = opsOk tt s.slots oi := congrArg View.ok hview
  unfold wOp at a3 ⊢
  rw [hi] at a3 ⊢
  simp only [e1, e2, e3, opFit, St.put] at a3 ⊢
  split at a3
  · exact a3.elim
  · rename_i c hc
    split at a3
    · exact ⟨a3.1, hk _ _ a3.2⟩
    · rename_i r hd
      refine ⟨a3.1, ?_⟩
      have a4 := a3.2
      split at a4
      · rename_i hq; rw [if_pos hq]; exact hk _ _ a4
      · rename_i hq; rw [if_neg hq]; exact ⟨fun e => hk _ _ (a4.1 e), fun e => hk _ _ (a4.2 e)⟩
    · exact ⟨fun e => ⟨(a3.1 e).1, (a3.1 e).2.mono fun d H' => hk _ _⟩, fun e => hk _ _ (a3.2 e)⟩
theorem swap_PW {S keep : Nat → Bool} {ops : Array Oper} {base i j : Nat} {oi oj : Oper} (hi : ops.toList[i]? = some oi) (hj : ops.toList[j]? = some oj) (hkj : keep j = false)
    (hcj : clsP oj.op = true ∨ clsR oj.op = true ∧ isAlloc oj.op = false ∧ keep i = true)
    (hap : oj.apart ops oi = true) {K : St → Prop} {s : St} (h : wOpS P tt S keep ops.toList base j (wOpS P tt S keep ops.toList base i K) s) :
    wOpS P tt S keep ops.toList base i (wOpS P tt S keep ops.toList base j K) s := by
  obtain ⟨h1, h2, h3⟩ := Oper.apart_spec hap
  have hcj' : clsP oj.op = true ∨ clsR oj.op = true := hcj.imp id (·.1)
  have hna : isAlloc oj.op = false := hcj.elim alloc_P (·.2.1)
  have nj : ∀ (c : Bool) (s : St), nxt oj c (viewOf tt (lkBase base S) ops.toList base j oj s).d s = ⟨putD s.slots oj.dst (nxtV oj c (viewOf tt (lkBase base S) ops.toList base j oj s).d), (nxtE c (viewOf tt (lkBase base S) ops.toList base j oj s).d).app s.heap⟩ :=
    fun c s => nxt_eq (fun r hr => (eff_PR hcj' hr).1) (fun f ds => no_call hcj')
  have hnoE : ∀ (c : Bool) (s : St), nxtE c (viewOf tt (lkBase base S) ops.toList base j oj s).d = .none := by
    intro c s
    rcases nxtE_add (tt := tt) (L := lkBase base S) (ops := ops.toList) (base := base) (j := j) hcj' (c := c) (s := s) with h | ⟨h, _⟩
    · exact h
    · rw [hna] at h; cases h
  have hvH : ∀ (slots : List D) (H H' : List CObj), (keep i = true → ∀ id, id < base → S id = true → H[id]? = H'[id]?) → viewOf tt (lkBase base S) ops.toList base j oj ⟨slots, H⟩ = viewOf tt (lkBase base S) ops.toList base j oj ⟨slots, H'⟩ := by
    intro slots H H' hag
    unfold viewOf
    simp only [hna, Bool.false_eq_true, if_false]
    rcases hcj with hc | ⟨hc, _, hk⟩
    · rw [clOp_P hc]
    · congr 1
      congr 1
      unfold lkBase
      rw [if_pos hc, if_pos hc]
      funext id
      split
      · rename_i hid; exact hag hk id hid.1 hid.2
      · rfl
  rw [wOpS_PR hkj, wOp_PR hj hcj'] at h
  obtain ⟨cj, a1, a2, a3⟩ := h
  rw [nj, hnoE] at a3
  generalize hx : nxtV oj cj (viewOf tt (lkBase base S) ops.toList base j oj s).d = x at a3
  simp only [Eff.app] at a3
  have back : ∀ (y : D) (H' : List CObj), ((keep i = true → ∀ id, id < base → S id = true → H'[id]? = s.heap[id]?) ∧ K ⟨putD (putD s.slots oj.dst x) oi.dst y, H'⟩) →
      (keep i = true → ∀ id, id < base → S id = true → H'[id]? = s.heap[id]?) ∧ wOpS P tt S keep ops.toList base j K ⟨putD s.slots oi.dst y, H'⟩ := by
    rintro y H' ⟨hag, hk⟩
    refine ⟨hag, ?_⟩
    rw [wOpS_PR hkj, wOp_PR hj hcj']
    have hv : viewOf tt (lkBase base S) ops.toList base j oj ⟨putD s.slots oi.dst y, H'⟩ = viewOf tt (lkBase base S) ops.toList base j oj s := by
      rw [view_slots h3]
      exact hvH _ _ _ hag
    refine ⟨cj, by rw [hv]; exact a1, by rw [hv]; exact a2, ?_⟩
    rw [nj, hnoE, hv, hx]
    simp only [Eff.app]
    rw [putD_comm _ _ _ (fun t ht hs => h2 t hs ht)]
    exact hk
  exact wOp_slots hi h1 (fun y H' hk => back y H' hk) a3
/-- Must the operation leave what is looked at as it is? -/
def keepOf (ops : Array Oper) (ms : List Nat) (i : Nat) : Bool :=
  match ops.toList[i]? with
  | some o => !clsP o.op && !clsR o.op && (List.range ops.size).any (fun j => match ops.toList[j]? with
    | some oj => clsR oj.op && !isAlloc oj.op && !(ms.getD i 0).testBit j && !(ms.getD j 0).testBit i
    | none => false)
  | none => false
theorem keepOf_no {ops : Array Oper} {ms : List Nat} {i : Nat} {o : Oper} (ho : ops.toList[i]? = some o) (hc : clsP o.op = true ∨ clsR o.op = true) : keepOf ops ms i = false := by
  unfold keepOf
  rw [ho]
  rcases hc with h | h <;> simp [h]
def swapOK (ops : Array Oper) (keep : Nat → Bool) (j i : Nat) : Bool :=
  match ops.toList[j]?, ops.toList[i]? with
  | some oj, some oi => i != j && oj.apart ops oi && (clsP oj.op || clsR oj.op && (clsP oi.op || clsR oi.op) || clsR oj.op && !isAlloc oj.op && keep i)
  | _, _ => false
theorem swap_ok {S keep : Nat → Bool} {ops : Array Oper} (hkeep : ∀ i o, ops.toList[i]? = some o → (clsP o.op = true ∨ clsR o.op = true) → keep i = false) {base i j : Nat} (h : swapOK ops keep j i = true) {K : St → Prop} {s : St} (hw : wOpS P tt S keep ops.toList base j (wOpS P tt S keep ops.toList base i K) s) :
    wOpS P tt S keep ops.toList base i (wOpS P tt S keep ops.toList base j K) s := by
  unfold swapOK at h
  split at h
  · rename_i oj oi hj hi
    simp only [Bool.and_eq_true, Bool.or_eq_true, bne_iff_ne, ne_eq, Bool.not_eq_true'] at h
    obtain ⟨⟨hij, hap⟩, hc⟩ := h
    rcases hc with (hc | ⟨hc, hc'⟩) | ⟨⟨hc, ha⟩, hk⟩
    · exact swap_PW hi hj (hkeep _ _ hj (.inl hc)) (.inl hc) hap hw
    · have hki := hkeep _ _ hi hc'
      have hkj := hkeep _ _ hj (.inr hc)
      have hw' : wOp P tt (lkBase base S) ops.toList base j (wOp P tt (lkBase base S) ops.toList base i K) s := wOp_mono (fun s' h' => (wOpS_PR hki).1 h') ((wOpS_PR hkj).1 hw)
      exact (wOpS_PR hki).2 (wOp_mono (fun s' h' => (wOpS_PR hkj).2 h') (swap_PR hij hi hj hc' (.inr hc) hap hw'))
    · exact swap_PW hi hj (hkeep _ _ hj (.inr hc)) (.inr ⟨hc, ha, hk⟩) hap hw
  · cases h
theorem bring {S keep : Nat → Bool} {ops : Array Oper} (hkeep : ∀ i o, ops.toList[i]? = some o → (clsP o.op = true ∨ clsR o.op = true) → keep i = false) {base i : Nat} {post : List Nat} {K : St → Prop} : ∀ (pre : List Nat) {s : St}, (∀ j ∈ pre, swapOK ops keep j i = true) → wIdxS P tt S keep ops.toList base (pre ++ i :: post) K s →
    wIdxS P tt S keep ops.toList base (i :: (pre ++ post)) K s
  | [], s, _, h => h
  | j :: pre, s, hs, h => by
    have h1 : wOpS P tt S keep ops.toList base j (wOpS P tt S keep ops.toList base i (wIdxS P tt S keep ops.toList base (pre ++ post) K)) s :=
      wOpS_mono (fun s' h' => bring hkeep pre (fun k hk => hs k (by simp [hk])) h') h
    exact swap_ok hkeep (hs j (by simp)) h1
end
end Go.Cl
