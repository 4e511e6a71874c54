/-
  THE CLEAN MACHINE, part 15: a machine of values by name that the model follows; each law here says that a step of the model does what the clean machine says. Nothing here speaks of this program.
-/
import Derived.Test.YtcpdjpifbjjaaaaGreatDoorC14
set_option linter.unusedVariables false
set_option linter.unusedSimpArgs false
namespace Go.Cl
open Go.RowKit (Below)
section
variable {P : Program} {tt : TT}
-- WHO MUST BE AHEAD
def maskOf (ms : List Nat) (o : Oper) : Nat := o.after.toList.foldl (fun m e => if Region.binds .any e = true then (m ||| (1 <<< e.on)) ||| ms.getD e.on 0 else m) 0
def ancGo (ms : List Nat) : List Oper → List Nat
  | [] => ms
  | o :: os => ancGo (ms ++ [maskOf ms o]) os
def ancs (ops : List Oper) : List Nat := ancGo [] ops
theorem mask_bit (ms : List Nat) (j : Nat) : ∀ (l : List Edge) (m : Nat), (l.foldl (fun m e => if Region.binds .any e = true then (m ||| (1 <<< e.on)) ||| ms.getD e.on 0 else m) m).testBit j = true →
    m.testBit j = true ∨ ∃ e ∈ l, Region.binds .any e = true ∧ (e.on = j ∨ (ms.getD e.on 0).testBit j = true)
  | [], m, h => .inl h
  | e :: l, m, h => by
    rcases mask_bit ms j l _ h with h | ⟨e', he', h⟩
    · by_cases hb : Region.binds .any e = true
      · simp only [hb, if_true, Nat.testBit_or, Bool.or_eq_true] at h
        rcases h with (h | h) | h
        · exact .inl h
        · refine .inr ⟨e, by simp, hb, .inl ?_⟩
          rw [Nat.one_shiftLeft] at h
          rw [Nat.testBit_two_pow] at h
          exact of_decide_eq_true h
        · exact .inr ⟨e, by simp, hb, .inr h⟩
      · simp only [hb, Bool.false_eq_true, if_false] at h
        exact .inl h
    · exact .inr ⟨e', by simp [he'], h⟩
theorem ancGo_take : ∀ (os : List Oper) (ms : List Nat), (ancGo ms os).take ms.length = ms ∧ ms.length ≤ (ancGo ms os).length
  | [], ms => by simp [ancGo]
  | o :: os, ms => by
    obtain ⟨h1, h2⟩ := ancGo_take os (ms ++ [maskOf ms o])
    simp only [ancGo]
    rw [List.length_append, List.length_singleton] at h1 h2
    refine ⟨?_, by omega⟩
    have := congrArg (List.take ms.length) h1
    rw [List.take_take, Nat.min_eq_left (by omega)] at this
    rw [this]
    simp
theorem ancGo_at : ∀ (os : List Oper) (ms : List Nat) (k : Nat) (o : Oper), os[k]? = some o → (ancGo ms os)[ms.length + k]? = some (maskOf ((ancGo ms os).take (ms.length + k)) o)
  | [], ms, k, o, h => by simp at h
  | p :: os, ms, k, o, h => by
    simp only [ancGo]
    cases k with
    | zero =>
      simp at h
      subst h
      obtain ⟨h1, h2⟩ := ancGo_take os (ms ++ [maskOf ms p])
      rw [List.length_append, List.length_singleton] at h1 h2
      have h3 := congrArg (List.take ms.length) h1
      rw [List.take_take, Nat.min_eq_left (by omega)] at h3
      rw [Nat.add_zero, h3]
      have h4 : ((ancGo (ms ++ [maskOf ms p]) os).take (ms.length + 1))[ms.length]? = (ms ++ [maskOf ms p])[ms.length]? := by rw [h1]
      rw [List.getElem?_take_of_lt (by omega)] at h4
      rw [h4]
      simp
    | succ k =>
      have := ancGo_at os (ms ++ [maskOf ms p]) k o (by simpa using h)
      rw [List.length_append, List.length_singleton] at this
      rw [show ms.length + (k + 1) = ms.length + 1 + k by omega]
      exact this
def Shut (ops : Array Oper) (listed : Array Bool) : Prop := ∀ k o, ops[k]? = some o → listed.getD k false = true → ∀ e ∈ o.after, Region.binds .any e = true → listed.getD e.on false = true
theorem anc_listed {ops : Array Oper} {listed : Array Bool} (hs : Shut ops listed) : ∀ (k : Nat) (o : Oper), ops[k]? = some o → (∀ e ∈ o.after, Region.binds .any e = true → listed.getD e.on false = true) →
    ∀ j, ((ancs ops.toList).getD k 0).testBit j = true → listed.getD j false = true := by
  intro k
  induction k using Nat.strongRecOn with
  | _ k ih =>
    intro o ho hl j hj
    have hat := ancGo_at ops.toList [] k o (by rw [Array.getElem?_toList]; exact ho)
    simp only [List.length_nil, Nat.zero_add] at hat
    have hat' : (ancs ops.toList).getD k 0 = maskOf ((ancs ops.toList).take k) o := by
      rw [List.getD_eq_getElem?_getD]
      show ((ancGo [] ops.toList)[k]?).getD 0 = _
      rw [hat]; rfl
    rw [hat'] at hj
    rcases mask_bit _ j _ _ hj with h | ⟨e, he, hb, h⟩
    · simp at h
    · have hel := hl e (by simpa using he) hb
      rcases h with rfl | h
      · exact hel
      · have hlt : e.on < k := by
          rcases Nat.lt_or_ge e.on k with h' | h'
          · exact h'
          · rw [List.getD_eq_getElem?_getD, List.getElem?_eq_none (by simp; omega)] at h
            simp at h
        have hg : ((ancs ops.toList).take k).getD e.on 0 = (ancs ops.toList).getD e.on 0 := by
          rw [List.getD_eq_getElem?_getD, List.getD_eq_getElem?_getD, List.getElem?_take_of_lt hlt]
        rw [hg] at h
        have hk := (Array.getElem?_eq_some_iff.1 ho).1
        have hoe : ∃ oe, ops[e.on]? = some oe := ⟨_, getElem?_pos ops e.on (by omega)⟩
        obtain ⟨oe, hoe⟩ := hoe
        exact ih e.on hlt oe hoe (fun e' he' hb' => hs e.on oe hoe hel e' he' hb') j h
/-- May the region be carried out in this order, whatever the order that is drawn? -/
def pairsOK (ops : Array Oper) (keep : Nat → Bool) (ms : List Nat) : List Nat → List Nat → Bool
  | _, [] => true
  | pre, i :: l => pre.all (fun j => (ms.getD i 0).testBit j || swapOK ops keep j i) && (match ops.toList[i]? with | some o => o.after.toList.all (fun e => !Region.binds .any e || pre.contains e.on) | none => false) && !pre.contains i && pairsOK ops keep ms (pre ++ [i]) l
def okDraw (ops : Array Oper) (l : List Nat) : Bool := pairsOK ops (keepOf ops (ancs ops.toList)) (ancs ops.toList) [] l && l.length == ops.size && (List.range ops.size).all (fun i => l.contains i)
theorem pairsOK_spec {ops : Array Oper} {keep : Nat → Bool} {ms : List Nat} : ∀ (l pre : List Nat), pairsOK ops keep ms pre l = true →
    l.Pairwise (fun j i => (ms.getD i 0).testBit j = true ∨ swapOK ops keep j i = true) ∧ (∀ i ∈ l, ∀ j ∈ pre, (ms.getD i 0).testBit j = true ∨ swapOK ops keep j i = true) ∧
    (∀ l1 i l2, l = l1 ++ i :: l2 → ∃ o, ops[i]? = some o ∧ ∀ e ∈ o.after, Region.binds .any e = true → e.on ∈ pre ∨ e.on ∈ l1) ∧ l.Nodup ∧ ∀ i ∈ l, i ∉ pre
  | [], pre, _ => by simp
  | i :: l, pre, h => by
    simp only [pairsOK, Bool.and_eq_true] at h
    obtain ⟨⟨⟨h1, h2⟩, h3⟩, h4⟩ := h
    obtain ⟨a1, a2, a3, a4, a5⟩ := pairsOK_spec l (pre ++ [i]) h4
    have h1' : ∀ j ∈ pre, (ms.getD i 0).testBit j = true ∨ swapOK ops keep j i = true := fun j hj => by simpa using List.all_eq_true.1 h1 j hj
    refine ⟨?_, ?_, ?_, ?_, ?_⟩
    · rw [List.pairwise_cons]
      exact ⟨fun k hk => a2 k hk i (by simp), a1⟩
    · intro k hk j hj
      rcases List.mem_cons.1 hk with rfl | hk
      · exact h1' j hj
      · exact a2 k hk j (by simp [hj])
    · intro l1 k l2 e
      cases l1 with
      | nil =>
        simp at e
        obtain ⟨rfl, rfl⟩ := e
        split at h2
        · rename_i o ho
          refine ⟨o, by rw [← Array.getElem?_toList]; exact ho, fun e he hb => ?_⟩
          have := List.all_eq_true.1 h2 e (by simpa using he)
          simp only [hb, Bool.not_true, Bool.false_or] at this
          left
          simpa using this
        · cases h2
      | cons x l1 =>
        simp at e
        obtain ⟨rfl, rfl⟩ := e
        obtain ⟨o, ho, hh⟩ := a3 l1 k l2 rfl
        refine ⟨o, ho, fun e he hb => ?_⟩
        rcases hh e he hb with h | h
        · simp at h
          rcases h with h | h
          · exact .inl h
          · exact .inr (by simp [h])
        · exact .inr (by simp [h])
    · rw [List.nodup_cons]
      exact ⟨fun hi => a5 i hi (by simp), a4⟩
    · intro k hk hp
      rcases List.mem_cons.1 hk with rfl | hk
      · simp at h3; exact h3 hp
      · exact a5 k hk (by simp [hp])
/-- What is left to do, while some is done. -/
structure Left (ops : Array Oper) (keep : Nat → Bool) (l : List Nat) (listed : Array Bool) : Prop where
  size : listed.size = ops.size
  mem : ∀ i, i < ops.size → (listed.getD i false = false ↔ i ∈ l)
  lt : ∀ i ∈ l, i < ops.size
  shut : Shut ops listed
  pairs : l.Pairwise fun j i => ((ancs ops.toList).getD i 0).testBit j = true ∨ swapOK ops keep j i = true
  order : ∀ l1 i l2, l = l1 ++ i :: l2 → ∃ o, ops[i]? = some o ∧ ∀ e ∈ o.after, Region.binds .any e = true → listed.getD e.on false = true ∨ e.on ∈ l1
  nodup : l.Nodup
theorem Left.step {ops : Array Oper} {keep : Nat → Bool} {pre post : List Nat} {i : Nat} {listed : Array Bool} (h : Left ops keep (pre ++ i :: post) listed) (hr : ∃ o, ops[i]? = some o ∧ ∀ e ∈ o.after, Region.binds .any e = true → listed.getD e.on false = true) :
    Left ops keep (pre ++ post) (listed.setIfInBounds i true) := by
  obtain ⟨o, ho, hl⟩ := hr
  have hnd := h.nodup
  have hi : i < ops.size := h.lt i (by simp)
  have hgi : (listed.setIfInBounds i true).getD i false = true := by
    have : i < listed.size := by rw [h.size]; exact hi
    simp [this]
  have hnotpp : i ∉ pre ++ post := by
    have := List.perm_middle.nodup_iff.1 hnd
    rw [List.nodup_cons] at this
    exact this.1
  refine ⟨by simpa using h.size, ?_, fun k hk => h.lt k (by simp at hk ⊢; rcases hk with hk | hk; exact .inl hk; exact .inr (.inr hk)), ?_, ?_, ?_, (List.nodup_cons.1 (List.perm_middle.nodup_iff.1 hnd)).2⟩
  · intro k hk
    by_cases e : k = i
    · subst e
      rw [hgi]
      simp only [Bool.true_eq_false, false_iff]
      exact hnotpp
    · rw [getD_set_ne false (Ne.symm e), h.mem k hk]
      simp [e]
  · intro k ok hok hlk e he hb
    by_cases ek : k = i
    · subst ek
      rw [ho] at hok
      cases hok
      exact getD_set_true (hl e he hb)
    · rw [getD_set_ne false (Ne.symm ek)] at hlk
      exact getD_set_true (h.shut k ok hok hlk e he hb)
  · exact h.pairs.sublist (by simp)
  · intro l1 k l2 e
    have : ∃ l1' l2', pre ++ i :: post = l1' ++ k :: l2' ∧ ∀ x ∈ l1', x ∈ l1 ∨ x = i := by
      rcases List.append_eq_append_iff.1 e with ⟨c, h1, h2⟩ | ⟨c, h1, h2⟩
      · -- pre ++ c = l1, post = c ++ k :: l2
        exact ⟨pre ++ i :: c, l2, by rw [h2]; simp, by rw [h1]; intro x hx; simp at hx ⊢; rcases hx with hx | hx | hx; exact .inl (.inl hx); exact .inr hx; exact .inl (.inr hx)⟩
      · cases c with
        | nil =>
          simp at h1 h2
          exact ⟨pre ++ [i], l2, by rw [← h2]; simp, by rw [h1]; intro x hx; simpa using hx⟩
        | cons y c =>
          simp at h2
          obtain ⟨rfl, rfl⟩ := h2
          exact ⟨l1, c ++ i :: post, by rw [h1]; simp, fun x hx => .inl hx⟩
    obtain ⟨l1', l2', e', hsub⟩ := this
    obtain ⟨ok, hok, hh⟩ := h.order l1' k l2' e'
    refine ⟨ok, hok, fun ed he hb => ?_⟩
    rcases hh ed he hb with h' | h'
    · exact .inl (getD_set_true h')
    · rcases hsub _ h' with h' | h'
      · exact .inr h'
      · rw [h']; exact .inl hgi
theorem drawn_go (htt : TTok P tt) {S keep : Nat → Bool} {ops : Array Oper} (hkeep : ∀ i o, ops.toList[i]? = some o → (clsP o.op = true ∨ clsR o.op = true) → keep i = false) {base : Nat} {Q : Exit → Act → World → Prop} {K : St → Prop} : ∀ (fuel : Nat) (l : List Nat) (listed : Array Bool) {g : Ghost} {a : Act} {w : World} {s : St}, l.length ≤ fuel → Left ops keep l listed → Rel tt g a w s →
    wIdxS P tt S keep ops.toList base l K s → (∀ g' a' w' s', Rel tt g' a' w' s' → Ext g w s.heap g' w' s'.heap → K s' → Q .normal a' w') → wpAny P .any ops Q fuel listed a w := by
  intro fuel
  induction fuel with
  | zero =>
    intro l listed g a w s hl hL hr hw hK
    have : l = [] := List.length_eq_zero_iff.1 (by omega)
    subst this
    refine ⟨?_, hK g a w s hr (Ext.refl _ _ _) hw⟩
    apply List.eq_nil_iff_forall_not_mem.2
    intro i hi
    obtain ⟨h1, o, ho, _⟩ := mem_ready.1 hi
    have hlt := (Array.getElem?_eq_some_iff.1 ho).1
    have hlt' : i < listed.size := by rw [hL.size]; exact hlt
    have : listed.getD i false = false := by simpa [hlt'] using h1
    have := (hL.mem i hlt).1 this
    cases this
  | succ fuel ih =>
    intro l listed g a w s hl hL hr hw hK
    refine ⟨fun hnil => ?_, fun i hi => ?_⟩
    · have : l = [] := by
        cases l with
        | nil => rfl
        | cons i l =>
          exfalso
          obtain ⟨o, ho, hh⟩ := hL.order [] i l rfl
          have hlt := hL.lt i (by simp)
          have hlt' : i < listed.size := by rw [hL.size]; exact hlt
          have hf := (hL.mem i hlt).2 (by simp)
          have : i ∈ Region.ready .any ops listed := mem_ready.2 ⟨by simpa [hlt'] using hf, o, ho, fun e he hb => (hh e he hb).resolve_right (by simp)⟩
          rw [hnil] at this
          cases this
      subst this
      exact hK g a w s hr (Ext.refl _ _ _) hw
    · obtain ⟨h1, o, ho, hpre⟩ := mem_ready.1 hi
      have hlt := (Array.getElem?_eq_some_iff.1 ho).1
      have hlt' : i < listed.size := by rw [hL.size]; exact hlt
      have hil : i ∈ l := (hL.mem i hlt).1 (by simpa [hlt'] using h1)
      obtain ⟨pre, post, rfl⟩ := List.append_of_mem hil
      have hsw : ∀ j ∈ pre, swapOK ops keep j i = true := by
        intro j hj
        have hpw := (List.pairwise_append.1 hL.pairs).2.2 j hj i (by simp)
        rcases hpw with h | h
        · exfalso
          have hjl := anc_listed hL.shut i o ho hpre j h
          have hjlt := hL.lt j (by simp [hj])
          have := (hL.mem j hjlt).2 (by simp [hj])
          rw [hjl] at this
          cases this
        · exact h
      have hb : wOpS P tt S keep ops.toList base i (wIdxS P tt S keep ops.toList base (pre ++ post) K) s := bring hkeep pre hsw hw
      unfold wOpS at hb
      refine wOp_sound htt (lkBase_ok base S) hr hb fun g' a' w' s' hr' hx hk => ?_
      exact ih (pre ++ post) _ (by simp at hl ⊢; omega) (hL.step ⟨o, ho, hpre⟩) hr' hk.2 fun g2 a2 w2 s2 hr2 hx2 hk2 => hK g2 a2 w2 s2 hr2 (hx.trans hx2) hk2
theorem drawn_sound (htt : TTok P tt) {S : Nat → Bool} {ops : Array Oper} {base : Nat} {Q : Exit → Act → World → Prop} {K : St → Prop} {l : List Nat} (hok : okDraw ops l = true) {g : Ghost} {a : Act} {w : World} {s : St} (hr : Rel tt g a w s)
    (hw : wIdxS P tt S (keepOf ops (ancs ops.toList)) ops.toList base l K s) (hK : ∀ g' a' w' s', Rel tt g' a' w' s' → Ext g w s.heap g' w' s'.heap → K s' → Q .normal a' w') :
    wpAny P .any ops Q ops.size (Array.replicate ops.size false) a w := by
  unfold okDraw at hok
  simp only [Bool.and_eq_true, beq_iff_eq] at hok
  obtain ⟨⟨h1, h2⟩, h3⟩ := hok
  obtain ⟨a1, a2, a3, a4, a5⟩ := pairsOK_spec l [] h1
  have hget : ∀ k, (Array.replicate ops.size false).getD k false = false := by
    intro k
    by_cases h : k < ops.size <;> simp [h]
  have hlt : ∀ i ∈ l, i < ops.size := by
    intro i hi
    obtain ⟨l1, l2, e⟩ := List.append_of_mem hi
    obtain ⟨o, ho, _⟩ := a3 l1 i l2 e
    exact (Array.getElem?_eq_some_iff.1 ho).1
  refine drawn_go htt (fun i o ho hc => keepOf_no ho hc) ops.size l _ (by omega) ⟨by simp, ?_, hlt, ?_, a1, ?_, a4⟩ hr hw hK
  · intro i hi
    rw [hget]
    simp only [true_iff]
    have := List.all_eq_true.1 h3 i (List.mem_range.2 hi)
    simpa using this
  · intro k o _ hk
    rw [hget] at hk
    cases hk
  · intro l1 i l2 e
    obtain ⟨o, ho, hh⟩ := a3 l1 i l2 e
    exact ⟨o, ho, fun e he hb => .inr ((hh e he hb).resolve_left (by simp))⟩
end
end Go.Cl
