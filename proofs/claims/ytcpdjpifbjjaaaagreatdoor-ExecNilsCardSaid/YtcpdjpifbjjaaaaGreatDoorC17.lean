/-
  THE CLEAN MACHINE, part 17: a machine of values by name that the model follows; each law here says that a step of the model does what the clean machine says. Nothing here speaks of this program.
-/
import Derived.Test.YtcpdjpifbjjaaaaGreatDoorC16
set_option linter.unusedVariables false
set_option linter.unusedSimpArgs false
namespace Go.Cl
open Go.RowKit (Below)
section
variable {P : Program} {tt : TT}
-- CALLS
def clRes (rs : List ResultVar) (slots : List D) : Option D :=
  match rs with
  | [] => some (.tup [])
  | [.tmp a] => if (slots.getD a .junk).plain = true then some (slots.getD a .junk) else none
  | [.tmp a, .tmp b] => if (slots.getD a .junk).plain = true ∧ (slots.getD b .junk).plain = true then some (.tup [slots.getD a .junk, slots.getD b .junk]) else none
  | [.tmp a, .tmp b, .tmp c] => if (slots.getD a .junk).plain = true ∧ (slots.getD b .junk).plain = true ∧ (slots.getD c .junk).plain = true then some (.tup [slots.getD a .junk, slots.getD b .junk, slots.getD c .junk]) else none
  | _ => none
theorem plain_ite {d : D} (h : d.plain = true) (c : Bool) (e : D) : d ≠ .ite c e := by rintro rfl; cases h
theorem sv_plain {g : Ghost} {h : Array Obj} {d : D} {v : Value} (hp : d.plain = true) (hv : SV tt g h d v) : V tt g h d v := by
  cases d <;> first | exact hv | cases hp
theorem clRes_sound {g : Ghost} {h : Array Obj} {slots : List D} {tmps : Array Value} (hv : SlotsV tt g h slots tmps) {fn : Func} {d : D} (hd : clRes fn.results.toList slots = some d) (w : World) :
    ∃ v, (results fn tmps).run P w = .ok v w ∧ SV tt g h d v := by
  have at' : ∀ a, (slots.getD a .junk).plain = true → VOf (slots.getD a .junk).isAgg (DFlat tt g h (slots.getD a .junk)) (tmps.getD a undef) := fun a hp => vof_of_v hp (sv_plain hp (hv.2 a))
  unfold clRes at hd
  split at hd
  · rename_i e
    cases hd
    have e' : fn.results = #[] := Array.ext' e
    exact ⟨.tuple #[], by simp [results, e'], ⟨#[], rfl, by simp [DVL]⟩⟩
  · rename_i a e
    have e' : fn.results = #[.tmp a] := Array.ext' e
    split at hd
    · rename_i hp
      cases hd
      exact ⟨tmps.getD a undef, by simp [results, e'], hv.2 a⟩
    · cases hd
  · rename_i a b e
    have e' : fn.results = #[.tmp a, .tmp b] := Array.ext' e
    split at hd
    · rename_i hp
      cases hd
      exact ⟨.tuple #[tmps.getD a undef, tmps.getD b undef], by simp [results, e'], ⟨_, rfl, by simp only [DVL]; exact ⟨_, _, rfl, at' a hp.1, _, _, rfl, at' b hp.2, rfl⟩⟩⟩
    · cases hd
  · rename_i a b c e
    have e' : fn.results = #[.tmp a, .tmp b, .tmp c] := Array.ext' e
    split at hd
    · rename_i hp
      cases hd
      exact ⟨.tuple #[tmps.getD a undef, tmps.getD b undef, tmps.getD c undef], by simp [results, e'], ⟨_, rfl, by simp only [DVL]; exact ⟨_, _, rfl, at' a hp.1, _, _, rfl, at' b hp.2.1, _, _, rfl, at' c hp.2.2, rfl⟩⟩⟩
    · cases hd
  · cases hd
theorem slots_init {g : Ghost} {h : Array Obj} {ds : List D} {vs : Array Value} (hv : DVL tt g h ds vs.toList) (n : Nat) : SlotsV tt g h (ds ++ List.replicate (n - ds.length) .junk) (vs ++ Array.replicate (n - vs.size) undef) := by
  have hl : ds.length = vs.size := by have := DVL.len _ _ hv; simpa using this
  refine ⟨by simp [hl], fun i => ?_⟩
  by_cases hi : i < ds.length
  · obtain ⟨v, h1, h2⟩ := DVL.at ds vs.toList i ds[i] hv (by simp)
    have h1' : vs[i]? = some v := by simpa using h1
    have hi' : i < vs.size := by omega
    have e1 : (ds ++ List.replicate (n - ds.length) D.junk).getD i .junk = ds[i] := by simp [List.getD_eq_getElem?_getD, List.getElem?_append_left hi, hi]
    have e2 : (vs ++ Array.replicate (n - vs.size) undef).getD i undef = v := by rw [Array.getD_eq_getD_getElem?, Array.getElem?_append_left hi', h1']; rfl
    rw [e1, e2]
    refine sv_of_v (fun c e he => ?_) (v_of_vof h2)
    rw [he] at h2
    simp [VOf, D.isAgg, DFlat] at h2
  · have e1 : (ds ++ List.replicate (n - ds.length) D.junk).getD i .junk = .junk := by
      rw [List.getD_eq_getElem?_getD, List.getElem?_append_right (by omega), List.getElem?_replicate]
      split <;> rfl
    rw [e1]
    exact trivial
/-- The functions that are there. -/
def FTok (P : Program) (ft : FuncId → Option Func) : Prop := ∀ f fn, ft f = some fn → P.funcs[f]? = some fn ∧ (fn.name == "runtime.NumGoroutine") = false
noncomputable def clCall (tt : TT) (ft : FuncId → Option Func) (m n : Nat) : Caller :=
  Nat.rec (motive := fun _ => Caller) (fun _ _ _ => none) (fun _ ih f ds H =>
    match ft f with
    | none => none
    | some fn => match fn.body with
      | none => none
      | some c => match clCode tt ih m c ⟨ds ++ List.replicate (fn.ntmps - ds.length) .junk, H⟩ with
        | some (.normal, s') => match clRes fn.results.toList s'.slots with | some d => some (d, s'.heap) | none => none
        | some (.ret, s') => match clRes fn.results.toList s'.slots with | some d => some (d, s'.heap) | none => none
        | _ => none) n
theorem clCall_sound (htt : TTok P tt) (hm : P.follows .mixedOrders = true) {ft : FuncId → Option Func} (hft : FTok P ft) (m : Nat) : ∀ (n : Nat) f ds H d H', clCall tt ft m n f ds H = some (d, H') → EvK P tt f ds H fun d1 H1 => d1 = d ∧ H1 = H' := by
  intro n
  induction n with
  | zero => intro f ds H d H' h; cases h
  | succ n ih =>
    intro f ds H d H' h
    change (match ft f with
    | none => none
    | some fn => match fn.body with
      | none => none
      | some c => match clCode tt (clCall tt ft m n) m c ⟨ds ++ List.replicate (fn.ntmps - ds.length) .junk, H⟩ with
        | some (.normal, s') => match clRes fn.results.toList s'.slots with | some d => some (d, s'.heap) | none => none
        | some (.ret, s') => match clRes fn.results.toList s'.slots with | some d => some (d, s'.heap) | none => none
        | _ => none) = some (d, H') at h
    split at h
    · cases h
    · rename_i fn hfn
      obtain ⟨hf, hname⟩ := hft f fn hfn
      split at h
      · cases h
      · rename_i c hc
        have main : ∀ (e : Exit) (s' : St), (e = .normal ∨ e = .ret) → clCode tt (clCall tt ft m n) m c ⟨ds ++ List.replicate (fn.ntmps - ds.length) .junk, H⟩ = some (e, s') → (match clRes fn.results.toList s'.slots with | some d => some (d, s'.heap) | none => none) = some (d, H') →
            EvK P tt f ds H fun d1 H1 => d1 = d ∧ H1 = H' := by
          intro e s' he hrun hres
          split at hres
          · rename_i d0 hd0
            cases hres
            refine ⟨⟨fn, hf, by rw [hc]; rfl, hname⟩, fun g w vs hH hvs => ?_⟩
            refine calls_of_wp hf hc ?_
            refine wp_mono ((clCode_sound htt hm ih m).1 c _ e s' hrun g _ w ⟨hH, slots_init hvs fn.ntmps, rfl⟩) ?_
            rintro e' a' w' ⟨rfl, g', hr', hx'⟩
            obtain ⟨v, hv1, hv2⟩ := clRes_sound (P := P) hr'.slots hd0 w'
            rcases he with rfl | rfl
            · exact ⟨hr'.defers, v, hv1, v, g', _, _, rfl, hr'.heap, hx', hv2, rfl, rfl⟩
            · exact ⟨hr'.defers, v, hv1, v, g', _, _, rfl, hr'.heap, hx', hv2, rfl, rfl⟩
          · cases hres
        split at h
        · rename_i s' hrun; exact main _ s' (.inl rfl) hrun h
        · rename_i s' hrun; exact main _ s' (.inr rfl) hrun h
        · cases h
end
end Go.Cl
