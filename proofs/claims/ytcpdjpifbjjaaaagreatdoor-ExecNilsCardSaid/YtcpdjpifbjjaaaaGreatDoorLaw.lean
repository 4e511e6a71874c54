/-
  EXECNILS: whatever the two arguments are, the call of trommellaw35.ExecNils returns true, and each argument reads behind the call as it read before: the row's statement and the tied card. No condition.
-/
import Derived.Test.YtcpdjpifbjjaaaaGreatDoorC18
import Derived.Test.YtcpdjpifbjjaaaaGreatDoorTie
import Derived.Test.YtcpdjpifbjjaaaaGreatDoorCards
import Derived.ProofKit
import Derived.OpenShut
import Derived.LaidMore
import Derived.Lay
import Derived.SevenTiedAt
import Derived.Stop.Joined
import Derived.Carry
import Derived.ChangeSlices
namespace Go.Proofs.YtcpdjpifbjjaaaaGreatDoor
open Go.Cl
-- THE CLEAN MACHINE AT THIS PROGRAM
noncomputable def tz : TT := ttOf Tryz.prog 285 [13, 14, 18, 19, 231, 232, 242, 243]
theorem tz_ok : TTok Tryz.prog tz := ttOf_ok 285 (by kernel_rfl)
noncomputable def ftz : FuncId → Option Func := fun f => Tryz.prog.funcs[f]?
theorem names_ok : Tryz.prog.funcs.toList.all (fun fn => !(fn.name == "runtime.NumGoroutine")) = true := by kernel_rfl
theorem ftz_ok : FTok Tryz.prog ftz := fun f fn h => by
  refine ⟨h, ?_⟩
  have := List.all_eq_true.1 names_ok fn (by simpa using Array.mem_of_getElem? h)
  simpa using this
theorem mixed_ok : Tryz.prog.follows .mixedOrders = true := by kernel_rfl
-- THE LAW's BODY
def seqL : Code → Code
  | .seq a _ => a
  | c => c
def seqR : Code → Code
  | .seq _ b => b
  | c => c
def condT : Code → Code
  | .cond _ a _ => a
  | c => c
def condE : Code → Code
  | .cond _ _ b => b
  | c => c
noncomputable def body : Code := Tryz.f3.body.getD .skip
noncomputable def c0 : Code := seqL body
noncomputable def c1 : Code := seqL (seqL (seqR body))
noncomputable def c2 : Code := condT (seqR (seqL (seqR body)))
noncomputable def c3 : Code := seqR (seqR body)
theorem body_is : Tryz.f3.body = some (c0.seq ((c1.seq (.cond (.tmp 10) c2 .skip)).seq c3)) := by kernel_rfl
noncomputable def run (c : Code) (s : St) : Option (Exit × St) := clCode tz (clCall tz ftz 400 40) 400 c s
def stOf : Option (Exit × St) → St
  | some (_, s) => s
  | none => ⟨[], []⟩
def endTrue : Option (Exit × St) → Bool
  | some (.ret, s) => match s.slots.getD 4 .junk with
    | .pv (.bool true) => true
    | _ => false
  | _ => false
theorem endTrue_ok {o : Option (Exit × St)} (h : endTrue o = true) : ∃ s, o = some (.ret, s) ∧ s.slots.getD 4 .junk = .pv (.bool true) := by
  unfold endTrue at h
  split at h
  · rename_i s
    split at h
    · rename_i e
      exact ⟨s, rfl, e⟩
    · cases h
  · cases h
noncomputable def s0 (n : Int) (ps : List Pv) : St := ⟨[.pv (.int .i64 n), .pv (.sl 3 ps)] ++ List.replicate (Tryz.f3.ntmps - 2) .junk, []⟩
noncomputable def s1 (n : Int) (ps : List Pv) : St := stOf (run c0 (s0 n ps))
noncomputable def s2 (n : Int) (ps : List Pv) : St := stOf (run c1 (s1 n ps))
theorem run0 (n : Int) (ps : List Pv) : run c0 (s0 n ps) = some (.normal, s1 n ps) := by kernel_rfl
theorem run1 (n : Int) (ps : List Pv) : run c1 (s1 n ps) = some (.normal, s2 n ps) := by kernel_rfl
theorem test2 (n : Int) (ps : List Pv) : evalD tz (s2 n ps).slots 0 (.tmp 10) = .pv (.bool (decide ((100 : Int) < (ps.length : Int)))) := by kernel_rfl
theorem run2 (n : Int) (ps : List Pv) : endTrue (run c2 (s2 n ps)) = true := by kernel_rfl
theorem run3 (n : Int) (ps : List Pv) : endTrue (run c3 (s2 n ps)) = true := by kernel_rfl
theorem code_ok (c : Code) {s : St} {e : Exit} {s' : St} (h : run c s = some (e, s')) {g : Ghost} {a : Act} {w : World} (hr : Rel tz g a w s) : c.wp Tryz.prog (Cl.Ends tz g w s e s') a w :=
  (clCode_sound tz_ok mixed_ok (clCall_sound tz_ok mixed_ok ftz_ok 400 40) 400).1 c s e s' h g a w hr
theorem results4 : Tryz.f3.results.toList = [.tmp 4] := by kernel_rfl
/-- Behind the run nothing has turned that was there. -/
theorem below_of {g g' : Ghost} {w w' : World} {H' : List CObj} (hx : Ext g w [] g' w' H') : RowKit.Below w.heap.size w w' :=
  ⟨hx.os, hx.tape, hx.output, hx.size, fun k hk => hx.frame k hk fun ⟨id, N, v, ⟨o, ho, _⟩, _⟩ => by cases ho⟩
theorem last {g : Ghost} {w : World} {c : Code} {s : St} (h : endTrue (run c s) = true) {a : Act} {w1 : World} {g1 : Ghost} (hr : Rel tz g1 a w1 s) (hx : Ext g w [] g1 w1 s.heap) {Q : Exit → Act → World → Prop}
    (hQ : ∀ a' w', bodyPost Tryz.prog Tryz.f3 (fun e w' => e = .returned (.bool true) ∧ RowKit.Below w.heap.size w w') .ret a' w' → Q .ret a' w') : c.wp Tryz.prog Q a w1 := by
  obtain ⟨s', h1, h2⟩ := endTrue_ok h
  refine wp_mono (code_ok c h1 hr) ?_
  rintro e' a' w' ⟨rfl, g', hr', hx'⟩
  have hd : clRes Tryz.f3.results.toList s'.slots = some (.pv (.bool true)) := by
    rw [results4]
    simp only [clRes, h2]
    rfl
  obtain ⟨v, hv1, hv2⟩ := clRes_sound (P := Tryz.prog) hr'.slots hd w'
  obtain rfl : v = .bool true := v_bool.1 hv2
  exact hQ a' w' ⟨hr'.defers, _, hv1, rfl, below_of (hx.trans hx')⟩
theorem eval_bool {g : Ghost} {h : Array Obj} {slots : List D} {a : Act} (hs : SlotsV tz g h slots a.tmps) (x : Operand) {b : Bool} (e : evalD tz slots 0 x = .pv (.bool b)) : a.eval x = .bool b := by
  have ht := eval_sound (tt := tz) hs 0 x
  rw [e] at ht
  exact v_bool.1 ht
theorem nils_calls (n : Int) (ps : List Pv) (g : Ghost) (W : World) (u v : Value) (hH : HRel tz g W.heap []) (hu : V tz g W.heap (.pv (.int .i64 n)) u) (hv : V tz g W.heap (.pv (.sl 3 ps)) v) :
    Calls Tryz.prog 3 #[u, v] W fun e w' => e = .returned (.bool true) ∧ RowKit.Below W.heap.size W w' := by
  refine calls_of_wp Tryz.func3 body_is ?_
  have hvs : DVL tz g W.heap [.pv (.int .i64 n), .pv (.sl 3 ps)] (#[u, v] : Array Value).toList := by
    simp only [DVL]
    exact ⟨u, [v], rfl, vof_of_v rfl hu, v, [], rfl, vof_of_v rfl hv, rfl⟩
  have hr0 : Rel tz g { tmps := #[u, v] ++ Array.replicate (Tryz.f3.ntmps - (#[u, v] : Array Value).size) undef, defers := [] } W (s0 n ps) := ⟨hH, slots_init hvs Tryz.f3.ntmps, rfl⟩
  refine wp_seq (wp_mono (code_ok c0 (run0 n ps) hr0) ?_)
  rintro e a w ⟨rfl, g1, hr1, hx1⟩
  refine wp_seq (wp_seq (wp_mono (code_ok c1 (run1 n ps) hr1) ?_))
  rintro e a w ⟨rfl, g2, hr2, hx2⟩
  have hx : Ext g W [] g2 w (s2 n ps).heap := hx1.trans hx2
  refine wp_cond_split (eval_bool hr2.slots (.tmp 10) (test2 n ps)) (fun _ => ?_) (fun _ => ?_)
  · exact last (run2 n ps) hr2 hx fun a' w' h => h
  · exact wp_skip (last (run3 n ps) hr2 hx fun a' w' h => h)
-- THE ARGUMENTS
theorem ints_flat {B : TypeId → Nat → Prop} {h : Array Obj} : ∀ zs : List Int, FlatL tz B h (zs.map (Pv.int .i64)) (zs.map (Value.int .i64))
  | [] => by simp [FlatL]
  | z :: zs => by
    simp only [List.map_cons, FlatL]
    exact ⟨[_], _, rfl, by simp only [Flat], ints_flat zs⟩
theorem size3 : (tz 3).size = 1 := by kernel_rfl
def g0 (W : World) : Ghost := ⟨fun _ => none, fun _ b => b < W.heap.size⟩
theorem rel0 (W : World) : HRel tz (g0 W) W.heap [] :=
  ⟨fun id o h => (by cases h), fun i j b N v N' v' ⟨o, h, _⟩ => (by cases h), fun b ⟨id, N, v, ⟨o, h, _⟩, _⟩ => (by cases h), fun T b h => h, fun id _ => rfl⟩
theorem ints_v (W : World) (a : Addr) (len cap : Nat) (zs : List Int) (hl : len ≤ cap) (hz : len ≤ zs.length) (hc : ∀ i, i < zs.length → W.cell? (a.add i) = some (.int .i64 (zs.getD i 0))) :
    V tz (g0 W) W.heap (.pv (.sl 3 ((zs.take len).map (Pv.int .i64)))) (.slice (some a) len cap) := by
  rw [v_sl]
  have hlen : ((zs.take len).map (Pv.int .i64)).length = len := by simp; omega
  rcases Nat.eq_zero_or_pos len with h0 | hp
  · subst h0
    exact .inl ⟨by simp, _, _, rfl⟩
  · right
    have hc0 := hc 0 (by omega)
    have ha0 : a.add 0 = a := by simp [Addr.add]
    rw [ha0] at hc0
    obtain ⟨b, off, spot⟩ := a
    unfold World.cell? at hc0
    split at hc0
    · rename_i c E fz hb
      split at hc0
      · cases hc0
      · rename_i hs
        have hs' : spot = none := by cases spot <;> simp_all
        subst hs'
        have hcell : ∀ i, i < len → c[off + i]? = some (.int .i64 (zs.getD i 0)) := by
          intro i hi
          have := hc i (by omega)
          rw [add_add] at this
          simpa [World.cell?, hb] using this
        have hoff : off + len ≤ c.size := by
          have := (Array.getElem?_eq_some_iff.1 (hcell (len - 1) (by omega))).1
          omega
        refine ⟨b, off, cap, c, E, fz, by rw [hlen], by rw [hlen]; exact hl, ?_, hb, by rw [hlen, size3]; omega, ?_, ?_⟩
        · exact (Array.getElem?_eq_some_iff.1 hb).1
        · intro p hp'
          obtain ⟨z, _, rfl⟩ := List.mem_map.1 hp'
          rw [size3]; rfl
        · have : (c.toList.drop off).take (((zs.take len).map (Pv.int .i64)).length * (tz 3).size) = (zs.take len).map (Value.int .i64) := by
            rw [hlen, size3, Nat.mul_one]
            apply List.ext_getElem?
            intro i
            by_cases hi : i < len
            · rw [List.getElem?_take_of_lt hi, List.getElem?_drop, Array.getElem?_toList, hcell i hi, List.getElem?_map, List.getElem?_take_of_lt hi, List.getElem?_eq_getElem (by omega : i < zs.length)]
              simp [List.getD_eq_getElem?_getD, (by omega : i < zs.length)]
            · rw [List.getElem?_eq_none (by simp; omega), List.getElem?_eq_none (by simp; omega)]
          rw [this]
          exact ints_flat _
    · cases hc0
-- THE ROW
open Go.ChangeShapes Go.WideShapes Go.ChangeAt Go.RowKit
theorem own : ownKnob Tryz.prog.godebug = none := by kernel_rfl
theorem laidOut : laidOutB Tryz.prog = true := by kernel_rfl
theorem cells3 : Tryz.prog.cellsOf 3 = 1 := by kernel_rfl
set_option maxRecDepth 100000 in
theorem lifted (os : Os) (started : os.Started) (H : Type) (enc : TypeId × Value → H) :
    ReturnsInHanded {} Tryz.checked os 3 .any (fun w args => (Rows.execNilsSpec.pre enc Tryz.prog Tryz.f3 Rows.execNilsRow.domain false w args ∧ laidMetH Tryz.prog Rows.execNilsRow.laid w) ∧ sizedMet enc Tryz.prog Tryz.f3 (OpenSpec.ofChange Rows.execNilsSpec) false w args)
      (Rows.execNilsSpec.post enc Tryz.prog Tryz.f3 false true false false) := by
  refine returnsInHanded_of_change_and (C := Tryz.checked) (X := fun w _ => laidMetH Tryz.prog Rows.execNilsRow.laid w) (fun _ _ _ hh h => h.of_heap hh) own started (by kernel_rfl) Tryz.func3
    (ChangeSpec.witness_shaped (enc := enc) (C := Tryz.checked) (os := os) (X := fun w _ => laidMetH Tryz.prog Rows.execNilsRow.laid w) false (World.laidAll Tryz.prog os Rows.execNilsRow.laid) #[.int .i64 0, .slice none 0 0] 8 (World.laidAll_os _ _ _)
      (World.shaped_of_ZipB (by kernel_rfl) (by kernel_rfl)) (by kernel_rfl) (by kernel_rfl) (by kernel_rfl)
      (by rw [MakeChecks.laidMetH_plain _ _ _ (by kernel_rfl)]; exact laidMet_laidAll _ (by kernel_rfl) (by kernel_rfl))) ?_
  intro W base args ds gs before hval0 hW _ _ _ _
  have hval : ∀ (j : Nat) t v, Tryz.f3.params[j]? = some t → args[j]? = some v → Value.okWide Tryz.prog W .any base t v := hval0
  have hW' := hW
  obtain ⟨p, q, hA0, hV, rfl, _, _⟩ := hW
  have hA : DataW.TrodAll enc Tryz.prog W 0 (fun _ => true) true Tryz.f3.params.toList args.toList ds p := hA0
  rw [Tryz.params3] at hA hval
  obtain ⟨v0, v1, d0, d1, p0, p1, rfl, rfl, rfl, h0, h1⟩ := trodAll_two hA
  obtain ⟨rfl, rfl⟩ := trodVars_none hV
  have h0k := h0
  have h1k := h1
  have hlt0 : ∀ x ∈ p0, x.block < W.heap.size := fun x hx => hW'.lt x (by simp [hx])
  have hlt1 : ∀ x ∈ p1, x.block < W.heap.size := fun x hx => hW'.lt x (by simp [hx])
  obtain ⟨n, rfl, rfl, rfl, wn⟩ := open_int Tryz.underlying3 (hval 0 3 v0 rfl rfl) h0
  have hsl : ∃ ps, V tz (g0 W) W.heap (.pv (.sl 3 ps)) v1 := by
    obtain ⟨a0, len, cap, rfl⟩ := okWide_slice Tryz.underlying22 (hval 1 22 v1 rfl rfl)
    obtain ⟨fuel, hf⟩ := h1
    rcases open_ints Tryz.underlying22 Tryz.underlying3 cells3 hf with ⟨hcs, _⟩ | ⟨a, len', cap', zs, hcs, _, hl, _, hz, _, hcell, _⟩
    · simp [Value.cells] at hcs
      obtain ⟨rfl, rfl, rfl⟩ := hcs
      exact ⟨[], by rw [v_sl]; exact .inl ⟨rfl, _, _, rfl⟩⟩
    · simp [Value.cells] at hcs
      obtain ⟨rfl, rfl, rfl⟩ := hcs
      exact ⟨_, ints_v W a len cap zs hl (by rw [hz]; simpa using hl) hcell⟩
  obtain ⟨ps, hps⟩ := hsl
  refine (nils_calls n ps (g0 W) W _ _ (rel0 W) (v_int.2 rfl) hps).mono ?_
  rintro e W' ⟨rfl, hB⟩
  refine ⟨_, rfl, _, _, _, [], [] ++ p1, [], hW', ?_, ?_, ?_, hB.frame _, fun h => by cases h⟩
  · exact trodAll_mk1 (shut_bool Tryz.underlying4 true)
  · exact trodAll_mk2 (Below.trod laidOut (by kernel_rfl) (of_decide_eq_true (by kernel_rfl)) h0k hB hlt0) (Below.trod laidOut (by kernel_rfl) (of_decide_eq_true (by kernel_rfl)) h1k hB hlt1)
  · rfl
theorem execNils_holds : Rows.ExecNilsSaid :=
  OpenClaim.holds_of_wide 3 Tryz.f3 rfl rfl rfl rfl rfl rfl rfl ⟨rfl, rfl, rfl, rfl, rfl⟩ rfl rfl rfl rfl rfl (by kernel_rfl) Tryz.func3 (by kernel_rfl)
    (of_decide_eq_true (by kernel_rfl)) (by unfold Func.isWrapper; first | (rw [if_pos (by decide +kernel)]; kernel_rfl) | (rw [if_neg (by decide +kernel)]; exact ⟨rfl, rfl⟩))
    (fun os started H enc _ => lifted os started H enc)
/-- THE TIED CARD. -/
theorem execNils_card : Rows.ExecNilsCardSaid :=
  Claim7.holds_tied_plain_at .later [] [.data, .data, .data] true (true, "20cc885e104092ae043b4fc481f1c96695336ec062d9104fb4056782667c5b79") false execNils_holds (fun _ h => by cases h) (by kernel_rfl) (fun _ h => by cases h) execNils_row_tie rfl ⟨rfl, rfl⟩ (by kernel_rfl) rfl
    (fun f fn hf hfn => by
      obtain rfl : f = 3 := Option.some.inj ((show Tryz.prog.funcNamed "trommel/trommellaw35.ExecNils" = some 3 by kernel_rfl).symm.trans hf) |>.symm
      obtain rfl : fn = Tryz.f3 := (Option.some.inj (Tryz.func3.symm.trans hfn)).symm
      exact ⟨by kernel_rfl, fun j t ht => by
        rw [Tryz.params3] at ht
        have hm : t ∈ [3, 22] := by simpa using Array.mem_of_getElem? ht
        have hall : ([3, 22].all fun u => !Tryz.prog.wantsStandIn u) = true := by kernel_rfl
        exact (show Tryz.prog.wantsStandIn t = false by simpa using List.all_eq_true.1 hall t hm)⟩)
    (by kernel_rfl)
#print axioms execNils_card
end Go.Proofs.YtcpdjpifbjjaaaaGreatDoor
