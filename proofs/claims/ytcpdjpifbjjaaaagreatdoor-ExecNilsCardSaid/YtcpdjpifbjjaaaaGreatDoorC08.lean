/-
  THE CLEAN MACHINE, part 08: a machine of values by name that the model follows; each law here says that a step of the model does what the clean machine says. Nothing here speaks of this program.
-/
import Derived.Test.YtcpdjpifbjjaaaaGreatDoorC07
set_option linter.unusedVariables false
set_option linter.unusedSimpArgs false
namespace Go.Cl
open Go.RowKit (Below)
section
variable {P : Program} {tt : TT}
-- MISCELLANEA
theorem field_sound (htt : TTok P tt) {g : Ghost} {w : World} {H : List CObj} (hr : HRel tt g w.heap H) {t : TypeId} {x : D} {v : Value} {f : Nat} (hx : V tt g w.heap x v) {out : Out}
    (h : opField tt t f x = some out) : Good P tt (Instr.field t v f) g w H out := by
  unfold opField at h
  split at h
  · rename_i fs ht
    split at h
    · rename_i o ft hf
      split at h
      · rename_i d hag hd
        cases h
        obtain ⟨F, hu, hF, hnm⟩ := und_struct htt ht
        have hfk := kid_struct htt ht (List.mem_of_getElem? hf)
        have hfd : ∃ fd, F[f]? = some fd ∧ fd.offset = o ∧ fd.type = ft := by
          rw [← hF, List.getElem?_map, Option.map_eq_some_iff] at hf
          obtain ⟨fd, h1, h2⟩ := hf
          cases h2
          exact ⟨fd, by simpa using h1, rfl, rfl⟩
        obtain ⟨fd, hfd, rfl, rfl⟩ := hfd
        have hpl : x.plain = true := by cases x <;> simp_all [D.isAgg, D.plain]
        have hv := vof_of_v hpl hx
        have hcs : ∃ cs, v = .agg cs ∧ DFlat tt g w.heap x cs.toList := by
          unfold VOf at hv; rw [hag] at hv; simpa using hv
        obtain ⟨cs, rfl, hfl⟩ := hcs
        obtain ⟨a1, a2, a3, a4⟩ := D.sub_flat x _ _ _ _ d hfl hd
        refine good_pure hr rfl (v := whole (tt fd.type).td.isAgg ((cs.toList.drop fd.offset).take (tt fd.type).size)) ?_ (v_of_vof (vof_whole a1 a3 fun hag => by rw [a2, hfk.one hag]))
        simp only [Instr.field, Sem.run_bind, run_und hu, Result.andThen_ok, hfd, asAgg, Sem.run_pure]
        exact part_run htt hfk (by simpa using a4)
      · cases h
    · cases h
  · cases h
theorem index_sound (htt : TTok P tt) {g : Ghost} {w : World} {H : List CObj} (hr : HRel tt g w.heap H) {t : TypeId} {x y : D} {u v : Value} (hx : V tt g w.heap x u) (hy : V tt g w.heap y v) {out : Out}
    (h : opIndex tt t x y = some out) (hs : out.side) : Good P tt (Instr.index t u v) g w H out := by
  unfold opIndex at h
  split at h
  · rename_i s k i
    obtain ⟨b, rfl, rfl⟩ := v_str.1 hx
    rw [v_int] at hy
    subst hy
    split at h
    · rename_i ht
      cases h
      simp only [okS, data_len] at hs
      obtain ⟨h0, h1⟩ := hs
      have hlt : i.toNat < b.size := by omega
      refine good_pure hr rfl (v := .int .u8 (b.data.toList.getD i.toNat 0).toNat) ?_ (by rw [v_int])
      have hg : b[i.toNat]? = some b.data[i.toNat] := by
        rw [getElem?_pos b i.toNat hlt]; rfl
      simp only [Instr.index, Sem.run_bind, asIntOf, Sem.run_pure, Result.andThen_ok, run_und (und_str htt ht), h0, if_true, hg]
      congr 3
      simp only [List.getD_eq_getElem?_getD, Array.getElem?_toList]
      rw [getElem?_pos b.data i.toNat hlt]
      rfl
    · cases h
  · cases h
theorem nil_sound {g : Ghost} {w : World} {H : List CObj} (hr : HRel tt g w.heap H) {x : D} {v : Value} (hx : V tt g w.heap x v) {out : Out} (h : opNil x = some out) : out.v = x ∧ out.eff = .none ∧ out.side = True ∧
    (v ≠ .pointer none ∧ v ≠ .nilIface ∧ v ≠ .nilFunc ∧ ∀ n a b, v ≠ .func (.method n) a b) ∨ ∃ T id ver i off, x = .aptr T id ver i off := by
  unfold opNil at h
  split at h
  · obtain ⟨b, N, rfl, _⟩ := v_cptr.1 hx
    cases h; exact .inl ⟨rfl, rfl, rfl, by simp⟩
  · exact .inr ⟨_, _, _, _, _, rfl⟩
  · obtain ⟨b, o, c, E, fz, rfl, _⟩ := v_sptr.1 hx
    cases h; exact .inl ⟨rfl, rfl, rfl, by simp⟩
  · rename_i f a b
    simp only [V, VOf, D.isAgg, Bool.false_eq_true, if_false, DFlat] at hx
    obtain ⟨⟨va, vb, e, _⟩, _⟩ := hx
    simp at e
    subst e
    cases h; exact .inl ⟨rfl, rfl, rfl, by simp⟩
  · cases h
theorem minmax_sound {g : Ghost} {w : World} {H : List CObj} (hr : HRel tt g w.heap H) {mx : Bool} {ts : Array TypeId} {t : TypeId} {xs : List D} {vs : List Value} (hx : ∀ i, V tt g w.heap (xs.getD i .junk) (vs.getD i undef)) (hl : xs.length = vs.length) {out : Out}
    (h : opMinMax mx xs = some out) : Good P tt (if mx = true then Builtin.max_ ts t vs.toArray else Builtin.min_ ts t vs.toArray) g w H out := by
  unfold opMinMax at h
  split at h
  · rename_i k a k' b
    match vs, hl with
    | [u, v], _ =>
      have h0 := hx 0
      have h1 := hx 1
      simp only [List.getD_cons_zero, List.getD_cons_succ, v_int] at h0 h1
      subst h0 h1
      split at h
      · rename_i e
        subst e
        cases h
        cases mx
        · exact good_pure hr rfl (v := .int k (if b < a then b else a)) (by simp [Builtin.min_, Builtin.min2]) (by rw [v_int]; rfl)
        · exact good_pure hr rfl (v := .int k (if b > a then b else a)) (by simp [Builtin.max_, Builtin.max2]) (by rw [v_int]; rfl)
      · cases h
  · rename_i k a k' b k'' c
    match vs, hl with
    | [u, v, x], _ =>
      have h0 := hx 0
      have h1 := hx 1
      have h2 := hx 2
      simp only [List.getD_cons_zero, List.getD_cons_succ, v_int] at h0 h1 h2
      subst h0 h1 h2
      split at h
      · rename_i e
        obtain ⟨rfl, rfl⟩ := e
        cases h
        cases mx
        · exact good_pure hr rfl (v := .int k (if c < (if b < a then b else a) then c else (if b < a then b else a))) (by simp [Builtin.min_, Builtin.min2]) (by rw [v_int]; rfl)
        · exact good_pure hr rfl (v := .int k (if c > (if b > a then b else a) then c else (if b > a then b else a))) (by simp [Builtin.max_, Builtin.max2]) (by rw [v_int]; rfl)
      · cases h
  · cases h
-- TELLING BY VALUE IS RIGHT
def cobjT : CObj → Option TypeId
  | .parr T _ _ => some T
  | .arr T _ _ => some T
  | _ => none
/-- What is settled when these arrays are. -/
def BPlus (g : Ghost) (r : Reads) (T : TypeId) (b : Nat) : Prop := g.B T b ∨ ∃ x ∈ r, cobjT x.2 = some T ∧ ∃ N v, g.φ x.1 = some (.blk b N, v)
theorem BPlus.mono {g : Ghost} {r r' : Reads} (h : ∀ x ∈ r, x ∈ r') {hp : Array Obj} : BMono (BPlus g r) (BPlus g r') hp hp := by
  intro T b hb
  refine ⟨?_, rfl⟩
  rcases hb with hb | ⟨x, hx, h1⟩
  · exact .inl hb
  · exact .inr ⟨x, h x hx, h1⟩
theorem mapSnap_sound {g : Ghost} {h : Array Obj} {H : List CObj} {f : D → Option (Pv × Reads)} (hf : ∀ d cs p r, DFlat tt g h d cs → f d = some (p, r) → Flat tt (BPlus g r) h p cs ∧ ∀ x ∈ r, H[x.1]? = some x.2 ∧ (cobjT x.2).isSome = true) :
    ∀ (ds : List D) (cs : List Value) (ps : List Pv) (r : Reads), DFlatL tt g h ds cs → mapSnap f ds = some (ps, r) → FlatL tt (BPlus g r) h ps cs ∧ ∀ x ∈ r, H[x.1]? = some x.2 ∧ (cobjT x.2).isSome = true
  | [], cs, ps, r, hc, he => by
    simp only [mapSnap, Option.some.injEq, Prod.mk.injEq] at he
    obtain ⟨rfl, rfl⟩ := he
    simp only [DFlatL] at hc
    exact ⟨by simpa only [FlatL] using hc, by simp⟩
  | d :: ds, cs, ps, r, hc, he => by
    simp only [DFlatL] at hc
    obtain ⟨c1, c2, rfl, h1, h2⟩ := hc
    simp only [mapSnap] at he
    split at he
    · rename_i p r1 qs r2 e1 e2
      cases he
      obtain ⟨a1, a2⟩ := hf d c1 p r1 h1 e1
      obtain ⟨b1, b2⟩ := mapSnap_sound hf ds c2 qs r2 h2 e2
      refine ⟨?_, fun x hx => ?_⟩
      · simp only [FlatL]
        exact ⟨c1, c2, rfl, Flat.mono (BPlus.mono (by simp; exact fun a b h => .inl h)) _ _ a1, FlatL.mono (BPlus.mono (by simp; exact fun a b h => .inr h)) _ _ b1⟩
      · rcases List.mem_append.1 hx with hx | hx
        · exact a2 x hx
        · exact b2 x hx
    · cases he
theorem arr_sl {g : Ghost} {h : Array Obj} {B : TypeId → Nat → Prop} {T off len b N : Nat} {lim : Option Nat} {v : Value} {ds : List D} (ha : ArrRel tt g h T ds (.blk b N)) (ho : OwnV tt T off len lim v (.blk b N)) (hl : off + len ≤ ds.length)
    {ps : List Pv} (hB : B T b) (hps : ps.length = len) (hf : ∀ cs, DFlatL tt g h ((ds.drop off).take len) cs → FlatL tt B h ps cs) (hsz : ∀ p ∈ ps, p.size = (tt T).size) : Flat tt B h (.sl T ps) [v] := by
  obtain ⟨c, E, fz, hb, hn, hcs, hdl, hds, hfl⟩ := ha
  obtain ⟨a, cap, rfl, hpos, hc, hN, _⟩ := ho
  simp only [Flat]
  by_cases h0 : len = 0
  · subst h0
    left
    exact ⟨List.length_eq_zero_iff.1 hps, _, _, rfl⟩
  · right
    obtain rfl := hpos (by omega)
    have hlen : ((ds.drop off).take len).length = len := by simp; omega
    have hm := Nat.mul_le_mul_right (tt T).size hl
    rw [Nat.add_mul] at hm
    have hm2 := Nat.mul_le_mul_right (tt T).size hdl
    refine ⟨b, off * (tt T).size, cap, c, E, fz, by rw [hps], by omega, hB, hb, by rw [hps]; omega, hsz, ?_⟩
    have := DFlatL.part ds _ off len hfl hds
    rw [hlen, drop_take_take _ _ _ _ (by omega)] at this
    rw [hps]
    exact hf _ this
theorem mapSnap_len {f : D → Option (Pv × Reads)} : ∀ (ds : List D) (ps : List Pv) (r : Reads), mapSnap f ds = some (ps, r) → ps.length = ds.length
  | [], ps, r, he => by simp only [mapSnap, Option.some.injEq, Prod.mk.injEq] at he; obtain ⟨rfl, _⟩ := he; rfl
  | d :: ds, ps, r, he => by
    simp only [mapSnap] at he
    split at he
    · rename_i p r1 qs r2 e1 e2
      cases he
      simp [mapSnap_len ds qs r2 e2]
    · cases he
theorem snap_size {look : Look} : ∀ (n : Nat) (d : D) (p : Pv) (r : Reads), snap n look d = some (p, r) → p.size = d.size ∧ p.isAgg = d.isAgg := by
  intro n
  induction n with
  | zero =>
    intro d p r h
    cases d <;> simp [snap] at h
    obtain ⟨rfl, _⟩ := h
    exact ⟨rfl, rfl⟩
  | succ n ih =>
    intro d p r h
    cases d <;> simp only [snap, reduceCtorEq] at h
    · simp only [Option.some.injEq, Prod.mk.injEq] at h
      obtain ⟨rfl, _⟩ := h
      exact ⟨rfl, rfl⟩
    · split at h
      · rename_i ds ps r' e
        cases h
        refine ⟨?_, rfl⟩
        have key : ∀ (ds : List D) (ps : List Pv) (r : Reads), mapSnap (snap n look) ds = some (ps, r) → Pv.sizeL ps = D.sizeL ds := by
          intro ds
          induction ds with
          | nil => intro ps r he; simp only [mapSnap, Option.some.injEq, Prod.mk.injEq] at he; obtain ⟨rfl, _⟩ := he; rfl
          | cons d ds ihd =>
            intro ps r he
            simp only [mapSnap] at he
            split at he
            · rename_i p r1 qs r2 e1 e2
              cases he
              simp [Pv.sizeL, D.sizeL, (ih d p r1 e1).1, ihd qs r2 e2]
            · cases he
        simp only [Pv.size, D.size]
        exact key _ _ _ e
      · cases h
    · simp only [Option.some.injEq, Prod.mk.injEq] at h
      obtain ⟨rfl, _⟩ := h
      exact ⟨rfl, rfl⟩
    · split at h
      · split at h
        · cases h; exact ⟨rfl, rfl⟩
        · cases h
      · split at h
        · split at h
          · cases h; exact ⟨rfl, rfl⟩
          · cases h
        · cases h
      · cases h
theorem mapSnap_size {look : Look} {n sz : Nat} : ∀ (ds : List D) (ps : List Pv) (r : Reads), mapSnap (snap n look) ds = some (ps, r) → (∀ d ∈ ds, d.size = sz) → ∀ p ∈ ps, p.size = sz
  | [], ps, r, he, _ => by simp only [mapSnap, Option.some.injEq, Prod.mk.injEq] at he; obtain ⟨rfl, _⟩ := he; simp
  | d :: ds, ps, r, he, hs => by
    simp only [mapSnap] at he
    split at he
    · rename_i p r1 qs r2 e1 e2
      cases he
      intro q hq
      rcases List.mem_cons.1 hq with rfl | hq
      · rw [(snap_size n d _ r1 e1).1]; exact hs d (by simp)
      · exact mapSnap_size ds qs r2 e2 (fun d hd => hs d (by simp [hd])) q hq
    · cases he
theorem snap_sound {g : Ghost} {h : Array Obj} {H : List CObj} (hr : HRel tt g h H) : ∀ (n : Nat) (d : D) (cs : List Value) (p : Pv) (r : Reads), DFlat tt g h d cs → snap n (lk H) d = some (p, r) →
    Flat tt (BPlus g r) h p cs ∧ ∀ x ∈ r, H[x.1]? = some x.2 ∧ (cobjT x.2).isSome = true := by
  intro n
  induction n with
  | zero =>
    intro d cs p r hf he
    cases d <;> simp [snap] at he
    obtain ⟨rfl, rfl⟩ := he
    simp only [DFlat] at hf
    exact ⟨Flat.mono (fun T b hb => ⟨.inl hb, rfl⟩) _ _ hf, by simp⟩
  | succ n ih =>
    intro d cs p r hf he
    cases d <;> simp only [snap, reduceCtorEq] at he
    · simp only [Option.some.injEq, Prod.mk.injEq] at he
      obtain ⟨rfl, rfl⟩ := he
      simp only [DFlat] at hf
      exact ⟨Flat.mono (fun T b hb => ⟨.inl hb, rfl⟩) _ _ hf, by simp⟩
    · rename_i ds
      split at he
      · rename_i ps r' e
        cases he
        simp only [DFlat] at hf
        obtain ⟨a, b⟩ := mapSnap_sound (H := H) (fun d cs p r => ih d cs p r) ds cs ps r hf e
        exact ⟨by simpa only [Flat] using a, b⟩
      · cases he
    · simp only [Option.some.injEq, Prod.mk.injEq] at he
      obtain ⟨rfl, rfl⟩ := he
      simp only [DFlat] at hf
      obtain ⟨a, rfl⟩ := hf
      refine ⟨?_, by simp⟩
      simp only [Flat]
      exact .inl ⟨trivial, _, _, rfl⟩
    · rename_i T id ver off len lim
      simp only [DFlat] at hf
      obtain ⟨v, rfl, h1, gl, cur, p1, p2, p3, p4⟩ := hf
      split at he
      · rename_i T' u ps hH
        split at he
        · rename_i hc
          obtain ⟨rfl, rfl, hl⟩ := hc
          cases he
          have hH' : H[id]? = some (.parr T ver ps) := hH
          obtain ⟨x, hx, ho⟩ := hr.objs id _ hH' (by simp)
          rw [p1] at hx
          cases hx
          obtain ⟨e0, _, ha⟩ := ho
          simp only at e0
          subst e0
          refine ⟨?_, by simp [hH', cobjT]⟩
          have hps : ((ps.drop off).take len).length = len := by simp; omega
          cases gl with
          | none0 =>
            obtain ⟨rfl, rfl, _, a, rfl⟩ := p4 rfl
            simp only [Flat]
            exact .inl ⟨by simp, _, _, rfl⟩
          | blk b N =>
            have hsz : ∀ p ∈ (ps.drop off).take len, p.size = (tt T).size := by
              intro p hp
              obtain ⟨_, _, _, _, _, _, _, hds, _⟩ := ha
              exact hds (.pv p) (List.mem_map.2 ⟨p, List.mem_of_mem_drop (List.mem_of_mem_take hp), rfl⟩)
            refine arr_sl (g := g) ha (p4 rfl) (by simpa using hl) (.inr ⟨(id, .parr T cur ps), by simp, rfl, N, cur, p1⟩) hps (fun cs hcs => ?_) hsz
            rw [← List.map_drop, ← List.map_take] at hcs
            exact FlatL.mono (fun T b hb => ⟨.inl hb, rfl⟩) _ _ ((flatL_pv _ _).2 hcs)
        · cases he
      · rename_i T' u ds hH
        split at he
        · rename_i hc
          obtain ⟨rfl, rfl, hl⟩ := hc
          split at he
          · rename_i ps r' e
            cases he
            have hH' : H[id]? = some (.arr T ver ds) := hH
            obtain ⟨x, hx, ho⟩ := hr.objs id _ hH' (by simp)
            rw [p1] at hx
            cases hx
            obtain ⟨e0, _, ha⟩ := ho
            simp only at e0
            subst e0
            have hlen := mapSnap_len _ _ _ e
            have hreads : ∀ x ∈ r', H[x.1]? = some x.2 ∧ (cobjT x.2).isSome = true := by
              cases gl with
              | none0 =>
                obtain ⟨rfl, rfl, _⟩ := p4 rfl
                simp only [List.take_zero, mapSnap, Option.some.injEq, Prod.mk.injEq] at e
                obtain ⟨_, rfl⟩ := e
                simp
              | blk b N =>
                obtain ⟨c, E, fz, hb, hn, hcs, hdl, hds, hfl⟩ := ha
                exact (mapSnap_sound (H := H) (fun d cs p r => ih d cs p r) _ _ ps r' (DFlatL.part ds _ off len hfl hds) e).2
            refine ⟨?_, by simpa [hH', cobjT] using hreads⟩
            have hps : ps.length = len := by rw [hlen]; simp; omega
            cases gl with
            | none0 =>
              obtain ⟨rfl, rfl, _, a, rfl⟩ := p4 rfl
              simp only [Flat]
              exact .inl ⟨List.length_eq_zero_iff.1 hps, _, _, rfl⟩
            | blk b N =>
              have hdsz := ha
              obtain ⟨_, _, _, _, _, _, _, hds, _⟩ := hdsz
              refine arr_sl (g := g) ha (p4 rfl) hl (.inr ⟨(id, .arr T cur ds), by simp, rfl, N, cur, p1⟩) hps (fun cs hcs => ?_) (mapSnap_size _ _ _ e fun d hd => hds d (List.mem_of_mem_drop (List.mem_of_mem_take hd)))
              exact FlatL.mono (BPlus.mono (fun x hx => List.mem_cons_of_mem _ hx)) _ _ (mapSnap_sound (H := H) (fun d cs p r => ih d cs p r) _ _ ps r' hcs e).1
          · cases he
        · cases he
      · cases he
/-- These arrays are settled. -/
def killH (r : Reads) (H : List CObj) : List CObj := r.foldl (fun H x => H.set x.1 .dead) H
theorem list_set_same {α : Type _} {l : List α} {i : Nat} {o : α} (h : l[i]? = some o) : l.set i o = l := by
  obtain ⟨hlt, rfl⟩ := List.getElem?_eq_some_iff.1 h
  exact List.set_getElem_self hlt
theorem kill_sound : ∀ (r : Reads) {g : Ghost} {w : World} {H : List CObj}, HRel tt g w.heap H → (∀ x ∈ r, ∃ o, H[x.1]? = some o ∧ (o = x.2 ∨ o = .dead ∧ ∀ T b N v, cobjT x.2 = some T → g.φ x.1 = some (.blk b N, v) → g.B T b)) → (∀ x ∈ r, (cobjT x.2).isSome = true) →
    ∃ g', HRel tt g' w.heap (killH r H) ∧ Ext g w H g' w (killH r H) ∧ ∀ T b, BPlus g r T b → g'.B T b
  | [], g, w, H, hr, _, _ => ⟨g, hr, Ext.refl _ _ _, fun T b hb => by rcases hb with hb | ⟨x, hx, _⟩; exact hb; simp at hx⟩
  | x :: r, g, w, H, hr, hk, hT => by
    obtain ⟨T, hTx⟩ := Option.isSome_iff_exists.1 (hT x (by simp))
    obtain ⟨ox, hox, hxc⟩ := hk x (by simp)
    have hlt : x.1 < H.length := (List.getElem?_eq_some_iff.1 hox).1
    have step : ∃ g1, HRel tt g1 w.heap (H.set x.1 .dead) ∧ Ext g w H g1 w (H.set x.1 .dead) ∧ (∀ b N v, g.φ x.1 = some (.blk b N, v) → g1.B T b) ∧ (∀ j, j ≠ x.1 → g1.φ j = g.φ j) ∧ (∀ gl v, g1.φ x.1 = some (gl, v) → ∃ v0, g.φ x.1 = some (gl, v0)) := by
      by_cases hd : ¬ ox.live
      · rcases hxc with e | ⟨e, h2⟩
        · subst e
          exfalso
          apply hd
          cases h : x.2 <;> simp_all [cobjT]
        · subst e
          rw [show H.set x.1 .dead = H from list_set_same hox]
          exact ⟨g, hr, Ext.refl _ _ _, fun b N v hp => h2 T b N v hTx hp, fun _ _ => rfl, fun gl v h => ⟨v, h⟩⟩
      · have hd := Classical.not_not.1 hd
        obtain ⟨⟨gl, v⟩, hp, _⟩ := hr.objs x.1 ox hox hd
        obtain ⟨g1, k1, k2, k3, k4, v', k5⟩ := step_settle hr hox hd hp T
        refine ⟨g1, k1, k2, ?_, k4, ?_⟩
        · intro b N v2 h2
          rw [hp] at h2
          cases h2
          exact k3 b N rfl
        · intro gl2 v2 h2
          rw [k5] at h2
          cases h2
          exact ⟨v, hp⟩
    obtain ⟨g1, k1, k2, k3, k4, k5⟩ := step
    obtain ⟨g', a1, a2, a3⟩ := kill_sound r k1 (fun y hy => by
      obtain ⟨oy, hoy, hyc⟩ := hk y (by simp [hy])
      by_cases e : y.1 = x.1
      · refine ⟨.dead, by rw [e, List.getElem?_set_self hlt], .inr ⟨rfl, ?_⟩⟩
        intro T' b N v hT' hp
        rw [e] at hp
        obtain ⟨v0, hp0⟩ := k5 _ _ hp
        rw [e, hox] at hoy
        cases hoy
        rcases hyc with hyc | ⟨_, h2⟩
        · rcases hxc with hxc | ⟨hxc, _⟩
          · have : x.2 = y.2 := hxc.symm.trans hyc
            rw [← this, hTx] at hT'
            cases hT'
            exact k3 b N v0 hp0
          · rw [← hyc, hxc] at hT'
            cases hT'
        · exact k2.bm _ _ (h2 T' b N v0 hT' (by rw [e]; exact hp0))
      · refine ⟨oy, by rw [List.getElem?_set_ne (Ne.symm e)]; exact hoy, ?_⟩
        rcases hyc with h | ⟨h, h2⟩
        · exact .inl h
        · refine .inr ⟨h, fun T' b N v hT' hp => ?_⟩
          rw [k4 _ e] at hp
          exact k2.bm _ _ (h2 T' b N v hT' hp)) (fun y hy => hT y (by simp [hy]))
    refine ⟨g', a1, k2.trans a2, ?_⟩
    intro T' b hb
    rcases hb with hb | ⟨y, hy, hyT, N, v, hyp⟩
    · exact a2.bm _ _ (k2.bm _ _ hb)
    · rcases List.mem_cons.1 hy with rfl | hy
      · rw [hTx] at hyT
        cases hyT
        exact a2.bm _ _ (k3 b N v hyp)
      · by_cases e : y.1 = x.1
        · obtain ⟨oy, hoy, hyc⟩ := hk y (by simp [hy])
          rw [e, hox] at hoy
          cases hoy
          rcases hyc with h | ⟨h, h2⟩
          · rcases hxc with hxc | ⟨hxc, _⟩
            · have : x.2 = y.2 := hxc.symm.trans h
              rw [← this, hTx] at hyT
              cases hyT
              exact a2.bm _ _ (k3 b N v (e ▸ hyp))
            · rw [← h, hxc] at hyT
              cases hyT
          · exact a2.bm _ _ (k2.bm _ _ (h2 T' b N v hyT hyp))
        · exact a3 T' b (.inr ⟨y, hy, hyT, N, v, by rw [k4 _ e]; exact hyp⟩)
end
end Go.Cl
