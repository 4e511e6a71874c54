/-
  THE CLEAN MACHINE, part 04: a machine of values by name that the model follows; each law here says that a step of the model does what the clean machine says. Nothing here speaks of this program.
-/
import Derived.Test.YtcpdjpifbjjaaaaGreatDoorC03
set_option linter.unusedVariables false
set_option linter.unusedSimpArgs false
namespace Go.Cl
open Go.RowKit (Below)
section
variable {P : Program} {tt : TT}
-- LITERALS
theorem foldl_cut (off : Nat) : ∀ (vs : List Value) (j : Nat) (cs : Array Value), off + j + vs.length ≤ cs.size →
    ((vs.zipIdx j).foldl (fun cs (p : Value × Nat) => cs.setIfInBounds (off + p.2) p.1) cs).toList = cutIn cs.toList (off + j) vs
  | [], j, cs, h => by simp [cutIn]
  | v :: vs, j, cs, h => by
    simp only [List.length_cons] at h
    rw [List.zipIdx_cons, List.foldl_cons, foldl_cut off vs (j + 1) _ (by simp; omega), Array.toList_setIfInBounds]
    apply List.ext_getElem?
    intro k
    have hl : off + j + (v :: vs).length ≤ cs.toList.length := by simp; omega
    rw [cutIn_get (cs := cs.toList) hl, cutIn_get (cs := cs.toList.set (off + j) v) (by simp; omega)]
    simp only [List.length_cons]
    by_cases e1 : k < off + j
    · rw [if_pos (by omega), if_pos e1, List.getElem?_set_ne (by omega)]
    · by_cases e2 : k = off + j
      · subst e2
        rw [if_pos (by omega), if_neg (by omega), if_pos (by omega), List.getElem?_set_self (by simp; omega), Nat.sub_self]
        rfl
      · rw [if_neg (by omega), if_neg e1]
        by_cases e3 : k < off + j + (vs.length + 1)
        · rw [if_pos (by omega), if_pos e3, show k - (off + j) = (k - (off + (j + 1))) + 1 by omega]
          rfl
        · rw [if_neg (by omega), if_neg e3, List.getElem?_set_ne (by omega)]
/-- The sizes of parts, one behind the other. -/
def offs : Nat → List Nat → List (Nat × Nat)
  | _, [] => []
  | o, s :: r => (o, s) :: offs (o + s) r
theorem dset_at {g : Ghost} {h : Array Obj} {new : D} {ns : List Value} (hn : DFlat tt g h new ns) : ∀ (ds : List D) (cs : List Value) (i o off s : Nat), DFlatL tt g h ds cs → (offs o (ds.map (·.size)))[i]? = some (off, s) → new.size = s →
    o ≤ off ∧ DFlatL tt g h (ds.set i new) (cutIn cs (off - o) ns) ∧ off - o + s ≤ cs.length ∧ (ds.set i new).map (·.size) = ds.map (·.size)
  | [], cs, i, o, off, s, hf, hi, hs => by simp [offs] at hi
  | d :: ds, cs, i, o, off, s, hf, hi, hs => by
    have hns := DFlat.len _ _ hn
    simp only [DFlatL] at hf
    obtain ⟨c1, c2, rfl, h1, h2⟩ := hf
    have hl := DFlat.len _ _ h1
    cases i with
    | zero =>
      simp [offs] at hi
      obtain ⟨rfl, rfl⟩ := hi
      refine ⟨Nat.le_refl _, ?_, by simp; omega, by simp [hs]⟩
      rw [Nat.sub_self, cutIn_app _ _ _ _ (by omega)]
      simp only [List.set_cons_zero, DFlatL]
      refine ⟨_, _, rfl, ?_, h2⟩
      unfold cutIn
      rw [List.take_zero, List.nil_append, List.drop_eq_nil_of_le (by omega), List.append_nil]; exact hn
    | succ i =>
      simp [offs] at hi
      obtain ⟨a1, a2, a3, a4⟩ := dset_at hn ds c2 i (o + d.size) off s h2 hi hs
      refine ⟨by omega, ?_, by simp; omega, by simp [a4]⟩
      rw [cutIn_app' _ _ _ _ (by omega), show off - o - c1.length = off - (o + d.size) by omega]
      simp only [List.set_cons_succ, DFlatL]
      exact ⟨_, _, rfl, h1, a2⟩
theorem fill_sound (htt : TTok P tt) {g : Ghost} {h : Array Obj} {ts : List TypeId} {place : Nat → Option (Nat × Nat)} (hk : ∀ t ∈ ts, TIok P tt t) (hpl : ∀ i t, ts[i]? = some t → ∃ o, place i = some (o, (tt t).size) ∧ (offs 0 (ts.map fun t => (tt t).size))[i]? = some (o, (tt t).size)) :
    ∀ (parts : List (Nat × D)) (vs : List (Nat × Value)) (ds ds' : List D) (cells : Array Value), parts.map (·.1) = vs.map (·.1) → (∀ p v, (p, v) ∈ parts.zip vs → V tt g h p.2 v.2) →
    DFlatL tt g h ds cells.toList → ds.map (·.size) = ts.map (fun t => (tt t).size) → setParts tt ts parts ds = some ds' →
    ∃ cells', Instr.fill place cells vs = some cells' ∧ DFlatL tt g h ds' cells'.toList ∧ ds'.map (·.size) = ts.map (fun t => (tt t).size) ∧ cells'.size = cells.size
  | [], [], ds, ds', cells, _, _, hf, hs, he => by
    simp only [setParts, Option.some.injEq] at he
    subst he
    exact ⟨cells, rfl, hf, hs, rfl⟩
  | [], _ :: _, ds, ds', cells, hm, _, hf, hs, he => by simp at hm
  | _ :: _, [], ds, ds', cells, hm, _, hf, hs, he => by simp at hm
  | (i, d) :: parts, (j, v) :: vs, ds, ds', cells, hm, hv, hf, hs, he => by
    simp only [List.map_cons, List.cons.injEq] at hm
    obtain ⟨rfl, hm⟩ := hm
    simp only [setParts] at he
    split at he
    · rename_i t ht
      split at he
      · rename_i hc
        obtain ⟨c1, c2, c3⟩ := hc
        have hvd := vof_cells (vof_of_v c1 (hv (i, d) (i, v) (by simp)))
        have hvl := DFlat.len _ _ hvd
        obtain ⟨o, hp, ho⟩ := hpl i t ht
        rw [← hs] at ho
        obtain ⟨a1, a2, a3, a4⟩ := dset_at hvd ds cells.toList i 0 o _ hf ho c2
        simp only [Nat.sub_zero, Array.length_toList] at a2 a3
        have hsz : v.cells.size = (tt t).size := by rw [← c2, ← hvl]; simp
        have hcut : (v.cells.zipIdx.foldl (fun cs (c, j) => cs.setIfInBounds (o + j) c) cells).toList = cutIn cells.toList o v.cells.toList := by
          have := foldl_cut o v.cells.toList 0 cells (by simp [hsz]; omega)
          rw [Nat.add_zero] at this
          rw [← this, ← Array.foldl_toList, Array.toList_zipIdx]
        obtain ⟨cells', b1, b2, b3, b4⟩ := fill_sound htt hk hpl parts vs (ds.set i d) ds' (v.cells.zipIdx.foldl (fun cs (c, j) => cs.setIfInBounds (o + j) c) cells) hm
          (fun p u hpu => hv p u (by simp [hpu])) (by rw [hcut]; exact a2) (a4.trans hs) he
        refine ⟨cells', ?_, b2, b3, b4.trans ?_⟩
        · simp only [Instr.fill, hp]
          rw [if_neg (by simp [hsz]; omega)]
          exact b1
        · have e := congrArg List.length hcut
          rw [cutIn_len _ _ _ (by simp [hsz]; omega)] at e
          simpa using e
      · cases he
    · cases he
theorem layOk_offs : ∀ (fs : List (Nat × TypeId)) (ds : List D) (o : Nat), layOk tt o fs ds = true → ds.map (·.size) = fs.map (fun f => (tt f.2).size) ∧ offs o (fs.map fun f => (tt f.2).size) = fs.map (fun f => (f.1, (tt f.2).size))
  | [], [], o, _ => by simp [offs]
  | [], _ :: _, o, h => by simp [layOk] at h
  | _ :: _, [], o, h => by simp [layOk] at h
  | (off, t) :: fs, d :: ds, o, h => by
    simp only [layOk, Bool.and_eq_true, beq_iff_eq] at h
    obtain ⟨⟨rfl, h2⟩, h3⟩ := h
    obtain ⟨a1, a2⟩ := layOk_offs fs ds _ h3
    simp only [List.map_cons, offs, a1, h2]
    rw [h2] at a2
    simp [a2]
theorem zlist_flat {g : Ghost} {h : Array Obj} {d : D} {cs : List Value} (ha : d.isAgg = true) (hf : DFlat tt g h d cs) : DFlatL tt g h (zlist d) cs := by
  cases d <;> simp only [D.isAgg, Bool.false_eq_true, reduceCtorEq] at ha
  · rename_i p
    cases p <;> simp only [Pv.isAgg, Bool.false_eq_true, reduceCtorEq] at ha
    simp only [DFlat, Flat] at hf
    exact (flatL_pv _ _).1 hf
  · simpa only [DFlat, zlist] using hf
theorem v_mkAgg {g : Ghost} {h : Array Obj} {ds : List D} {cs : Array Value} (hf : DFlatL tt g h ds cs.toList) : V tt g h (mkAgg ds) (.agg cs) := by
  apply v_of_vof
  unfold VOf
  rw [mkAgg_isAgg, if_pos rfl]
  exact ⟨cs, rfl, mkAgg_flat hf⟩
theorem run_mapM_places (htt : TTok P tt) (w : World) : ∀ (F : List Field), (∀ f ∈ F, TIok P tt f.type) → (F.mapM (fun f => do pure (f.offset, ← sizeOf f.type) : Field → Sem (Nat × Nat))).run P w = .ok (F.map fun f => (f.offset, (tt f.type).size)) w
  | [], _ => by simp
  | f :: F, h => by
    rw [List.mapM_cons]
    simp only [Sem.run_bind, (h f (by simp)).sizeOf, Result.andThen_ok, Sem.run_pure, run_mapM_places htt w F fun f hf => h f (by simp [hf])]
    simp
theorem build_sound (htt : TTok P tt) {g : Ghost} {w : World} {H : List CObj} (hr : HRel tt g w.heap H) {t : TypeId} {parts : List (Nat × D)} {vs : List (Nat × Value)} (hm : parts.map (·.1) = vs.map (·.1))
    (hv : ∀ p v, (p, v) ∈ parts.zip vs → V tt g w.heap p.2 v.2) {out : Out} (h : opBuild tt t parts = some out) : Good P tt (Instr.build t vs.toArray) g w H out := by
  unfold opBuild at h
  split at h
  · rename_i fs ht
    split at h
    · rename_i ds hds
      cases h
      have hti := htt t (by rw [ht]; simp)
      obtain ⟨z, hz, hzv⟩ := hti.zero w
      obtain ⟨F, hu, hF, _⟩ := und_struct htt ht
      have hzf := zlist_flat (by rw [hti.zagg, ht]; rfl) (vof_cells (hzv g w.heap))
      obtain ⟨l1, l2⟩ := layOk_offs fs _ 0 (hti.lay fs ht)
      have hk : ∀ f ∈ F.toList, TIok P tt f.type := fun f hf => kid_struct htt ht (f := (f.offset, f.type)) (by rw [← hF]; exact List.mem_map.2 ⟨f, hf, rfl⟩)
      have hpl : (F.mapM (fun f => do pure (f.offset, ← sizeOf f.type) : Field → Sem (Nat × Nat))).run P w = .ok (fs.map fun f => (f.1, (tt f.2).size)).toArray w := by
        rw [← Array.toArray_toList (xs := F), List.mapM_toArray, Sem.run_map, run_mapM_places htt w _ hk]
        simp [← hF]
      obtain ⟨cells', b1, b2, b3, b4⟩ := fill_sound (P := P) htt (ts := fs.map (·.2)) (place := ((fs.map fun f => (f.1, (tt f.2).size)).toArray[·]?)) (fun t' ht' => by
          obtain ⟨f, hf, rfl⟩ := List.mem_map.1 ht'
          exact kid_struct htt ht hf) (fun i t' hi => by
          rw [List.getElem?_map, Option.map_eq_some_iff] at hi
          obtain ⟨f, hf, rfl⟩ := hi
          refine ⟨f.1, by simp [hf], ?_⟩
          rw [List.map_map]
          show (offs 0 (fs.map fun f => (tt f.2).size))[i]? = _
          rw [l2, List.getElem?_map, hf]; rfl) parts vs _ ds z.cells hm hv hzf (by rw [l1, List.map_map]; rfl) hds
      refine good_pure hr rfl (v := .agg cells') ?_ (v_mkAgg b2)
      simp only [Instr.build, Sem.run_bind, hz, Result.andThen_ok, run_und hu, hpl]
      rw [b1]; rfl
    · cases h
  · rename_i n e ht
    split at h
    · rename_i ds hds
      cases h
      have hti := htt t (by rw [ht]; simp)
      obtain ⟨z, hz, hzv⟩ := hti.zero w
      have hu := und_arr htt ht
      have hzf := zlist_flat (by rw [hti.zagg, ht]; rfl) (vof_cells (hzv g w.heap))
      obtain ⟨l1, l2⟩ := hti.layA n e ht
      have hke := kid_arr htt ht
      have hoff : ∀ (m o i : Nat), i < m → (offs o (List.replicate m (tt e).size))[i]? = some (o + i * (tt e).size, (tt e).size) := by
        intro m
        induction m with
        | zero => intro o i hi; omega
        | succ m ih =>
          intro o i hi
          rw [List.replicate_succ]
          cases i with
          | zero => simp [offs]
          | succ i => simp only [offs, List.getElem?_cons_succ]; rw [ih _ i (by omega), Nat.add_mul, Nat.one_mul]; congr 2; omega
      obtain ⟨cells', b1, b2, b3, b4⟩ := fill_sound (P := P) htt (ts := List.replicate n e) (place := fun i => some (i * (tt e).size, (tt e).size)) (fun t' ht' => by
          rw [List.eq_of_mem_replicate ht']; exact hke) (fun i t' hi => by
          have hin : i < n := by have := (List.getElem?_eq_some_iff.1 hi).1; simpa using this
          have : t' = e := List.eq_of_mem_replicate (List.mem_of_getElem? hi)
          subst this
          refine ⟨_, rfl, ?_⟩
          rw [List.map_replicate, hoff n 0 i hin, Nat.zero_add]) parts vs _ ds z.cells hm hv hzf (by
            rw [List.map_replicate]
            apply List.eq_replicate_iff.2
            refine ⟨by simpa using l1, fun s hs => ?_⟩
            obtain ⟨d, hd, rfl⟩ := List.mem_map.1 hs
            exact l2 d hd) hds
      refine good_pure hr rfl (v := .agg cells') ?_ (v_mkAgg b2)
      simp only [Instr.build, Sem.run_bind, hz, Result.andThen_ok, run_und hu, hke.sizeOf]
      rw [b1]; rfl
    · cases h
  · cases h
end
end Go.Cl
