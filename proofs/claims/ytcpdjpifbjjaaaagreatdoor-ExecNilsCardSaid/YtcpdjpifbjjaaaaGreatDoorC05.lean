/-
  THE CLEAN MACHINE, part 05: a machine of values by name that the model follows; each law here says that a step of the model does what the clean machine says. Nothing here speaks of this program.
-/
import Derived.Test.YtcpdjpifbjjaaaaGreatDoorC04
import Derived.IntWalk
set_option linter.unusedVariables false
set_option linter.unusedSimpArgs false
namespace Go.Cl
open Go.RowKit (Below)
section
variable {P : Program} {tt : TT}
theorem dflatL_rep {g : Ghost} {h : Array Obj} {d : D} {z : List Value} (hd : DFlat tt g h d z) : ∀ n, DFlatL tt g h (List.replicate n d) (List.replicate n z).flatten
  | 0 => by simp [DFlatL]
  | n + 1 => by
    simp only [List.replicate_succ, List.flatten_cons, DFlatL]
    exact ⟨z, _, rfl, hd, dflatL_rep hd n⟩
theorem zcells (z : Array Value) (sz : Nat) (hz : z.size = sz) : ∀ n, (List.range (n * sz)).map (fun i => z[i % z.size]!) = (List.replicate n z.toList).flatten
  | 0 => by simp
  | n + 1 => by
    rw [List.replicate_succ, List.flatten_cons, ← zcells z sz hz n]
    apply List.ext_getElem?
    intro k
    subst hz
    by_cases h1 : k < z.size
    · rw [List.getElem?_append_left (by simpa using h1)]
      rw [List.getElem?_map, List.getElem?_range (by rw [Nat.add_mul, Nat.one_mul]; omega)]
      simp [Nat.mod_eq_of_lt h1, h1]
    · rw [List.getElem?_append_right (by simpa using h1)]
      by_cases h2 : k < (n + 1) * z.size
      · rw [List.getElem?_map, List.getElem?_range h2, List.getElem?_map, List.getElem?_range (by rw [Nat.add_mul, Nat.one_mul] at h2; simp; omega)]
        simp only [Option.map_some, Array.length_toList]
        rw [Nat.mod_eq_sub_mod (by omega)]
      · rw [List.getElem?_eq_none (by simpa using h2), List.getElem?_eq_none (by rw [Nat.add_mul, Nat.one_mul] at h2; simp; omega)]
theorem zcells_toList (z : Array Value) (sz n : Nat) (hz : z.size = sz) : ((Array.range (n * sz)).map fun i => z[i % z.size]!).toList = (List.replicate n z.toList).flatten := by
  rw [Array.toList_map, Array.toList_range, zcells z sz hz]
theorem mkArr_rel {g : Ghost} {h : Array Obj} {T ver : Nat} {gl : Gl} {ds : List D} (hv : 0 < ver) (ha : ArrRel tt g h T ds gl) : ORel tt g h (gl, ver) (mkArr T ver ds) := by
  unfold mkArr
  split
  · rename_i ps hp
    rw [allPv_eq ds ps hp] at ha
    exact ⟨rfl, hv, ha⟩
  · exact ⟨rfl, hv, ha⟩
theorem mkArr_free {T v : Nat} {ds : List D} : mkArr T v ds ≠ .free := by unfold mkArr; split <;> simp
theorem new_arr {g : Ghost} {w : World} {H : List CObj} (hr : HRel tt g w.heap H) {nid : Nat} (hn : H[nid]? = some .free) {T N len : Nat} {ds : List D} {c : Array Value} (hc : c.size = N * (tt T).size) (hl : ds.length ≤ N) (hs : ∀ d ∈ ds, d.size = (tt T).size)
    (hf : DFlatL tt g w.heap ds (c.toList.take (ds.length * (tt T).size))) (hlen : len ≤ N) (o : CObj) (ho : o = mkArr T 1 ds ∨ o = .arr T 1 ds ∨ ∃ ps, o = .parr T 1 ps ∧ ds = ps.map .pv) (lim : Option Nat) (hlim : lim = none ∨ lim = some N) :
    ∃ g', HRel tt g' (pushW w (.cells c T)).heap (H.set nid o) ∧ Ext g w H g' (pushW w (.cells c T)) (H.set nid o) ∧
      V tt g' (pushW w (.cells c T)).heap (.own T nid 1 0 len lim) (.slice (some ⟨w.heap.size, 0, none⟩) len N) := by
  obtain ⟨g', k1, k2, k3, k4⟩ := step_new hr hn (.cells c T) o (by rcases ho with rfl | rfl | ⟨ps, rfl, e⟩; exact mkArr_free; simp; simp) N 1 (fun g' _ hm => by
    have ha : ArrRel tt g' (pushW w (.cells c T)).heap T ds (.blk w.heap.size N) := ⟨c, T, (0, 0), pushW_new _ _, nf_zero _, hc, hl, hs, DFlatL.mono hm _ _ hf⟩
    rcases ho with rfl | rfl | ⟨ps, rfl, e⟩
    · exact mkArr_rel (by omega) ha
    · exact ⟨rfl, by omega, ha⟩
    · exact ⟨rfl, by omega, by rw [← e]; exact ha⟩)
  refine ⟨g', k1, k2, ?_⟩
  rw [v_own]
  refine ⟨rfl, _, _, k3, Nat.le_refl _, by omega, fun _ => ⟨_, N, rfl, fun _ => by rw [Nat.zero_mul], hlen, by omega, ?_⟩⟩
  rcases hlim with rfl | rfl <;> simp
theorem buildSlice_sound (htt : TTok P tt) {g : Ghost} {w : World} {H : List CObj} (hr : HRel tt g w.heap H) {t len : Nat} {parts : List (Nat × D)} {vs : List (Nat × Value)} (hm : parts.map (·.1) = vs.map (·.1))
    (hv : ∀ p v, (p, v) ∈ parts.zip vs → V tt g w.heap p.2 v.2) {out : Out} {nid : Nat} (hn : H[nid]? = some .free) (h : opBuildSlice tt nid t len parts = some out) (hs : out.side) : Good P tt (Instr.buildSlice t len vs.toArray) g w H out := by
  unfold opBuildSlice at h
  split at h
  · rename_i e ht
    split at h
    · rename_i ds hds
      cases h
      simp only at hs
      have hke := kid_sl htt ht
      have hu := und_sl htt ht
      obtain ⟨z, hz, hzv⟩ := hke.zero w
      have hzf := vof_cells (hzv g w.heap)
      have hzl : z.cells.size = (tt e).size := by rw [← hke.zsize, ← DFlat.len _ _ hzf]; simp
      have hoff : ∀ (m o i : Nat), i < m → (offs o (List.replicate m (tt e).size))[i]? = some (o + i * (tt e).size, (tt e).size) := by
        intro m
        induction m with
        | zero => intro o i hi; omega
        | succ m ih =>
          intro o i hi
          rw [List.replicate_succ]
          cases i with
          | zero => simp [offs]
          | succ i => simp only [offs, List.getElem?_cons_succ]; rw [ih _ i (by omega), Nat.add_mul, Nat.one_mul]; congr 2; omega
      have hzc : ∀ z' : Array Value, (len * (tt e).size = 0 ∨ z' = z.cells) → ((Array.range (len * (tt e).size)).map (z'[· % z'.size]!)).toList = (List.replicate len z.cells.toList).flatten := by
        rintro z' (h0 | rfl)
        · rw [h0, ← zcells_toList z.cells (tt e).size len hzl, h0]; simp
        · exact zcells_toList z.cells (tt e).size len hzl
      have main : ∀ z' : Array Value, (len * (tt e).size = 0 ∨ z' = z.cells) → ∃ cells', Instr.fill (fun i => some (i * (tt e).size, (tt e).size)) ((Array.range (len * (tt e).size)).map (z'[· % z'.size]!)) vs = some cells' ∧
          DFlatL tt g w.heap ds cells'.toList ∧ ds.map (·.size) = (List.replicate len e).map (fun t => (tt t).size) ∧ cells'.size = len * (tt e).size := by
        intro z' hz'
        obtain ⟨cells', b1, b2, b3, b4⟩ := fill_sound (P := P) htt (g := g) (h := w.heap) (ts := List.replicate len e) (place := fun i => some (i * (tt e).size, (tt e).size)) (fun t' ht' => by
          rw [List.eq_of_mem_replicate ht']; exact hke) (fun i t' hi => by
          have hin : i < len := by have := (List.getElem?_eq_some_iff.1 hi).1; simpa using this
          have : t' = e := List.eq_of_mem_replicate (List.mem_of_getElem? hi)
          subst this
          refine ⟨_, rfl, ?_⟩
          rw [List.map_replicate, hoff len 0 i hin, Nat.zero_add]) parts vs _ ds ((Array.range (len * (tt e).size)).map (z'[· % z'.size]!)) hm hv (by rw [hzc z' hz']; exact dflatL_rep hzf len) (by
            rw [List.map_replicate, List.map_replicate, hke.zsize]) hds
        exact ⟨cells', b1, b2, b3, b4.trans (by simp)⟩
      have fin : ∀ cells' : Array Value, DFlatL tt g w.heap ds cells'.toList → ds.map (·.size) = (List.replicate len e).map (fun t => (tt t).size) → cells'.size = len * (tt e).size →
          (Instr.buildSlice t len vs.toArray).run P w = .ok (.slice (some ⟨w.heap.size, 0, none⟩) len len) (pushW w (.cells cells' e)) → Good P tt (Instr.buildSlice t len vs.toArray) g w H ⟨len * (tt e).size ≤ 16777216, .own e nid 1 0 len (some len), [], .set nid (mkArr e 1 ds)⟩ := by
        intro cells' b2 b3 b4 hrun
        have hdl : ds.length = len := by have := congrArg List.length b3; simpa using this
        have hdz : ∀ d ∈ ds, d.size = (tt e).size := by
          intro d hd
          have : d.size ∈ ds.map (·.size) := List.mem_map.2 ⟨d, hd, rfl⟩
          rw [b3, List.map_replicate] at this
          exact List.eq_of_mem_replicate this
        obtain ⟨g', k1, k2, k3⟩ := new_arr hr hn (T := e) (N := len) (len := len) (ds := ds) b4 (by omega) hdz (by rw [hdl, List.take_of_length_le (by simp [b4])]; exact b2) (Nat.le_refl _) (mkArr e 1 ds) (.inl rfl) (some len) (.inr rfl)
        exact ⟨_, _, g', hrun, k1, k2, k3⟩
      by_cases h0 : len * (tt e).size = 0
      · obtain ⟨cells', b1, b2, b3, b4⟩ := main #[] (.inl h0)
        refine fin cells' b2 b3 b4 ?_
        simp only [Instr.buildSlice, Sem.run_bind, Result.andThen_ok, run_und hu, hke.sizeOf, Sem.run_ite, h0, if_true, Sem.run_pure]
        rw [if_neg (by omega)]
        rw [h0] at b1
        rw [b1]
        simp [newRow, newO_run]
        rfl
      · obtain ⟨cells', b1, b2, b3, b4⟩ := main z.cells (.inr rfl)
        refine fin cells' b2 b3 b4 ?_
        simp only [Instr.buildSlice, Sem.run_bind, Result.andThen_ok, run_und hu, hke.sizeOf, Sem.run_ite, h0, if_false, Sem.run_pure, hz]
        rw [if_neg (by omega)]
        rw [b1]
        simp [newRow, newO_run]
        rfl
    · cases h
  · cases h
theorem makeSlice_sound (htt : TTok P tt) {g : Ghost} {w : World} {H : List CObj} (hr : HRel tt g w.heap H) {t : TypeId} {x y : D} {u v : Value} (hx : V tt g w.heap x u) (hy : V tt g w.heap y v) {out : Out}
    {nid : Nat} (hn : H[nid]? = some .free) (h : opMakeSlice tt nid t x y = some out) (hs : out.side) : Good P tt (Instr.makeSlice t u v) g w H out := by
  unfold opMakeSlice at h
  split at h
  · rename_i k l k' c
    rw [v_int] at hx hy
    subst hx hy
    split at h
    · rename_i e ht
      have hke := kid_sl htt ht
      have hu := und_sl htt ht
      obtain ⟨z, hz, hzv⟩ := hke.zero w
      obtain ⟨ti, hti, hts, htb, htr⟩ := hke.info w
      have hzf := vof_cells (hzv g w.heap)
      have hzl : z.cells.size = (tt e).size := by rw [← hke.zsize, ← DFlat.len _ _ hzf]; simp
      have hs' : 0 ≤ l ∧ l ≤ c ∧ c * (tt e).bytes ≤ 140737488355328 ∧ c ≤ 9223372036854775807 := by cases h; exact hs
      obtain ⟨h0, h1, h2, h3⟩ := hs'
      have hwl := IntWalk.i64_in l (by omega)
      have hwc := IntWalk.i64_in c (by omega)
      have hmul : (tt e).bytes * c = c * (tt e).bytes := Int.mul_comm _ _
      have hcb : c.toNat * (tt e).bytes ≤ 140737488355328 := by
        have : ((c.toNat * (tt e).bytes : Nat) : Int) ≤ 140737488355328 := by rw [Int.natCast_mul, Int.toNat_of_nonneg (by omega)]; exact h2
        omega
      have hnl : ¬ (c < 0) := by omega
      have hask : ∀ {α : Type} (k : Unit → Sem α), ((askRoom (c.toNat * (tt e).bytes)) >>= k).run P w = (k ()).run P w := by
        intro α k
        rw [askRoom, if_neg (by unfold roomBytes; omega)]
        rfl
      have fin : ∀ cells : Array Value, cells.toList = (List.replicate c.toNat z.cells.toList).flatten → cells.size = c.toNat * (tt e).size →
          (Instr.makeSlice t (.int k l) (.int k' c)).run P w = .ok (.slice (some ⟨w.heap.size, 0, none⟩) l.toNat c.toNat) (pushW w (.cells cells e)) →
          Good P tt (Instr.makeSlice t (.int k l) (.int k' c)) g w H out := by
        intro cells hc hcs hrun
        have hlen : l.toNat ≤ c.toNat := by omega
        have hds : DFlatL tt g w.heap (List.replicate c.toNat (tt e).zero) cells.toList := by rw [hc]; exact dflatL_rep hzf _
        have hfull : cells.toList.take ((List.replicate c.toNat (tt e).zero).length * (tt e).size) = cells.toList := List.take_of_length_le (by simp [hcs])
        cases h
        cases hzz : (tt e).zero with
        | pv p =>
          rw [hzz] at hds hfull
          obtain ⟨g', k1, k2, k3⟩ := new_arr hr hn (T := e) (N := c.toNat) (len := l.toNat) (ds := List.replicate c.toNat (.pv p)) hcs (by simp) (fun d hd => by
            rw [List.eq_of_mem_replicate hd, ← hzz, hke.zsize]) (by rw [hfull]; exact hds) hlen (.parr e 1 (List.replicate c.toNat p)) (.inr (.inr ⟨_, rfl, by simp⟩)) (some c.toNat) (.inr rfl)
          exact ⟨_, _, g', hrun, k1, k2, k3⟩
        | _ =>
          obtain ⟨g', k1, k2, k3⟩ := new_arr hr hn (T := e) (N := c.toNat) (len := l.toNat) (ds := List.replicate c.toNat (tt e).zero) hcs (by simp) (fun d hd => by
            rw [List.eq_of_mem_replicate hd, hke.zsize]) (by rw [hfull]; exact hds) hlen (.arr e 1 (List.replicate c.toNat (tt e).zero)) (.inr (.inl rfl)) (some c.toNat) (.inr rfl)
          rw [hzz] at k1 k2
          exact ⟨_, _, g', hrun, k1, k2, k3⟩
      by_cases hn : c.toNat * (tt e).size = 0
      · refine fin ((Array.range (c.toNat * (tt e).size)).map ((#[] : Array Value)[· % (#[] : Array Value).size]!)) ?_ (by simp) ?_
        · rw [hn]
          have := zcells_toList z.cells (tt e).size c.toNat hzl
          rw [hn] at this
          simpa using this
        · simp only [Instr.makeSlice, Sem.run_bind, Result.andThen_ok, run_und hu, asInt, asIntOf, Sem.run_pure, htr, hwl, hwc, htb]
          rw [if_neg (by simp; omega)]
          rw [hask]
          simp only [Sem.run_bind, hke.sizeOf, Result.andThen_ok, hn, if_true, Sem.run_pure, newRow, newO_run]
      · refine fin ((Array.range (c.toNat * (tt e).size)).map (z.cells[· % z.cells.size]!)) (zcells_toList z.cells (tt e).size c.toNat hzl) (by simp) ?_
        simp only [Instr.makeSlice, Sem.run_bind, Result.andThen_ok, run_und hu, asInt, asIntOf, Sem.run_pure, htr, hwl, hwc, htb]
        rw [if_neg (by simp; omega)]
        rw [hask]
        simp only [Sem.run_bind, hke.sizeOf, Result.andThen_ok, hn, if_false, hz, Sem.run_pure, newRow, newO_run]
    · cases h
  · cases h
end
end Go.Cl
