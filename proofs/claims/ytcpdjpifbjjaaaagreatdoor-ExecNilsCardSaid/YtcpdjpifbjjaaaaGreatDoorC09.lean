/-
  THE CLEAN MACHINE, part 09: a machine of values by name that the model follows; each law here says that a step of the model does what the clean machine says. Nothing here speaks of this program.
-/
import Derived.Test.YtcpdjpifbjjaaaaGreatDoorC08
import Derived.Deep.AppendSrc
set_option linter.unusedVariables false
set_option linter.unusedSimpArgs false
namespace Go.Cl
open Go.RowKit (Below)
section
variable {P : Program} {tt : TT}
-- APPEND
def Els.dl : Els → List D
  | .ps l => l.map .pv
  | .ds l => l
theorem Els.dl_len (e : Els) : e.dl.length = e.length := by cases e <;> simp [Els.dl, Els.length]
def CObj.dl : CObj → List D
  | .parr _ _ ps => ps.map .pv
  | .arr _ _ ds => ds
  | _ => []
theorem CObj.dl_len {T v : Nat} {o : CObj} (ho : (∃ ps, o = .parr T v ps) ∨ ∃ ds, o = .arr T v ds) : o.dl.length = o.len := by
  rcases ho with ⟨ps, rfl⟩ | ⟨ds, rfl⟩ <;> simp [CObj.dl, CObj.len]
theorem addEls_free {T v v' : Nat} {o : CObj} {els : Els} (ho : (∃ ps, o = .parr T v ps) ∨ ∃ ds, o = .arr T v ds) : addEls T v' o els ≠ .free := by
  rcases ho with ⟨ps, rfl⟩ | ⟨ds, rfl⟩ <;> cases els <;> simp [addEls]
theorem addEls_rel {g : Ghost} {h : Array Obj} {T v ver : Nat} {gl : Gl} {o : CObj} {els : Els} (ho : (∃ ps, o = .parr T v ps) ∨ ∃ ds, o = .arr T v ds) (hv : 0 < ver)
    (ha : ArrRel tt g h T (o.dl ++ els.dl) gl) : ORel tt g h (gl, ver) (addEls T ver o els) := by
  rcases ho with ⟨ps, rfl⟩ | ⟨ds, rfl⟩ <;> cases els <;> exact ⟨rfl, hv, by simpa [addEls, CObj.dl, Els.dl] using ha⟩
theorem ORel.arr {g : Ghost} {h : Array Obj} {T v : Nat} {gl : Gl} {o : CObj} (ho : (∃ ps, o = .parr T v ps) ∨ ∃ ds, o = .arr T v ds) (hr : ORel tt g h (gl, v) o) : ArrRel tt g h T o.dl gl := by
  rcases ho with ⟨ps, rfl⟩ | ⟨ds, rfl⟩ <;> exact hr.2.2
/-- What a slice's elements are, and where they lie. -/
structure Elems (tt : TT) (g : Ghost) (h : Array Obj) (sz : Nat) (els : Els) (v : Value) (news : List Value) : Prop where
  flat : DFlatL tt g h els.dl news
  sizes : ∀ d ∈ els.dl, d.size = sz
  len : news.length = els.length * sz
  val : ∃ a c, v = .slice a els.length c ∧ (els.length = 0 ∨ ∃ b off cells E fz, a = some ⟨b, off, none⟩ ∧ h[b]? = some (.cells cells E fz) ∧ off + els.length * sz ≤ cells.size ∧
    news = (cells.toList.drop off).take (els.length * sz))
theorem elsOf_sound {g : Ghost} {w : World} {H : List CObj} (hr : HRel tt g w.heap H) {e : TypeId} {x : D} {v : Value} (hx : V tt g w.heap x v) {els : Els} {r : Reads}
    (h : elsOf e (lk H) x = some (els, r)) : ∃ news, Elems tt g w.heap (tt e).size els v news := by
  unfold elsOf at h
  split at h
  · rename_i T ps
    split at h
    · rename_i hT
      subst hT
      cases h
      rcases v_sl.1 hx with ⟨rfl, a, c, rfl⟩ | ⟨blk, off, cap, c, E, fz, rfl, h1, h2, h3, h4, h5, h6⟩
      · exact ⟨[], by simp [Els.dl, DFlatL], by simp [Els.dl], by simp [Els.length], _, _, rfl, .inl rfl⟩
      · refine ⟨_, (flatL_pv _ _).1 h6, ?_, ?_, _, _, rfl, .inr ⟨_, _, _, _, _, rfl, h3, h4, rfl⟩⟩
        · intro d hd
          obtain ⟨p, hp, rfl⟩ := List.mem_map.1 hd
          exact h5 p hp
        · simp [Els.length]; omega
    · cases h
  · cases h
    obtain ⟨a, rfl⟩ := v_nilsl.1 hx
    exact ⟨[], by simp [Els.dl, DFlatL], by simp [Els.dl], by simp [Els.length], _, _, rfl, .inl rfl⟩
  · rename_i T id ver off len lim
    split at h
    · rename_i hT
      subst hT
      obtain ⟨h1, gl, cur, p1, p2, p3, p4⟩ := v_own.1 hx
      have main : ∀ (o : CObj) (els : Els), verIs (lk H) T id ver = some o → els.dl = (o.dl.drop off).take len → off + len ≤ o.dl.length → ∃ news, Elems tt g w.heap (tt T).size els v news := by
        intro o els ho hel hl
        obtain ⟨rfl, hH, hd, hor, hsh⟩ := own_open hr ho p1
        have ha := ORel.arr hsh hor
        have hlen : els.length = len := by rw [← Els.dl_len, hel]; simp; omega
        have hown := p4 rfl
        cases gl with
        | none0 =>
          obtain ⟨rfl, rfl, _, a, rfl⟩ := hown
          have h0 : els.dl = [] := by rw [hel]; simp
          exact ⟨[], by rw [h0]; simp [DFlatL], by rw [h0]; simp, by simp [hlen], a, 0, by rw [hlen], .inl hlen⟩
        | blk b N =>
          obtain ⟨a, cap, rfl, hpos, hc, hN, _⟩ := hown
          obtain ⟨c, E, fz, hb, hnf, hcs, hdl, hds, hfl⟩ := ha
          have hdlen : ((o.dl.drop off).take len).length = len := by simp; omega
          have hpt := DFlatL.part o.dl _ off len hfl hds
          have hm := Nat.mul_le_mul_right (tt T).size hl
          have hm2 := Nat.mul_le_mul_right (tt T).size hdl
          rw [Nat.add_mul] at hm
          rw [hdlen, drop_take_take _ _ _ _ (by omega)] at hpt
          refine ⟨(c.toList.drop (off * (tt T).size)).take (len * (tt T).size), by rw [hel]; exact hpt, ?_, by rw [hlen]; simp; omega, some a, cap, by rw [hlen], ?_⟩
          · intro d hd
            rw [hel] at hd
            exact hds d (List.mem_of_mem_drop (List.mem_of_mem_take hd))
          · by_cases h0 : len = 0
            · exact .inl (by rw [hlen, h0])
            · refine .inr ⟨b, _, c, E, fz, by rw [hpos (by omega)], hb, by rw [hlen]; omega, by rw [hlen]⟩
      split at h
      · rename_i T' u ps ho
        split at h
        · rename_i hl
          cases h
          exact main _ _ ho (by simp [Els.dl, CObj.dl, List.map_drop, List.map_take]) (by simpa [CObj.dl] using hl)
        · cases h
      · rename_i T' u ds ho
        split at h
        · rename_i hl
          cases h
          exact main _ _ ho (by simp [Els.dl, CObj.dl]) (by simpa [CObj.dl] using hl)
        · cases h
      · cases h
    · cases h
  · cases h
theorem Elems.one {g : Ghost} {h : Array Obj} {sz : Nat} {els : Els} {v : Value} {news : List Value} (he : Elems tt g h sz els v news) : ∀ u ∈ news, u.oneCell' = true := DFlatL.one _ _ he.flat
theorem Elems.src {g : Ghost} {w : World} {sz : Nat} {els : Els} {v : Value} {news : List Value} (he : Elems tt g w.heap sz els v news) {xt e' : TypeId} (hk : P.underlying xt = some (.slice e')) :
    Src P sz xt v els.length news w := by
  obtain ⟨a, c, rfl, h0⟩ := he.val
  have hone := he.one
  have hlen := he.len
  rcases h0 with h0 | ⟨b, off, cells, E, fz, rfl, hb, hl, rfl⟩
  · rw [h0, Nat.zero_mul] at hlen
    have := List.length_eq_zero_iff.1 hlen
    subst this
    rw [h0]
    cases a with
    | none => exact Src.ofNil w hk c
    | some a => exact Src.ofSlice w hk a 0 c [] (by simp) (by simp) (by simp)
  · refine Src.ofSlice w hk _ _ c _ (by simpa using hlen) (fun j u hu => ?_) hone
    rw [List.getElem?_take] at hu
    split at hu
    · rw [List.getElem?_drop] at hu
      rw [add_add]
      simp only [World.cell?, hb]
      simpa using hu
    · cases hu
theorem srcOf_sound (htt : TTok P tt) {g : Ghost} {w : World} {H : List CObj} (hr : HRel tt g w.heap H) {e xt : TypeId} (hke : TIok P tt e) {x : D} {v : Value} (hx : V tt g w.heap x v) {els : Els} {r : Reads}
    (h : srcOf tt e xt (lk H) x = some (els, r)) : ∃ news, Src P (tt e).size xt v els.length news w ∧ DFlatL tt g w.heap els.dl news ∧ ∀ d ∈ els.dl, d.size = (tt e).size := by
  unfold srcOf at h
  split at h
  · rename_i hxt
    split at h
    · rename_i s hte
      cases h
      obtain ⟨b, rfl, rfl⟩ := v_str.1 hx
      have h1 : (tt e).size = 1 := hke.one (by rw [hte]; rfl)
      refine ⟨byteCells b, ?_, ?_, ?_⟩
      · rw [h1]
        have := Src.ofString (P := P) w (und_str htt hxt) b
        simpa [Els.length] using this
      · have : ∀ l : List UInt8, DFlatL tt g w.heap ((l.map fun b => Pv.int .u8 b.toNat).map .pv) (l.map fun b => Value.int .u8 b.toNat) := by
          intro l
          induction l with
          | nil => simp [DFlatL]
          | cons b l ih =>
            simp only [List.map_cons, DFlatL, DFlat, Flat]
            exact ⟨[_], _, rfl, rfl, ih⟩
        exact this _
      · intro d hd
        simp only [Els.dl, List.map_map, List.mem_map] at hd
        obtain ⟨b, _, rfl⟩ := hd
        rw [h1]; rfl
    · cases h
  · rename_i e' hxt
    obtain ⟨news, he⟩ := elsOf_sound hr hx h
    exact ⟨news, he.src (und_sl htt hxt), he.flat, he.sizes⟩
  · cases h
theorem killH_get : ∀ (r : Reads) (H : List CObj) (j : Nat), (∀ x ∈ r, x.1 ≠ j) → (killH r H)[j]? = H[j]?
  | [], H, j, _ => rfl
  | x :: r, H, j, h => by
    have := killH_get r (H.set x.1 .dead) j fun y hy => h y (by simp [hy])
    simp only [killH, List.foldl_cons] at this ⊢
    rw [this, List.getElem?_set_ne (h x (by simp))]
/-- Elements that own arrays are told by value. -/
theorem settle_sound {g : Ghost} {w : World} {H : List CObj} (hr : HRel tt g w.heap H) {els els' : Els} {r : Reads} {st : Bool} (h : (if st = true then settle (lk H) els else (els, [])) = (els', r)) {news : List Value} {sz : Nat}
    (hf : DFlatL tt g w.heap els.dl news) (hs : ∀ d ∈ els.dl, d.size = sz) :
    els'.length = els.length ∧ (∀ x ∈ r, H[x.1]? = some x.2 ∧ (cobjT x.2).isSome = true) ∧ (∀ d ∈ els'.dl, d.size = sz) ∧
    ∃ g', HRel tt g' w.heap (killH r H) ∧ Ext g w H g' w (killH r H) ∧ DFlatL tt g' w.heap els'.dl news := by
  have same : ∀ els', els' = els → r = [] → els'.length = els.length ∧ (∀ x ∈ r, H[x.1]? = some x.2 ∧ (cobjT x.2).isSome = true) ∧ (∀ d ∈ els'.dl, d.size = sz) ∧
      ∃ g', HRel tt g' w.heap (killH r H) ∧ Ext g w H g' w (killH r H) ∧ DFlatL tt g' w.heap els'.dl news := by
    rintro _ rfl rfl
    exact ⟨rfl, by simp, hs, g, hr, Ext.refl _ _ _, hf⟩
  split at h
  · cases els with
    | ps l => simp only [settle, Prod.mk.injEq] at h; exact same _ h.1.symm h.2.symm
    | ds l =>
      simp only [settle] at h
      split at h
      · rename_i ps r' hm
        cases h
        obtain ⟨a, b⟩ := mapSnap_sound (H := H) (fun d cs p r => snap_sound hr 3 d cs p r) l news ps r hf hm
        obtain ⟨g', k1, k2, k3⟩ := kill_sound r hr (fun x hx => ⟨x.2, (b x hx).1, .inl rfl⟩) (fun x hx => (b x hx).2)
        refine ⟨by simp [Els.length, mapSnap_len _ _ _ hm], b, ?_, g', k1, k2, ?_⟩
        · intro d hd
          obtain ⟨p, hp, rfl⟩ := List.mem_map.1 hd
          exact mapSnap_size l ps r hm hs p hp
        · exact (flatL_pv _ _).1 (FlatL.mono (fun T b hb => ⟨k3 T b hb, rfl⟩) _ _ a)
      · cases h
        exact same _ rfl rfl
  · cases h
    exact same _ rfl rfl
theorem append_room0 (htt : TTok P tt) {w : World} {t xt ty e : TypeId} (ht : (tt t).td = .sl e) {base : Option Addr} {sLen sCap n : Nat} {v : Value} (hsrc : Src P (tt e).size xt v n [] w) (hroom : sLen + n ≤ sCap) :
    (Builtin.append_ #[t, xt] ty #[.slice base sLen sCap, v]).run P w = .ok (.slice base (sLen + n) sCap) w := by
  have hke := kid_sl htt ht
  obtain ⟨i, hi, hisz, _, _⟩ := hke.info w
  have hc := hsrc.cells
  rw [← hisz] at hc
  rcases hsrc.kind with ⟨e', hk⟩ | hk <;> cases base <;> simp [Builtin.append_, run_underlying (und_sl htt ht), run_underlying hk, sizeOf, typeInfo, hi, hsrc.len, hroom, hc, storeCells]
theorem append_room (htt : TTok P tt) {w : World} {t xt ty e : TypeId} (ht : (tt t).td = .sl e) {b off sLen sCap n : Nat} {v : Value} {news : List Value} (hsrc : Src P (tt e).size xt v n news w) (hroom : sLen + n ≤ sCap)
    {c : Array Value} {E : TypeId} {fz : Nat × Nat} (hb : w.heap[b]? = some (.cells c E fz)) (hnf : NF c fz) (hl : off + sLen * (tt e).size + news.length ≤ c.size) :
    (Builtin.append_ #[t, xt] ty #[.slice (some ⟨b, off, none⟩) sLen sCap, v]).run P w =
      .ok (.slice (some ⟨b, off, none⟩) (sLen + n) sCap) (setB w b (.cells (cutIn c.toList (off + sLen * (tt e).size) news).toArray E fz)) := by
  have hke := kid_sl htt ht
  obtain ⟨i, hi, hisz, _, _⟩ := hke.info w
  have hc := hsrc.cells
  rw [← hisz] at hc
  have hst := run_storeCells (P := P) w (off + sLen * (tt e).size) news 0 c w hb hnf (by omega) hsrc.one
  rw [← hisz] at hst ⊢
  simp only [Nat.add_zero] at hst
  rcases hsrc.kind with ⟨e', hk⟩ | hk <;> simp [Builtin.append_, run_underlying (und_sl htt ht), run_underlying hk, sizeOf, typeInfo, hi, hsrc.len, hroom, hc, add_add, hst]
theorem append_grow (htt : TTok P tt) {w : World} {t xt ty e : TypeId} (ht : (tt t).td = .sl e) (hby : ¬ 16384 < (tt e).bytes) {base : Option Addr} {sLen sCap n : Nat} {v : Value} {olds news : List Value}
    (hold : (Builtin.firstCells (tt e).size sLen (.slice base sLen sCap)).run P w.drew = .ok olds.toArray w.drew) (hol : olds.length = sLen * (tt e).size)
    (hsrc : Src P (tt e).size xt v n news w) (hg : sCap < sLen + n) (hle : sLen + n ≤ 4294967296) :
    ∃ c N, (Builtin.append_ #[t, xt] ty #[.slice base sLen sCap, v]).run P w = .ok (.slice (some ⟨w.heap.size, 0, none⟩) (sLen + n) N) (pushW w.drew (.cells c e)) ∧
      sLen + n ≤ N ∧ c.size = N * (tt e).size ∧ c.toList.take ((sLen + n) * (tt e).size) = olds ++ news := by
  have hke := kid_sl htt ht
  obtain ⟨d, i, z, _, _, hi, hisz, hiby, hiz, hzv⟩ := hke.ex
  have hzf := vof_cells (hzv ⟨fun _ => none, fun _ _ => False⟩ w.heap)
  have hzl : z.cells.size = (tt e).size := by rw [← hke.zsize, ← DFlat.len _ _ hzf]; simp
  have hge := grownCap_ge w (sLen + n) sCap e
  have hnl := hsrc.newsLen
  rw [← hisz] at hold hsrc
  have hbytes : (sLen + n) * i.bytes ≤ 140737488355328 := by
    rw [hiby]
    exact Nat.le_trans (Nat.mul_le_mul hle (Nat.le_of_not_lt hby)) (by omega)
  have hrun := run_append_grow_src (P := P) w t xt ty e i z (und_sl htt ht) hi hiz base sLen sCap olds hold v n news hsrc hg (by omega) (growslice_fits hg hbytes)
  refine ⟨_, _, hrun, hge, ?_, ?_⟩
  · simp only [Array.size_append, List.size_toArray, List.length_append, hol, hnl, Builtin.zeroCells, Array.size_map, Array.size_range, hzl]
    rw [← Nat.add_mul, ← Nat.add_mul]
    congr 1; omega
  · have : (olds ++ news).length = (sLen + n) * (tt e).size := by rw [List.length_append, hol, hnl, Nat.add_mul]
    rw [← this, Array.toList_append]
    exact List.take_left
theorem killH_len : ∀ (r : Reads) (H : List CObj), (killH r H).length = H.length
  | [], _ => rfl
  | x :: r, H => by
    have := killH_len r (H.set x.1 .dead)
    simp only [killH, List.foldl_cons] at this ⊢
    rw [this, List.length_set]
theorem append_sound (htt : TTok P tt) {g : Ghost} {w : World} {H : List CObj} (hr : HRel tt g w.heap H) {t xt ty : TypeId} {s x : D} {u v : Value} (hs : V tt g w.heap s u) (hx : V tt g w.heap x v)
    {nid : Nat} (hn : H[nid]? = some .free) {st : Bool} {out : Out2} (h : opAppend tt (lk H) nid st t xt s x = some out) (hside : out.side) :
    ∃ z w' g', (Builtin.append_ #[t, xt] ty #[u, v]).run P w = .ok z w' ∧ HRel tt g' w'.heap (out.eff.app (killH out.kills H)) ∧ Ext g w H g' w' (out.eff.app (killH out.kills H)) ∧ V tt g' w'.heap out.v z := by
  unfold opAppend at h
  split at h
  · rename_i e ht
    split at h
    · cases h
    · rename_i hby
      have hke := kid_sl htt ht
      split at h
      · cases h
      · rename_i els0 r0 hsrc0
        generalize hst : (if st = true then settle (lk H) els0 else (els0, [])) = se at h
        obtain ⟨els, r1⟩ := se
        simp only at h
        obtain ⟨news, hsrc, hf0, hz0⟩ := srcOf_sound htt hr hke hx hsrc0
        obtain ⟨hlen, hkl, hz, g1, k1, k2, hf⟩ := settle_sound hr hst hf0 hz0
        rw [← hlen] at hsrc
        have hnl := hsrc.newsLen
        have hm1 := k2.gmono hr
        have hs1 : V tt g1 w.heap s u := V.mono hm1 s u hs
        have hdn : Ext g1 w (killH r1 H) g1 w.drew (killH r1 H) := Ext.drawn rfl rfl rfl rfl
        split at h
        · -- a nil slice
          rename_i T
          cases h
          simp only at hside
          obtain ⟨a, rfl⟩ := v_nilsl.1 hs1
          have hn1 : (killH r1 H)[nid]? = some .free := by
            rw [killH_get _ _ _ fun y hy e => ?_]
            · exact hn
            · obtain ⟨h1, h2⟩ := hkl y hy
              rw [e, hn] at h1
              rw [← Option.some.inj h1] at h2
              cases h2
          have hsh : (∃ ps, CObj.parr e 1 [] = .parr e 1 ps) ∨ ∃ ds, CObj.parr e 1 [] = .arr e 1 ds := .inl ⟨[], rfl⟩
          by_cases h0 : els.length = 0
          · have hd0 : els.dl = [] := List.length_eq_zero_iff.1 (by rw [Els.dl_len, h0])
            have hn0 : news = [] := List.length_eq_zero_iff.1 (by rw [hnl, h0, Nat.zero_mul])
            subst hn0
            obtain ⟨g2, l1, l2, l3, l4⟩ := step_nil k1 hn1 (addEls e 1 (.parr e 1 []) els) (addEls_free hsh) (fun g' => addEls_rel hsh (by omega) (by rw [hd0]; rfl))
            have hrun := append_room0 (P := P) htt (ty := ty) ht (base := a) (sLen := 0) (sCap := 0) hsrc (by omega)
            refine ⟨_, _, g2, hrun, l1, k2.trans l2, ?_⟩
            rw [v_own]
            exact ⟨rfl, .none0, 1, l3, Nat.le_refl _, by omega, fun _ => ⟨rfl, h0, .inl rfl, a, by rw [h0]⟩⟩
          · have hold : (Builtin.firstCells (tt e).size 0 (.slice a 0 0)).run P w.drew = .ok ([] : List Value).toArray w.drew := by
              cases a with
              | none => simp [Builtin.firstCells]
              | some a => exact run_firstCells_some _ _ _ _ _ _ [] (by simp) (by simp)
            obtain ⟨c, N, hrun, hge, hcs, hct⟩ := append_grow (P := P) htt (ty := ty) ht hby hold (by simp) hsrc (by omega) (by omega)
            rw [Nat.zero_add, List.nil_append] at hct
            obtain ⟨g2, l1, l2, l3, l4⟩ := step_new (w := w.drew) k1 hn1 (.cells c e) (addEls e 1 (.parr e 1 []) els) (addEls_free hsh) N 1 (fun g' _ hm =>
              addEls_rel hsh (by omega) ⟨c, e, (0, 0), pushW_new _ _, nf_zero _, hcs, by simp only [CObj.dl, List.map_nil, List.nil_append, Els.dl_len]; omega, by simpa [CObj.dl] using hz,
                by simp only [CObj.dl, List.map_nil, List.nil_append, Els.dl_len]; rw [hct]; exact DFlatL.mono hm _ _ hf⟩)
            refine ⟨_, _, g2, hrun, l1, k2.trans (hdn.trans l2), ?_⟩
            rw [v_own]
            exact ⟨rfl, _, 1, l3, Nat.le_refl _, by omega, fun _ => ⟨_, N, by rw [Nat.zero_add], fun _ => by rw [Nat.zero_mul]; rfl, by omega, by omega, by simp⟩⟩
        · -- an own slice
          rename_i T id ver off len lim
          split at h
          · rename_i hc
            obtain ⟨rfl, rfl, hnk⟩ := hc
            split at h
            · rename_i o ho
              split at h
              · rename_i hlo
                cases h
                simp only at hside
                have hget : (killH r1 H)[id]? = H[id]? := killH_get _ _ _ fun y hy => by
                  have := List.all_eq_true.1 hnk y hy
                  simpa using this
                have ho1 : verIs (lk (killH r1 H)) T id ver = some o := by
                  unfold verIs lk at ho ⊢
                  rw [hget]
                  exact ho
                obtain ⟨h1, gl, cur, p1, p2, p3, p4⟩ := v_own.1 hs1
                obtain ⟨rfl, hH, hd, hor, hsh⟩ := own_open k1 ho1 p1
                have ha := ORel.arr hsh hor
                have hlo' : o.dl.length = len := by rw [CObj.dl_len hsh, hlo]
                have hown := p4 rfl
                cases gl with
                | none0 =>
                  have hdl0 : o.dl = [] := ha
                  obtain ⟨_, rfl, hlim, a, rfl⟩ := hown
                  by_cases h0 : els.length = 0
                  · have hd0 : els.dl = [] := List.length_eq_zero_iff.1 (by rw [Els.dl_len, h0])
                    have hn0 : news = [] := List.length_eq_zero_iff.1 (by rw [hnl, h0, Nat.zero_mul])
                    subst hn0
                    obtain ⟨g2, l1, l2, l3, l4⟩ := step_none0 k1 hH hd p1 (addEls T (cur + 1) o els) (cur + 1) (by omega) (by omega) (addEls_free hsh) (fun g' => addEls_rel hsh (by omega) (by rw [hd0, hdl0]; rfl))
                    have hrun := append_room0 (P := P) htt (ty := ty) ht (base := a) (sLen := 0) (sCap := 0) hsrc (by omega)
                    refine ⟨_, _, g2, hrun, l1, k2.trans l2, ?_⟩
                    rw [v_own]
                    refine ⟨rfl, .none0, cur + 1, l3, Nat.le_refl _, by omega, fun _ => ⟨rfl, by omega, ?_, a, by rw [h0]⟩⟩
                    rcases hlim with rfl | rfl
                    · exact .inl rfl
                    · right; simp [h0]
                  · have hold : (Builtin.firstCells (tt T).size 0 (.slice a 0 0)).run P w.drew = .ok ([] : List Value).toArray w.drew := by
                      cases a with
                      | none => simp [Builtin.firstCells]
                      | some a => exact run_firstCells_some _ _ _ _ _ _ [] (by simp) (by simp)
                    obtain ⟨c, N, hrun, hge, hcs, hct⟩ := append_grow (P := P) htt (ty := ty) ht hby hold (by simp) hsrc (by omega) (by omega)
                    rw [Nat.zero_add, List.nil_append] at hct
                    obtain ⟨g2, l1, l2, l3, l4⟩ := step_move (w := w.drew) k1 hH hd p1 (.cells c T) (addEls T (cur + 1) o els) N (cur + 1) (by omega) p3 (addEls_free hsh) (fun g' _ hm =>
                      addEls_rel hsh (by omega) ⟨c, T, (0, 0), pushW_new _ _, nf_zero _, hcs, by rw [hdl0]; simp only [List.nil_append, Els.dl_len]; omega, by rw [hdl0]; simpa using hz,
                        by rw [hdl0]; simp only [List.nil_append, Els.dl_len]; rw [hct]; exact DFlatL.mono hm _ _ hf⟩)
                    refine ⟨_, _, g2, hrun, l1, k2.trans (hdn.trans l2), ?_⟩
                    rw [v_own]
                    refine ⟨rfl, _, cur + 1, l3, Nat.le_refl _, by omega, fun _ => ⟨_, N, rfl, fun _ => by rw [Nat.zero_mul]; rfl, by omega, by omega, ?_⟩⟩
                    rcases hlim with rfl | rfl
                    · simp
                    · simp only; rw [if_neg (by omega)]; simp
                | blk b N =>
                  obtain ⟨a, cap, rfl, hpos, hcl, hN, hlim⟩ := hown
                  obtain ⟨c, E, fz, hb, hnf, hcs, hdl, hds, hfl⟩ := ha
                  rw [hlo'] at hdl hfl
                  have hmul : (len + els.length) * (tt T).size = len * (tt T).size + els.length * (tt T).size := Nat.add_mul _ _ _
                  have hdsz : ∀ d ∈ o.dl ++ els.dl, d.size = (tt T).size := fun d hd => (List.mem_append.1 hd).elim (hds d) (hz d)
                  have hll : (o.dl ++ els.dl).length = len + els.length := by rw [List.length_append, hlo', Els.dl_len]
                  have hmN := Nat.mul_le_mul_right (tt T).size hdl
                  by_cases hroom : len + els.length ≤ cap
                  · have hmc : (len + els.length) * (tt T).size ≤ N * (tt T).size := Nat.mul_le_mul_right _ (by omega)
                    have hrun : (Builtin.append_ #[t, xt] ty #[.slice (some a) len cap, v]).run P w = .ok (.slice (some a) (len + els.length) cap) (setB w b (.cells (cutIn c.toList (len * (tt T).size) news).toArray E fz)) := by
                      by_cases hc0 : 0 < cap
                      · have ha' := hpos hc0
                        rw [Nat.zero_mul] at ha'
                        subst ha'
                        have := append_room (P := P) htt (ty := ty) ht (off := 0) hsrc hroom hb hnf (by omega)
                        rwa [Nat.zero_add] at this
                      · have hn0 : news = [] := List.length_eq_zero_iff.1 (by rw [hnl, show els.length = 0 by omega, Nat.zero_mul])
                        subst hn0
                        rw [append_room0 (P := P) htt (ty := ty) ht hsrc hroom]
                        congr 1
                        rw [show cutIn c.toList (len * (tt T).size) [] = c.toList by simp [cutIn], Array.toArray_toList, setB_self hb]
                    have hcut : ((cutIn c.toList (len * (tt T).size) news).take ((len + els.length) * (tt T).size)) = c.toList.take (len * (tt T).size) ++ news := by
                      unfold cutIn
                      have : (c.toList.take (len * (tt T).size) ++ news).length = (len + els.length) * (tt T).size := by
                        rw [List.length_append, List.length_take, hnl, hmul]; simp; omega
                      rw [← this]
                      exact List.take_left
                    obtain ⟨g2, l1, l2, l3, l4⟩ := step_set k1 hH hd p1 (.cells (cutIn c.toList (len * (tt T).size) news).toArray E fz) (addEls T (cur + 1) o els) (cur + 1) (by omega) (by omega) (addEls_free hsh) (fun g' _ hm =>
                      addEls_rel hsh (by omega) ⟨_, E, fz, setB_get _ _ _ (Array.getElem?_eq_some_iff.1 hb).1, nf_cutIn hnf (by simp; omega), by rw [List.size_toArray, cutIn_len _ _ _ (by simp; omega)]; simpa using hcs, by omega, hdsz,
                        by rw [hll, List.toList_toArray, hcut]; exact DFlatL.append _ _ _ _ (DFlatL.mono hm _ _ hfl) (DFlatL.mono hm _ _ hf)⟩)
                    refine ⟨_, _, g2, hrun, l1, k2.trans l2, ?_⟩
                    rw [v_own]
                    refine ⟨rfl, _, cur + 1, l3, Nat.le_refl _, by omega, fun _ => ⟨a, cap, rfl, fun h => hpos h, hroom, hN, ?_⟩⟩
                    cases lim with
                    | none => exact hlim
                    | some k =>
                      simp only at hlim
                      subst hlim
                      simp only [hroom, if_true]
                  · have hold : (Builtin.firstCells (tt T).size len (.slice (some a) len cap)).run P w.drew = .ok (c.toList.take (len * (tt T).size)).toArray w.drew := by
                      refine run_firstCells_some _ _ _ _ _ _ _ (by simp; omega) (fun j y hj => ?_)
                      rw [List.getElem?_take] at hj
                      split at hj
                      · have hlp : 0 < len := by
                          rcases Nat.eq_zero_or_pos len with h0 | h0
                          · have hz0' : len * (tt T).size = 0 := by rw [h0, Nat.zero_mul]
                            omega
                          · exact h0
                        rw [hpos (by omega), add_add]
                        have hb' : w.drew.heap[b]? = some (.cells c E fz) := hb
                        simp only [World.cell?, hb']
                        simpa using hj
                      · cases hj
                    obtain ⟨c', N', hrun, hge, hcs', hct⟩ := append_grow (P := P) htt (ty := ty) ht hby hold (by simp; omega) hsrc (by omega) (by omega)
                    obtain ⟨g2, l1, l2, l3, l4⟩ := step_move (w := w.drew) k1 hH hd p1 (.cells c' T) (addEls T (cur + 1) o els) N' (cur + 1) (by omega) p3 (addEls_free hsh) (fun g' _ hm =>
                      addEls_rel hsh (by omega) ⟨c', T, (0, 0), pushW_new _ _, nf_zero _, hcs', by omega, hdsz,
                        by rw [hll, hct]; exact DFlatL.append _ _ _ _ (DFlatL.mono hm _ _ hfl) (DFlatL.mono hm _ _ hf)⟩)
                    refine ⟨_, _, g2, hrun, l1, k2.trans (hdn.trans l2), ?_⟩
                    rw [v_own]
                    refine ⟨rfl, _, cur + 1, l3, Nat.le_refl _, by omega, fun _ => ⟨_, N', rfl, fun _ => by rw [Nat.zero_mul]; rfl, hge, by omega, ?_⟩⟩
                    cases lim with
                    | none => simp
                    | some k =>
                      simp only at hlim
                      subst hlim
                      simp only [hroom, if_false]
                      omega
              · cases h
            · cases h
          · cases h
        · cases h
  · cases h
end
end Go.Cl
