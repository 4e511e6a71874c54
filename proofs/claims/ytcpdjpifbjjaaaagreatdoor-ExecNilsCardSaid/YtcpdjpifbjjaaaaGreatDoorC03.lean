/-
  THE CLEAN MACHINE, part 03: a machine of values by name that the model follows; each law here says that a step of the model does what the clean machine says. Nothing here speaks of this program.
-/
import Derived.Test.YtcpdjpifbjjaaaaGreatDoorC02
set_option linter.unusedVariables false
set_option linter.unusedSimpArgs false
namespace Go.Cl
open Go.RowKit (Below)
section
variable {P : Program} {tt : TT}
abbrev lk (H : List CObj) : Look := fun i => H[i]?
def Eff.app (H : List CObj) : Eff → List CObj
  | .none => H
  | .set id o => H.set id o
/-- The machine can carry the operation out, and what comes is what the clean machine says. -/
def Good (P : Program) (tt : TT) (sem : Sem Value) (g : Ghost) (w : World) (H : List CObj) (out : Out) : Prop :=
  ∃ v w' g', sem.run P w = .ok v w' ∧ HRel tt g' w'.heap (out.eff.app H) ∧ Ext g w H g' w' (out.eff.app H) ∧ V tt g' w'.heap out.v v
theorem good_pure {sem : Sem Value} {g : Ghost} {w : World} {H : List CObj} {out : Out} {v : Value} (hr : HRel tt g w.heap H) (he : out.eff = .none) (hs : sem.run P w = .ok v w)
    (hv : V tt g w.heap out.v v) : Good P tt sem g w H out :=
  ⟨v, w, g, hs, by rw [he]; exact hr, by rw [he]; exact Ext.refl _ _ _, hv⟩
theorem v_pv {g : Ghost} {h : Array Obj} {p : Pv} {v : Value} (hp : p.isAgg = false) : V tt g h (.pv p) v ↔ Flat tt g.B h p [v] ∧ v.oneCell' = true := by
  simp only [V, VOf, D.isAgg, hp, Bool.false_eq_true, if_false, DFlat]
theorem v_int {g : Ghost} {h : Array Obj} {k : IntKind} {n : Int} {v : Value} : V tt g h (.pv (.int k n)) v ↔ v = .int k n := by
  rw [v_pv rfl]; simp only [Flat]; constructor
  · rintro ⟨h, _⟩; simpa using h
  · rintro rfl; simp [Value.oneCell']
theorem v_bool {g : Ghost} {h : Array Obj} {b : Bool} {v : Value} : V tt g h (.pv (.bool b)) v ↔ v = .bool b := by
  rw [v_pv rfl]; simp only [Flat]; constructor
  · rintro ⟨h, _⟩; simpa using h
  · rintro rfl; simp [Value.oneCell']
theorem v_flt {g : Ghost} {h : Array Obj} {k : FloatKind} {n : Nat} {v : Value} : V tt g h (.pv (.flt k n)) v ↔ v = .float k n := by
  rw [v_pv rfl]; simp only [Flat]; constructor
  · rintro ⟨h, _⟩; simpa using h
  · rintro rfl; simp [Value.oneCell']
theorem v_str {g : Ghost} {h : Array Obj} {s : List UInt8} {v : Value} : V tt g h (.pv (.str s)) v ↔ ∃ b : ByteArray, v = .string b ∧ b.data.toList = s := by
  rw [v_pv rfl]; simp only [Flat]; constructor
  · rintro ⟨⟨b, h, e⟩, _⟩; exact ⟨b, by simpa using h, e⟩
  · rintro ⟨b, rfl, e⟩; exact ⟨⟨b, rfl, e⟩, rfl⟩
theorem v_nilp {g : Ghost} {h : Array Obj} {v : Value} : V tt g h (.pv .nilp) v ↔ v = .pointer none := by
  rw [v_pv rfl]; simp only [Flat]; constructor
  · rintro ⟨h, _⟩; simpa using h
  · rintro rfl; simp [Value.oneCell']
theorem v_nilsl {g : Ghost} {h : Array Obj} {T : TypeId} {v : Value} : V tt g h (.nilsl T) v ↔ ∃ a, v = .slice a 0 0 := by
  simp only [V, VOf, D.isAgg, Bool.false_eq_true, if_false, DFlat]; constructor
  · rintro ⟨⟨a, h⟩, _⟩; exact ⟨a, by simpa using h⟩
  · rintro ⟨a, rfl⟩; exact ⟨⟨a, rfl⟩, rfl⟩
/-- What a slice that is told by value is. -/
def SlV (tt : TT) (B : TypeId → Nat → Prop) (h : Array Obj) (T : TypeId) (ps : List Pv) (v : Value) : Prop :=
  (ps = [] ∧ ∃ a c, v = .slice a 0 c) ∨
      ∃ blk off cap c E fz, v = .slice (some ⟨blk, off, none⟩) ps.length cap ∧ ps.length ≤ cap ∧ B T blk ∧ h[blk]? = some (.cells c E fz) ∧
        off + ps.length * (tt T).size ≤ c.size ∧ (∀ p ∈ ps, p.size = (tt T).size) ∧ FlatL tt B h ps ((c.toList.drop off).take (ps.length * (tt T).size))
theorem v_sl {g : Ghost} {h : Array Obj} {T : TypeId} {ps : List Pv} {v : Value} : V tt g h (.pv (.sl T ps)) v ↔ SlV tt g.B h T ps v := by
  rw [v_pv rfl]; unfold SlV; simp only [Flat]; constructor
  · rintro ⟨h | ⟨a, b, c, d, e, f, h1, h2⟩, _⟩
    · obtain ⟨h1, a, c, h2⟩ := h
      exact .inl ⟨h1, a, c, by simpa using h2⟩
    · exact .inr ⟨a, b, c, d, e, f, by simpa using h1, h2⟩
  · rintro (⟨h1, a, c, rfl⟩ | ⟨a, b, c, d, e, f, rfl, h2⟩)
    · exact ⟨.inl ⟨h1, a, c, rfl⟩, rfl⟩
    · exact ⟨.inr ⟨a, b, c, d, e, f, rfl, h2⟩, rfl⟩
theorem SlV.slice {B : TypeId → Nat → Prop} {h : Array Obj} {T : TypeId} {ps : List Pv} {v : Value} (hv : SlV tt B h T ps v) : ∃ a c, v = .slice a ps.length c := by
  rcases hv with ⟨rfl, a, c, rfl⟩ | ⟨_, _, _, _, _, _, rfl, _⟩ <;> exact ⟨_, _, rfl⟩
theorem v_own {g : Ghost} {h : Array Obj} {T id ver off len : Nat} {lim : Option Nat} {v : Value} : V tt g h (.own T id ver off len lim) v ↔
    v.oneCell' = true ∧ ∃ gl cur, g.φ id = some (gl, cur) ∧ ver ≤ cur ∧ 0 < ver ∧ (ver = cur → OwnV tt T off len lim v gl) := by
  simp only [V, VOf, D.isAgg, Bool.false_eq_true, if_false, DFlat]; constructor
  · rintro ⟨⟨u, e, h1, h2⟩, h3⟩
    simp at e; subst e; exact ⟨h3, h2⟩
  · rintro ⟨h1, h2⟩; exact ⟨⟨v, rfl, h1, h2⟩, h1⟩
theorem v_cptr {g : Ghost} {h : Array Obj} {id off : Nat} {v : Value} : V tt g h (.cptr id off) v ↔ ∃ b N, v = .pointer (some ⟨b, off, none⟩) ∧ g.φ id = some (.blk b N, 0) := by
  simp only [V, VOf, D.isAgg, Bool.false_eq_true, if_false, DFlat]; constructor
  · rintro ⟨⟨b, N, e, h1⟩, _⟩; exact ⟨b, N, by simpa using e, h1⟩
  · rintro ⟨b, N, rfl, h1⟩; exact ⟨⟨b, N, rfl, h1⟩, rfl⟩
theorem v_aptr {g : Ghost} {h : Array Obj} {T id ver i off : Nat} {v : Value} : V tt g h (.aptr T id ver i off) v ↔
    v.oneCell' = true ∧ ∃ gl cur, g.φ id = some (gl, cur) ∧ ver ≤ cur ∧ 0 < ver ∧ (ver = cur → ∃ b N, gl = .blk b N ∧ v = .pointer (some ⟨b, i * (tt T).size + off, none⟩)) := by
  simp only [V, VOf, D.isAgg, Bool.false_eq_true, if_false, DFlat]; constructor
  · rintro ⟨⟨u, e, h1, h2⟩, h3⟩
    simp at e; subst e; exact ⟨h3, h2⟩
  · rintro ⟨h1, h2⟩; exact ⟨⟨v, rfl, h1, h2⟩, h1⟩
/-- Where an element's address by value leads. -/
def SpV (tt : TT) (B : TypeId → Nat → Prop) (h : Array Obj) (T : TypeId) (ps : List Pv) (i off : Nat) (v : Value) : Prop :=
  ∃ b o c E fz, v = .pointer (some ⟨b, o + i * (tt T).size + off, none⟩) ∧ B T b ∧ h[b]? = some (.cells c E fz) ∧
      o + ps.length * (tt T).size ≤ c.size ∧ (∀ p ∈ ps, p.size = (tt T).size) ∧ FlatL tt B h ps ((c.toList.drop o).take (ps.length * (tt T).size))
theorem v_sptr {g : Ghost} {h : Array Obj} {T i off : Nat} {ps : List Pv} {v : Value} : V tt g h (.sptr T ps i off) v ↔ SpV tt g.B h T ps i off v := by
  simp only [V, VOf, D.isAgg, Bool.false_eq_true, if_false, DFlat, SpV]; constructor
  · rintro ⟨⟨b, o, c, E, fz, e, r⟩, _⟩; exact ⟨b, o, c, E, fz, by simpa using e, r⟩
  · rintro ⟨b, o, c, E, fz, rfl, r⟩; exact ⟨⟨b, o, c, E, fz, rfl, r⟩, rfl⟩
/-- An own slice of the present version, laid open. -/
theorem own_open {g : Ghost} {h : Array Obj} {H : List CObj} (hr : HRel tt g h H) {T id ver : Nat} {o : CObj} (hl : verIs (lk H) T id ver = some o) {gl : Gl} {cur : Nat}
    (hp : g.φ id = some (gl, cur)) : cur = ver ∧ H[id]? = some o ∧ o.live ∧ ORel tt g h (gl, ver) o ∧ ((∃ ps, o = .parr T ver ps) ∨ ∃ ds, o = .arr T ver ds) := by
  unfold verIs lk at hl
  split at hl
  · rename_i T' v ps hH
    split at hl
    · rename_i hc
      obtain ⟨rfl, rfl⟩ := hc
      cases hl
      obtain ⟨x, hx, ho⟩ := hr.objs id _ hH (by simp)
      rw [hp] at hx; cases hx
      have : cur = ver := ho.1
      subst this
      exact ⟨rfl, hH, by simp, ho, .inl ⟨ps, rfl⟩⟩
    · cases hl
  · rename_i T' v ps hH
    split at hl
    · rename_i hc
      obtain ⟨rfl, rfl⟩ := hc
      cases hl
      obtain ⟨x, hx, ho⟩ := hr.objs id _ hH (by simp)
      rw [hp] at hx; cases hx
      have : cur = ver := ho.1
      subst this
      exact ⟨rfl, hH, by simp, ho, .inr ⟨ps, rfl⟩⟩
    · cases hl
  · cases hl
theorem OwnV.slice {T off len : Nat} {lim : Option Nat} {v : Value} {gl : Gl} (h : OwnV tt T off len lim v gl) : ∃ a c, v = .slice a len c ∧ len ≤ c := by
  cases gl with
  | none0 => obtain ⟨_, rfl, _, a, rfl⟩ := h; exact ⟨_, _, rfl, Nat.le_refl _⟩
  | blk b N => obtain ⟨_, c, rfl, _, hc, _⟩ := h; exact ⟨_, _, rfl, hc⟩
theorem td_ok (htt : TTok P tt) {t : TypeId} {td : TD} (h : (tt t).td = td) (hd : td ≠ .other) : TIok P tt t := htt t (by rw [h]; exact hd)
theorem und_sl (htt : TTok P tt) {t e : TypeId} (h : (tt t).td = .sl e) : P.underlying t = some (.slice e) := by
  obtain ⟨d, h1, h2⟩ := (td_ok htt h (by simp)).und
  rw [h] at h2
  cases d <;> simp only [TDrel] at h2
  subst h2; exact h1
theorem und_str (htt : TTok P tt) {t : TypeId} (h : (tt t).td = .str) : P.underlying t = some .string := by
  obtain ⟨d, h1, h2⟩ := (td_ok htt h (by simp)).und
  rw [h] at h2
  cases d <;> simp only [TDrel] at h2
  exact h1
theorem und_int (htt : TTok P tt) {t : TypeId} {k : IntKind} (h : (tt t).td = .int k) : P.underlying t = some (.int k) := by
  obtain ⟨d, h1, h2⟩ := (td_ok htt h (by simp)).und
  rw [h] at h2
  cases d <;> simp only [TDrel] at h2
  subst h2; exact h1
theorem und_flt (htt : TTok P tt) {t : TypeId} {k : FloatKind} (h : (tt t).td = .flt k) : P.underlying t = some (.float k) := by
  obtain ⟨d, h1, h2⟩ := (td_ok htt h (by simp)).und
  rw [h] at h2
  cases d <;> simp only [TDrel] at h2
  subst h2; exact h1
theorem und_bool (htt : TTok P tt) {t : TypeId} (h : (tt t).td = .bool) : P.underlying t = some .bool := by
  obtain ⟨d, h1, h2⟩ := (td_ok htt h (by simp)).und
  rw [h] at h2
  cases d <;> simp only [TDrel] at h2
  exact h1
theorem und_ptr (htt : TTok P tt) {t e : TypeId} (h : (tt t).td = .ptr e) : P.underlying t = some (.pointer e) := by
  obtain ⟨d, h1, h2⟩ := (td_ok htt h (by simp)).und
  rw [h] at h2
  cases d <;> simp only [TDrel] at h2
  subst h2; exact h1
theorem und_arr (htt : TTok P tt) {t n e : Nat} (h : (tt t).td = .arr n e) : P.underlying t = some (.array n e) := by
  obtain ⟨d, h1, h2⟩ := (td_ok htt h (by simp)).und
  rw [h] at h2
  cases d <;> simp only [TDrel] at h2
  obtain ⟨rfl, rfl⟩ := h2; exact h1
theorem und_struct (htt : TTok P tt) {t : Nat} {fs : List (Nat × TypeId)} (h : (tt t).td = .struct fs) : ∃ F, P.underlying t = some (.struct F) ∧ F.toList.map (fun f => (f.offset, f.type)) = fs ∧ ∀ f ∈ F.toList, f.name ≠ "_" := by
  obtain ⟨d, h1, h2⟩ := (td_ok htt h (by simp)).und
  rw [h] at h2
  cases d <;> simp only [TDrel] at h2
  exact ⟨_, h1, h2⟩
theorem data_len (b : ByteArray) : b.data.toList.length = b.size := by simp
theorem len_sound (htt : TTok P tt) {g : Ghost} {w : World} {H : List CObj} (hr : HRel tt g w.heap H) {t ty : TypeId} {x : D} {v : Value} (hx : V tt g w.heap x v) {out : Out}
    (h : opLen tt (lk H) t x = some out) : Good P tt (Builtin.len_ #[t] ty #[v]) g w H out := by
  unfold opLen at h
  split at h
  · split at h
    · rename_i s ht
      obtain ⟨b, rfl, rfl⟩ := v_str.1 hx
      cases h
      exact good_pure hr rfl (v := .int .i64 b.size) (by simp [Builtin.len_, run_und (und_str htt ht), goInt]) (by rw [v_int, data_len])
    · cases h
  · split at h
    · rename_i e ht
      obtain ⟨a, c, rfl⟩ := (v_sl.1 hx).slice
      cases h
      exact good_pure hr rfl (by simp [Builtin.len_, run_und (und_sl htt ht), goInt]; rfl) (by rw [v_int])
    · cases h
  · split at h
    · rename_i e ht
      obtain ⟨a, rfl⟩ := v_nilsl.1 hx
      cases h
      exact good_pure hr rfl (by simp [Builtin.len_, run_und (und_sl htt ht), goInt]; rfl) (by rw [v_int])
    · cases h
  · split at h
    · rename_i e ht
      split at h
      · rename_i o ho
        obtain ⟨_, gl, cur, h1, h2, h3, h4⟩ := v_own.1 hx
        obtain ⟨rfl, hH, hd, hor, _⟩ := own_open hr ho h1
        obtain ⟨a, c, rfl, _⟩ := (h4 rfl).slice
        cases h
        exact good_pure hr rfl (by simp [Builtin.len_, run_und (und_sl htt ht), goInt]; rfl) (by rw [v_int])
      · cases h
    · cases h
  · cases h
theorem kid_ok (htt : TTok P tt) {t e : TypeId} (h : (tt t).td ≠ .other) (he : e ∈ (tt t).td.kids) : TIok P tt e := htt e ((htt t h).kids e he)
theorem kid_sl (htt : TTok P tt) {t e : TypeId} (h : (tt t).td = .sl e) : TIok P tt e := kid_ok htt (t := t) (by rw [h]; simp) (by rw [h]; simp [TD.kids])
theorem kid_arr (htt : TTok P tt) {t n e : Nat} (h : (tt t).td = .arr n e) : TIok P tt e := kid_ok htt (t := t) (by rw [h]; simp) (by rw [h]; simp [TD.kids])
theorem kid_struct (htt : TTok P tt) {t : Nat} {fs : List (Nat × TypeId)} (h : (tt t).td = .struct fs) {f : Nat × TypeId} (hf : f ∈ fs) : TIok P tt f.2 :=
  kid_ok htt (t := t) (by rw [h]; simp) (by rw [h]; simp only [TD.kids, List.mem_map]; exact ⟨f, hf, rfl⟩)
theorem indexAddr_sound (htt : TTok P tt) {g : Ghost} {w : World} {H : List CObj} (hr : HRel tt g w.heap H) {t : TypeId} {x y : D} {v u : Value} (hx : V tt g w.heap x v) (hy : V tt g w.heap y u) {out : Out}
    (h : opIndexAddr tt (lk H) t x y = some out) (hs : out.side) : Good P tt (Instr.indexAt t v u) g w H out := by
  unfold opIndexAddr at h
  split at h
  · rename_i T ps k i
    rw [v_int] at hy
    subst hy
    split at h
    · rename_i e ht
      split at h
      · rename_i he
        subst he
        cases h
        simp only [okS] at hs
        obtain ⟨h0, h1⟩ := hs
        rcases v_sl.1 hx with ⟨rfl, _⟩ | ⟨blk, off, cap, c, E, fz, rfl, h2, h3, h4, h5, h6, h7⟩
        · simp at h1; omega
        · have hsz := (kid_sl htt ht).sizeOf w
          refine good_pure hr rfl (v := .pointer (some ⟨blk, off + i.toNat * (tt e).size, none⟩)) ?_ ?_
          · simp [Instr.indexAt, asIntOf, run_und (und_sl htt ht), h0, h1, hsz, add_add]
          · rw [v_sptr]
            exact ⟨blk, off, c, E, fz, by simp, h3, h4, h5, h6, h7⟩
      · cases h
    · cases h
  · rename_i T id ver off len lim k i
    rw [v_int] at hy
    subst hy
    split at h
    · rename_i e ht
      split at h
      · rename_i he
        subst he
        split at h
        · rename_i o ho
          cases h
          obtain ⟨h0, h1⟩ := hs
          obtain ⟨_, gl, cur, p1, p2, p3, p4⟩ := v_own.1 hx
          obtain ⟨rfl, hH, hd, hor, _⟩ := own_open hr ho p1
          have hsz := (kid_sl htt ht).sizeOf w
          cases gl with
          | none0 => obtain ⟨_, rfl, _⟩ := p4 rfl; simp at h1; omega
          | blk b N =>
            obtain ⟨a, cap, rfl, ha, hc, hN, _⟩ := p4 rfl
            obtain rfl := ha (by omega)
            refine good_pure hr rfl (v := .pointer (some ⟨b, off * (tt e).size + i.toNat * (tt e).size, none⟩)) ?_ ?_
            · simp [Instr.indexAt, asIntOf, run_und (und_sl htt ht), h0, h1, hsz, add_add]
            · rw [v_aptr]
              exact ⟨rfl, _, _, p1, Nat.le_refl _, p3, fun _ => ⟨b, N, rfl, by simp [Nat.add_mul]⟩⟩
        · cases h
      · cases h
    · cases h
  · rename_i id off k i
    rw [v_int] at hy
    subst hy
    split at h
    · rename_i n e ht
      cases h
      simp only [okS] at hs
      obtain ⟨h0, h1⟩ := hs
      obtain ⟨b, N, rfl, hp⟩ := v_cptr.1 hx
      have hsz := (kid_arr htt ht).sizeOf w
      refine good_pure hr rfl (v := .pointer (some ⟨b, off + i.toNat * (tt e).size, none⟩)) ?_ ?_
      · simp [Instr.indexAt, asIntOf, run_und (und_arr htt ht), h0, h1, hsz, add_add, Instr.sureAddr]
      · rw [v_cptr]
        exact ⟨b, N, rfl, hp⟩
    · cases h
  · cases h
theorem fieldAddr_sound (htt : TTok P tt) {g : Ghost} {w : World} {H : List CObj} (hr : HRel tt g w.heap H) {t : TypeId} {x : D} {v : Value} {f : Nat} (hx : V tt g w.heap x v) {out : Out}
    (h : opFieldAddr tt (lk H) t x f = some out) : Good P tt (Instr.fieldAt t v f) g w H out := by
  unfold opFieldAddr at h
  split at h
  · rename_i fs ht
    split at h
    · rename_i o ft hf
      split at h
      · cases h
      · rename_i hne
        obtain ⟨F, hu, hF, hnm⟩ := und_struct htt ht
        have hfk := kid_struct htt ht (List.mem_of_getElem? hf)
        have hfd : ∃ fd, F[f]? = some fd ∧ fd.offset = o ∧ fd.type = ft := by
          rw [← hF, List.getElem?_map, Option.map_eq_some_iff] at hf
          obtain ⟨fd, h1, h2⟩ := hf
          cases h2
          exact ⟨fd, by simpa using h1, rfl, rfl⟩
        obtain ⟨fd, hfd, rfl, rfl⟩ := hfd
        have hrun : ∀ b off, (Instr.fieldAt t (.pointer (some ⟨b, off, none⟩)) f).run P w = .ok (.pointer (some ⟨b, off + fd.offset, none⟩)) w := by
          intro b off
          simp [Instr.fieldAt, run_und hu, hfd, Instr.sureAddr, fieldPlace, hfk.sizeOf, hne, add_add]
        split at h
        · obtain ⟨b, N, rfl, hp⟩ := v_cptr.1 hx
          cases h
          exact good_pure hr rfl (hrun _ _) (by rw [v_cptr]; exact ⟨b, N, rfl, hp⟩)
        · rename_i T id ver i off
          split at h
          · rename_i ob hob
            cases h
            obtain ⟨h1, gl, cur, p1, p2, p3, p4⟩ := v_aptr.1 hx
            obtain ⟨rfl, hH, hd, hor, _⟩ := own_open hr hob p1
            obtain ⟨b, N, rfl, rfl⟩ := p4 rfl
            exact good_pure hr rfl (hrun _ _) (by rw [v_aptr]; exact ⟨rfl, _, _, p1, Nat.le_refl _, p3, fun _ => ⟨b, N, rfl, by rw [Nat.add_assoc]⟩⟩)
          · cases h
        · obtain ⟨b, o, c, E, fz, rfl, h1⟩ := v_sptr.1 hx
          cases h
          exact good_pure hr rfl (hrun _ _) (by rw [v_sptr]; exact ⟨b, o, c, E, fz, by rw [Nat.add_assoc], h1⟩)
        · cases h
    · cases h
  · cases h
theorem drop_take_take (l : List Value) (m a b : Nat) (h : a + b ≤ m) : ((l.take m).drop a).take b = (l.drop a).take b := by
  rw [List.drop_take, List.take_take, Nat.min_eq_left (by omega)]
theorem drop_drop' (l : List Value) (a b : Nat) : (l.drop a).drop b = l.drop (a + b) := by rw [List.drop_drop]
/-- A part of an element of a row. -/
theorem at_sub {B : TypeId → Nat → Prop} {h : Array Obj} {ps : List Pv} {l : List Value} {o sz i off s : Nat} {ag : Bool} {p q : Pv}
    (hl : o + ps.length * sz ≤ l.length) (hs : ∀ p ∈ ps, p.size = sz) (hf : FlatL tt B h ps ((l.drop o).take (ps.length * sz))) (hp : ps[i]? = some p) (hq : Pv.sub p off s ag = some q) :
    Flat tt B h q ((l.drop (o + i * sz + off)).take s) ∧ q.size = s ∧ q.isAgg = ag ∧ o + i * sz + off + s ≤ l.length := by
  obtain ⟨h1, h2⟩ := FlatL.at ps _ i p hf hs hp
  have hpl := Flat.len _ _ h1
  have hpz := hs p (List.mem_of_getElem? hp)
  obtain ⟨a1, a2, a3, a4⟩ := Pv.sub_flat p off s ag _ q h1 hq
  rw [hpl, hpz] at a4
  have hlen : ((l.drop o).take (ps.length * sz)).length = ps.length * sz := by simp; omega
  rw [hlen] at h2
  rw [drop_take_take _ _ _ _ a4, drop_drop', drop_take_take _ _ _ _ (by omega), drop_drop', ← Nat.add_assoc] at a1
  exact ⟨a1, a2, a3, by omega⟩
theorem dat_sub {g : Ghost} {h : Array Obj} {ps : List D} {l : List Value} {sz i off s : Nat} {ag : Bool} {p q : D}
    (hl : ps.length * sz ≤ l.length) (hs : ∀ p ∈ ps, p.size = sz) (hf : DFlatL tt g h ps (l.take (ps.length * sz))) (hp : ps[i]? = some p) (hq : D.sub p off s ag = some q) :
    DFlat tt g h q ((l.drop (i * sz + off)).take s) ∧ q.size = s ∧ q.isAgg = ag ∧ i * sz + off + s ≤ l.length := by
  obtain ⟨h1, h2⟩ := DFlatL.at ps _ i p hf hs hp
  have hpl := DFlat.len _ _ h1
  have hpz := hs p (List.mem_of_getElem? hp)
  obtain ⟨a1, a2, a3, a4⟩ := D.sub_flat p off s ag _ q h1 hq
  rw [hpl, hpz] at a4
  have hlen : (l.take (ps.length * sz)).length = ps.length * sz := by simp; omega
  rw [hlen] at h2
  rw [drop_take_take _ _ _ _ a4, drop_drop', drop_take_take _ _ _ _ (by omega)] at a1
  exact ⟨a1, a2, a3, by omega⟩
theorem verIs_shape {look : Look} {T id ver : Nat} {o : CObj} (h : verIs look T id ver = some o) : (∃ ps, o = .parr T ver ps) ∨ ∃ ds, o = .arr T ver ds := by
  unfold verIs at h
  split at h
  · split at h
    · rename_i hc; obtain ⟨rfl, rfl⟩ := hc; cases h; exact .inl ⟨_, rfl⟩
    · cases h
  · split at h
    · rename_i hc; obtain ⟨rfl, rfl⟩ := hc; cases h; exact .inr ⟨_, rfl⟩
    · cases h
  · cases h
theorem v_of_vof {g : Ghost} {h : Array Obj} {d : D} {v : Value} (hv : VOf d.isAgg (DFlat tt g h d) v) : V tt g h d v := by
  cases d <;> simp only [V] <;> try exact hv
  · simp [VOf, D.isAgg, DFlat] at hv
  · simp [VOf, D.isAgg, DFlat] at hv
theorem vof_of_v {g : Ghost} {h : Array Obj} {d : D} {v : Value} (hp : d.plain = true) (hv : V tt g h d v) : VOf d.isAgg (DFlat tt g h d) v := by
  cases d <;> simp only [V] at hv <;> first | exact hv | simp [D.plain] at hp
theorem getD_some {α : Type} {l : List α} {i : Nat} {x : α} (h : i < l.length) : l[i]? = some (l.getD i x) := by
  simp [List.getD_eq_getElem?_getD, h]
theorem good_load (htt : TTok P tt) {g : Ghost} {w : World} {H : List CObj} (hr : HRel tt g w.heap H) {t : TypeId} (ht : TIok P tt t) {b off : Nat} {c : Array Value} {E : TypeId} {fz : Nat × Nat}
    (hb : w.heap[b]? = some (.cells c E fz)) {d : D} (hf : DFlat tt g w.heap d ((c.toList.drop off).take (tt t).size)) (h1 : d.size = (tt t).size) (h2 : d.isAgg = (tt t).td.isAgg) (hl : off + (tt t).size ≤ c.toList.length)
    (r : Reads) (s : Prop) [Decidable s] : Good P tt (Instr.loadAt t (.pointer (some ⟨b, off, none⟩))) g w H ⟨s, d, r, .none⟩ := by
  refine good_pure hr rfl (v := whole (tt t).td.isAgg ((c.toList.drop off).take (tt t).size)) ?_ ?_
  · simp [Instr.loadAt, Instr.sureAddr, run_load ht w hb (by simpa using hl)]
  · exact v_of_vof (vof_whole hf h2 fun hag => by rw [h1, ht.one hag])
theorem load_sound (htt : TTok P tt) {g : Ghost} {w : World} {H : List CObj} (hr : HRel tt g w.heap H) {t : TypeId} (hto : (tt t).td ≠ .other) {x : D} {v : Value} (hx : V tt g w.heap x v) {out : Out}
    (h : opLoad tt (lk H) t x = some out) (hs : out.side) : Good P tt (Instr.loadAt t v) g w H out := by
  have ht := htt t hto
  unfold opLoad at h
  split at h
  · rename_i id off
    obtain ⟨b, N, rfl, hp⟩ := v_cptr.1 hx
    split at h
    · rename_i d hH
      split at h
      · rename_i q hq
        cases h
        obtain ⟨x, hx, ho⟩ := hr.objs id _ hH (by simp)
        obtain ⟨_, b', N', c, E, fz, e1, hb, hn, hf⟩ := ho
        rw [hp] at hx
        cases hx
        cases e1
        obtain ⟨a1, a2, a3, a4⟩ := D.sub_flat d off _ _ _ q hf hq
        exact good_load htt hr ht hb a1 a2 a3 a4 _ _
      · cases h
    · cases h
  · rename_i T id ver i off
    split at h
    · rename_i T' u ps ho
      split at h
      · rename_i q hq
        cases h
        simp only at hs
        obtain ⟨_, gl, cur, p1, p2, p3, p4⟩ := v_aptr.1 hx
        obtain ⟨rfl, hH, hd, hor, hsh⟩ := own_open hr ho p1
        obtain ⟨b, N, rfl, rfl⟩ := p4 rfl
        rcases hsh with ⟨_, e⟩ | ⟨_, e⟩ <;> cases e
        obtain ⟨_, _, c, E, fz, hb, hn, hcs, hl, hsz, hf⟩ := hor
        have hi : (ps.map D.pv)[i]? = some (.pv (ps.getD i .nilp)) := by rw [List.getElem?_map, getD_some hs]; rfl
        have hq' : D.sub (.pv (ps.getD i .nilp)) off (tt t).size (tt t).td.isAgg = some (.pv q) := by simp only [D.sub, hq, Option.map_some]
        obtain ⟨a1, a2, a3, a4⟩ := dat_sub (l := c.toList) (by simp at hl; simp only [List.length_map, Array.length_toList]; rw [hcs]; exact Nat.mul_le_mul_right _ hl) hsz hf hi hq'
        exact good_load htt hr ht hb a1 a2 a3 a4 _ _
      · cases h
    · rename_i T' u ps ho
      split at h
      · rename_i q hq
        cases h
        simp only at hs
        obtain ⟨_, gl, cur, p1, p2, p3, p4⟩ := v_aptr.1 hx
        obtain ⟨rfl, hH, hd, hor, hsh⟩ := own_open hr ho p1
        obtain ⟨b, N, rfl, rfl⟩ := p4 rfl
        rcases hsh with ⟨_, e⟩ | ⟨_, e⟩ <;> cases e
        obtain ⟨_, _, c, E, fz, hb, hn, hcs, hl, hsz, hf⟩ := hor
        obtain ⟨a1, a2, a3, a4⟩ := dat_sub (l := c.toList) (by have hm := Nat.mul_le_mul_right (tt T).size hl; rw [← hcs] at hm; simpa using hm) hsz hf (getD_some hs) hq
        exact good_load htt hr ht hb a1 a2 a3 a4 _ _
      · cases h
    · cases h
  · rename_i T ps i off
    split at h
    · rename_i q hq
      cases h
      simp only at hs
      obtain ⟨b, o, c, E, fz, rfl, h1, hb, h3, h4, h5⟩ := v_sptr.1 hx
      obtain ⟨a1, a2, a3, a4⟩ := at_sub (l := c.toList) (by simpa using h3) h4 h5 (getD_some hs) hq
      exact good_load htt hr ht hb (d := .pv q) (by simpa only [DFlat] using a1) a2 a3 a4 _ _
    · cases h
  · cases h
-- CUTS
theorem cutIn_get {cs ns : List Value} {o : Nat} (h : o + ns.length ≤ cs.length) (k : Nat) : (cutIn cs o ns)[k]? = if k < o then cs[k]? else if k < o + ns.length then ns[k - o]? else cs[k]? := by
  unfold cutIn
  by_cases h1 : k < o
  · rw [if_pos h1, List.append_assoc, List.getElem?_append_left (by simp; omega), List.getElem?_take, if_pos h1]
  · rw [if_neg h1]
    by_cases h2 : k < o + ns.length
    · rw [if_pos h2, List.getElem?_append_left (by simp; omega), List.getElem?_append_right (by simp; omega)]
      congr 1; simp; omega
    · rw [if_neg h2, List.getElem?_append_right (by simp; omega), List.getElem?_drop]
      congr 1; simp; omega
theorem cutIn_cutIn {cs ns : List Value} {a sz off : Nat} (h1 : off + ns.length ≤ sz) (h2 : a + sz ≤ cs.length) : cutIn cs a (cutIn ((cs.drop a).take sz) off ns) = cutIn cs (a + off) ns := by
  have hl : ((cs.drop a).take sz).length = sz := by simp; omega
  have hl2 := cutIn_len ((cs.drop a).take sz) ns off (by omega)
  apply List.ext_getElem?
  intro k
  rw [cutIn_get (cs := cs) (o := a) (by omega), cutIn_get (cs := cs) (ns := ns) (o := a + off) (by omega)]
  rw [hl2, hl]
  by_cases e1 : k < a
  · rw [if_pos e1, if_pos (by omega)]
  · rw [if_neg e1]
    by_cases e2 : k < a + sz
    · rw [if_pos e2, cutIn_get (by omega)]
      by_cases e3 : k < a + off
      · rw [if_pos (by omega), if_pos e3, List.getElem?_take, if_pos (by omega), List.getElem?_drop]
        congr 1; omega
      · rw [if_neg (by omega), if_neg e3]
        by_cases e4 : k < a + off + ns.length
        · rw [if_pos (by omega), if_pos e4]
          congr 1; omega
        · rw [if_neg (by omega), if_neg e4, List.getElem?_take, if_pos (by omega), List.getElem?_drop]
          congr 1; omega
    · rw [if_neg e2, if_neg (by omega), if_neg (by omega)]
theorem take_cutIn {cs ns : List Value} {o m : Nat} (h : o + ns.length ≤ m) (hm : m ≤ cs.length) : (cutIn cs o ns).take m = cutIn (cs.take m) o ns := by
  apply List.ext_getElem?
  intro k
  rw [List.getElem?_take, cutIn_get (by omega), cutIn_get (by simp; omega)]
  by_cases e : k < m
  · rw [if_pos e]
    split
    · rw [List.getElem?_take, if_pos e]
    · split
      · rfl
      · rw [List.getElem?_take, if_pos e]
  · rw [if_neg e, if_neg (by omega), if_neg (by omega), List.getElem?_take, if_neg e]
-- STORES
theorem run_storeAt (htt : TTok P tt) {t : TypeId} (ht : TIok P tt t) {w : World} {b off : Nat} {c : Array Value} {E : TypeId} {fz : Nat × Nat} (hb : w.heap[b]? = some (.cells c E fz)) (hn : NF c fz)
    {g : Ghost} {h : Array Obj} {d : D} {v : Value} (hv : VOf d.isAgg (DFlat tt g h d) v) (hd : d.size = (tt t).size) (hl : off + (tt t).size ≤ c.toList.length) :
    (Instr.storeAt t (.pointer (some ⟨b, off, none⟩)) v).run P w = .ok () (setB w b (.cells (cutIn c.toList off v.cells.toList).toArray E fz)) := by
  have hf := vof_cells hv
  have hlen := DFlat.len _ _ hf
  simp only [Instr.storeAt, Instr.sureAddr, Sem.run_bind, Sem.run_pure, Result.andThen_ok]
  exact run_store ht w hb hn (by simpa using hl) (by rw [← hd, ← hlen]; simp) (DFlat.one _ _ hf)
theorem nf_cutIn {c : Array Value} {fz : Nat × Nat} {off : Nat} {ns : List Value} (hn : NF c fz) (hl : off + ns.length ≤ c.toList.length) : NF (cutIn c.toList off ns).toArray fz := by
  intro o ho
  refine hn o ?_
  have := cutIn_len c.toList ns off hl
  simp only [List.size_toArray] at ho
  rw [this] at ho
  simpa using ho
/-- The machine carries an operation out that answers nothing. -/
def GoodU (P : Program) (tt : TT) (sem : Sem Unit) (g : Ghost) (w : World) (H : List CObj) (out : Out) : Prop :=
  ∃ w' g', sem.run P w = .ok () w' ∧ HRel tt g' w'.heap (out.eff.app H) ∧ Ext g w H g' w' (out.eff.app H)
theorem arr_set {g : Ghost} {h : Array Obj} {T i off b N : Nat} {ds : List D} {c : Array Value} {d d' v : D} {ns : List Value} {s : Nat} {ag : Bool}
    (hcs : c.size = N * (tt T).size) (hl : ds.length ≤ N) (hsz : ∀ d ∈ ds, d.size = (tt T).size) (hf : DFlatL tt g h ds (c.toList.take (ds.length * (tt T).size)))
    (hd : ds[i]? = some d) (hp : D.put d off s ag v = some d') (hv : DFlat tt g h v ns) (hvs : v.size = s) (hva : v.isAgg = ag) :
    i * (tt T).size + off + s ≤ c.toList.length ∧ DFlatL tt g h (ds.set i d') ((cutIn c.toList (i * (tt T).size + off) ns).take ((ds.set i d').length * (tt T).size)) ∧ (∀ x ∈ ds.set i d', x.size = (tt T).size) := by
  have hi : i < ds.length := (List.getElem?_eq_some_iff.1 hd).1
  have hns := (DFlat.len _ _ hv).trans hvs
  obtain ⟨h1, h2⟩ := DFlatL.at ds _ i d hf hsz hd
  have hdl := DFlat.len _ _ h1
  have hdz := hsz d (List.mem_of_getElem? hd)
  obtain ⟨a1, a2, a3, a4⟩ := D.put_flat hv hvs hva d off _ d' h1 hp
  rw [hdl, hdz] at a4
  have hm : ds.length * (tt T).size ≤ c.toList.length := by have := Nat.mul_le_mul_right (tt T).size hl; rw [← hcs] at this; simpa using this
  have hlen : (c.toList.take (ds.length * (tt T).size)).length = ds.length * (tt T).size := by simp only [List.length_take]; omega
  rw [hlen] at h2
  have hd' : d'.size = (tt T).size := a2.trans hdz
  refine ⟨by omega, ?_, ?_⟩
  · obtain ⟨b1, b2⟩ := DFlatL.set a1 hd' ds _ i hf hsz hi
    rw [cutIn_cutIn (by omega) (by omega)] at b1
    rw [List.length_set, take_cutIn (by omega) hm]
    exact b1
  · intro x hx
    rcases List.mem_or_eq_of_mem_set hx with hx | rfl
    · exact hsz x hx
    · exact hd'
theorem store_sound (htt : TTok P tt) {g : Ghost} {w : World} {H : List CObj} (hr : HRel tt g w.heap H) {t : TypeId} (hto : (tt t).td ≠ .other) {x y : D} {u v : Value} (hx : V tt g w.heap x u) (hy : V tt g w.heap y v) {out : Out}
    (h : opStore tt (lk H) t x y = some out) (hs : out.side) : GoodU P tt (Instr.storeAt t u v) g w H out := by
  have ht := htt t hto
  unfold opStore at h
  split at h
  · rename_i hc
    obtain ⟨hpl, hys, hya⟩ := hc
    have hyv := vof_of_v hpl hy
    have hyf := vof_cells hyv
    have hyl := DFlat.len _ _ hyf
    split at h
    · rename_i id off
      obtain ⟨b, N, rfl, hp⟩ := v_cptr.1 hx
      split at h
      · rename_i d hH
        split at h
        · rename_i d' hq
          cases h
          obtain ⟨x, hx, ho⟩ := hr.objs id _ hH (by simp)
          obtain ⟨e0, b', N', c, E, fz, e1, hb, hn, hf⟩ := ho
          rw [hp] at hx
          cases hx
          cases e1
          obtain ⟨a1, a2, a3, a4⟩ := D.put_flat hyf hys hya d off _ d' hf hq
          obtain ⟨g', k1, k2, k3, k4⟩ := step_set hr hH (by simp) hp (.cells (cutIn c.toList off v.cells.toList).toArray E fz) (.cell d') 0 (Nat.le_refl _) (fun h => h) (by simp) (fun g' _ hm => by
            refine ⟨rfl, b, N, _, E, fz, rfl, setB_get _ _ _ (Array.getElem?_eq_some_iff.1 hb).1, nf_cutIn hn (by omega), ?_⟩
            exact DFlat.mono hm d' _ a1)
          exact ⟨_, g', run_storeAt htt ht hb hn hyv hys a4, k1, k2⟩
        · cases h
      · cases h
    · rename_i T id ver i off
      have key : ∀ (ds : List D) (ver' : Nat) (o : CObj), verIs (lk H) T id ver' = some o → ver' = ver → (o = .arr T ver ds ∨ ∃ ps, o = .parr T ver ps ∧ ds = ps.map .pv) → ∀ (d d' : D) (o' : CObj), ds[i]? = some d →
          D.put d off (tt t).size (tt t).td.isAgg y = some d' → (o' = .arr T ver (ds.set i d') ∨ ∃ ps, o' = .parr T ver ps ∧ ps.map .pv = ds.set i d') → ∃ w' g', (Instr.storeAt t u v).run P w = .ok () w' ∧
          HRel tt g' w'.heap (H.set id o') ∧ Ext g w H g' w' (H.set id o') := by
        intro ds ver' o ho hvv hsh d d' o' hd hp ho'
        subst hvv
        obtain ⟨_, gl, cur, p1, p2, p3, p4⟩ := v_aptr.1 hx
        obtain ⟨rfl, hH, hdd, hor, _⟩ := own_open hr ho p1
        obtain ⟨b, N, rfl, rfl⟩ := p4 rfl
        have harr : ArrRel tt g w.heap T ds (.blk b N) := by
          rcases hsh with rfl | ⟨ps, rfl, rfl⟩ <;> exact hor.2.2
        obtain ⟨c, E, fz, hb, hn, hcs, hl, hsz, hf⟩ := harr
        obtain ⟨b1, b2, b3⟩ := arr_set (b := b) hcs hl hsz hf hd hp hyf hys hya
        have harr' : ∀ g', GMono g g' w.heap (setB w b (.cells (cutIn c.toList (i * (tt T).size + off) v.cells.toList).toArray E fz)).heap →
            ArrRel tt g' (setB w b (.cells (cutIn c.toList (i * (tt T).size + off) v.cells.toList).toArray E fz)).heap T (ds.set i d') (.blk b N) := by
          intro g' hm
          refine ⟨_, E, fz, setB_get _ _ _ (Array.getElem?_eq_some_iff.1 hb).1, nf_cutIn hn (by omega), ?_, by simpa using hl, b3, DFlatL.mono hm _ _ b2⟩
          rw [List.size_toArray, cutIn_len _ _ _ (by omega)]
          simpa using hcs
        obtain ⟨g', k1, k2, k3, k4⟩ := step_set hr hH hdd p1 (.cells (cutIn c.toList (i * (tt T).size + off) v.cells.toList).toArray E fz) o' cur (Nat.le_refl _) (fun h => h) (by rcases ho' with rfl | ⟨ps, rfl, e⟩ <;> simp) (fun g' _ hm => by
          rcases ho' with rfl | ⟨ps, rfl, e⟩
          · exact ⟨rfl, p3, harr' g' hm⟩
          · exact ⟨rfl, p3, by rw [e]; exact harr' g' hm⟩)
        exact ⟨_, g', run_storeAt htt ht hb hn hyv hys b1, k1, k2⟩
      split at h
      · rename_i T' w' ps ho
        have hvT : T' = T ∧ w' = ver := by
          rcases verIs_shape ho with ⟨_, e⟩ | ⟨_, e⟩ <;> cases e <;> exact ⟨rfl, rfl⟩
        obtain ⟨rfl, rfl⟩ := hvT
        split at h
        · rename_i p hq
          cases h
          simp only at hs
          exact key (ps.map .pv) w' _ ho rfl (.inr ⟨ps, rfl, rfl⟩) _ (.pv p) _ (by rw [List.getElem?_map, getD_some hs]; rfl) hq (.inr ⟨_, rfl, by rw [List.map_set]⟩)
        · rename_i d' _ hq
          cases h
          simp only at hs
          exact key (ps.map .pv) w' _ ho rfl (.inr ⟨ps, rfl, rfl⟩) _ d' _ (by rw [List.getElem?_map, getD_some hs]; rfl) hq (.inl rfl)
        · cases h
      · rename_i T' w' ds ho
        have hvT : T' = T ∧ w' = ver := by
          rcases verIs_shape ho with ⟨_, e⟩ | ⟨_, e⟩ <;> cases e <;> exact ⟨rfl, rfl⟩
        obtain ⟨rfl, rfl⟩ := hvT
        split at h
        · rename_i d' hq
          cases h
          simp only at hs
          exact key ds w' _ ho rfl (.inl rfl) _ d' _ (getD_some hs) hq (.inl rfl)
        · cases h
      · cases h
    · cases h
  · cases h
-- NEW OBJECTS
theorem newO_run {o : Obj} {w : World} : (newObj o).run P w = .ok w.heap.size (pushW w o) := by simp [newObj, Sem.run, pushW]
theorem nf_zero (c : Array Value) : NF c (0, 0) := by intro o _; simp
theorem box_sound {g : Ghost} {w : World} {H : List CObj} (hr : HRel tt g w.heap H) {t : TypeId} {x : D} {v : Value} (hx : V tt g w.heap x v) {out : Out}
    {nid : Nat} (hn : H[nid]? = some .free) (h : opBox nid x = some out) : Good P tt (Instr.box t v) g w H out := by
  unfold opBox at h
  split at h
  · rename_i hp
    cases h
    have hv := vof_cells (vof_of_v hp hx)
    obtain ⟨g', k1, k2, k3, k4⟩ := step_new hr hn (.cells v.cells t) (.cell x) (by simp) 0 0 (fun g' _ hm => ⟨rfl, _, _, _, _, _, rfl, pushW_new _ _, nf_zero _, DFlat.mono hm _ _ hv⟩)
    exact ⟨_, _, g', by simp [Instr.box, newVar, newRow, newO_run]; exact ⟨rfl, rfl⟩, k1, k2, by rw [v_cptr]; exact ⟨_, _, rfl, k3⟩⟩
  · cases h
theorem alloc_sound (htt : TTok P tt) {g : Ghost} {w : World} {H : List CObj} (hr : HRel tt g w.heap H) {t : TypeId} {out : Out}
    {nid : Nat} (hn : H[nid]? = some .free) (h : opAlloc tt nid t = some out) : Good P tt (Instr.alloc t true (.tuple #[])) g w H out := by
  unfold opAlloc at h
  split at h
  · cases h
  · rename_i hne
    cases h
    obtain ⟨z, hz, hv⟩ := (htt t (fun e => hne e)).zero w
    obtain ⟨g', k1, k2, k3, k4⟩ := step_new hr hn (.cells z.cells t) (.cell (tt t).zero) (by simp) 0 0 (fun g' _ hm => ⟨rfl, _, _, _, _, _, rfl, pushW_new _ _, nf_zero _, vof_cells (hv g' _)⟩)
    exact ⟨_, _, g', by simp [Instr.alloc, hz, newVar, newRow, newO_run]; exact ⟨rfl, rfl⟩, k1, k2, by rw [v_cptr]; exact ⟨_, _, rfl, k3⟩⟩
end
end Go.Cl
