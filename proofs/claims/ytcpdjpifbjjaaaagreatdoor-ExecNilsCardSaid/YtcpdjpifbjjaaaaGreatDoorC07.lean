/-
  THE CLEAN MACHINE, part 07: a machine of values by name that the model follows; each law here says that a step of the model does what the clean machine says. Nothing here speaks of this program.
-/
import Derived.Test.YtcpdjpifbjjaaaaGreatDoorC06
import Derived.Laws.StructEq
set_option linter.unusedVariables false
set_option linter.unusedSimpArgs false
namespace Go.Cl
open Go.RowKit (Below)
section
variable {P : Program} {tt : TT}
-- ARITHMETIC
theorem toList_data (b : ByteArray) : b.toList = b.data.toList := by
  have hloop : ∀ (n i : Nat) (r : List UInt8), b.size - i = n → ByteArray.toList.loop b i r = r.reverse ++ b.data.toList.drop i := by
    intro n
    induction n with
    | zero =>
      intro i r h
      rw [ByteArray.toList.loop, if_neg (by omega), List.drop_eq_nil_of_le (by simp; omega), List.append_nil]
    | succ n ih =>
      intro i r h
      have hi : i < b.data.toList.length := by simp; omega
      rw [ByteArray.toList.loop, if_pos (by omega), ih (i + 1) _ (by omega), List.drop_eq_getElem_cons hi]
      have : b.get! i = b.data.toList[i] := by
        show b.data[i]! = _
        simp at hi
        simp [hi]
      rw [this]
      simp
  have := hloop b.size 0 [] (by omega)
  simpa [ByteArray.toList] using this
theorem int_sound {g : Ghost} {w : World} {H : List CObj} (hr : HRel tt g w.heap H) {op : BinOp} {t : TypeId} {k : IntKind} {a b : Int} {out : Out} (h : opInt op k a b = some out) (hs : out.side) :
    Good P tt (binOp op t (.int k a) (.int k b)) g w H out := by
  cases op <;> simp only [opInt, intBitsV, ok0, okS, Option.some.injEq, reduceCtorEq] at h <;> (try subst h) <;> simp only [ne_eq] at hs
  case add => exact good_pure hr rfl (v := .int k (k.wrap (a + b))) (by simp [binOp, Op.intArith]) (by rw [v_int])
  case sub => exact good_pure hr rfl (v := .int k (k.wrap (a - b))) (by simp [binOp, Op.intArith]) (by rw [v_int])
  case mul => exact good_pure hr rfl (v := .int k (k.wrap (a * b))) (by simp [binOp, Op.intArith]) (by rw [v_int])
  case quo => exact good_pure hr rfl (v := .int k (k.wrap (a.tdiv b))) (by simp [binOp, Op.intDiv, hs]) (by rw [v_int])
  case rem => exact good_pure hr rfl (v := .int k (a.tmod b)) (by simp [binOp, Op.intDiv, hs]) (by rw [v_int])
  case and => exact good_pure hr rfl (by simp only [binOp, ne_eq, not_true_eq_false, if_false, Op.intBits]; rfl) (by rw [v_int])
  case or => exact good_pure hr rfl (by simp only [binOp, ne_eq, not_true_eq_false, if_false, Op.intBits]; rfl) (by rw [v_int])
  case xor => exact good_pure hr rfl (by simp only [binOp, ne_eq, not_true_eq_false, if_false, Op.intBits]; rfl) (by rw [v_int])
  case andNot => exact good_pure hr rfl (by simp only [binOp, ne_eq, not_true_eq_false, if_false, Op.intBits]; rfl) (by rw [v_int])
  all_goals exact good_pure hr rfl (by simp only [binOp, ne_eq, not_true_eq_false, if_false, Op.intCmp]; rfl) (by rw [v_bool])
theorem shift_sound {g : Ghost} {w : World} {H : List CObj} (hr : HRel tt g w.heap H) {op : BinOp} {t : TypeId} {k k' : IntKind} {a b : Int} {out : Out} (hop : op = .shl ∨ op = .shr) (h : opShift op k a b = some out) (hs : out.side) :
    Good P tt (binOp op t (.int k a) (.int k' b)) g w H out := by
  rcases hop with rfl | rfl <;> simp only [opShift, okS, Option.some.injEq] at h <;> subst h <;> simp only at hs
  · exact good_pure hr rfl (v := .int k (k.wrap (a * 2 ^ (min b.toNat k.bits)))) (by simp [binOp, Op.shift, Int.not_lt.2 hs]) (by rw [v_int])
  · exact good_pure hr rfl (v := .int k (a.fdiv (2 ^ (min b.toNat k.bits)))) (by simp [binOp, Op.shift, Int.not_lt.2 hs]) (by rw [v_int])
theorem str_sound {g : Ghost} {w : World} {H : List CObj} (hr : HRel tt g w.heap H) {op : BinOp} {t : TypeId} {a b : ByteArray} {out : Out} (h : opStr op a.data.toList b.data.toList = some out) (hs : out.side) :
    Good P tt (binOp op t (.string a) (.string b)) g w H out := by
  have e : binOp op t (.string a) (.string b) = Op.stringOp op a b := by cases op <;> simp [binOp]
  rw [e]
  have h1 := toList_data a
  have h2 := toList_data b
  cases op <;> simp only [opStr, ok0, okS, Option.some.injEq, reduceCtorEq] at h <;> (try subst h) <;> simp only [data_len] at hs
  case add =>
    refine good_pure hr rfl (v := .string (a ++ b)) ?_ (by rw [v_str]; exact ⟨_, rfl, by simp⟩)
    have : ¬ (((a.size + b.size : Nat) : Int) > IntKind.i64.max) := by
      simp [IntKind.max, IntKind.signed, IntKind.bits]; omega
    simp only [Op.stringOp]
    rw [if_neg this]
    rfl
  all_goals exact good_pure hr rfl (by simp only [Op.stringOp, h1, h2]; rfl) (by rw [v_bool]; try simp [bne])
theorem flt_sound {g : Ghost} {w : World} {H : List CObj} (hr : HRel tt g w.heap H) {op : BinOp} {t : TypeId} {k : FloatKind} {a b : Nat} {out : Out} (h : opFlt op k a b = some out) (hs : out.side) :
    Good P tt (binOp op t (.float k a) (.float k b)) g w H out := by
  have ar : ∀ (z : Option Nat), (match z with | some c => ok0 (.pv (.flt k c)) | none => none) = some out → ∃ c, z = some c ∧ out = ⟨True, .pv (.flt k c), [], .none⟩ := by
    intro z hz
    cases z with
    | none => cases hz
    | some c => cases hz; exact ⟨c, rfl, rfl⟩
  cases op <;> simp only [opFlt, reduceCtorEq] at h
  case add => obtain ⟨c, hc, rfl⟩ := ar _ h; exact good_pure hr rfl (v := .float k c) (by simp [binOp, Op.floatArith, hc]) (by rw [v_flt])
  case sub => obtain ⟨c, hc, rfl⟩ := ar _ h; exact good_pure hr rfl (v := .float k c) (by simp [binOp, Op.floatArith, hc]) (by rw [v_flt])
  case mul => obtain ⟨c, hc, rfl⟩ := ar _ h; exact good_pure hr rfl (v := .float k c) (by simp [binOp, Op.floatArith, hc]) (by rw [v_flt])
  case quo => obtain ⟨c, hc, rfl⟩ := ar _ h; exact good_pure hr rfl (v := .float k c) (by simp [binOp, Op.floatArith, hc]) (by rw [v_flt])
  all_goals
    simp only [ok0, Option.some.injEq] at h
    subst h
    exact good_pure hr rfl (by simp only [binOp, ne_eq, not_true_eq_false, if_false, Op.floatCmp]; rfl) (by rw [v_bool])
theorem un_sound {g : Ghost} {w : World} {H : List CObj} (hr : HRel tt g w.heap H) {op : UnOp} {x : D} {v : Value} (hx : V tt g w.heap x v) {out : Out} (h : opUn op x = some out) : Good P tt (Op.unary op v) g w H out := by
  unfold opUn at h
  split at h
  · rw [v_bool] at hx; subst hx
    split at h
    · cases h; exact good_pure hr rfl (by simp [Op.unary]; rfl) (by rw [v_bool])
    · cases h
  · rw [v_int] at hx; subst hx
    split at h
    · cases h; exact good_pure hr rfl (by simp [Op.unary, Op.intArith]; rfl) (by rw [v_int]; simp)
    · cases h
  · rw [v_flt] at hx; subst hx
    split at h
    · cases h; exact good_pure hr rfl (by simp [Op.unary]; rfl) (by rw [v_flt])
    · cases h
  · cases h
-- EQUALITY
theorem flat_int {B : TypeId → Nat → Prop} {h : Array Obj} {k : IntKind} {n : Int} {cs : List Value} : Flat tt B h (.int k n) cs ↔ cs = [.int k n] := by simp only [Flat]
theorem part_run (htt : TTok P tt) {w : World} {t : TypeId} (ht : TIok P tt t) {cs : Array Value} {off : Nat} (hl : off + (tt t).size ≤ cs.size) : (part t cs off).run P w = .ok (whole (tt t).td.isAgg ((cs.toList.drop off).take (tt t).size)) w := by
  unfold part
  rw [Sem.run_bind, ht.isAgg, Result.andThen_ok]
  cases hag : (tt t).td.isAgg with
  | true =>
    simp only [if_true, Sem.run_bind, ht.sizeOf, Result.andThen_ok, Sem.run_pure, whole]
    congr 2
    rw [← Array.toArray_toList (xs := cs.extract _ _), Array.toList_extract, List.extract_eq_take_drop]
    congr 2; omega
  | false =>
    have h1 := ht.one hag
    rw [h1] at hl ⊢
    have hlt : off < cs.size := by omega
    have e : (cs.toList.drop off).take 1 = [cs[off]] := by
      rw [List.drop_eq_getElem_cons (by simpa using hlt)]; simp
    rw [e]
    simp [whole, hlt]
theorem layOk_drop : ∀ (fs : List (Nat × TypeId)) (ds : List D) (o : Nat), layOk tt o fs ds = true → ∀ o' t fs', fs = (o', t) :: fs' → o' = o ∧ ∃ d ds', ds = d :: ds' ∧ d.size = (tt t).size ∧ layOk tt (o + (tt t).size) fs' ds' = true
  | (off, t) :: fs, d :: ds, o, h, o', t', fs', e => by
    cases e
    simp only [layOk, Bool.and_eq_true, beq_iff_eq] at h
    obtain ⟨⟨rfl, h2⟩, h3⟩ := h
    exact ⟨rfl, d, ds, rfl, h2, by rw [← h2]; exact h3⟩
  | [], _, o, h, _, _, _, e => by cases e
  | _ :: _, [], o, h, _, _, _, e => by simp [layOk] at h
theorem fieldsOf_eq {t : TypeId} {F : Array Field} (h : P.underlying t = some (.struct F)) : P.fieldsOf t = F := by simp [Program.fieldsOf, h]
theorem zlist_size {d : D} (h : d.isAgg = true) : D.sizeL (zlist d) = d.size := by
  cases d <;> simp only [D.isAgg, Bool.false_eq_true, reduceCtorEq] at h
  · rename_i p
    cases p <;> simp only [Pv.isAgg, Bool.false_eq_true, reduceCtorEq] at h
    simp only [zlist, sizeL_pv, D.size, Pv.size]
  · rfl
theorem sizeL_sum : ∀ ds : List D, D.sizeL ds = (ds.map (·.size)).sum
  | [] => rfl
  | d :: ds => by simp [D.sizeL, sizeL_sum ds]
theorem struct_size (htt : TTok P tt) {t : TypeId} {fs : List (Nat × TypeId)} (ht : (tt t).td = .struct fs) : (tt t).size = (fs.map fun f => (tt f.2).size).sum := by
  have hti := htt t (by rw [ht]; simp)
  rw [← hti.zsize, ← zlist_size (by rw [hti.zagg, ht]; rfl), sizeL_sum, (layOk_offs fs _ 0 (hti.lay fs ht)).1]
theorem eqT_shape (htt : TTok P tt) : ∀ (n : Nat) (t : TypeId) (x y : Pv) (b : Bool), eqT tt n t x y = some b → x.size = (tt t).size ∧ y.size = (tt t).size ∧ x.isAgg = (tt t).td.isAgg ∧ y.isAgg = (tt t).td.isAgg
  | 0, t, x, y, b, h => by simp [eqT] at h
  | n + 1, t, x, y, b, h => by
    have one : (tt t).td ≠ .other → (tt t).td.isAgg = false → (tt t).size = 1 := fun h1 h2 => (htt t h1).one h2
    unfold eqT at h
    split at h
    · rename_i ht; rw [one (by rw [ht]; simp) (by rw [ht]; rfl), ht]; exact ⟨rfl, rfl, rfl, rfl⟩
    · rename_i ht; rw [one (by rw [ht]; simp) (by rw [ht]; rfl), ht]; exact ⟨rfl, rfl, rfl, rfl⟩
    · rename_i ht; rw [one (by rw [ht]; simp) (by rw [ht]; rfl), ht]; exact ⟨rfl, rfl, rfl, rfl⟩
    · rename_i fs xs ys ht
      have key : ∀ (fs : List (Nat × TypeId)) (xs ys : List Pv) (b : Bool), eqFs (eqT tt n) fs xs ys = some b → Pv.sizeL xs = (fs.map fun f => (tt f.2).size).sum ∧ Pv.sizeL ys = (fs.map fun f => (tt f.2).size).sum := by
        intro fs
        induction fs with
        | nil => intro xs ys b h; cases xs <;> cases ys <;> simp_all [eqFs, Pv.sizeL]
        | cons f fs ih =>
          intro xs ys b h
          obtain ⟨o, t'⟩ := f
          cases xs with
          | nil => simp [eqFs] at h
          | cons x xs =>
            cases ys with
            | nil => simp [eqFs] at h
            | cons y ys =>
              simp only [eqFs] at h
              split at h
              · rename_i a c h1 h2
                obtain ⟨e1, e2, _⟩ := eqT_shape htt n t' x y a h1
                obtain ⟨e3, e4⟩ := ih xs ys c h2
                simp [Pv.sizeL, e1, e2, e3, e4]
              · cases h
      obtain ⟨k1, k2⟩ := key fs xs ys b h
      rw [struct_size htt ht, ht]
      exact ⟨k1, k2, rfl, rfl⟩
    · cases h
theorem part_of (htt : TTok P tt) {B : TypeId → Nat → Prop} {h : Array Obj} {w : World} {t : TypeId} (ht : TIok P tt t) {c : Array Value} {p l1 l2 : List Value} {x : Pv} (hc : c.toList = p ++ (l1 ++ l2)) (hf : Flat tt B h x l1)
    (h1 : x.size = (tt t).size) (h2 : x.isAgg = (tt t).td.isAgg) : ∃ u, (part t c p.length).run P w = .ok u w ∧ VOf x.isAgg (Flat tt B h x) u := by
  have hl := Flat.len _ _ hf
  have hsz : p.length + (tt t).size ≤ c.size := by
    have := congrArg List.length hc
    simp at this
    omega
  refine ⟨_, part_run htt ht hsz, ?_⟩
  have e : (c.toList.drop p.length).take (tt t).size = l1 := by
    rw [hc, List.drop_left', List.take_left']
    · omega
    · rfl
  rw [e]
  have := vof_whole (tt := tt) (g := ⟨fun _ => none, B⟩) (h := h) (d := .pv x) (ag := (tt t).td.isAgg) (cs := l1) (by simpa only [DFlat] using hf) h2 (fun hag => by simp only [D.size]; rw [h1, ht.one hag])
  simpa only [D.isAgg, DFlat] using this
theorem eqFs_run (htt : TTok P tt) {B : TypeId → Nat → Prop} {h : Array Obj} {n d : Nat} {w : World}
    (ih : ∀ (t : TypeId) (x y : Pv) (b : Bool) (u v : Value), eqT tt n t x y = some b → VOf x.isAgg (Flat tt B h x) u → VOf y.isAgg (Flat tt B h y) v → (Op.equalIn d t u v).run P w = .ok b w) {cx cy : Array Value} :
    ∀ (F : List Field) (ds : List D) (o : Nat) (xs ys : List Pv) (b : Bool) (px py lx ly : List Value), (∀ f ∈ F, f.name ≠ "_") → (∀ f ∈ F, TIok P tt f.type) → layOk tt o (F.map fun f => (f.offset, f.type)) ds = true →
      cx.toList = px ++ lx → px.length = o → cy.toList = py ++ ly → py.length = o → FlatL tt B h xs lx → FlatL tt B h ys ly →
      eqFs (eqT tt n) (F.map fun f => (f.offset, f.type)) xs ys = some b → (Op.eqFields d cx cy F).run P w = .ok b w
  | [], ds, o, xs, ys, b, px, py, lx, ly, _, _, _, _, _, _, _, _, _, he => by
    cases xs <;> cases ys <;> simp_all [eqFs, Op.eqFields]
  | f :: F, ds, o, xs, ys, b, px, py, lx, ly, hn, hk, hlay, hx, hpx, hy, hpy, fx, fy, he => by
    cases xs with
    | nil => simp [eqFs] at he
    | cons x xs =>
      cases ys with
      | nil => simp [eqFs] at he
      | cons y ys =>
        simp only [List.map_cons, eqFs] at he
        split at he
        · rename_i a c h1 h2
          cases he
          obtain ⟨e1, e2, e3, e4⟩ := eqT_shape htt n _ _ _ _ h1
          obtain ⟨ho, d0, ds', rfl, hd0, hlay'⟩ := layOk_drop _ _ _ hlay _ _ _ rfl
          simp only [FlatL] at fx fy
          obtain ⟨x1, x2, rfl, fx1, fx2⟩ := fx
          obtain ⟨y1, y2, rfl, fy1, fy2⟩ := fy
          have hkf := hk f (by simp)
          have hnf := hn f (by simp)
          obtain ⟨u, hu, vu⟩ := part_of (w := w) htt hkf hx fx1 e1 e3
          obtain ⟨v, hv, vv⟩ := part_of (w := w) htt hkf hy fy1 e2 e4
          have lx1 := Flat.len _ _ fx1
          have ly1 := Flat.len _ _ fy1
          have hr := ih f.type x y a u v h1 vu vv
          have rest := eqFs_run htt ih F ds' (o + (tt f.type).size) xs ys c (px ++ x1) (py ++ y1) x2 y2 (fun f hf => hn f (by simp [hf])) (fun f hf => hk f (by simp [hf])) hlay'
            (by rw [hx]; simp) (by simp; omega) (by rw [hy]; simp) (by simp; omega) fx2 fy2 h2
          rw [Op.eqFields, if_pos hnf]
          rw [ho, ← hpx] at *
          simp only [Sem.run_bind, hu, Result.andThen_ok]
          rw [hpx, ← hpy]
          simp only [hv, Result.andThen_ok, hr]
          cases a <;> simp [rest]
        · cases he
theorem eq_run (htt : TTok P tt) {B : TypeId → Nat → Prop} {h : Array Obj} {w : World} : ∀ (n d : Nat) (t : TypeId) (x y : Pv) (b : Bool) (u v : Value), n ≤ d → eqT tt n t x y = some b → VOf x.isAgg (Flat tt B h x) u → VOf y.isAgg (Flat tt B h y) v →
    (Op.equalIn d t u v).run P w = .ok b w
  | 0, d, t, x, y, b, u, v, hd, he, hu, hv => by simp [eqT] at he
  | n + 1, 0, t, x, y, b, u, v, hd, he, hu, hv => by omega
  | n + 1, d + 1, t, x, y, b, u, v, hd, he, hu, hv => by
    unfold eqT at he
    split at he
    · rename_i ht
      cases he
      simp only [VOf, Pv.isAgg, Bool.false_eq_true, if_false, Flat, List.cons.injEq, and_true] at hu hv
      obtain ⟨rfl, _⟩ := hu
      obtain ⟨rfl, _⟩ := hv
      exact run_equalIn_bool' w d t _ _ (und_bool htt ht)
    · rename_i ht
      split at he
      · rename_i hk
        subst hk
        cases he
        simp only [VOf, Pv.isAgg, Bool.false_eq_true, if_false, Flat, List.cons.injEq, and_true] at hu hv
        obtain ⟨rfl, _⟩ := hu
        obtain ⟨rfl, _⟩ := hv
        exact run_equalIn_int w d t _ _ _ _ (und_int htt ht)
      · cases he
    · rename_i ht
      cases he
      simp only [VOf, Pv.isAgg, Bool.false_eq_true, if_false, Flat, List.cons.injEq, and_true] at hu hv
      obtain ⟨⟨a, rfl, rfl⟩, _⟩ := hu
      obtain ⟨⟨c, rfl, rfl⟩, _⟩ := hv
      rw [run_equalIn_string w d t _ _ (und_str htt ht), toList_data, toList_data]
    · rename_i fs xs ys ht
      simp only [VOf, Pv.isAgg, if_true, Flat] at hu hv
      obtain ⟨cx, rfl, fx⟩ := hu
      obtain ⟨cy, rfl, fy⟩ := hv
      obtain ⟨F, hF, hFm, hFn⟩ := und_struct htt ht
      have hti := htt t (by rw [ht]; simp)
      rw [run_equalIn_struct w d t cx cy (by rw [fieldsOf_eq hF]; exact hF) (hti.cmp fs ht).1, fieldsOf_eq hF]
      have hlay := hti.lay fs ht
      rw [← hFm] at hlay he
      exact eqFs_run htt (B := B) (h := h) (fun t x y b u v he' hu' hv' => eq_run htt n d t x y b u v (by omega) he' hu' hv') F.toList _ 0 xs ys b [] [] _ _ hFn
        (fun f hf => kid_struct htt ht (f := (f.offset, f.type)) (by rw [← hFm]; exact List.mem_map.2 ⟨f, hf, rfl⟩)) hlay (by simp) rfl (by simp) rfl fx fy he
    · cases he
theorem guard_run (op : BinOp) (t : TypeId) (x y : Operand) (a b : Value) (w : World) (h1 : a ≠ .nilIface) (h2 : ∀ xs, a = .agg xs → P.eqGuardType P.depth t = false) : (eqGuard op t x y a b).run P w = .ok () w := by
  cases a with
  | nilIface => exact absurd rfl h1
  | agg xs =>
    cases b with
    | agg ys => exact run_eqGuard_agg w op t x y xs ys (h2 xs rfl)
    | _ => cases op <;> simp [eqGuard]
  | _ => cases op <;> simp [eqGuard]
theorem ptr_nn {d : Nat} {t e : TypeId} {w : World} (hu : P.underlying t = some (.pointer e)) (b : Option Addr) : (Op.equalIn (d + 1) t (.pointer none) (.pointer b)).run P w = .ok b.isNone w := by
  simp [Op.equalIn, run_und hu]
theorem ptr_sn {d : Nat} {t e : TypeId} {w : World} (hu : P.underlying t = some (.pointer e)) (a : Addr) : (Op.equalIn (d + 1) t (.pointer (some a)) (.pointer none)).run P w = .ok false w := by
  simp [Op.equalIn, run_und hu]
theorem eqOp_sound (htt : TTok P tt) {g : Ghost} {w : World} {H : List CObj} (hr : HRel tt g w.heap H) {t : TypeId} {x y : D} {u v : Value} (hx : V tt g w.heap x u) (hy : V tt g w.heap y v) {b : Bool} (h : opEq tt t x y = some b) :
    (Op.equal t u v).run P w = .ok b w ∧ u ≠ .nilIface ∧ (∀ xs, u = .agg xs → P.eqGuardType P.depth t = false) := by
  unfold opEq at h
  split at h
  · split at h
    · rename_i e ht
      cases h
      rw [v_nilp] at hx hy
      subst hx hy
      refine ⟨?_, by simp, fun xs e => by cases e⟩
      exact ptr_nn (d := 9999) (und_ptr htt ht) none
    · cases h
  · split at h
    · rename_i e ht
      cases h
      rw [v_nilp] at hx
      obtain ⟨bb, N, rfl, _⟩ := v_cptr.1 hy
      subst hx
      refine ⟨?_, by simp, fun xs e => by cases e⟩
      exact ptr_nn (d := 9999) (und_ptr htt ht) (some _)
    · cases h
  · split at h
    · rename_i e ht
      cases h
      rw [v_nilp] at hy
      obtain ⟨bb, N, rfl, _⟩ := v_cptr.1 hx
      subst hy
      refine ⟨?_, by simp, fun xs e => by cases e⟩
      exact ptr_sn (d := 9999) (und_ptr htt ht) _
    · cases h
  · rename_i p q _
    simp only [V, D.isAgg] at hx hy
    have hx' : VOf p.isAgg (Flat tt g.B w.heap p) u := hx.imp fun cs hc => by simpa only [DFlat] using hc
    have hy' : VOf q.isAgg (Flat tt g.B w.heap q) v := hy.imp fun cs hc => by simpa only [DFlat] using hc
    obtain ⟨e1, e2, e3, e4⟩ := eqT_shape htt 9 t p q b h
    refine ⟨eq_run htt 9 10000 t p q b u v (by omega) h hx' hy', ?_, ?_⟩
    · rintro rfl
      unfold eqT at h
      split at h
      · simp [VOf, Pv.isAgg, Flat] at hx'
      · simp [VOf, Pv.isAgg, Flat] at hx'
      · simp [VOf, Pv.isAgg, Flat] at hx'
      · simp [VOf, Pv.isAgg] at hx'
      · cases h
    · rintro xs rfl
      unfold eqT at h
      split at h
      · simp [VOf, Pv.isAgg, Flat] at hx'
      · simp [VOf, Pv.isAgg, Flat] at hx'
      · simp [VOf, Pv.isAgg, Flat] at hx'
      · have ht : ∃ fs, (tt t).td = .struct fs := ⟨_, ‹_›⟩
        obtain ⟨fs, ht⟩ := ht
        exact ((htt t (by rw [ht]; simp)).cmp fs ht).2
      · cases h
  · cases h
end
end Go.Cl
