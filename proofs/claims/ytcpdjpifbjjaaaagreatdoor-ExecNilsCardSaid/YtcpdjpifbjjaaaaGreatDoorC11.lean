/-
  THE CLEAN MACHINE, part 11: a machine of values by name that the model follows; each law here says that a step of the model does what the clean machine says. Nothing here speaks of this program.
-/
import Derived.Test.YtcpdjpifbjjaaaaGreatDoorC10
set_option linter.unusedVariables false
set_option linter.unusedSimpArgs false
namespace Go.Cl
open Go.RowKit (Below)
section
variable {P : Program} {tt : TT}
-- ONE OPERATION IS SOUND
def valOf : Next → Value
  | .value v => v
  | _ => undef
/-- The machine carries the operation out, as the clean machine does. -/
def Does (P : Program) (tt : TT) (sem : Sem Next) (g : Ghost) (w : World) (H : List CObj) (r : Out2) : Prop :=
  ∃ n w' g', sem.run P w = .ok n w' ∧ (n = .skip ∨ ∃ v, n = .value v) ∧ HRel tt g' w'.heap (r.eff.app (killH r.kills H)) ∧ Ext g w H g' w' (r.eff.app (killH r.kills H)) ∧ SV tt g' w'.heap r.v (valOf n)
theorem okV_some {r r' : Out2} (h : okV r = some (.val r')) : r' = r ∧ ∀ c e, r'.v ≠ .ite c e := by
  unfold okV at h
  split at h
  · cases h
  · rename_i hi
    cases h
    refine ⟨rfl, fun c e he => ?_⟩
    rw [he] at hi
    exact hi rfl
theorem upO_some {o : Option Out} {r : Out2} (h : upO o = some (.val r)) : ∃ out, o = some out ∧ r = out.up ∧ ∀ c e, r.v ≠ .ite c e := by
  unfold upO at h
  split at h
  · obtain ⟨rfl, h2⟩ := okV_some h
    exact ⟨_, rfl, rfl, h2⟩
  · cases h
theorem Good.does {sem : Sem Value} {g : Ghost} {w : World} {H : List CObj} {out : Out} (hg : Good P tt sem g w H out) (hi : ∀ c e, out.up.v ≠ .ite c e) :
    Does P tt (do pure (.value (← sem))) g w H out.up := by
  obtain ⟨v, w', g', h1, h2, h3, h4⟩ := hg
  exact ⟨.value v, w', g', by simp [h1], .inr ⟨v, rfl⟩, h2, h3, sv_of_v hi h4⟩
theorem cond_hint (slots : List D) (t u : TypeId) (x : Operand) : (evalD tt slots t x).cond = (evalD tt slots u x).cond := by
  cases x with
  | const v =>
    show (constD tt t v).cond = (constD tt u v).cond
    have : ∀ t, (constD tt t v).cond = true := by
      intro t
      unfold constD
      split <;> rfl
    rw [this, this]
  | _ => rfl
theorem opsOk_at {slots : List D} {o : Oper} (hok : opsOk tt slots o = true) (h1 : ∀ x, o.op ≠ .move x) (h2 : ∀ x, o.op ≠ .assign x) (h3 : ∀ a b c, o.op ≠ .pick a b c) {x : Operand} (hx : x ∈ o.op.operands.toList) (t : TypeId) :
    (evalD tt slots t x).cond = true := by
  rw [cond_hint slots t 0]
  unfold opsOk at hok
  split at hok
  · exact absurd ‹_› (h1 _)
  · exact absurd ‹_› (h2 _)
  · exact absurd ‹_› (h3 _ _ _)
  · exact List.all_eq_true.1 hok x hx
theorem opt_sound {g : Ghost} {h : Array Obj} {f : Operand → D} {e : Operand → Value} (o : Option Operand) (hf : ∀ x, o = some x → V tt g h (f x) (e x)) : OptV tt g h (o.map f) (o.map e) := by
  cases o with
  | none => trivial
  | some x => exact hf x rfl
theorem pick_v {g : Ghost} {h : Array Obj} {t : Bool} {x y : D} {u v : Value} (hx : t = true → V tt g h x u) (hy : t = false → V tt g h y v) : V tt g h (pickD t x y) (if t = true then u else v) := by
  cases t with
  | true =>
    have hx := hx rfl
    simp only [if_true]
    unfold pickD
    split
    · simp only [if_true]; exact hx
    · simp only [if_true]; exact hx
  | false =>
    have hy := hy rfl
    simp only [Bool.false_eq_true, if_false]
    unfold pickD
    split
    · simp only [Bool.false_eq_true, if_false]; exact hy
    · simp only [Bool.false_eq_true, if_false]; exact hy
theorem dvl_of {g : Ghost} {h : Array Obj} : ∀ (ds : List D) (vs : List Value), ds.length = vs.length → (∀ i, i < ds.length → V tt g h (ds.getD i .junk) (vs.getD i undef)) → (∀ d ∈ ds, d.plain = true) → DVL tt g h ds vs
  | [], [], _, _, _ => by simp only [DVL]
  | d :: ds, v :: vs, hl, hv, hp => by
    simp only [DVL]
    refine ⟨v, vs, rfl, vof_of_v (hp d (by simp)) (by simpa using hv 0 (by simp)), dvl_of ds vs (by simpa using hl) (fun i hi => by simpa using hv (i + 1) (by simpa using hi)) fun d hd => hp d (by simp [hd])⟩
theorem DVL.len {g : Ghost} {h : Array Obj} : ∀ (ds : List D) (vs : List Value), DVL tt g h ds vs → ds.length = vs.length
  | [], vs, hv => by simp only [DVL] at hv; subst hv; rfl
  | d :: ds, vs, hv => by
    simp only [DVL] at hv
    obtain ⟨v, r, rfl, _, h2⟩ := hv
    simp [DVL.len ds r h2]
theorem DVL.at {g : Ghost} {h : Array Obj} : ∀ (ds : List D) (vs : List Value) (i : Nat) (d : D), DVL tt g h ds vs → ds[i]? = some d → ∃ v, vs[i]? = some v ∧ VOf d.isAgg (DFlat tt g h d) v
  | [], vs, i, d, hv, hd => by simp at hd
  | e :: ds, vs, i, d, hv, hd => by
    simp only [DVL] at hv
    obtain ⟨v, r, rfl, h1, h2⟩ := hv
    cases i with
    | zero => simp at hd; subst hd; exact ⟨v, rfl, h1⟩
    | succ i => simpa using DVL.at ds r i d h2 (by simpa using hd)
theorem DVL.append {g : Ghost} {h : Array Obj} : ∀ (ds es : List D) (vs us : List Value), DVL tt g h ds vs → DVL tt g h es us → DVL tt g h (ds ++ es) (vs ++ us)
  | [], es, vs, us, hv, hu => by simp only [DVL] at hv; subst hv; simpa using hu
  | d :: ds, es, vs, us, hv, hu => by
    simp only [DVL] at hv
    obtain ⟨v, r, rfl, h1, h2⟩ := hv
    simp only [List.cons_append, DVL]
    exact ⟨v, r ++ us, rfl, h1, DVL.append ds es r us h2 hu⟩
theorem eqOp_shape {g : Ghost} {h : Array Obj} {t : TypeId} {x y : D} {u : Value} (hx : V tt g h x u) {b : Bool} (he : opEq tt t x y = some b)
    (h1 : ∀ k a k' c, x = .pv (.int k a) → y = .pv (.int k' c) → False) (h3 : ∀ a c, x = .pv (.str a) → y = .pv (.str c) → False) :
    (∃ c, u = .bool c) ∨ (∃ xs, u = .agg xs) ∨ ∃ p, u = .pointer p := by
  unfold opEq at he
  split at he
  · rw [v_nilp] at hx; exact .inr (.inr ⟨_, hx⟩)
  · rw [v_nilp] at hx; exact .inr (.inr ⟨_, hx⟩)
  · obtain ⟨bb, N, rfl, _⟩ := v_cptr.1 hx
    exact .inr (.inr ⟨_, rfl⟩)
  · rename_i p q _
    unfold eqT at he
    split at he
    · rw [v_bool] at hx; exact .inl ⟨_, hx⟩
    · exact (h1 _ _ _ _ rfl rfl).elim
    · exact (h3 _ _ rfl rfl).elim
    · simp only [V, VOf, D.isAgg, Pv.isAgg, if_true] at hx
      obtain ⟨cs, rfl, _⟩ := hx
      exact .inr (.inl ⟨_, rfl⟩)
    · cases he
  · cases he
theorem bin_eql {t : TypeId} {u v : Value} {b : Bool} {w : World} (hu : (∃ c, u = .bool c) ∨ (∃ xs, u = .agg xs) ∨ ∃ p, u = .pointer p) (h : (Op.equal t u v).run P w = .ok b w) :
    (binOp .eql t u v).run P w = .ok (.bool b) w ∧ (binOp .neq t u v).run P w = .ok (.bool (!b)) w := by
  rcases hu with ⟨c, rfl⟩ | ⟨c, rfl⟩ | ⟨c, rfl⟩ <;> constructor <;> simp [binOp, h]
theorem bin_sound (htt : TTok P tt) {g : Ghost} {w : World} {H : List CObj} (hr : HRel tt g w.heap H) {op : BinOp} {t : TypeId} {x y : D} {u v : Value} (hx : V tt g w.heap x u) (hy : V tt g w.heap y v) {out : Out}
    (h : opBin tt op t x y = some out) (hs : out.side) (X Y : Operand) : Good P tt (do eqGuard op t X Y u v; binOp op t u v) g w H out := by
  have lift : (eqGuard op t X Y u v).run P w = .ok () w → Good P tt (binOp op t u v) g w H out → Good P tt (do eqGuard op t X Y u v; binOp op t u v) g w H out := by
    rintro he ⟨z, w', g', h1, h2⟩
    exact ⟨z, w', g', by simp [he, h1], h2⟩
  have noteq : op ≠ .eql → op ≠ .neq → (eqGuard op t X Y u v).run P w = .ok () w := by
    intro h1 h2
    cases op <;> first | exact absurd rfl h1 | exact absurd rfl h2 | simp [eqGuard]
  unfold opBin at h
  split at h
  · rename_i k a k' b
    rw [v_int] at hx hy
    subst hx hy
    refine lift (guard_run op t X Y _ _ w (by simp) (fun xs e => by cases e)) ?_
    split at h
    · exact shift_sound hr (.inl rfl) h hs
    · exact shift_sound hr (.inr rfl) h hs
    · split at h
      · rename_i hk; subst hk; exact int_sound hr h hs
      · cases h
  · rename_i k a k' b
    rw [v_flt] at hx hy
    subst hx hy
    refine lift (guard_run op t X Y _ _ w (by simp) (fun xs e => by cases e)) ?_
    split at h
    · rename_i hk; subst hk; exact flt_sound hr h hs
    · cases h
  · rename_i a b
    obtain ⟨s, rfl, rfl⟩ := v_str.1 hx
    obtain ⟨s', rfl, rfl⟩ := v_str.1 hy
    refine lift (guard_run op t X Y _ _ w (by simp) (fun xs e => by cases e)) ?_
    exact str_sound hr h hs
  · rename_i hn1 hn2 hn3
    split at h
    · split at h
      · rename_i b hb
        cases h
        obtain ⟨h1, h2, h3⟩ := eqOp_sound htt hr hx hy hb
        refine lift (guard_run _ t X Y _ _ w h2 h3) ?_
        exact good_pure hr rfl (bin_eql (eqOp_shape hx hb (fun _ _ _ _ e1 e2 => hn1 _ _ _ _ e1 e2) (fun _ _ e1 e2 => hn3 _ _ e1 e2)) h1).1 (v_bool.2 rfl)
      · cases h
    · split at h
      · rename_i b hb
        cases h
        obtain ⟨h1, h2, h3⟩ := eqOp_sound htt hr hx hy hb
        refine lift (guard_run _ t X Y _ _ w h2 h3) ?_
        exact good_pure hr rfl (bin_eql (eqOp_shape hx hb (fun _ _ _ _ e1 e2 => hn1 _ _ _ _ e1 e2) (fun _ _ e1 e2 => hn3 _ _ e1 e2)) h1).2 (v_bool.2 rfl)
      · cases h
    · cases h
theorem getD_map {α β : Type _} (l : List α) (f : α → β) (i : Nat) (d : β) (hi : i < l.length) : (l.map f).getD i d = f l[i] := by simp [List.getD_eq_getElem?_getD, hi]
theorem mapIdx_getD {α β : Type _} (l : List α) (f : Nat → α → β) (i : Nat) (d : β) (hi : i < l.length) : (l.mapIdx f).getD i d = f i l[i] := by simp [List.getD_eq_getElem?_getD, hi]
theorem op_sound (htt : TTok P tt) {g : Ghost} {w : World} {H : List CObj} {slots : List D} {a : Act} (hr : HRel tt g w.heap H) (hv : SlotsV tt g w.heap slots a.tmps) {nid : Nat} {o : Oper}
    (hn : isAlloc o.op = true → H[nid]? = some .free) {r : Out2} (h : clOp tt (lk H) nid slots o = some (.val r)) (hok : opsOk tt slots o = true) (hs : r.side) :
    Does P tt (execOp a.eval o) g w H r := by
  have ev : (∀ x, o.op ≠ .move x) → (∀ x, o.op ≠ .assign x) → (∀ a b c, o.op ≠ .pick a b c) → ∀ (t : TypeId) (x : Operand), x ∈ o.op.operands.toList → V tt g w.heap (evalD tt slots t x).strip (a.eval x) :=
    fun h1 h2 h3 t x hx => sv_strip (eval_sound hv t x) (opsOk_at hok h1 h2 h3 hx t)
  obtain ⟨dst, op, ty, pos, after, guard⟩ := o
  unfold clOp at h
  simp only at h ev hn
  have same : ∀ (d : D) (v : Value), r = { side := True, v := d, reads := [], kills := [], eff := .none } → SV tt g w.heap d v → ∀ {sem : Sem Next}, sem.run P w = .ok (.value v) w → Does P tt sem g w H r := by
    rintro d v rfl hd sem hrun
    exact ⟨_, w, g, hrun, .inr ⟨v, rfl⟩, hr, Ext.refl _ _ _, hd⟩
  cases op <;> (try (cases h; done)) <;> (try dsimp only at h)
  case move x => cases h; exact same _ _ rfl (eval_sound hv _ x) (by simp [execOp])
  case assign x => cases h; exact same _ _ rfl (eval_sound hv _ x) (by simp [execOp])
  case pick c x y =>
    unfold doPick at h
    split at h
    · rename_i t ht
      obtain ⟨rfl, hi⟩ := okV_some h
      have hc := eval_sound (tt := tt) hv 0 c
      rw [ht] at hc
      have hc : a.eval c = .bool t := v_bool.1 hc
      obtain ⟨h1, h2⟩ := hs
      refine ⟨.value (if t = true then a.eval x else a.eval y), w, g, ?_, .inr ⟨_, rfl⟩, hr, Ext.refl _ _ _, sv_of_v hi (pick_v (fun e => sv_strip (eval_sound hv _ x) (h1 e)) (fun e => sv_strip (eval_sound hv _ y) (h2 e)))⟩
      simp [execOp, hc, asBool]
    · cases h
  case alloc t =>
    obtain ⟨out, ho, rfl, hi⟩ := upO_some h
    exact (alloc_sound htt hr (hn rfl) ho).does hi
  case box t x =>
    obtain ⟨out, ho, rfl, hi⟩ := upO_some h
    exact (box_sound hr (ev (by simp) (by simp) (by simp) t x (by simp [Op.operands])) (hn rfl) ho).does hi
  case build t ps =>
    obtain ⟨out, ho, rfl, hi⟩ := upO_some h
    have := build_sound (P := P) htt hr (vs := ps.toList.map fun p => (p.1, a.eval p.2)) (by simp [Function.comp_def]) (fun p v hp => by
      rw [List.zip_map'] at hp
      obtain ⟨q, hq, e⟩ := List.mem_map.1 hp
      cases e
      exact ev (by simp) (by simp) (by simp) _ _ (by simp only [Op.operands]; simp; exact ⟨q.1, by simpa using hq⟩)) ho
    have e : (ps.toList.map fun p => (p.1, a.eval p.2)).toArray = ps.map fun p => (p.1, a.eval p.2) := by apply Array.ext'; rw [Array.toList_map]
    rw [e] at this
    exact this.does hi
  case buildSlice t n ps =>
    obtain ⟨out, ho, rfl, hi⟩ := upO_some h
    have := buildSlice_sound (P := P) htt hr (vs := ps.toList.map fun p => (p.1, a.eval p.2)) (by simp [Function.comp_def]) (fun p v hp => by
      rw [List.zip_map'] at hp
      obtain ⟨q, hq, e⟩ := List.mem_map.1 hp
      cases e
      exact ev (by simp) (by simp) (by simp) _ _ (by simp only [Op.operands]; simp; exact ⟨q.1, by simpa using hq⟩)) (hn rfl) ho hs
    have e : (ps.toList.map fun p => (p.1, a.eval p.2)).toArray = ps.map fun p => (p.1, a.eval p.2) := by apply Array.ext'; rw [Array.toList_map]
    rw [e] at this
    exact this.does hi
  case load t x =>
    obtain ⟨out, ho, rfl, hi⟩ := upO_some h
    unfold ifTd at ho
    split at ho
    · cases ho
    · rename_i hne
      exact (load_sound htt hr (fun e => hne e) (ev (by simp) (by simp) (by simp) 0 x (by simp [Op.operands])) ho hs).does hi
  case store t x y =>
    obtain ⟨out, ho, rfl, hi⟩ := upO_some h
    unfold ifTd at ho
    split at ho
    · cases ho
    · rename_i hne
      obtain ⟨w', g', k1, k2, k3⟩ := store_sound (P := P) htt hr (fun e => hne e) (ev (by simp) (by simp) (by simp) 0 x (by simp [Op.operands])) (ev (by simp) (by simp) (by simp) t y (by simp [Op.operands])) ho hs
      refine ⟨.skip, w', g', by simp [execOp, k1], .inl rfl, k2, k3, ?_⟩
      have : out.v = .junk := by
        unfold opStore at ho
        repeat' split at ho
        all_goals (try cases ho; try rfl)
      show SV tt g' w'.heap out.v _
      rw [this]
      trivial
  case nilCheck x =>
    have hx := ev (by simp) (by simp) (by simp) 0 x (by simp [Op.operands])
    split at h
    · cases h
    · rename_i d hd
      obtain ⟨out, ho, rfl, hi⟩ := upO_some h
      rcases nil_sound hr hx ho with ⟨h1, h2, h3, h4, h5, h6, h7⟩ | ⟨T, id, ver, i, off, e⟩
      · refine ⟨.value (a.eval x), w, g, ?_, .inr ⟨_, rfl⟩, by show HRel tt g w.heap (out.eff.app _); rw [h2]; exact hr, by show Ext g w H g w (out.eff.app _); rw [h2]; exact Ext.refl _ _ _, sv_of_v hi ?_⟩
        · simp only [execOp]
          first | rfl | (split <;> first | exact absurd ‹_› h4 | exact absurd ‹_› h5 | exact absurd ‹_› h6 | exact absurd ‹_› (h7 _ _ _) | rfl)
        · show V tt g w.heap out.v _
          rw [h1]; exact hx
      · exact absurd e (hd _ _ _ _ _)
  case binOp bop t x y u =>
    obtain ⟨out, ho, rfl, hi⟩ := upO_some h
    exact (bin_sound htt hr (ev (by simp) (by simp) (by simp) t x (by simp [Op.operands])) (ev (by simp) (by simp) (by simp) u y (by simp [Op.operands])) ho hs x y).does hi
  case unOp uop t x =>
    obtain ⟨out, ho, rfl, hi⟩ := upO_some h
    exact (un_sound hr (ev (by simp) (by simp) (by simp) t x (by simp [Op.operands])) ho).does hi
  case convert src dst x =>
    obtain ⟨out, ho, rfl, hi⟩ := upO_some h
    exact (convN_sound htt hr (ev (by simp) (by simp) (by simp) src x (by simp [Op.operands])) ho hs).does hi
  case makeFunc f x y =>
    cases f with
    | func f =>
      dsimp only at h
      split at h
      · rename_i hp
        cases h
        have e := ev (by simp) (by simp) (by simp) 0
        have key : ∀ l : List Operand, (∀ z ∈ l, z ∈ x.toList ++ y.toList) → DVL tt g w.heap (l.map fun z => (evalD tt slots 0 z).strip) (l.map a.eval) := by
          intro l hl
          refine dvl_of _ _ (by simp) (fun i hi => ?_) ?_
          · have hi' : i < l.length := by simpa using hi
            rw [getD_map _ _ _ _ hi', getD_map _ _ _ _ hi']
            exact e _ (by simp only [Op.operands]; have := hl _ (List.getElem_mem hi'); simpa using this)
          · intro d hd
            obtain ⟨z, hz, rfl⟩ := List.mem_map.1 hd
            exact List.all_eq_true.1 hp z (hl z hz)
        refine same _ (.func (.func f) (x.map a.eval) (y.map a.eval)) rfl ?_ (by simp [execOp, Instr.makeFunc])
        show V tt g w.heap (.fn _ _ _) _
        simp only [V, VOf, D.isAgg, Bool.false_eq_true, if_false, DFlat]
        exact ⟨⟨_, _, rfl, by rw [Array.toList_map]; exact key _ (fun z hz => by simp [hz]), by rw [Array.toList_map]; exact key _ (fun z hz => by simp [hz])⟩, rfl⟩
      · cases h
    | _ => cases h
  case makeSlice t l c =>
    obtain ⟨out, ho, rfl, hi⟩ := upO_some h
    exact (makeSlice_sound htt hr (ev (by simp) (by simp) (by simp) 0 l (by simp [Op.operands])) (ev (by simp) (by simp) (by simp) 0 c (by simp [Op.operands])) (hn rfl) ho hs).does hi
  case slice t x lo hi mx =>
    split at h
    · rename_i hmh
      obtain ⟨out, ho, rfl, hi'⟩ := upO_some h
      have e := ev (by simp) (by simp) (by simp)
      exact (slice_sound htt hr (e t x (by simp [Op.operands])) (opt_sound lo fun y hy => e 0 y (by subst hy; simp [Op.operands])) (opt_sound hi fun y hy => e 0 y (by subst hy; simp [Op.operands]))
        (opt_sound mx fun y hy => e 0 y (by subst hy; simp [Op.operands])) (by simpa using hmh) ho hs).does hi'
    · cases h
  case fieldAddr t x f =>
    obtain ⟨out, ho, rfl, hi⟩ := upO_some h
    exact (fieldAddr_sound htt hr (ev (by simp) (by simp) (by simp) 0 x (by simp [Op.operands])) ho).does hi
  case field t x f =>
    obtain ⟨out, ho, rfl, hi⟩ := upO_some h
    exact (field_sound htt hr (ev (by simp) (by simp) (by simp) t x (by simp [Op.operands])) ho).does hi
  case indexAddr t x i =>
    obtain ⟨out, ho, rfl, hi⟩ := upO_some h
    exact (indexAddr_sound htt hr (ev (by simp) (by simp) (by simp) t x (by simp [Op.operands])) (ev (by simp) (by simp) (by simp) 0 i (by simp [Op.operands])) ho hs).does hi
  case index t x i =>
    obtain ⟨out, ho, rfl, hi⟩ := upO_some h
    exact (index_sound htt hr (ev (by simp) (by simp) (by simp) t x (by simp [Op.operands])) (ev (by simp) (by simp) (by simp) 0 i (by simp [Op.operands])) ho hs).does hi
  case extract x i =>
    have hx := ev (by simp) (by simp) (by simp) 0 x (by simp [Op.operands])
    split at h
    · rename_i ds hd
      rw [hd] at hx
      split at h
      · rename_i d hdi
        obtain ⟨rfl, hi⟩ := okV_some h
        obtain ⟨vs, hvs, hdv⟩ := hx
        obtain ⟨v, h1, h2⟩ := DVL.at _ _ _ _ hdv hdi
        refine ⟨.value v, w, g, ?_, .inr ⟨_, rfl⟩, hr, Ext.refl _ _ _, sv_of_v hi (v_of_vof h2)⟩
        have h1' : vs[i]? = some v := by simpa using h1
        simp [execOp, Instr.extract, hvs, h1']
      · cases h
    · cases h
  case call c =>
    obtain ⟨callee, args, ats⟩ := c
    dsimp only at h
    cases callee with
    | invoke => cases h
    | value f =>
      dsimp only at h
      split at h
      · split at h <;> cases h
      · cases h
    | builtin b =>
      dsimp only at h
      have hop : ∀ (i : Nat) (hi : i < args.toList.length), V tt g w.heap (evalD tt slots (ats.getD i 0) args.toList[i]).strip (a.eval args.toList[i]) := fun i hi =>
        ev (by simp) (by simp) (by simp) _ _ (by simp [Op.operands, Call.operands])
      have hlen : (args.toList.mapIdx fun i x => (evalD tt slots (ats.getD i 0) x).strip).length = (args.map a.eval).toList.length := by simp
      generalize hds : (args.toList.mapIdx fun i x => (evalD tt slots (ats.getD i 0) x).strip) = ds at h hlen
      have hds' : ∀ i, i < ds.length → V tt g w.heap (ds.getD i .junk) ((args.map a.eval).toList.getD i undef) := by
        intro i hi
        have hi' : i < args.toList.length := by rw [← hds] at hi; simpa using hi
        rw [← hds, mapIdx_getD _ _ _ _ hi', Array.toList_map, getD_map _ _ _ _ hi']
        exact hop i hi'
      have hexec : ∃ cs, execOp a.eval { dst := dst, op := .call { callee := .builtin b, args := args, argTypes := ats }, type := ty, pos := pos, after := after, guard := guard } =
          builtin b ats ty cs (args.map a.eval) := ⟨_, rfl⟩
      obtain ⟨cs, hexec⟩ := hexec
      rw [hexec]
      generalize args.map a.eval = vs at hlen hds' ⊢
      cases b <;> simp only [doBuiltin, reduceCtorEq] at h
      case len =>
        split at h
        · rename_i t d hat
          obtain ⟨out, ho, rfl, hi⟩ := upO_some h
          match vs, hlen, hds' with
          | ⟨[v]⟩, _, hds' =>
            have hx := hds' 0 (by simp)
            obtain rfl : ats = #[t] := by apply Array.ext'; rw [hat]
            exact (len_sound htt hr (ty := ty) hx ho).does hi
        · cases h
      case append =>
        split at h
        · rename_i t xt s x hat
          split at h
          · rename_i rr hrr
            obtain ⟨rfl, hi⟩ := okV_some h
            match vs, hlen, hds' with
            | ⟨[u, v]⟩, _, hds' =>
              have hx := hds' 0 (by simp)
              have hy := hds' 1 (by simp)
              obtain rfl : ats = #[t, xt] := by apply Array.ext'; rw [hat]
              obtain ⟨z, w', g', k1, k2, k3, k4⟩ := append_sound (P := P) htt hr (ty := ty) hx hy (hn rfl) hrr hs
              exact ⟨.value z, w', g', by
                have k1' : (Builtin.append_ #[t, xt] ty #[u, v]).run P w = .ok z w' := k1
                simp only [builtin, Sem.run_bind, Sem.run_pure]; rw [k1']; rfl, .inr ⟨z, rfl⟩, k2, k3, sv_of_v hi k4⟩
          · cases h
        · cases h
      case min =>
        obtain ⟨out, ho, rfl, hi⟩ := upO_some h
        have := minmax_sound (P := P) hr (mx := false) (ts := ats) (t := ty) (xs := ds) (vs := vs.toList) (fun i => by
          by_cases hi : i < ds.length
          · exact hds' i hi
          · rw [List.getD_eq_getElem?_getD, List.getElem?_eq_none (by omega)]; trivial) hlen ho
        simp only [Bool.false_eq_true, if_false, Array.toArray_toList] at this
        exact this.does hi
      case max =>
        obtain ⟨out, ho, rfl, hi⟩ := upO_some h
        have := minmax_sound (P := P) hr (mx := true) (ts := ats) (t := ty) (xs := ds) (vs := vs.toList) (fun i => by
          by_cases hi : i < ds.length
          · exact hds' i hi
          · rw [List.getD_eq_getElem?_getD, List.getElem?_eq_none (by omega)]; trivial) hlen ho
        simp only [if_true, Array.toArray_toList] at this
        exact this.does hi
end
end Go.Cl
