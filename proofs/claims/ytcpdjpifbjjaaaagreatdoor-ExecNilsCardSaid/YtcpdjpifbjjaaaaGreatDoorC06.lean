/-
  THE CLEAN MACHINE, part 06: a machine of values by name that the model follows; each law here says that a step of the model does what the clean machine says. Nothing here speaks of this program.
-/
import Derived.Test.YtcpdjpifbjjaaaaGreatDoorC05
set_option linter.unusedVariables false
set_option linter.unusedSimpArgs false
namespace Go.Cl
open Go.RowKit (Below)
section
variable {P : Program} {tt : TT}
-- CUTS OF SLICES AND STRINGS
def OptV (tt : TT) (g : Ghost) (h : Array Obj) : Option D → Option Value → Prop
  | none, none => True
  | some d, some v => V tt g h d v
  | _, _ => False
def OptI (ov : Option Value) (dflt n : Int) : Prop := (ov = none ∧ n = dflt) ∨ ∃ k, ov = some (.int k n)
theorem optI_of {g : Ghost} {h : Array Obj} {od : Option D} {ov : Option Value} {dflt n : Int} (hv : OptV tt g h od ov) (hb : intBound od dflt = some n) : OptI ov dflt n := by
  cases od with
  | none =>
    cases ov with
    | some v => exact absurd hv (by simp [OptV])
    | none =>
      simp only [intBound, Option.some.injEq] at hb
      exact .inl ⟨rfl, hb.symm⟩
  | some d =>
    cases ov with
    | none => exact absurd hv (by simp [OptV])
    | some v =>
      simp only [OptV] at hv
      unfold intBound at hb
      split at hb
      · simp at *
      · rename_i k n' e
        cases e
        cases hb
        rw [v_int] at hv
        subst hv
        exact .inr ⟨k, rfl⟩
      · cases hb
theorem sliceBound_ok {w : World} {k : IntKind} {n : Int} {y : Nat} {code : BoundsCode} (h0 : 0 ≤ n) (h1 : n ≤ y) : (Instr.sliceBound (.int k n) y code).run P w = .ok n.toNat w := by
  simp [Instr.sliceBound, asIntOf, h0, h1]
theorem bounds_none {w : World} {isSlice : Bool} {len cap : Nat} {vlo vhi : Option Value} {l h : Int} (hl : OptI vlo 0 l) (hh : OptI vhi len h) (h0 : 0 ≤ l) (h1 : l ≤ h) (h2 : h ≤ cap) :
    (Instr.sliceBounds isSlice len cap vlo vhi none).run P w = .ok (l.toNat, h.toNat, cap) w := by
  unfold Instr.sliceBounds
  rcases hl with ⟨rfl, rfl⟩ | ⟨kl, rfl⟩ <;> rcases hh with ⟨rfl, rfl⟩ | ⟨kh, rfl⟩
  · simp
  · simp [sliceBound_ok (show 0 ≤ h by omega) h2]
  · simp [sliceBound_ok (y := len) h0 (by omega)]
  · have e := sliceBound_ok (P := P) (w := w) (k := kh) (code := if isSlice then .sliceAcap else .sliceAlen) (show 0 ≤ h by omega) h2
    have e2 := sliceBound_ok (P := P) (w := w) (k := kl) (y := h.toNat) (code := .sliceB) h0 (by omega)
    simp [e, e2]
theorem bounds_some {w : World} {isSlice : Bool} {len cap : Nat} {vlo vhi : Option Value} {l h m : Int} {k : IntKind} (hl : OptI vlo 0 l) (hh : ∃ kh, vhi = some (.int kh h)) (h0 : 0 ≤ l) (h1 : l ≤ h) (h2 : h ≤ m) (h3 : m ≤ cap) :
    (Instr.sliceBounds isSlice len cap vlo vhi (some (.int k m))).run P w = .ok (l.toNat, h.toNat, m.toNat) w := by
  unfold Instr.sliceBounds
  obtain ⟨kh, rfl⟩ := hh
  have e0 := sliceBound_ok (P := P) (w := w) (k := k) (code := if isSlice then .slice3Acap else .slice3Alen) (show 0 ≤ m by omega) h3
  have e := sliceBound_ok (P := P) (w := w) (k := kh) (y := m.toNat) (code := .slice3B) (show 0 ≤ h by omega) (by omega)
  rcases hl with ⟨rfl, rfl⟩ | ⟨kl, rfl⟩
  · simp [e0, e]
  · have e2 := sliceBound_ok (P := P) (w := w) (k := kl) (y := h.toNat) (code := .slice3C) h0 (by omega)
    simp [e0, e, e2]
theorem str_cut (b : ByteArray) (l h : Nat) : (b.extract l h).data.toList = (b.data.toList.drop l).take (h - l) := by
  rw [ByteArray.data_extract, Array.toList_extract, List.extract_eq_take_drop]
theorem slV_cut {B : TypeId → Nat → Prop} {h : Array Obj} {T blk off cap l n : Nat} {ps : List Pv} {c : Array Value} {E : TypeId} {fz : Nat × Nat} (a1 : ps.length ≤ cap) (a2 : B T blk) (a3 : h[blk]? = some (.cells c E fz))
    (a4 : off + ps.length * (tt T).size ≤ c.size) (a5 : ∀ p ∈ ps, p.size = (tt T).size) (a6 : FlatL tt B h ps ((c.toList.drop off).take (ps.length * (tt T).size))) (hl : l + n ≤ ps.length) (cap' : Nat) (hc : n ≤ cap') :
    SlV tt B h T ((ps.drop l).take n) (.slice (some ⟨blk, off + l * (tt T).size, none⟩) n cap') := by
  have hlen : ((ps.drop l).take n).length = n := by simp; omega
  refine .inr ⟨blk, off + l * (tt T).size, cap', c, E, fz, by rw [hlen], by rw [hlen]; exact hc, a2, a3, ?_, fun p hp => a5 p (List.mem_of_mem_drop (List.mem_of_mem_take hp)), ?_⟩
  · rw [hlen]
    have := Nat.mul_le_mul_right (tt T).size hl
    rw [Nat.add_mul] at this
    omega
  · have := FlatL.part ps _ l n a6 a5
    rw [hlen] at this ⊢
    have hm := Nat.mul_le_mul_right (tt T).size hl
    rw [Nat.add_mul] at hm
    rw [drop_take_take _ _ _ _ (by omega), drop_drop'] at this
    exact this
theorem run_sliceAt {w : World} {t e : TypeId} (hu : (underlying t).run P w = .ok (.slice e) w) (hs : (sizeOf e).run P w = .ok (tt e).size w) {a : Option Addr} {len cap : Nat} {vlo vhi vmx : Option Value} {l h m : Nat}
    (hb : (Instr.sliceBounds true len cap vlo vhi vmx).run P w = .ok (l, h, m) w) : (Instr.sliceAt t (.slice a len cap) vlo vhi vmx).run P w = .ok (.slice (if m = l then a else a.map (·.add (l * (tt e).size))) (h - l) (m - l)) w := by
  simp only [Instr.sliceAt, Sem.run_bind, hu, Result.andThen_ok, Instr.slice, hb, hs, Sem.run_pure]
theorem slice_sound (htt : TTok P tt) {g : Ghost} {w : World} {H : List CObj} (hr : HRel tt g w.heap H) {t : TypeId} {x : D} {v : Value} {lo hi mx : Option D} {vlo vhi vmx : Option Value} (hx : V tt g w.heap x v)
    (hlo : OptV tt g w.heap lo vlo) (hhi : OptV tt g w.heap hi vhi) (hmx : OptV tt g w.heap mx vmx) (hmh : vmx.isSome = true → vhi.isSome = true) {out : Out} (h : opSlice tt (lk H) t x lo hi mx = some out) (hs : out.side) : Good P tt (Instr.sliceAt t v vlo vhi vmx) g w H out := by
  have hsome : ∀ {k : IntKind} {m' : Int}, mx = some (.pv (.int k m')) → vmx = some (.int k m') := by
    rintro k m' rfl
    cases vmx with
    | none => simp [OptV] at hmx
    | some x => simp only [OptV, v_int] at hmx; rw [hmx]
  unfold opSlice at h
  split at h
  · rename_i s
    split at h
    · rename_i ht
      split at h
      · rename_i l hh hl hhh
        cases h
        simp only [okS] at hs
        obtain ⟨s0, s1, s2⟩ := hs
        obtain ⟨b, rfl, rfl⟩ := v_str.1 hx
        have hm : vmx = none := by cases vmx with | none => rfl | some _ => simp [OptV] at hmx
        subst hm
        rw [data_len] at s2 hhh
        refine good_pure hr rfl (v := .string (b.extract l.toNat hh.toNat)) ?_ (by rw [v_str]; exact ⟨_, rfl, str_cut _ _ _⟩)
        have hb := bounds_none (P := P) (w := w) (isSlice := false) (cap := b.size) (optI_of hlo hl) (optI_of hhi hhh) s0 s1 s2
        have hu := run_und (und_str htt ht)
        simp only [Instr.sliceAt, Sem.run_bind, hu, Result.andThen_ok, Instr.slice, Option.isSome_none, Bool.false_eq_true, if_false, hb, Sem.run_pure]
      · cases h
    · cases h
  · rename_i T ps
    split at h
    · rename_i e ht
      split at h
      · rename_i he
        subst he
        have hsz := (kid_sl htt ht).sizeOf w
        have hu := run_und (P := P) (und_sl htt ht) w
        split at h
        · rename_i l hh hl hhh
          obtain ⟨a, cap, hv, hcap⟩ : ∃ a c, v = .slice a ps.length c ∧ ps.length ≤ c := by
            rcases v_sl.1 hx with ⟨rfl, a, c, rfl⟩ | ⟨_, _, c, _, _, _, rfl, hc, _⟩
            · exact ⟨_, _, rfl, by simp⟩
            · exact ⟨_, _, rfl, hc⟩
          subst hv
          have cut : ∀ m, (0 ≤ l) → l ≤ hh → hh ≤ ps.length → hh.toNat ≤ m → m ≠ l.toNat → SlV tt g.B w.heap e ((ps.drop l.toNat).take (hh.toNat - l.toNat)) (.slice (a.map (·.add (l.toNat * (tt e).size))) (hh.toNat - l.toNat) (m - l.toNat)) := by
            intro m h0 h1 h2 h3 h4
            rcases v_sl.1 hx with ⟨rfl, _⟩ | ⟨blk, off, cap', c, E, fz, ee, a1, a2, a3, a4, a5, a6⟩
            · have : hh.toNat - l.toNat = 0 := by simp at h2; omega
              rw [this, List.take_zero]
              exact .inl ⟨rfl, _, _, rfl⟩
            · cases ee
              simp only [Option.map_some, add_add]
              exact slV_cut a1 a2 a3 a4 a5 a6 (by omega) _ (by omega)
          split at h
          · cases h
            simp only [okS] at hs
            obtain ⟨s0, s1, s2⟩ := hs
            have hm : vmx = none := by cases vmx with | none => rfl | some _ => simp [OptV] at hmx
            subst hm
            refine good_pure hr rfl (run_sliceAt hu hsz (bounds_none (cap := cap) (optI_of hlo hl) (optI_of hhi hhh) s0 s1 (by omega))) ?_
            rw [v_sl]
            by_cases hc0 : cap = l.toNat
            · have : hh.toNat - l.toNat = 0 := by omega
              rw [this, List.take_zero]
              exact .inl ⟨rfl, _, _, rfl⟩
            · rw [if_neg hc0]
              exact cut cap s0 s1 s2 (by omega) hc0
          · rename_i m
            split at h
            · rename_i _ k m'
              cases h
              simp only at hs
              obtain ⟨s0, s1, s2, s3⟩ := hs
              obtain rfl := hsome rfl
              have hhi' : ∃ kh, vhi = some (.int kh hh) := by
                rcases optI_of hhi hhh with ⟨rfl, _⟩ | h'
                · exact absurd (hmh rfl) (by simp)
                · exact h'
              refine good_pure hr rfl (run_sliceAt hu hsz (bounds_some (cap := cap) (optI_of hlo hl) hhi' s0 s1 s2 (by omega))) ?_
              simp only
              by_cases hc0 : m' = l
              · subst hc0
                have : hh.toNat - m'.toNat = 0 := by omega
                simp only [if_true, v_nilsl, Nat.sub_self, this]
                exact ⟨_, rfl⟩
              · rw [if_neg hc0, if_neg (by omega), v_sl]
                exact cut m'.toNat s0 s1 (by omega) (by omega) (by omega)
            · cases h
        · cases h
      · cases h
    · cases h
  · rename_i T
    split at h
    · rename_i e ht
      split at h
      · rename_i l hh m hl hhh hmm
        cases h
        simp only [okS] at hs
        obtain ⟨rfl, rfl, rfl⟩ := hs
        obtain ⟨a, rfl⟩ := v_nilsl.1 hx
        have hsz := (kid_sl htt ht).sizeOf w
        have hu := run_und (P := P) (und_sl htt ht) w
        have fin : (Instr.sliceBounds true 0 0 vlo vhi vmx).run P w = .ok (0, 0, 0) w := by
          rcases optI_of hmx hmm with ⟨rfl, _⟩ | ⟨k, rfl⟩
          · exact bounds_none (cap := 0) (optI_of hlo hl) (optI_of hhi hhh) (Int.le_refl _) (Int.le_refl _) (by simp)
          · refine bounds_some (cap := 0) (optI_of hlo hl) ?_ (Int.le_refl _) (Int.le_refl _) (Int.le_refl _) (by simp)
            rcases optI_of hhi hhh with ⟨rfl, _⟩ | h'
            · exact absurd (hmh rfl) (by simp)
            · exact h'
        exact good_pure hr rfl (run_sliceAt hu hsz fin) (by simp only [v_nilsl]; exact ⟨_, rfl⟩)
      · cases h
    · cases h
  · rename_i T id ver off len lim
    split at h
    · rename_i e ht
      split at h
      · rename_i he
        subst he
        have hsz := (kid_sl htt ht).sizeOf w
        have hu := run_und (P := P) (und_sl htt ht) w
        split at h
        · rename_i o ho
          obtain ⟨_, gl, cur, p1, p2, p3, p4⟩ := v_own.1 hx
          obtain ⟨rfl, hH, hd, hor, _⟩ := own_open hr ho p1
          have p4 := p4 rfl
          obtain ⟨a, cap, rfl, hcap⟩ := p4.slice
          split at h
          · rename_i l hh hl hhh
            have cut : ∀ m lim', 0 ≤ l → l ≤ hh → hh ≤ len → hh.toNat ≤ m → m ≤ cap → (lim' = none → lim = none ∧ m = cap) → (∀ c, lim' = some c → c = m - l.toNat) →
                OwnV tt e (off + l.toNat) (hh.toNat - l.toNat) lim' (.slice (if m = l.toNat then a else a.map (·.add (l.toNat * (tt e).size))) (hh.toNat - l.toNat) (m - l.toNat)) gl := by
              intro m lim' h0 h1 h2 h3 h3' h4 h5
              cases gl with
              | none0 =>
                obtain ⟨rfl, rfl, _, _, e'⟩ := p4
                cases e'
                have : l.toNat = 0 := by omega
                have hm : m = 0 := by omega
                refine ⟨by omega, by omega, ?_, ?_⟩
                · cases lim' with
                  | none => exact .inl rfl
                  | some c => exact .inr (by rw [h5 c rfl]; congr 1; omega)
                · rw [show hh.toNat - l.toNat = 0 by omega, show m - l.toNat = 0 by omega]; exact ⟨_, rfl⟩
              | blk b N =>
                obtain ⟨a', cap', e', ha, hc, hN, hlim⟩ := p4
                cases e'
                have hpos : (if m = l.toNat then some a' else (some a').map (·.add (l.toNat * (tt e).size))) = some (if m = l.toNat then a' else a'.add (l.toNat * (tt e).size)) := by split <;> rfl
                rw [hpos]
                refine ⟨_, m - l.toNat, rfl, fun hm => ?_, by omega, by omega, ?_⟩
                · rw [if_neg (by omega), ha (by omega), add_add, Nat.add_mul]
                · cases lim' with
                  | none => obtain ⟨rfl, rfl⟩ := h4 rfl; simp only at hlim ⊢; omega
                  | some c => simp only; rw [h5 c rfl]
            have vv : ∀ m lim', 0 ≤ l → l ≤ hh → hh ≤ len → hh.toNat ≤ m → m ≤ cap → (lim' = none → lim = none ∧ m = cap) → (∀ c, lim' = some c → c = m - l.toNat) →
                V tt g w.heap (.own e id cur (off + l.toNat) (hh.toNat - l.toNat) lim') (.slice (if m = l.toNat then a else a.map (·.add (l.toNat * (tt e).size))) (hh.toNat - l.toNat) (m - l.toNat)) := by
              intro m lim' h0 h1 h2 h3 h3' h4 h5
              rw [v_own]
              exact ⟨rfl, gl, cur, p1, Nat.le_refl _, p3, fun _ => cut m lim' h0 h1 h2 h3 h3' h4 h5⟩
            split at h
            · cases h
              obtain ⟨s0, s1, s2⟩ := hs
              have hm : vmx = none := by cases vmx with | none => rfl | some _ => simp [OptV] at hmx
              subst hm
              refine good_pure hr rfl (run_sliceAt hu hsz (bounds_none (cap := cap) (optI_of hlo hl) (optI_of hhi hhh) s0 s1 (by omega))) (vv cap _ s0 s1 s2 (by omega) (Nat.le_refl _) ?_ ?_)
              · cases lim with
                | none => exact fun _ => ⟨rfl, rfl⟩
                | some c => exact fun e => by cases e
              · cases lim with
                | none => exact fun _ e => by cases e
                | some c =>
                  intro c' e'
                  cases e'
                  cases gl with
                  | none0 =>
                    obtain ⟨_, _, h', _, e''⟩ := p4
                    cases e''
                    rcases h' with h' | h' <;> cases h'
                    rfl
                  | blk b N =>
                    obtain ⟨_, _, e'', _, _, _, hlim⟩ := p4
                    cases e''
                    simp only at hlim
                    rw [hlim]
            · rename_i m
              split at h
              · rename_i _ k m'
                cases h
                obtain ⟨s0, s1, s2, s3⟩ := hs
                obtain rfl := hsome rfl
                have hhi' : ∃ kh, vhi = some (.int kh hh) := by
                  rcases optI_of hhi hhh with ⟨rfl, _⟩ | h'
                  · exact absurd (hmh rfl) (by simp)
                  · exact h'
                refine good_pure hr rfl (run_sliceAt hu hsz (bounds_some (cap := cap) (optI_of hlo hl) hhi' s0 s1 s2 (by omega))) ?_
                simp only
                by_cases hc0 : m' = l
                · subst hc0
                  have : hh.toNat - m'.toNat = 0 := by omega
                  simp only [if_true, v_nilsl, Nat.sub_self, this]
                  exact ⟨_, rfl⟩
                · rw [if_neg hc0]
                  exact vv m'.toNat _ s0 s1 (by omega) (by omega) (by omega) (fun e => by cases e) (fun c e => by cases e; rfl)
              · cases h
          · cases h
        · cases h
      · cases h
    · cases h
  · cases h
end
end Go.Cl
