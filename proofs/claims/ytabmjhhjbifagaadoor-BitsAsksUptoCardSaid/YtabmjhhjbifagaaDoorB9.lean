/- Part of a proof of laws of the seat YtabmjhhjbifagaaDoor: functions' weakest preconditions, each checked by the kernel, and contracts out of them; no conditions. -/
import Derived.Test.YtabmjhhjbifagaaDoorB8
set_option linter.unusedVariables false
set_option linter.unusedSimpArgs false
namespace Go.Mir
open Go Go.E Go.RowKit Go.Bt
section
variable {w : World} {a b : Option Addr} {n c m d g : Nat} {xs ys : W} {i : Int}
theorem count_mono {xs ys : W} (hl : xs.length = ys.length) (h : ∀ i, bit xs i = true → bit ys i = true) : count xs ≤ count ys := by
  unfold count all
  rw [← List.countP_eq_length_filter, ← List.countP_eq_length_filter, hl]
  exact List.countP_mono_left fun x _ hx => h x hx
theorem bit_zip {xs ys : W} (hl : xs.length = ys.length) (i : Nat) : bit (xs.zipWith (· &&& ·) ys) i = (bit xs i && bit ys i) := by
  unfold bit
  rw [List.getElem?_zipWith]
  by_cases h : i / 64 < xs.length
  · rw [List.getElem?_eq_getElem h, List.getElem?_eq_getElem (hl ▸ h)]
    simp [BitVec.getLsbD_and]
  · rw [List.getElem?_eq_none (by omega), List.getElem?_eq_none (by omega)]
    simp
/-- The law BitsMeets. -/
theorem bitsMeets_law {N f t i : Int} (hT : Tab w) (hx : Sl enW w a n xs) (hm : n ≤ 16777216) (hi : i ≤ 9223372036854775807) : Pure Go.Proofs.Tryd.prog 4 #[.slice a n c, .int .i64 N, .int .i64 f, .int .i64 t, .int .i64 i] w (.bool true) := by
  refine thicketlaw05_BitsMeets.calls (R := fun v' u => v' = _ ∧ Below w.heap.size w u) ?_
  unfold thicketlaw05_BitsMeets thicketlaw05_BitsMeets.g0
  refine E.CallsD.mono (lives_c hT) fun v u1 ⟨hv, k1⟩ => ⟨_, hv, ?_⟩
  show onBool (!true) _ _
  rw [Bool.not_true, onBool_f]
  by_cases hM : okM N f t
  · obtain ⟨p1, p2, p3, p4, p5⟩ := hM
    refine E.CallsD.mono (Mask_ok p1 p2 p3 p4 p5 u1) fun v u2 ⟨am, cm, hv, gm, ham, hgm, k2⟩ => ⟨_, _, _, _, hv, ?_⟩
    refine onNe_f (by omega) ?_
    have k12 := Kept.trans k1 k2
    refine E.CallsD.mono (copied_c (hx.keep k12) hm) fun v u3 ⟨ac, cc, hv, gc, hac, hgc, k3⟩ => ⟨_, _, _, hv, ?_⟩
    have k13 := Kept.trans k12 k3
    have hlm := ham.le
    by_cases hne : n = nW N
    · subst hne
      have hlx := hx.len
      refine E.CallsD.mono (Meet_c hac (fun u ho => ((ham.kept k3).mod ho fun k h4 h5 => by omega).sl) (by have := nW_le p2; omega)) fun v u4 ⟨hv, hb, ho⟩ => ⟨_, hv, ?_⟩
      have k34 : Kept u2 u4 := by
        rcases hgc with h | h
        · exact Kept.only k3 ho h
        · exact Kept.trans k3 (ho.kept fun k h5 h6 => by omega)
      have k14 := Kept.trans k12 k34
      refine onNe_f (by omega) ?_
      have hbl : (List.zipWith (fun x y => x &&& y) xs (maskB N f t)).length = xs.length := by simp [maskB]; omega
      refine E.CallsD.mono (Has_c (i := i) hb.sl hi) fun v u5 ⟨hv, k5⟩ => ⟨_, hv, ?_⟩
      refine E.CallsD.mono (Has_c (i := i) (hx.keep (Kept.trans k14 k5)) hi) fun v u6 ⟨hv, k6⟩ => ⟨_, hv, ?_⟩
      have k46 := Kept.trans k5 k6
      have tail : E.CallsD Go.Proofs.Tryd.prog 25 #[.slice ac (nW N) cc] u6 fun yv67 u68 => ∃ yx_69 : Int, yv67 = .int .i64 yx_69 ∧ (E.CallsD Go.Proofs.Tryd.prog 25 #[.slice a (nW N) c] u68 fun yv70 u71 => ∃ yx_72 : Int, yv70 = .int .i64 yx_72 ∧ ((fun v' u => v' = Value.bool true ∧ Below w.heap.size w u) (.bool (decide (yx_69 ≤ yx_72))) u71)) := by
        refine E.CallsD.mono (Count_c (hb.sl.keep k46) hm) fun v u7 ⟨hv, k7⟩ => ⟨_, hv, ?_⟩
        have k67 := Kept.trans k46 k7
        refine E.CallsD.mono (Count_c (hx.keep (Kept.trans k14 k67)) hm) fun v u8 ⟨hv, k8⟩ => ⟨_, hv, ?_, Kept.trans k14 (Kept.trans k67 k8)⟩
        rw [decide_eq_true]
        have := count_mono hbl fun j hj => by rw [bit_zip (by simp [maskB]; omega)] at hj; exact (Bool.and_eq_true_iff.1 hj).1
        omega
      have hh : has (List.zipWith (fun x y => x &&& y) xs (maskB N f t)) i = (has xs i && (decide (i < N) && !(decide (f ≤ i) && decide (i < t)))) := by
        unfold has
        by_cases h0 : 0 ≤ i
        · rw [decide_eq_true h0, bit_zip (by simp [maskB]; omega)]
          unfold maskB
          rw [bit_ofB, show ((i.toNat : Nat) : Int) = i from by omega]
          simp only [Bool.true_and]
          by_cases h1 : i < N
          · rw [decide_eq_true (show i.toNat < 64 * nW N by unfold nW; omega), Bool.true_and]
          · simp [h1]
        · rw [decide_eq_false h0]; rfl
      rw [hh]
      refine onBool_mk (fun hb1 => ?_) (fun hb1 => ?_)
      · rw [hb1, Bool.true_and]
        have h0 : 0 ≤ i := by
          unfold has at hb1
          exact of_decide_eq_true (Bool.and_eq_true_iff.1 hb1).1
        refine onDec_t (by omega) ?_
        refine onDec (fun h1 => onDec (fun h2 => ?_) (fun h2 => ?_)) (fun h1 => ?_)
        · rw [show (decide (i < N) && !(decide (f ≤ i) && decide (i < t))) = true from by simp; omega]
          exact tail
        · rw [show ((decide (i < N) && !(decide (f ≤ i) && decide (i < t))) == decide (i ≥ t)) = true from by
            rw [beq_iff_eq]
            by_cases h3 : i < t
            · rw [decide_eq_true h1, decide_eq_true (show f ≤ i by omega), decide_eq_true h3, decide_eq_false (show ¬ i ≥ t by omega)]; rfl
            · rw [decide_eq_true h1, decide_eq_false h3, decide_eq_true (show i ≥ t by omega), Bool.and_false]; rfl]
          exact tail
        · rw [show ((decide (i < N) && !(decide (f ≤ i) && decide (i < t))) == false) = true from by simp [h1]]
          exact tail
      · rw [hb1]
        exact tail
    · refine E.CallsD.mono (Meet_no hne) fun v u4 ⟨hv, k4⟩ => ⟨_, hv, ?_⟩
      refine onNe_t (by omega) ?_
      refine onEq_t (by omega) ?_
      refine ⟨?_, Kept.trans k13 k4⟩
      have : ((n : Int) != (nW N : Int)) = true := by simp; omega
      rw [this]
  · refine E.CallsD.mono (Mask_no (n := N) (f := f) (t := t) (by unfold okM at hM; omega) u1) fun v u2 ⟨hv, k2⟩ => ⟨_, _, _, _, hv, ?_⟩
    refine onNe_t (by omega) ?_
    have r : (fun v' u => v' = Value.bool true ∧ Below w.heap.size w u) (.bool true) u2 := ⟨rfl, Kept.trans k1 k2⟩
    refine onDec (fun _ => r) fun _ => onDec (fun _ => r) fun _ => onDec (fun _ => r) fun _ => onDec (fun _ => r) fun _ => ?_
    rw [decide_eq_true (show t > N by unfold okM at hM; omega)]
    exact r
end
end Go.Mir
