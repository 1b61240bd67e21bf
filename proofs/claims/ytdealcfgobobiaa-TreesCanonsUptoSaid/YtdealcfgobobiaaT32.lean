/- Part of a proof of laws of the seat Ytdealcfgobobiaa: functions' weakest preconditions, each checked by the kernel, contracts out of them, plain lemmas; no conditions. -/
import Derived.Test.YtdealcfgobobiaaT31
set_option linter.unusedVariables false
set_option linter.unusedSimpArgs false
set_option maxRecDepth 100000
namespace Go.Mir
open Go Go.E Go.RowKit Go.Tr
section
variable {w u w1 : World} {p q : Addr} {o : Int} {a a1 : Option Addr} {n c n1 c1 g B B' : Nat} {F F' S : Nat → Prop} {nodes : List ND} {xs : List Nat} {ts : List TD} {e e' : ED} {f b t f' b' t' : SH}
theorem model_sized (h : Sized e) : Sized (modelP e) := by
  unfold modelP
  split
  · refine ⟨h.fm, h.bm, by simpa using h.tm, fun x hx => ?_⟩
    obtain ⟨y, hy, rfl⟩ := List.mem_map.1 hx
    obtain ⟨h1, h2⟩ := h.good y hy
    exact ⟨Nat.le_trans (canon_len y.nodes) h1, canon_short h2⟩
  · exact ⟨by simp [edZ], by simp [edZ], by simp [edZ], fun x hx => by cases hx⟩
/-- What is known of the values of TreesCanons. -/
def FCa (e e' : ED) (B : Nat) : Nat → Value → World → Prop := fun i v u =>
  if i = 0 ∨ i = 5 ∨ i = 26 ∨ i = 33 then v = .bool true else if i = 16 ∨ i = 19 then v = .bool (decB (e = e')) else ∃ f b t, v = vE e f b t ∧ OwnE B u e f b t
theorem FCa.keep (i : Nat) (v : Value) (u u' : World) (h : FCa e e' B i v u) (hk : Below u.heap.size u u') : FCa e e' B i v u' := by
  unfold FCa at h ⊢
  split
  · rw [if_pos ‹_›] at h; exact h
  · rw [if_neg ‹_›] at h
    split
    · rw [if_pos ‹_›] at h; exact h
    · rw [if_neg ‹_›] at h
      obtain ⟨f, b, t, h1, h2⟩ := h
      exact ⟨f, b, t, h1, h2.kept hk⟩
theorem canons_loop {R : Value → World → Prop} (hE : GoodE F w1 e f b t) (hE' : GoodE F' w1 e' f' b' t') (h5' : At5 w1 p e' f' b' t') (hend : ∀ u, From w1.heap.size w1 u → R (.bool true) u) : ∀ (k i : Nat) (w : World), i + k = t.n → From w1.heap.size w1 w → thicketlaw07_TreesCanons.l18 R (k + 1) (some p) t.a t.n t.c t.n i w
  | 0, i, w, hi, hw => by
    unfold thicketlaw07_TreesCanons.l18 thicketlaw07_TreesCanons.g18
    refine onDec_f (by omega) ?_
    exact hend w hw
  | k + 1, i, w, hi, hw => by
    have htn := hE.ts.len
    have htn' := hE'.ts.len
    have htm := hE.tm
    unfold thicketlaw07_TreesCanons.l18 thicketlaw07_TreesCanons.g18
    refine onDec_t (by omega) ?_
    have hEw := hE.from hw
    refine hEw.ts.rdT (by omega) (by omega) fun x a' n' c' hxi hL => ?_
    rw [Int.toNat_natCast] at hxi
    have hGx := Go.Mir.GoodE.at hEw hxi hL
    refine box2Tz fun w2 _ hT2 hk2 => ⟨_, hT2.c0, _, _, _, hT2.c1, ?_⟩
    have hG2 := hGx.kept hk2
    refine E.CallsD.mono (Canon_c (o := x.output) hG2) fun v w3 ⟨a3, n3, c3, hv, ho3, hk3⟩ => ⟨_, _, _, _, _, hv, ?_⟩
    refine box2Tz fun w4 _ hT4 hk4 => ?_
    have k24 := Kept.trans hk3 hk4
    have hT24 := hT2.kept k24
    refine ⟨_, hT24.c0, _, _, _, hT24.c1, ?_⟩
    refine E.CallsD.mono (refCanon_c (o := x.output) (hG2.kept k24)) fun v w5 ⟨a5, n5, c5, hv, ho5, hk5⟩ => ⟨_, _, _, _, _, hv, ?_⟩
    refine box2Tz fun w6 _ hT6 hk6 => ?_
    have k46 := Kept.trans hk5 hk6
    have hT46 := hT4.kept k46
    refine ⟨_, hT46.c0, _, _, _, hT46.c1, _, hT6.c0, _, _, _, hT6.c1, ?_⟩
    have hcl := canon_len x.nodes
    have hcs := canon_short hGx.short
    have hxm := hGx.max
    have hxl := hGx.len
    have g3 := (ho3.kept (Kept.trans hk4 k46)).goodS hcl (by omega) hcs
    have g5 := (ho5.kept hk6).goodS hcl (by omega) hcs
    refine E.CallsD.mono (refAlike_c (o := canonO x.output x.nodes) (o1 := canonO x.output x.nodes) g3 g5) fun v w7 ⟨hv, hk7⟩ => ⟨_, hv, ?_⟩
    rw [decB_t ⟨rfl, rfl⟩]
    have k27 := Kept.trans hk2 (Kept.trans k24 (Kept.trans k46 hk7))
    have hw7 := hw.keptThen k27
    have hT27 := hT24.kept (Kept.trans k46 hk7)
    refine ob_f (onNe_f rfl (optN_mk ⟨_, _, _, (h5'.from hw7).c4, ?_⟩))
    refine onDec (fun hlt => ⟨_, hT27.c0, _, _, _, hT27.c1, optN_mk ⟨_, _, _, (h5'.from hw7).c4, ?_⟩⟩) fun hlt u hu => ?_
    · have hE7' := hE'.from hw7
      refine hE7'.ts.rdT (by omega) (by omega) fun y a8 n8 c8 hyi hL' => ?_
      rw [Int.toNat_natCast] at hyi
      have hGy := Go.Mir.GoodE.at hE7' hyi hL'
      have hGx7 := hGx.kept k27
      refine ⟨decB (x.output = y.output ∧ x.nodes = y.nodes), fun u hu => pq (Alike_c (hGx7.kept hu) (hGy.kept hu)) hu, _, hT27.c0, _, _, _, hT27.c1, optN_mk ⟨_, _, _, (h5'.from hw7).c4, ?_⟩⟩
      refine hE7'.ts.rdT (by omega) (by omega) fun y' a9 n9 c9 hyi' hL9 => ?_
      rw [Int.toNat_natCast, hyi] at hyi'
      obtain rfl : y = y' := by simpa using hyi'
      have hGy9 := Go.Mir.GoodE.at hE7' hyi hL9
      refine ⟨decB (x.output = y.output ∧ x.nodes = y.nodes), fun u hu => pq (refAlike_c (hGx7.kept hu) (hGy9.kept hu)) hu, fun u hu => ?_⟩
      rw [beq_self_eq_true]
      refine ob_f ?_
      refine nv_succ (by omega) ?_
      exact canons_loop hE hE' h5' hend k (i + 1) u (by omega) (hw7.keptThen hu)
    · refine nv_succ (by omega) ?_
      exact canons_loop hE hE' h5' hend k (i + 1) u (by omega) (hw7.keptThen hu)
/-- The law TreesCanons. -/
theorem treesCanons_law (hE : GoodE F w e f b t) (hE' : GoodE F' w e' f' b' t') : Pure Go.Proofs.Try.prog 11 #[vE e f b t, vE e' f' b' t'] w (.bool true) := by
  refine thicketlaw07_TreesCanons.calls (R := fun v' u => v' = _ ∧ Below w.heap.size w u) ?_
  unfold thicketlaw07_TreesCanons thicketlaw07_TreesCanons.g0
  refine box5 fun w1 _ h5 hk1 => box5 fun w2 _ h5' hk2 => ?_
  have k2 := Kept.trans hk1 hk2
  have h52 := h5.kept hk2
  refine h52.ld ?_
  refine E.CallsD.mono (Model_c (hE.kept k2)) fun v w3 ⟨f3, b3, t3, hv, ho3, hk3⟩ => ⟨_, _, _, _, _, _, _, _, _, _, _, _, hv, ?_⟩
  refine box5z (f := f3) (b := b3) (t := t3) fun w4 _ h54 hk4 => ?_
  have k24 := Kept.trans hk3 hk4
  refine (h52.kept k24).ld ?_
  have k4 := Kept.trans k2 k24
  refine E.CallsD.mono (refModel_c (hE.kept k4)) fun v w5 ⟨f5, b5, t5, hv, ho5, hk5⟩ => ⟨_, _, _, _, _, _, _, _, _, _, _, _, hv, ?_⟩
  refine box5z (f := f5) (b := b5) (t := t5) fun w6 _ h56 hk6 => ?_
  have k46 := Kept.trans hk5 hk6
  have k6 := Kept.trans k4 k46
  have h546 := h54.kept k46
  have h526 := h52.kept (Kept.trans k24 k46)
  have h5'6 := h5'.kept (Kept.trans k24 k46)
  have hms := model_sized (Go.Mir.GoodE.sized hE)
  have g3 := Go.Mir.OwnE.good (ho3.kept (Kept.trans hk4 k46)) hms
  have g5 := Go.Mir.OwnE.good (ho5.kept hk6) hms
  have hE6 := hE.kept k6
  have hE6' := hE'.kept k6
  have hes := Go.Mir.GoodE.sized hE
  refine ⟨FCa e e' w6.heap.size, FCa.keep, fun u hu => E.CallsD.mono (lives_c u) fun v u' ⟨hv, hk⟩ => ⟨_, hv, rfl, hk⟩, fun b0 ⟨_, _, hb0⟩ => ?_⟩
  obtain rfl : b0 = true := bool_true hb0
  refine ob_f (h546.ld (h56.ld ⟨fun u hu _ => E.CallsD.mono (refSame_c (g3.kept hu) (g5.kept hu)) fun v u' ⟨hv, hk⟩ => ⟨_, hv, ?_, hk⟩, fun b5' ⟨_, _, hb5⟩ => ?_⟩))
  · show Value.bool _ = _
    rw [decB_t rfl]
  obtain rfl : b5' = true := bool_true hb5
  refine ob_f (onNe_f rfl (h526.ld (h5'6.ld ⟨fun u hu _ _ => E.CallsD.mono (Same_c (hE6.kept hu) (hE6'.kept hu)) fun v u' ⟨hv, hk⟩ => ⟨_, hv, rfl, hk⟩, fun b16 ⟨_, _, hb16⟩ => h526.ld (h5'6.ld ⟨fun u hu _ _ _ => E.CallsD.mono (refSame_c (hE6.kept hu) (hE6'.kept hu)) fun v u' ⟨hv, hk⟩ => ⟨_, hv, rfl, hk⟩, fun b19 ⟨_, _, hb19⟩ => ?_⟩)⟩)))
  have e16 : Value.bool b16 = .bool (decB (e = e')) := hb16
  have e19 : Value.bool b19 = .bool (decB (e = e')) := hb19
  have e1619 : b16 = b19 := by simp only [Value.bool.injEq] at e16 e19; rw [e16, e19]
  subst e1619
  rw [beq_self_eq_true]
  refine ob_f (h526.ld (h526.ld ⟨fun u hu _ _ _ _ => E.CallsD.mono (refCopy_c (hE6.kept hu)) fun v u' ⟨f7, b7, t7, hv, ho, hk⟩ => ⟨_, _, _, _, _, _, _, _, _, _, _, hv, ⟨f7, b7, t7, rfl, ho.weak hu.size⟩, hk⟩, fun s7 a7 n7 c7 x7 d7 m7 r7 a8 n8 c8 _ => ⟨fun u hu _ _ _ _ hF => ?_, fun b26 ⟨_, _, hb26⟩ => ?_⟩⟩))
  · obtain ⟨f7, b7, t7, hv, ho⟩ : ∃ f b t, Value.agg _ = vE e f b t ∧ OwnE _ u e f b t := hF
    rw [hv]
    refine E.CallsD.mono (Same_c (hE6.kept hu) (Go.Mir.OwnE.good ho hes)) fun v u' ⟨hv, hk⟩ => ⟨_, hv, ?_, hk⟩
    show Value.bool _ = _
    rw [decB_t rfl]
  obtain rfl : b26 = true := bool_true hb26
  refine ob_f (h526.ld ⟨fun u hu _ _ _ _ _ _ => E.CallsD.mono (Copy_c (hE6.kept hu)) fun v u' ⟨f7, b7, t7, hv, ho, hk⟩ => ⟨_, _, _, _, _, _, _, _, _, _, _, hv, ⟨f7, b7, t7, rfl, ho.weak hu.size⟩, hk⟩, fun s9 a9 n9 c9 x9 d9 m9 r9 a10 n10 c10 _ => h526.ld ⟨fun u hu _ _ _ _ _ _ hF => ?_, fun b33 ⟨_, _, hb33⟩ u hu _ _ _ _ _ _ _ _ => ?_⟩⟩)
  · obtain ⟨f7, b7, t7, hv, ho⟩ : ∃ f b t, Value.agg _ = vE e f b t ∧ OwnE _ u e f b t := hF
    rw [hv]
    refine E.CallsD.mono (refSame_c (Go.Mir.OwnE.good ho hes) (hE6.kept hu)) fun v u' ⟨hv, hk⟩ => ⟨_, hv, ?_, hk⟩
    show Value.bool _ = _
    rw [decB_t rfl]
  obtain rfl : b33 = true := bool_true hb33
  have hu5 := h526.kept hu
  refine ob_f ⟨_, _, _, hu5.c4, t.n + 1, canons_loop (w1 := u) (hE6.kept hu) (hE6'.kept hu) (h5'6.kept hu) (fun u2 hu2 => ⟨rfl, Kept.trans k6 (Kept.trans hu (From.kept hu2))⟩) t.n 0 u (by omega) (From.refl _ _)⟩
end
end Go.Mir
