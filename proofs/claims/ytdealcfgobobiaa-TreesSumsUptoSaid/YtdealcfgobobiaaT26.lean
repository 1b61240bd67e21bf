/- Part of a proof of laws of the seat Ytdealcfgobobiaa: functions' weakest preconditions, each checked by the kernel, contracts out of them, plain lemmas; no conditions. -/
import Derived.Test.YtdealcfgobobiaaT25
set_option linter.unusedVariables false
set_option linter.unusedSimpArgs false
set_option maxRecDepth 100000
namespace Go.Mir
open Go Go.E Go.RowKit Go.Tr
section
variable {w u w1 : World} {p q : Addr} {o o1 : Int} {a a1 b1 : Option Addr} {n c n1 c1 m d g B B' : Nat} {F F' S : Nat → Prop} {nodes nodes' : List ND} {ts ts' : List TD} {e e' : ED} {f b t f' b' t' : SH} {x y : TD}
theorem TD_iff : x = y ↔ (x.output = y.output ∧ x.nodes = y.nodes) := by
  constructor
  · intro h; rw [h]; exact ⟨rfl, rfl⟩
  · intro h; cases x; cases y; simp_all
theorem ED_eq (h0 : e.name = e'.name) (h1 : e.features = e'.features) (h2 : e.outputs = e'.outputs) (h3 : e.base = e'.base) (h4 : e.trees = e'.trees) : e = e' := by
  cases e; cases e'; simp_all
theorem eqt_loop {R : Value → World → Prop} (hE : GoodE F w1 e f b t) (hE' : GoodE F' w1 e' f' b' t') (he : t.n = t'.n) (hR : ∀ u, From w1.heap.size w1 u → R (.bool (decB (e.trees = e'.trees))) u) : ∀ (k i : Nat) (w : World), i + k = t.n → From w1.heap.size w1 w → e.trees.take i = e'.trees.take i → Equal_tree.l14 R (k + 1) t'.a t'.n t'.c t.a t.n t.c t.n i w
  | 0, i, w, hi, hw, hp => by
    have hn := hE.ts.len
    have hn' := hE'.ts.len
    unfold Equal_tree.l14 Equal_tree.g14
    refine onDec_f (by omega) ?_
    rw [List.take_of_length_le (by omega), List.take_of_length_le (by omega)] at hp
    have := hR w hw
    rw [decB_t hp] at this
    exact this
  | k + 1, i, w, hi, hw, hp => by
    have hn := hE.ts.len
    have hn' := hE'.ts.len
    have hmx := hE.tm
    unfold Equal_tree.l14 Equal_tree.g14
    refine onDec_t (by omega) ?_
    have hEw := hE.from hw
    refine hEw.ts.rdT (by omega) (by omega) fun x a5 n5 c5 hx hL => ?_
    rw [Int.toNat_natCast] at hx
    have hGx := Go.Mir.GoodE.at hEw hx hL
    refine box2Tz fun u _ hb hk => ?_
    have hu := hw.keptThen hk
    have hEu := hE'.from hu
    refine hEu.ts.rdT (by omega) (by omega) fun y a6 n6 c6 hy hL' => ?_
    rw [Int.toNat_natCast] at hy
    have hGy := Go.Mir.GoodE.at hEu hy hL'
    refine box2Tz fun u2 _ hb2 hk2 => ?_
    have hb' := hb.kept hk2
    refine ⟨_, hb'.c0, _, _, _, hb'.c1, _, hb2.c0, _, _, _, hb2.c1, ?_⟩
    refine E.CallsD.mono (Alike_c (o := x.output) (o1 := y.output) (hGx.kept (Kept.trans hk hk2)) (hGy.kept hk2)) fun v u3 ⟨hv, hk3⟩ => ⟨_, hv, ?_⟩
    have hu3 := (hu.keptThen hk2).keptThen hk3
    rw [decB_eq TD_iff.symm]
    by_cases h : x = y
    · rw [decB_t h]
      subst h
      refine ob_f ?_
      refine nv_succ (by omega) ?_
      exact eqt_loop hE hE' he hR k (i + 1) u3 (by omega) hu3 (by rw [take_snoc hx, take_snoc hy, hp])
    · rw [decB_f h]
      refine ob_t ?_
      have := hR u3 hu3
      rw [decB_f (ne_of_get hx hy h)] at this
      exact this
theorem EqualT_c (hE : GoodE F w e f b t) (hE' : GoodE F' w e' f' b' t') : Pure Go.Proofs.Try.prog 67 #[.slice t.a t.n t.c, .slice t'.a t'.n t'.c, .func (.func 38) #[] #[]] w (.bool (decB (e.trees = e'.trees))) := by
  refine Equal_tree.calls (R := fun v' u => v' = _ ∧ Below w.heap.size w u) ?_
  unfold Equal_tree Equal_tree.g0
  have hl := hE.ts.len
  have hl2 := hE'.ts.len
  refine onNe (fun h => ⟨by rw [decB_f]; intro h'; rw [h'] at hl; omega, Below.refl _ _⟩) fun h => ?_
  exact ⟨t.n + 1, eqt_loop hE hE' (by omega) (fun u hu => ⟨rfl, From.kept hu⟩) t.n 0 w (by omega) (From.refl _ _) rfl⟩
theorem Same_c (hE : GoodE F w e f b t) (hE' : GoodE F' w e' f' b' t') : Pure Go.Proofs.Try.prog 40 #[vE e f b t, vE e' f' b' t'] w (.bool (decB (e = e'))) := by
  refine trees_Same.calls (R := fun v' u => v' = _ ∧ Below w.heap.size w u) ?_
  unfold trees_Same trees_Same.g0
  refine box5 fun w1 _ h51 hk1 => box5 fun w2 _ h52 hk2 => ?_
  have h5 := h51.kept hk2
  have hk := Kept.trans hk1 hk2
  have no : ∀ u, e ≠ e' → Kept w u → (Value.bool false = .bool (decB (e = e')) ∧ Below w.heap.size w u) := fun u h hu => ⟨by rw [decB_f h], hu⟩
  refine ⟨_, h5.c0, _, h52.c0, onStr (fun e0 => ?_) fun e0 => no _ (fun h => e0 (by rw [h])) hk⟩
  refine ⟨_, _, _, h5.c1, _, _, _, h52.c1, ?_⟩
  have hE2 := hE.kept hk
  have hE2' := hE'.kept hk
  have hfm := hE.fm
  refine E.CallsD.mono (EqualS_c hE2.fs.sl hE2'.fs.sl (by omega)) fun v w3 ⟨hv, hk3⟩ => ⟨_, hv, ?_⟩
  have k3 := Kept.trans hk hk3
  refine (onBool_iff _ _ _).2 ⟨fun e1 => ?_, fun e1 => no _ (fun h => by rw [decB_t (by rw [h])] at e1; cases e1) k3⟩
  have e1' : e.features = e'.features := Classical.byContradiction fun h => by rw [decB_f h] at e1; cases e1
  have h53 := h5.kept hk3
  have h53' := h52.kept hk3
  refine ⟨_, h53.c2, _, h53'.c2, onEq (fun e2 => ?_) fun e0 => no _ (fun h => e0 (by rw [h])) k3⟩
  refine ⟨_, _, _, h53.c3, _, _, _, h53'.c3, ?_⟩
  have hbm := hE.bm
  refine E.CallsD.mono (EqualJ_c (hE.kept k3).bs.sl (hE'.kept k3).bs.sl (by omega)) fun v w4 ⟨hv, hk4⟩ => ⟨_, hv, ?_⟩
  have k4 := Kept.trans k3 hk4
  refine (onBool_iff _ _ _).2 ⟨fun e3 => ?_, fun e1 => no _ (fun h => by rw [decB_t (by rw [h])] at e1; cases e1) k4⟩
  have e3' : e.base = e'.base := Classical.byContradiction fun h => by rw [decB_f h] at e3; cases e3
  have h54 := h53.kept hk4
  have h54' := h53'.kept hk4
  refine ⟨_, _, _, h54.c4, _, _, _, h54'.c4, ?_⟩
  refine E.CallsD.mono (EqualT_c (hE.kept k4) (hE'.kept k4)) fun v w5 ⟨hv, hk5⟩ => ⟨_, hv, ?_, Kept.trans k4 hk5⟩
  rw [decB_eq (p := e.trees = e'.trees) (q := e = e') ⟨fun h => ED_eq e0 e1' e2 e3' h, fun h => by rw [h]⟩]
/-! ### the document's Same -/
theorem refsame_l3 {R : Value → World → Prop} (hE : GoodE F w1 e f b t) (hE' : GoodE F' w1 e' f' b' t') (h5 : At5 w1 p e f b t) (h5' : At5 w1 q e' f' b' t') (he : t.n = t'.n) (hR : ∀ u, From w1.heap.size w1 u → R (.bool (decB (e.trees = e'.trees))) u) : ∀ (k i : Nat) (w : World), i + k = t.n → From w1.heap.size w1 w → e.trees.take i = e'.trees.take i → thicketref07_Same.l60 R (k + 1) (some p) (some q) t.n i w
  | 0, i, w, hi, hw, hp => by
    have hn := hE.ts.len
    have hn' := hE'.ts.len
    unfold thicketref07_Same.l60 thicketref07_Same.g60
    refine onDec_f (by omega) ?_
    rw [List.take_of_length_le (by omega), List.take_of_length_le (by omega)] at hp
    have := hR w hw
    rw [decB_t hp] at this
    exact this
  | k + 1, i, w, hi, hw, hp => by
    have hn := hE.ts.len
    have hn' := hE'.ts.len
    have hmx := hE.tm
    unfold thicketref07_Same.l60 thicketref07_Same.g60
    refine onDec_t (by omega) ?_
    have hEw := hE.from hw
    have hEw' := hE'.from hw
    refine optN_mk ⟨_, _, _, (h5.from hw).c4, ?_⟩
    refine hEw.ts.rdT (by omega) (by omega) fun x a5 n5 c5 hx hL => ?_
    rw [Int.toNat_natCast] at hx
    refine optN_mk ⟨_, _, _, (h5'.from hw).c4, ?_⟩
    refine hEw'.ts.rdT (by omega) (by omega) fun y a6 n6 c6 hy hL' => ?_
    rw [Int.toNat_natCast] at hy
    refine E.CallsD.mono (refAlike_c (o := x.output) (o1 := y.output) (Go.Mir.GoodE.at hEw hx hL) (Go.Mir.GoodE.at hEw' hy hL')) fun v u3 ⟨hv, hk3⟩ => ⟨_, hv, ?_⟩
    have hu3 := hw.keptThen hk3
    rw [decB_eq TD_iff.symm]
    by_cases h : x = y
    · rw [decB_t h]
      subst h
      refine ob_f ?_
      refine nv_succ (by omega) ?_
      exact refsame_l3 hE hE' h5 h5' he hR k (i + 1) u3 (by omega) hu3 (by rw [take_snoc hx, take_snoc hy, hp])
    · rw [decB_f h]
      refine ob_t ?_
      have := hR u3 hu3
      rw [decB_f (ne_of_get hx hy h)] at this
      exact this
theorem refsame_l2 {R : Value → World → Prop} (hE : GoodE F w1 e f b t) (hE' : GoodE F' w1 e' f' b' t') (h5 : At5 w1 p e f b t) (h5' : At5 w1 q e' f' b' t') (he : b.n = b'.n) (hno : e.base ≠ e'.base → R (.bool false) w1) (hyes : e.base = e'.base → thicketref07_Same.e60 R (some p) (some q) t.n 0 w1) : ∀ (k i : Nat), i + k = b.n → e.base.take i = e'.base.take i → thicketref07_Same.l37 R (k + 1) (some p) (some q) b.n i w1
  | 0, i, hi, hp => by
    have hn := hE.bs.len
    have hn' := hE'.bs.len
    unfold thicketref07_Same.l37 thicketref07_Same.g37
    refine onDec_f (by omega) ?_
    rw [List.take_of_length_le (by omega), List.take_of_length_le (by omega)] at hp
    exact optN_mk ⟨_, _, _, h5.c4, hyes hp⟩
  | k + 1, i, hi, hp => by
    have hn := hE.bs.len
    have hn' := hE'.bs.len
    have hmx := hE.bm
    unfold thicketref07_Same.l37 thicketref07_Same.g37
    refine onDec_t (by omega) ?_
    refine optN_mk ⟨_, _, _, h5.c3, ?_⟩
    refine hE.bs.sl.rdI (k := .i64) (by omega) (by omega) fun x hx => optN_mk ⟨_, _, _, h5'.c3, ?_⟩
    refine hE'.bs.sl.rdI (k := .i64) (by omega) (by omega) fun y hy => ?_
    rw [Int.toNat_natCast] at hx hy
    refine onNe (fun h => hno (ne_of_get hx hy h)) fun h => ?_
    subst h
    refine nv_succ (by omega) ?_
    exact refsame_l2 hE hE' h5 h5' he hno hyes k (i + 1) (by omega) (by rw [take_snoc hx, take_snoc hy, hp])
theorem refsame_l1 {R : Value → World → Prop} (hE : GoodE F w1 e f b t) (hE' : GoodE F' w1 e' f' b' t') (h5 : At5 w1 p e f b t) (h5' : At5 w1 q e' f' b' t') (he : f.n = f'.n) (hno : e.features ≠ e'.features → R (.bool false) w1) (hyes : e.features = e'.features → thicketref07_Same.e37 R (some p) (some q) b.n 0 w1) : ∀ (k i : Nat), i + k = f.n → e.features.take i = e'.features.take i → thicketref07_Same.l14 R (k + 1) (some p) (some q) f.n i w1
  | 0, i, hi, hp => by
    have hn := hE.fs.len
    have hn' := hE'.fs.len
    unfold thicketref07_Same.l14 thicketref07_Same.g14
    refine onDec_f (by omega) ?_
    rw [List.take_of_length_le (by omega), List.take_of_length_le (by omega)] at hp
    exact optN_mk ⟨_, _, _, h5.c3, hyes hp⟩
  | k + 1, i, hi, hp => by
    have hn := hE.fs.len
    have hn' := hE'.fs.len
    have hmx := hE.fm
    unfold thicketref07_Same.l14 thicketref07_Same.g14
    refine onDec_t (by omega) ?_
    refine optN_mk ⟨_, _, _, h5.c1, ?_⟩
    refine rdS hE.fs.sl (by omega) (by omega) fun x hx => optN_mk ⟨_, _, _, h5'.c1, ?_⟩
    refine rdS hE'.fs.sl (by omega) (by omega) fun y hy => ?_
    rw [Int.toNat_natCast] at hx hy
    refine onStrN (fun h => hno (ne_of_get hx hy h)) fun h => ?_
    subst h
    refine nv_succ (by omega) ?_
    exact refsame_l1 hE hE' h5 h5' he hno hyes k (i + 1) (by omega) (by rw [take_snoc hx, take_snoc hy, hp])
theorem refSame_c (hE : GoodE F w e f b t) (hE' : GoodE F' w e' f' b' t') : Pure Go.Proofs.Try.prog 24 #[vE e f b t, vE e' f' b' t'] w (.bool (decB (e = e'))) := by
  refine thicketref07_Same.calls (R := fun v' u => v' = _ ∧ Below w.heap.size w u) ?_
  unfold thicketref07_Same thicketref07_Same.g0
  refine box5 fun w1 _ h51 hk1 => box5 fun w2 _ h52 hk2 => ?_
  have h5 := h51.kept hk2
  have hk := Kept.trans hk1 hk2
  have no : e ≠ e' → (Value.bool false = .bool (decB (e = e')) ∧ Below w.heap.size w w2) := fun h => ⟨by rw [decB_f h], hk⟩
  have hE2 := hE.kept hk
  have hE2' := hE'.kept hk
  have l1 := hE.fs.len
  have l1' := hE'.fs.len
  have l2 := hE.bs.len
  have l2' := hE'.bs.len
  have l3 := hE.ts.len
  have l3' := hE'.ts.len
  refine ⟨_, h5.c0, _, h52.c0, onStrN (fun e0 => no fun h => e0 (by rw [h])) fun e0 => ?_⟩
  refine ⟨_, h5.c2, _, h52.c2, onNe (fun e0 => no fun h => e0 (by rw [h])) fun e2 => ?_⟩
  refine ⟨_, _, _, h5.c1, _, _, _, h52.c1, onNe (fun e0 => no fun h => e0 (by rw [l1, l1', h])) fun n1 => ?_⟩
  refine ⟨_, _, _, h5.c3, _, _, _, h52.c3, onNe (fun e0 => no fun h => e0 (by rw [l2, l2', h])) fun n2 => ?_⟩
  refine ⟨_, _, _, h5.c4, _, _, _, h52.c4, onNe (fun e0 => no fun h => e0 (by rw [l3, l3', h])) fun n3 => ⟨_, _, _, h5.c1, ?_⟩⟩
  refine ⟨f.n + 1, refsame_l1 hE2 hE2' h5 h52 (by omega) (fun h => no fun h' => h (by rw [h'])) (fun e1 => ?_) f.n 0 (by omega) rfl⟩
  refine ⟨b.n + 1, refsame_l2 hE2 hE2' h5 h52 (by omega) (fun h => no fun h' => h (by rw [h'])) (fun e3 => ?_) b.n 0 (by omega) rfl⟩
  exact ⟨t.n + 1, refsame_l3 (w1 := w2) hE2 hE2' h5 h52 (by omega) (fun u hu => ⟨by rw [decB_eq (p := e.trees = e'.trees) (q := e = e') ⟨fun h => ED_eq e0 e1 e2 e3 h, fun h => by rw [h]⟩], Kept.trans hk (From.kept hu)⟩) t.n 0 w2 (by omega) (From.refl _ _) rfl⟩
end
end Go.Mir
