/- Part of a proof of laws of the seat Ytmjlipmapfofmaa: functions' weakest preconditions, each checked by the kernel, contracts out of them, plain lemmas; no conditions. -/
import Derived.Test.YtmjlipmapfofmaaKA
import Derived.Test.YtmjlipmapfofmaaED
import Derived.Test.YtmjlipmapfofmaaSA
set_option linter.unusedVariables false
set_option linter.unusedSimpArgs false
set_option linter.unusedSectionVars false
set_option maxRecDepth 100000
namespace Go.Mir
open Go Go.E Go.RowKit Go.Tr
section
variable {w : World} {a a1 : OA} {n c n1 c1 : Nat} {F F' : Nat → Prop}
theorem cut_eq {x y : CutD} (h0 : x.thr = y.thr) (h1 : x.cats = y.cats) (h2 : x.tree = y.tree) (h3 : x.frm = y.frm) (h4 : x.to = y.to) : x = y := by cases x; cases y; simp_all
theorem lst_eq {x y : LstD} (h0 : x.feature = y.feature) (h1 : x.numbers = y.numbers) (h2 : x.cats = y.cats) (h3 : x.lost = y.lost) : x = y := by cases x; cases y; simp_all
theorem blk_eq {x y : BlkD} (h0 : x.first = y.first) (h1 : x.leaves = y.leaves) (h2 : x.values = y.values) (h3 : x.outputs = y.outputs) (h4 : x.lists = y.lists) : x = y := by cases x; cases y; simp_all
theorem form_eq {x y : FormD} (h0 : x.features = y.features) (h1 : x.outputs = y.outputs) (h2 : x.base = y.base) (h3 : x.blocks = y.blocks) : x = y := by cases x; cases y; simp_all
abbrev vC (x : CutD) (s : SH) : Value := ag71 x.thr s.a s.n s.c x.tree x.frm x.to
abbrev vL (x : LstD) (s t u : SH) : Value := ag68 x.feature s.a s.n s.c t.a t.n t.c u.a u.n u.c
abbrev vB (x : BlkD) (s t u v : SH) : Value := ag65 x.first s.a s.n s.c t.a t.n t.c u.a u.n u.c v.a v.n v.c
abbrev vF (x : FormD) (s t : SH) : Value := ag36 x.features x.outputs s.a s.n s.c t.a t.n t.c
abbrev vFr (f o : Int) (s t : SH) : Value := ag36 f o s.a s.n s.c t.a t.n t.c
theorem cuts1_c {x y : CutD} {s t : SH} (hs : LsI F w s.a s.n s.c x.cats) (ht : LsI F' w t.a t.n t.c y.cats) (hm : x.sm) : Pure Go.Proofs.Try.prog 64 #[vC x s, vC y t] w (.bool (decB (x = y))) := by
  refine blocks_cuts_1.calls (R := fun v' u => v' = _ ∧ Below w.heap.size w u) ?_
  unfold blocks_cuts_1 blocks_cuts_1.g0
  refine boxN (cs := (enC x s).toArray) fun w1 hx1 hk1 => boxN (cs := (enC y t).toArray) fun w2 hy hk2 => ?_
  have hx := hx1.kept hk2
  have hk := Kept.trans hk1 hk2
  have no : x ≠ y → ∀ u, Below w2.heap.size w2 u → (Value.bool false = .bool (decB (x = y)) ∧ Below w.heap.size w u) := fun h u hu => ⟨by rw [decB_f h], Kept.trans hk hu⟩
  refine ⟨_, hx 0 _ rfl, _, fb _ _, _, hy 0 _ rfl, _, fb _ _, onEq (fun e0 => ?_) fun e0 => no fun h => e0 (by rw [h])⟩
  have hl := hs.len
  refine ⟨_, _, _, hx 1 _ rfl, _, _, _, hy 1 _ rfl, decB (x.cats = y.cats), fun u hu => pq (EqualI_c ((hs.kept (Kept.trans hk hu)).sl) ((ht.kept (Kept.trans hk hu)).sl) (by have : x.cats.length ≤ 1048576 := hm; omega)) hu, ?_⟩
  refine (onBool_iff _ _ _).2 ⟨fun e1 => ?_, fun e1 => no fun h => by rw [decB_t (by rw [h])] at e1; cases e1⟩
  refine ⟨_, hx 2 _ rfl, _, hy 2 _ rfl, onEq (fun e2 => ?_) fun e2 => no fun h => e2 (by rw [h])⟩
  refine ⟨_, hx 3 _ rfl, _, hy 3 _ rfl, onEq (fun e3 => ?_) fun e3 => no fun h => e3 (by rw [h])⟩
  refine ⟨_, hx 4 _ rfl, _, hy 4 _ rfl, fun u hu => ⟨?_, Kept.trans hk hu⟩⟩
  have h1 : x.cats = y.cats := Classical.byContradiction fun h => by rw [decB_f h] at e1; cases e1
  by_cases e4 : x.to = y.to
  · rw [decB_t (cut_eq (by omega) h1 e2 e3 e4), e4]; simp
  · rw [decB_f (fun h => e4 (by rw [h]))]; simp [e4]
theorem eqCut_c {xs ys : List CutD} (hs : Ls tC F w a n c xs) (ht : Ls tC F' w a1 n1 c1 ys) (hm : CutsSm xs) : Pure Go.Proofs.Try.prog 63 #[.slice a n c, .slice a1 n1 c1, .func (.func 64) #[] #[]] w (.bool (decB (xs = ys))) := by
  refine Eq_cut.calls (R := fun v' u => v' = _ ∧ Below w.heap.size w u) ?_
  unfold Eq_cut Eq_cut.g0
  have hl := hs.len
  have hl2 := ht.len
  have hmx : xs.length ≤ 1073741824 := hm.1
  refine onNe (fun h => ⟨by rw [decB_f]; intro e; subst e; omega, Below.refl _ _⟩) fun h => ?_
  refine ⟨n + 1, eqS (xs := xs) (ys := ys) (L := fun k i w => Eq_cut.l14 _ k a1 n1 c1 a n c n i w) hl (by omega) (W := Kept w) (T := fun u => Value.bool true = .bool (decB (xs = ys)) ∧ Kept w u) (Fl := fun u => Value.bool false = .bool (decB (xs = ys)) ∧ Kept w u) ?_ (fun k u hu hT => ?_) (fun e u hu => ⟨by rw [decB_t e], hu⟩) (fun e u hu => ⟨by rw [decB_f e], hu⟩) n 0 w (by omega) rfl (Kept.refl w)⟩
  · intro k i u x y hu hi hx hy hN hF
    rw [Eq_cut.u14]; unfold Eq_cut.g14
    refine onDec_t (by omega) ?_
    refine (hs.kept hu).rdC (by omega) (by omega) fun x' a' n' c' hx' hcx => ?_
    rw [Int.toNat_natCast] at hx'
    obtain rfl : x = x' := by rw [hx] at hx'; cases hx'; rfl
    refine boxS (zs := [.float .f64 0, .slice none 0 0, .int .i64 0, .int .i64 0, .int .i64 0]) (vs := enC x ⟨a', n', c'⟩) rfl fun u1 hA1 _ hk1 => ?_
    refine ((ht.kept hu).kept hk1).rdC (by omega) (by omega) fun y' a2 n2 c2 hy' hcy => ?_
    rw [Int.toNat_natCast] at hy'
    obtain rfl : y = y' := by rw [hy] at hy'; cases hy'; rfl
    refine boxS (zs := [.float .f64 0, .slice none 0 0, .int .i64 0, .int .i64 0, .int .i64 0]) (vs := enC y ⟨a2, n2, c2⟩) rfl fun u2 hA2 _ hk2 => ?_
    refine (hA1.kept hk2).ldC (hA2.ldC ?_)
    exact tellN (cuts1_c (s := ⟨a', n', c'⟩) (t := ⟨a2, n2, c2⟩) (hcx.kept (Kept.trans hk1 hk2)) (hcy.kept hk2) (hm.2 x (List.mem_of_getElem? hx))) (fun h v hv => hF h v (Kept.trans (Kept.trans (Kept.trans hu hk1) hk2) hv)) fun h v hv => nv_succ (by omega) (hN h v (Kept.trans (Kept.trans (Kept.trans hu hk1) hk2) hv))
  · rw [Eq_cut.u14]; unfold Eq_cut.g14
    refine onDec_f (by omega) ?_
    exact hT
theorem bcuts_c {xs ys : List CutD} (hs : Ls tC F w a n c xs) (ht : Ls tC F' w a1 n1 c1 ys) (hm : CutsSm xs) : Pure Go.Proofs.Try.prog 39 #[.slice a n c, .slice a1 n1 c1] w (.bool (decB (xs = ys))) := by
  refine blocks_cuts.calls (R := fun v' u => v' = _ ∧ Below w.heap.size w u) ?_
  unfold blocks_cuts blocks_cuts.g0
  exact tell1 (eqCut_c hs ht hm) fun u hu => ⟨rfl, hu⟩
theorem same11_c {x y : LstD} {s1 s2 s3 t1 t2 t3 : SH} (h1 : Ls tC F w s1.a s1.n s1.c x.numbers) (h2 : Ls tC F w s2.a s2.n s2.c x.cats) (h3 : Ls tC F w s3.a s3.n s3.c x.lost) (g1 : Ls tC F' w t1.a t1.n t1.c y.numbers) (g2 : Ls tC F' w t2.a t2.n t2.c y.cats) (g3 : Ls tC F' w t3.a t3.n t3.c y.lost) (hm : x.sm) :
    Pure Go.Proofs.Try.prog 38 #[vL x s1 s2 s3, vL y t1 t2 t3] w (.bool (decB (x = y))) := by
  refine blocks_Same_1_1.calls (R := fun v' u => v' = _ ∧ Below w.heap.size w u) ?_
  unfold blocks_Same_1_1 blocks_Same_1_1.g0
  refine boxN (cs := (enL x s1 s2 s3).toArray) fun w1 hx1 hk1 => boxN (cs := (enL y t1 t2 t3).toArray) fun w2 hy hk2 => ?_
  have hx := hx1.kept hk2
  have hk := Kept.trans hk1 hk2
  refine ⟨_, hx 0 _ rfl, _, hy 0 _ rfl, onEq (fun e0 => ?_) fun e0 => ⟨by rw [decB_f (fun h => e0 (by rw [h]))], hk⟩⟩
  refine ⟨_, _, _, hx 1 _ rfl, _, _, _, hy 1 _ rfl, tellT (bcuts_c (h1.kept hk) (g1.kept hk) hm.1) (fun e1 u1 hu1 => ?_) fun e1 u1 hu1 => ⟨by rw [decB_f (fun h => e1 (by rw [h]))], Kept.trans hk hu1⟩⟩
  refine ⟨_, _, _, hx.kept hu1 2 _ rfl, _, _, _, hy.kept hu1 2 _ rfl, tellT (bcuts_c (h2.kept (Kept.trans hk hu1)) (g2.kept (Kept.trans hk hu1)) hm.2.1) (fun e2 u2 hu2 => ?_) fun e2 u2 hu2 => ⟨by rw [decB_f (fun h => e2 (by rw [h]))], Kept.trans (Kept.trans hk hu1) hu2⟩⟩
  have hk' := Kept.trans (Kept.trans hk hu1) hu2
  refine ⟨_, _, _, hx.kept (Kept.trans hu1 hu2) 3 _ rfl, _, _, _, hy.kept (Kept.trans hu1 hu2) 3 _ rfl, tell1 (bcuts_c (h3.kept hk') (g3.kept hk') hm.2.2) fun u3 hu3 => ⟨?_, Kept.trans hk' hu3⟩⟩
  rw [decB_eq (p := x.lost = y.lost) (q := x = y) ⟨fun h => lst_eq e0 e1 e2 h, fun h => by rw [h]⟩]
theorem eqList_c {xs ys : List LstD} (hs : Ls tL F w a n c xs) (ht : Ls tL F' w a1 n1 c1 ys) (hm : n ≤ 1073741824) (hsm : ∀ x ∈ xs, x.sm) : Pure Go.Proofs.Try.prog 37 #[.slice a n c, .slice a1 n1 c1, .func (.func 38) #[] #[]] w (.bool (decB (xs = ys))) := by
  refine Eq_list.calls (R := fun v' u => v' = _ ∧ Below w.heap.size w u) ?_
  unfold Eq_list Eq_list.g0
  have hl := hs.len
  have hl2 := ht.len
  have hmx : n ≤ 1073741824 := hm
  refine onNe (fun h => ⟨by rw [decB_f]; intro e; subst e; omega, Below.refl _ _⟩) fun h => ?_
  refine ⟨n + 1, eqS (xs := xs) (ys := ys) (L := fun k i w => Eq_list.l14 _ k a1 n1 c1 a n c n i w) hl (by omega) (W := Kept w) (T := fun u => Value.bool true = .bool (decB (xs = ys)) ∧ Kept w u) (Fl := fun u => Value.bool false = .bool (decB (xs = ys)) ∧ Kept w u) ?_ (fun k u hu hT => ?_) (fun e u hu => ⟨by rw [decB_t e], hu⟩) (fun e u hu => ⟨by rw [decB_f e], hu⟩) n 0 w (by omega) rfl (Kept.refl w)⟩
  · intro k i u x y hu hi hx hy hN hF
    rw [Eq_list.u14]; unfold Eq_list.g14
    refine onDec_t (by omega) ?_
    refine (hs.kept hu).rdL (by omega) (by omega) fun x' b1 m1 d1 b2 m2 d2 b3 m3 d3 hx' hx1 hx2 hx3 => ?_
    rw [Int.toNat_natCast] at hx'
    obtain rfl : x = x' := by rw [hx] at hx'; cases hx'; rfl
    refine boxS (zs := [.int .i64 0, .slice none 0 0, .slice none 0 0, .slice none 0 0]) (vs := enL x ⟨b1, m1, d1⟩ ⟨b2, m2, d2⟩ ⟨b3, m3, d3⟩) rfl fun u1 hA1 _ hk1 => ?_
    refine ((ht.kept hu).kept hk1).rdL (by omega) (by omega) fun y' p1 q1 r1 p2 q2 r2 p3 q3 r3 hy' hy1 hy2 hy3 => ?_
    rw [Int.toNat_natCast] at hy'
    obtain rfl : y = y' := by rw [hy] at hy'; cases hy'; rfl
    refine boxS (zs := [.int .i64 0, .slice none 0 0, .slice none 0 0, .slice none 0 0]) (vs := enL y ⟨p1, q1, r1⟩ ⟨p2, q2, r2⟩ ⟨p3, q3, r3⟩) rfl fun u2 hA2 _ hk2 => ?_
    refine (hA1.kept hk2).ldL (hA2.ldL ?_)
    have hk := Kept.trans hk1 hk2
    exact tellN (same11_c (s1 := ⟨b1, m1, d1⟩) (s2 := ⟨b2, m2, d2⟩) (s3 := ⟨b3, m3, d3⟩) (t1 := ⟨p1, q1, r1⟩) (t2 := ⟨p2, q2, r2⟩) (t3 := ⟨p3, q3, r3⟩) (hx1.kept hk) (hx2.kept hk) (hx3.kept hk) (hy1.kept hk2) (hy2.kept hk2) (hy3.kept hk2) (hsm x (List.mem_of_getElem? hx))) (fun h v hv => hF h v (Kept.trans (Kept.trans hu hk) hv)) fun h v hv => nv_succ (by omega) (hN h v (Kept.trans (Kept.trans hu hk) hv))
  · rw [Eq_list.u14]; unfold Eq_list.g14
    refine onDec_f (by omega) ?_
    exact hT
theorem eqI64s_c {xs ys : List (List Int)} (hs : Ls (tInt .i64).sl F w a n c xs) (ht : Ls (tInt .i64).sl F' w a1 n1 c1 ys) (hm : n ≤ 1048576) (hsm : ∀ x ∈ xs, x.length ≤ 1048576) : Pure Go.Proofs.Try.prog 36 #[.slice a n c, .slice a1 n1 c1, .func (.func 32) #[] #[]] w (.bool (decB (xs = ys))) := by
  refine Eq_i64s.calls (R := fun v' u => v' = _ ∧ Below w.heap.size w u) ?_
  unfold Eq_i64s Eq_i64s.g0
  have hl := hs.len
  have hl2 := ht.len
  have hmx : n ≤ 1048576 := hm
  refine onNe (fun h => ⟨by rw [decB_f]; intro e; subst e; omega, Below.refl _ _⟩) fun h => ?_
  refine ⟨n + 1, eqS (xs := xs) (ys := ys) (L := fun k i w => Eq_i64s.l14 _ k a1 n1 c1 a n c n i w) hl (by omega) (W := Kept w) (T := fun u => Value.bool true = .bool (decB (xs = ys)) ∧ Kept w u) (Fl := fun u => Value.bool false = .bool (decB (xs = ys)) ∧ Kept w u) ?_ (fun k u hu hT => ?_) (fun e u hu => ⟨by rw [decB_t e], hu⟩) (fun e u hu => ⟨by rw [decB_f e], hu⟩) n 0 w (by omega) rfl (Kept.refl w)⟩
  · intro k i u x y hu hi hx hy hN hF
    rw [Eq_i64s.u14]; unfold Eq_i64s.g14
    refine onDec_t (by omega) ?_
    refine (hs.kept hu).rdSl (by omega) (by omega) fun x' b1 m1 d1 hx' hx1 => ?_
    rw [Int.toNat_natCast] at hx'
    obtain rfl : x = x' := by rw [hx] at hx'; cases hx'; rfl
    refine (ht.kept hu).rdSl (by omega) (by omega) fun y' p1 q1 r1 hy' hy1 => ?_
    rw [Int.toNat_natCast] at hy'
    obtain rfl : y = y' := by rw [hy] at hy'; cases hy'; rfl
    have hxl := hx1.len
    have : x.length ≤ 1048576 := hsm x (List.mem_of_getElem? hx)
    exact tellN (EqualJ_c hx1.sl hy1.sl (by omega)) (fun h v hv => hF h v (Kept.trans hu hv)) fun h v hv => nv_succ (by omega) (hN h v (Kept.trans hu hv))
  · rw [Eq_i64s.u14]; unfold Eq_i64s.g14
    refine onDec_f (by omega) ?_
    exact hT
end
end Go.Mir

set_option maxRecDepth 100000
namespace Go.Mir
open Go Go.E Go.RowKit Go.Tr
section
variable {w : World} {a a1 : OA} {n c n1 c1 : Nat} {F F' : Nat → Prop}
theorem same1_c {x y : BlkD} {s1 s2 s3 s4 t1 t2 t3 t4 : SH} (h1 : LsI F w s1.a s1.n s1.c x.leaves) (h2 : Ls (tInt .i64).sl F w s2.a s2.n s2.c x.values) (h3 : LsI F w s3.a s3.n s3.c x.outputs) (h4 : Ls tL F w s4.a s4.n s4.c x.lists)
    (g1 : LsI F' w t1.a t1.n t1.c y.leaves) (g2 : Ls (tInt .i64).sl F' w t2.a t2.n t2.c y.values) (g3 : LsI F' w t3.a t3.n t3.c y.outputs) (g4 : Ls tL F' w t4.a t4.n t4.c y.lists) (hm : x.sm) :
    Pure Go.Proofs.Try.prog 34 #[vB x s1 s2 s3 s4, vB y t1 t2 t3 t4] w (.bool (decB (x = y))) := by
  obtain ⟨m1, m2, m2', m3, m4, m4'⟩ := hm
  refine blocks_Same_1.calls (R := fun v' u => v' = _ ∧ Below w.heap.size w u) ?_
  unfold blocks_Same_1 blocks_Same_1.g0
  refine boxN (cs := (enBk x s1 s2 s3 s4).toArray) fun w1 hx1 hk1 => boxN (cs := (enBk y t1 t2 t3 t4).toArray) fun w2 hy hk2 => ?_
  have hx := hx1.kept hk2
  have hk := Kept.trans hk1 hk2
  refine ⟨_, hx 0 _ rfl, _, hy 0 _ rfl, onEq (fun e0 => ?_) fun e0 => ⟨by rw [decB_f (fun h => e0 (by rw [h]))], hk⟩⟩
  refine ⟨_, _, _, hx 1 _ rfl, _, _, _, hy 1 _ rfl, tellT (EqualI_c (h1.kept hk).sl (g1.kept hk).sl (by have := h1.len; omega)) (fun e1 u1 hu1 => ?_) fun e1 u1 hu1 => ⟨by rw [decB_f (fun h => e1 (by rw [h]))], Kept.trans hk hu1⟩⟩
  have hk' := Kept.trans hk hu1
  refine ⟨_, _, _, hx.kept hu1 2 _ rfl, _, _, _, hy.kept hu1 2 _ rfl, tellT (eqI64s_c (h2.kept hk') (g2.kept hk') (by have := h2.len; omega) m2') (fun e2 u2 hu2 => ?_) fun e2 u2 hu2 => ⟨by rw [decB_f (fun h => e2 (by rw [h]))], Kept.trans hk' hu2⟩⟩
  have hu12 := Kept.trans hu1 hu2
  have hk2' := Kept.trans hk hu12
  refine ⟨_, _, _, hx.kept hu12 3 _ rfl, _, _, _, hy.kept hu12 3 _ rfl, tellT (EqualI_c (h3.kept hk2').sl (g3.kept hk2').sl (by have := h3.len; omega)) (fun e3 u3 hu3 => ?_) fun e3 u3 hu3 => ⟨by rw [decB_f (fun h => e3 (by rw [h]))], Kept.trans hk2' hu3⟩⟩
  have hu13 := Kept.trans hu12 hu3
  have hk3 := Kept.trans hk hu13
  refine ⟨_, _, _, hx.kept hu13 4 _ rfl, _, _, _, hy.kept hu13 4 _ rfl, tell1 (eqList_c (h4.kept hk3) (g4.kept hk3) (by have := h4.len; omega) m4') fun u4 hu4 => ⟨?_, Kept.trans hk3 hu4⟩⟩
  rw [decB_eq (p := x.lists = y.lists) (q := x = y) ⟨fun h => blk_eq e0 e1 e2 e3 h, fun h => by rw [h]⟩]
theorem eqBlk_c {xs ys : List BlkD} (hs : Ls tB F w a n c xs) (ht : Ls tB F' w a1 n1 c1 ys) (hm : n ≤ 1048576) (hsm : ∀ x ∈ xs, x.sm) : Pure Go.Proofs.Try.prog 33 #[.slice a n c, .slice a1 n1 c1, .func (.func 34) #[] #[]] w (.bool (decB (xs = ys))) := by
  refine Eq_block.calls (R := fun v' u => v' = _ ∧ Below w.heap.size w u) ?_
  unfold Eq_block Eq_block.g0
  have hl := hs.len
  have hl2 := ht.len
  refine onNe (fun h => ⟨by rw [decB_f]; intro e; subst e; omega, Below.refl _ _⟩) fun h => ?_
  refine ⟨n + 1, eqS (xs := xs) (ys := ys) (L := fun k i w => Eq_block.l14 _ k a1 n1 c1 a n c n i w) hl (by omega) (W := Kept w) (T := fun u => Value.bool true = .bool (decB (xs = ys)) ∧ Kept w u) (Fl := fun u => Value.bool false = .bool (decB (xs = ys)) ∧ Kept w u) ?_ (fun k u hu hT => ?_) (fun e u hu => ⟨by rw [decB_t e], hu⟩) (fun e u hu => ⟨by rw [decB_f e], hu⟩) n 0 w (by omega) rfl (Kept.refl w)⟩
  · intro k i u x y hu hi hx hy hN hF
    rw [Eq_block.u14]; unfold Eq_block.g14
    refine onDec_t (by omega) ?_
    refine (hs.kept hu).rdB (by omega) (by omega) fun x' b1 m1 d1 b2 m2 d2 b3 m3 d3 b4 m4 d4 hx' hx1 hx2 hx3 hx4 => ?_
    rw [Int.toNat_natCast] at hx'
    obtain rfl : x = x' := by rw [hx] at hx'; cases hx'; rfl
    refine boxS (zs := [.int .i64 0, .slice none 0 0, .slice none 0 0, .slice none 0 0, .slice none 0 0]) (vs := enBk x ⟨b1, m1, d1⟩ ⟨b2, m2, d2⟩ ⟨b3, m3, d3⟩ ⟨b4, m4, d4⟩) rfl fun u1 hA1 _ hk1 => ?_
    refine ((ht.kept hu).kept hk1).rdB (by omega) (by omega) fun y' p1 q1 r1 p2 q2 r2 p3 q3 r3 p4 q4 r4 hy' hy1 hy2 hy3 hy4 => ?_
    rw [Int.toNat_natCast] at hy'
    obtain rfl : y = y' := by rw [hy] at hy'; cases hy'; rfl
    refine boxS (zs := [.int .i64 0, .slice none 0 0, .slice none 0 0, .slice none 0 0, .slice none 0 0]) (vs := enBk y ⟨p1, q1, r1⟩ ⟨p2, q2, r2⟩ ⟨p3, q3, r3⟩ ⟨p4, q4, r4⟩) rfl fun u2 hA2 _ hk2 => ?_
    refine (hA1.kept hk2).ldB (hA2.ldB ?_)
    have hk := Kept.trans hk1 hk2
    exact tellN (same1_c (s1 := ⟨b1, m1, d1⟩) (s2 := ⟨b2, m2, d2⟩) (s3 := ⟨b3, m3, d3⟩) (s4 := ⟨b4, m4, d4⟩) (t1 := ⟨p1, q1, r1⟩) (t2 := ⟨p2, q2, r2⟩) (t3 := ⟨p3, q3, r3⟩) (t4 := ⟨p4, q4, r4⟩) (hx1.kept hk) (hx2.kept hk) (hx3.kept hk) (hx4.kept hk) (hy1.kept hk2) (hy2.kept hk2) (hy3.kept hk2) (hy4.kept hk2) (hsm x (List.mem_of_getElem? hx))) (fun h v hv => hF h v (Kept.trans (Kept.trans hu hk) hv)) fun h v hv => nv_succ (by omega) (hN h v (Kept.trans (Kept.trans hu hk) hv))
  · rw [Eq_block.u14]; unfold Eq_block.g14
    refine onDec_f (by omega) ?_
    exact hT
theorem bSame_c {x y : FormD} {s t s' t' : SH} (hx : GoodF F w x s t) (hy : GoodF F' w y s' t') : Pure Go.Proofs.Try.prog 15 #[vF x s t, vF y s' t'] w (.bool (decB (x = y))) := by
  refine blocks_Same.calls (R := fun v' u => v' = _ ∧ Below w.heap.size w u) ?_
  unfold blocks_Same blocks_Same.g0
  obtain ⟨m1, m2, m3⟩ := hx.sm
  refine boxN (cs := (enFm x s t).toArray) fun w1 hA1 hk1 => boxN (cs := (enFm y s' t').toArray) fun w2 hB hk2 => ?_
  have hA := hA1.kept hk2
  have hk := Kept.trans hk1 hk2
  refine ⟨_, hA 0 _ rfl, _, hB 0 _ rfl, onEq (fun e0 => ?_) fun e0 => ⟨by rw [decB_f (fun h => e0 (by rw [h]))], hk⟩⟩
  refine ⟨_, hA 1 _ rfl, _, hB 1 _ rfl, onEq (fun e1 => ?_) fun e1 => ⟨by rw [decB_f (fun h => e1 (by rw [h]))], hk⟩⟩
  refine ⟨_, _, _, hA 2 _ rfl, _, _, _, hB 2 _ rfl, tellT (EqualJ_c (hx.bs.kept hk).sl (hy.bs.kept hk).sl (by have := hx.bs.len; omega)) (fun e2 u1 hu1 => ?_) fun e2 u1 hu1 => ⟨by rw [decB_f (fun h => e2 (by rw [h]))], Kept.trans hk hu1⟩⟩
  refine ⟨_, _, _, hA.kept hu1 3 _ rfl, _, _, _, hB.kept hu1 3 _ rfl, tell1 (eqBlk_c (hx.ks.kept (Kept.trans hk hu1)) (hy.ks.kept (Kept.trans hk hu1)) (by have := hx.ks.len; omega) m3) fun u2 hu2 => ⟨?_, Kept.trans (Kept.trans hk hu1) hu2⟩⟩
  rw [decB_eq (p := x.blocks = y.blocks) (q := x = y) ⟨fun h => form_eq e0 e1 e2 h, fun h => by rw [h]⟩]
end
end Go.Mir

set_option maxRecDepth 100000
namespace Go.Mir
open Go Go.E Go.RowKit Go.Tr
section
variable {w : World} {a a1 : OA} {n c n1 c1 : Nat} {F F' : Nat → Prop}
end
end Go.Mir

set_option maxRecDepth 100000
namespace Go.Mir
open Go Go.E Go.RowKit Go.Tr Go.Ss
section
variable {w : World} {a a1 : OA} {n c n1 c1 : Nat} {F F' : Nat → Prop} {p : Addr}
def keyP (z : Nat) : Int := if nanB z = true then 18437736874454810625 else if Int.fdiv (z : Int) (2 ^ (min (63 : Int).toNat 64)) = 0 then IntKind.u64.wrap (9218868437227405312 + z) else IntKind.u64.wrap (9218868437227405312 - bitsI .andNot .u64 z 9223372036854775808)
theorem Key_c (z : Nat) : Pure Go.Proofs.Try.prog 76 #[.float .f64 z] w (.int .u64 (keyP z)) := by
  refine order_Key.calls (R := fun v' u => v' = _ ∧ Below w.heap.size w u) ?_
  unfold order_Key order_Key.g0
  refine ⟨_, fb _ _, (onBool_iff _ _ _).2 ⟨fun h => ⟨by unfold keyP; rw [if_pos (show nanB z = true from h)], Below.refl _ _⟩, fun h => nv_mk rfl ?_⟩⟩
  have hn : ¬ nanB z = true := by intro h'; rw [show (FloatKind.f64.format.order z z != some .eq) = nanB z from rfl, h'] at h; cases h
  refine onEq (fun e => nv_mk rfl ⟨by unfold keyP; rw [if_neg hn, if_pos e], Below.refl _ _⟩) fun e => nv_mk rfl (nv_mk rfl ⟨by unfold keyP; rw [if_neg hn, if_neg e], Below.refl _ _⟩)
def cmpP (x y : Int) : Int := if x < y then -1 else if x > y then 1 else 0
theorem cmpP_neg (x y : Int) : decide (cmpP x y < 0) = decide (x < y) := by
  unfold cmpP
  by_cases h : x < y
  · simp [h]
  · by_cases h2 : x > y
    · simp [h, h2]
    · simp [h, h2]
theorem isNaNu_c (x : Int) : Pure Go.Proofs.Try.prog 97 #[.int .u64 x] w (.bool false) := by
  refine cmp_isNaN_u64.calls (R := fun v' u => v' = _ ∧ Below w.heap.size w u) ?_
  unfold cmp_isNaN_u64 cmp_isNaN_u64.g0
  exact ⟨by simp, Below.refl _ _⟩
theorem isNaNi_c (x : Int) : Pure Go.Proofs.Try.prog 99 #[.int .i64 x] w (.bool false) := by
  refine cmp_isNaN_int.calls (R := fun v' u => v' = _ ∧ Below w.heap.size w u) ?_
  unfold cmp_isNaN_int cmp_isNaN_int.g0
  exact ⟨by simp, Below.refl _ _⟩
theorem Compare_u_c (x y : Int) : Pure Go.Proofs.Try.prog 89 #[.int .u64 x, .int .u64 y] w (.int .i64 (cmpP x y)) := by
  refine cmp_Compare_u64.calls (R := fun v' u => v' = _ ∧ Below w.heap.size w u) ?_
  unfold cmp_Compare_u64 cmp_Compare_u64.g0
  refine E.CallsD.mono (isNaNu_c x) fun v u ⟨hv, hk⟩ => ⟨_, hv, E.CallsD.mono (isNaNu_c y) fun v' u' ⟨hv', hk'⟩ => ⟨_, hv', ?_⟩⟩
  have hkk := Kept.trans hk hk'
  refine ob_f (ob_f ((onBool_iff _ _ _).2 ⟨fun h => ⟨by unfold cmpP; rw [if_pos (by simpa using h)], hkk⟩, fun h => (onBool_iff _ _ _).2 ⟨fun h2 => ⟨by unfold cmpP; rw [if_neg (by simpa using h), if_pos (by simpa using h2)], hkk⟩, fun h2 => ⟨by unfold cmpP; rw [if_neg (by simpa using h), if_neg (by simpa using h2)], hkk⟩⟩⟩))
theorem Compare_i_c (x y : Int) : Pure Go.Proofs.Try.prog 92 #[.int .i64 x, .int .i64 y] w (.int .i64 (cmpP x y)) := by
  refine cmp_Compare_int.calls (R := fun v' u => v' = _ ∧ Below w.heap.size w u) ?_
  unfold cmp_Compare_int cmp_Compare_int.g0
  refine E.CallsD.mono (isNaNi_c x) fun v u ⟨hv, hk⟩ => ⟨_, hv, E.CallsD.mono (isNaNi_c y) fun v' u' ⟨hv', hk'⟩ => ⟨_, hv', ?_⟩⟩
  have hkk := Kept.trans hk hk'
  refine ob_f (ob_f ((onBool_iff _ _ _).2 ⟨fun h => ⟨by unfold cmpP; rw [if_pos (by simpa using h)], hkk⟩, fun h => (onBool_iff _ _ _).2 ⟨fun h2 => ⟨by unfold cmpP; rw [if_neg (by simpa using h), if_pos (by simpa using h2)], hkk⟩, fun h2 => ⟨by unfold cmpP; rw [if_neg (by simpa using h), if_neg (by simpa using h2)], hkk⟩⟩⟩))
def ltC (x y : CutR) : Bool := decide (keyP x.thr < keyP y.thr)
def ltL (x y : LstR) : Bool := decide (x.feature < y.feature)
theorem Of1_c (x : CutR) : Pure Go.Proofs.Try.prog 75 #[ev_cut x] w (.int .u64 (keyP x.thr)) := by
  refine lists_Of_1.calls (R := fun v' u => v' = _ ∧ Below w.heap.size w u) ?_
  unfold lists_Of_1 lists_Of_1.g0
  refine boxN (cs := (enCutR x).toArray) fun w1 hA hk => ⟨_, hA 0 _ rfl, E.CallsD.mono (Key_c x.thr) fun v u ⟨hv, hu⟩ => ⟨_, hv, rfl, Kept.trans hk hu⟩⟩
theorem Of2_c (x : LstR) : Pure Go.Proofs.Try.prog 78 #[ev_list x] w (.int .i64 x.feature) := by
  refine lists_Of_2.calls (R := fun v' u => v' = _ ∧ Below w.heap.size w u) ?_
  unfold lists_Of_2 lists_Of_2.g0
  exact boxN (cs := (enLstR x).toArray) fun w1 hA hk => ⟨_, hA 0 _ rfl, rfl, hk⟩
theorem rcut1_c (hp : w.cell? p = some (.func (.func 75) #[] #[])) (x y : CutR) : E.CallsD Go.Proofs.Try.prog 88 #[ev_cut x, ev_cut y, .pointer (some p)] w fun v u => ∃ r : Int, v = .int .i64 r ∧ decide (r < 0) = ltC x y ∧ Kept w u := by
  refine rising_cut_1.calls (R := fun v u => ∃ r : Int, v = .int .i64 r ∧ decide (r < 0) = ltC x y ∧ Kept w u) ?_
  unfold rising_cut_1 rising_cut_1.g0
  refine boxN (cs := (enCutR x).toArray) fun w1 hA hk1 => boxN (cs := (enCutR y).toArray) fun w2 hB hk2 => ?_
  have hA' := hA.kept hk2
  have hk := Kept.trans hk1 hk2
  refine ⟨_, bkeep hk hp, ⟨_, hA' 0 _ rfl, _, _, _, hA' 1 _ rfl, _, hA' 2 _ rfl, _, hA' 3 _ rfl, _, hA' 4 _ rfl, ⟨_, fun u hu => pq (Of1_c x) hu, ?_⟩⟩⟩
  refine ⟨_, bkeep hk hp, ⟨_, hB 0 _ rfl, _, _, _, hB 1 _ rfl, _, hB 2 _ rfl, _, hB 3 _ rfl, _, hB 4 _ rfl, ⟨_, fun u hu => pq (Of1_c y) hu, ?_⟩⟩⟩
  exact ⟨_, fun u hu => pq (Compare_u_c (keyP x.thr) (keyP y.thr)) hu, fun u hu => ⟨_, rfl, cmpP_neg _ _, Kept.trans hk hu⟩⟩
theorem rlist1_c (hp : w.cell? p = some (.func (.func 78) #[] #[])) (x y : LstR) : E.CallsD Go.Proofs.Try.prog 91 #[ev_list x, ev_list y, .pointer (some p)] w fun v u => ∃ r : Int, v = .int .i64 r ∧ decide (r < 0) = ltL x y ∧ Kept w u := by
  refine rising_list_1.calls (R := fun v u => ∃ r : Int, v = .int .i64 r ∧ decide (r < 0) = ltL x y ∧ Kept w u) ?_
  unfold rising_list_1 rising_list_1.g0
  refine boxN (cs := (enLstR x).toArray) fun w1 hA hk1 => boxN (cs := (enLstR y).toArray) fun w2 hB hk2 => ?_
  have hA' := hA.kept hk2
  have hk := Kept.trans hk1 hk2
  refine ⟨_, bkeep hk hp, ⟨_, hA' 0 _ rfl, _, _, _, hA' 1 _ rfl, _, _, _, hA' 2 _ rfl, _, _, _, hA' 3 _ rfl, ⟨_, fun u hu => pq (Of2_c x) hu, ?_⟩⟩⟩
  refine ⟨_, bkeep hk hp, ⟨_, hB 0 _ rfl, _, _, _, hB 1 _ rfl, _, _, _, hB 2 _ rfl, _, _, _, hB 3 _ rfl, ⟨_, fun u hu => pq (Of2_c y) hu, ?_⟩⟩⟩
  exact ⟨_, fun u hu => pq (Compare_i_c x.feature y.feature) hu, fun u hu => ⟨_, rfl, cmpP_neg _ _, Kept.trans hk hu⟩⟩
theorem wkC : Wk ltC := wk_key fun x : CutR => keyP x.thr
theorem wkL : Wk ltL := wk_key fun x : LstR => x.feature
theorem rising_cut_c {g : Nat} {xs : List CutR} (hs : n ≤ 1152921504606846975) (h : ArrK 5 enCutR 72 w a n c xs g) : E.CallsD Go.Proofs.Try.prog 74 #[.slice a n c, .func (.func 75) #[] #[]] w fun v u => v = .tuple #[] ∧ ArrK 5 enCutR 72 u a n c (sorted ltC xs) g ∧ Only g w u := by
  refine rising_cut.calls (R := fun v u => v = .tuple #[] ∧ ArrK 5 enCutR 72 u a n c (sorted ltC xs) g ∧ Only g w u) ?_
  unfold rising_cut rising_cut.g0
  refine boxN fun w1 hA hk => ?_
  have hp : w1.cell? (na w) = some (.func (.func 75) #[] #[]) := by have := hA 0 _ rfl; rwa [add_zero] at this
  have hg : g ≤ w.heap.size := Row.le h
  refine E.CallsD.mono (Sort_cut_c (p := na w) (lt := ltC) (X := fun u => u.cell? (na w) = some (.func (.func 75) #[] #[])) (G := fun _ => True) wkC hs (fun u v hu ho => ho.cell (fun hk => by have hk' : (na w).block + 1 = g := hk; have : (na w).block = w.heap.size := rfl; omega) hu) (fun u x y hx _ _ => rcut1_c hx x y) (h.kept hk) hp (fun _ _ => trivial) (R := fun v u => v = .tuple #[] ∧ ArrK 5 enCutR 72 u a n c (sorted ltC xs) g ∧ Only g w u) fun u h1 _ h3 => ⟨rfl, h1, (Kept.mod (S := fun k => k + 1 = g) hk).trans h3 (fun _ _ h => h) (fun _ _ h => h)⟩) fun v u h => ⟨h.1, rfl, h.2⟩
theorem rising_list_c {g : Nat} {xs : List LstR} (hs : n ≤ 1152921504606846975) (h : ArrK 4 enLstR 69 w a n c xs g) : E.CallsD Go.Proofs.Try.prog 77 #[.slice a n c, .func (.func 78) #[] #[]] w fun v u => v = .tuple #[] ∧ ArrK 4 enLstR 69 u a n c (sorted ltL xs) g ∧ Only g w u := by
  refine rising_list.calls (R := fun v u => v = .tuple #[] ∧ ArrK 4 enLstR 69 u a n c (sorted ltL xs) g ∧ Only g w u) ?_
  unfold rising_list rising_list.g0
  refine boxN fun w1 hA hk => ?_
  have hp : w1.cell? (na w) = some (.func (.func 78) #[] #[]) := by have := hA 0 _ rfl; rwa [add_zero] at this
  have hg : g ≤ w.heap.size := Row.le h
  refine E.CallsD.mono (Sort_list_c (p := na w) (lt := ltL) (X := fun u => u.cell? (na w) = some (.func (.func 78) #[] #[])) (G := fun _ => True) wkL hs (fun u v hu ho => ho.cell (fun hk => by have hk' : (na w).block + 1 = g := hk; have : (na w).block = w.heap.size := rfl; omega) hu) (fun u x y hx _ _ => rlist1_c hx x y) (h.kept hk) hp (fun _ _ => trivial) (R := fun v u => v = .tuple #[] ∧ ArrK 4 enLstR 69 u a n c (sorted ltL xs) g ∧ Only g w u) fun u h1 _ h3 => ⟨rfl, h1, (Kept.mod (S := fun k => k + 1 = g) hk).trans h3 (fun _ _ h => h) (fun _ _ h => h)⟩) fun v u h => ⟨h.1, rfl, h.2⟩
end
end Go.Mir

set_option maxRecDepth 100000
namespace Go.Mir
open Go Go.E Go.RowKit Go.Tr Go.Ss Go.ChangeShapes
abbrev tI' : Nat := 3
abbrev tC' : Nat := 72
abbrev tL' : Nat := 69
abbrev HOK' := HOK tI' tC' tL'
abbrev ROK' := ROK tI' tC'
section
variable {w u : World} {a a1 : OA} {n c n1 c1 : Nat} {F F' S : Nat → Prop} {p : Addr} {B : Nat}
theorem row_ck {e size g : Nat} {cs : List Value} (h : Row w e size a n c cs g) (hm : Only g w u) : CK (hideA a w) u := by
  rcases h.2 with ⟨h0, rfl, _⟩ | ⟨b, cur, h1, rfl, _⟩
  · exact fun ad v hc => hm.cell (fun hk => by have hk' : ad.block + 1 = g := hk; omega) hc
  · exact CK.hide (hm.weak fun k _ hk => by have hk' : k + 1 = g := hk; show k = b; omega)
theorem row_hrd {e size g : Nat} {cs : List Value} {v : Value} (h : Row w e size a n c cs g) (hb : p.block + 1 ≠ g) (hc : w.cell? p = some v) : (hideA a w).cell? p = some v := by
  rcases h.2 with ⟨h0, rfl, _⟩ | ⟨b, cur, h1, rfl, _⟩
  · exact hc
  · exact hide_rd hc (fun h => hb (by rw [h1, h]))
theorem S15i : SliceT Go.Proofs.Try.prog 45 tI' 1 8 := sliceT (by kernel_rfl)
theorem S15c : SliceT Go.Proofs.Try.prog 67 tC' 5 56 := sliceT (by kernel_rfl)
theorem S15l : SliceT Go.Proofs.Try.prog 64 tL' 4 80 := sliceT (by kernel_rfl)
theorem copied_c {x : CutD} {s : SH} (hs : LsI F w s.a s.n s.c x.cats) (hm : x.sm) : E.CallsD Go.Proofs.Try.prog 73 #[vC x s] w fun v u => ∃ s' : SH, v = vC x s' ∧ COK tI' w.heap.size u (x, s') ∧ Kept w u := by
  refine lists_copied.calls (R := fun v u => ∃ s' : SH, v = vC x s' ∧ COK tI' w.heap.size u (x, s') ∧ Kept w u) ?_
  unfold lists_copied lists_copied.g0
  have hl := hs.len
  have hm' : x.cats.length ≤ 1048576 := hm
  refine nw_mk (nw_mk ?_)
  have b0 := Blk.new w (enC x s).toArray tC'
  have k1 := Kept.new w (.cells (enC x s).toArray tC')
  generalize hw1 : w.alloc (.cells (enC x s).toArray tC') = w1 at b0 k1
  have hsz : w1.heap.size = w.heap.size + 1 := by rw [← hw1]; simp
  have z0 := Blk.new w1 #[.float .f64 0, .slice none 0 0, .int .i64 0, .int .i64 0, .int .i64 0] tC'
  have k2 := Kept.new w1 (.cells #[.float .f64 0, .slice none 0 0, .int .i64 0, .int .i64 0, .int .i64 0] tC')
  generalize hw2 : w1.alloc (.cells #[.float .f64 0, .slice none 0 0, .int .i64 0, .int .i64 0, .int .i64 0] tC') = w2 at z0 k2
  have b1 := b0.keep k2
  have k := Kept.trans k1 k2
  have hA : AtL w2 (na w) (enC x s) := by simpa using AtL.blk (b := w) b1
  refine ⟨_, _, _, hA 1 _ rfl, Arr.pushes (P := Go.Proofs.Try.prog) (en := eI) (e := tI') S15i (Arr.nil _ _ _) (fun _ => rfl) (hs.kept k).sl (by show 0 + s.n ≤ maxLen; simp only [maxLen]; omega) (by omega) fun a' c' g' u ha hg ho => ⟨_, _, _, rfl, ?_⟩⟩
  have hku : Kept w2 u := Mod.kept (S := fun k => k + 1 = 0) ho (fun k _ h => by have h' : k + 1 = 0 := h; omega)
  have b2 := b1.keep hku
  have z1 := z0.keep hku
  have kw := Kept.trans k hku
  rw [na_add, addr_add, Nat.add_zero]
  refine ⟨b2.ok (by simp), nw_mk ?_⟩
  have b3 : Blk (u.setCell ⟨w.heap.size, 1, none⟩ (.slice a' (0 + s.n) c')) w.heap.size (enC x ⟨a', 0 + s.n, c'⟩).toArray tC' := b2.set 1 (.slice a' (0 + s.n) c')
  have ho3 := Only.set u w.heap.size 1 (.slice a' (0 + s.n) c')
  have z3 := z1.mod ho3 (fun hk => by have hk' : w1.heap.size + 1 = w.heap.size + 1 := hk; omega)
  generalize u.setCell ⟨w.heap.size, 1, none⟩ (.slice a' (0 + s.n) c') = u3 at b3 ho3 z3
  have hA3 : AtL u3 (na w) (enC x ⟨a', 0 + s.n, c'⟩) := by simpa using AtL.blk (b := w) b3
  refine hA3.ldC ?_
  refine wrA (vs := enC x ⟨a', 0 + s.n, c'⟩) z3 rfl fun u4 b4 ho4 => ?_
  have hA4 : AtL u4 (na w1) (enC x ⟨a', 0 + s.n, c'⟩) := by simpa using AtL.blk (b := w1) b4
  refine hA4.ldC ?_
  have hfr : From w.heap.size w u4 := ((Kept.mod (S := fun k => w.heap.size ≤ k) kw).trans ho3 (U := fun k => w.heap.size ≤ k) (fun _ _ h => h) (fun k _ h => by have h' : k + 1 = w.heap.size + 1 := h; show w.heap.size ≤ k; omega)).trans ho4 (fun _ _ h => h) (fun k _ h => by have h' : k + 1 = w1.heap.size + 1 := h; show w.heap.size ≤ k; omega)
  refine ⟨⟨a', 0 + s.n, c'⟩, rfl, ⟨g', ?_, ?_⟩, From.kept hfr⟩
  · have hsz2 : w2.heap.size = w1.heap.size + 1 := by rw [← hw2]; simp
    rw [List.nil_append] at ha
    refine (ha.mod ho3 fun k hk hS => ?_).mod ho4 fun k hk hS => ?_
    · have hS' : k + 1 = w.heap.size + 1 := hS; omega
    · have hS' : k + 1 = w1.heap.size + 1 := hS; omega
  · have hsz2 : w2.heap.size = w1.heap.size + 1 := by rw [← hw2]; simp
    omega
end
end Go.Mir

set_option maxRecDepth 100000
namespace Go.Mir
open Go Go.E Go.RowKit Go.Tr Go.Ss Go.ChangeShapes
section
variable {w u : World} {a a1 : OA} {n c n1 c1 : Nat} {F F' S : Nat → Prop} {p q : Addr} {B mb i j : Nat} {H : List HE} {x : HE} {r : RC}
theorem ne_CL : tC' ≠ tL' := by decide
theorem ne_IC : tI' ≠ tC' := by decide
theorem ne_IL : tI' ≠ tL' := by decide
theorem enCD_len (x : CD) : (enCD x).length = 5 := rfl
theorem enCD_one (x : CD) : ∀ v ∈ enCD x, v.oneCell' = true := by
  intro v hv
  simp only [enCD, enC, List.mem_cons, List.not_mem_nil, or_false] at hv
  rcases hv with h | h | h | h | h <;> subst h <;> rfl
theorem hok_pg (hH : HOK' B w mb H) (hx : x ∈ H) (hr : ROK' B w r) : x.p + 1 ≠ r.2.2 := fun hk => by
  obtain ⟨cur, hb⟩ := hr.blk hk
  exact ne_CL (hb.ne (hH.box x hx).1)
theorem hok_box (hH : HOK' B w mb H) (hx : x ∈ H) (hr : x.rs[j]? = some r) : w.cell? ⟨x.p, j + 1, none⟩ = some r.1.v := by
  rw [(hH.box x hx).1.cell]
  simp [HE.cells, List.getElem?_map, hr]
theorem addRow (hH : HOK' B w mb H) (hB : B ≤ w.heap.size) (hx : H[i]? = some x) (hr : x.rs[j]? = some r) {cu : CutD} {s : SH} (hq : AtL w q (enC cu s)) (hqr : q.block + 1 ≠ r.2.2) (hs : LsI F w s.a s.n s.c cu.cats) (hm : cu.sm) (hlen : r.2.1.length ≤ 1073741824) {K : World → Prop}
    (hk : ∀ r' u, r'.2.1.map (·.1) = r.2.1.map (·.1) ++ [cu] → HOK' B u mb (H.set i { x with rs := x.rs.set j r' }) → Mod (fun k => k + 1 = r.2.2 ∨ k = x.p) w u → K u) :
    ∃ wm : World, CK wm w ∧ (cL wm ((⟨x.p, 0, none⟩ : Addr).add (j + 1)) fun a n c => ldC wm q fun z a1 n1 c1 x2 x3 x4 => E.CallsD Go.Proofs.Try.prog 73 #[ag71 z a1 n1 c1 x2 x3 x4] w fun v u => ∃ z a1 n1 c1 x2 x3 x4, v = ag71 z a1 n1 c1 x2 x3 x4 ∧ (CK wm u ∧
      (nw (u.alloc (.cells (cl71 z a1 n1 c1 x2 x3 x4) 72)) fun w1 => CK wm w1 ∧ (rawN Go.Proofs.Try.prog (Builtin.append_ #[67, 67] 67 #[.slice a n c, .slice (some (na u)) 1 1]) w1 fun v2 u2 => ∃ a2 n2 c2, v2 = .slice a2 n2 c2 ∧
        (CK wm u2 ∧ st u2 (((⟨x.p, 0, none⟩ : Addr).add (j + 1)).add 0) (.slice a2 n2 c2) K))))) := by
  have hxm := List.mem_of_getElem? hx
  have hrok := hH.row x hxm r (List.mem_of_getElem? hr)
  have hn := hrok.1.len enCD_len (by omega)
  have hpg := hok_pg hH hxm hrok
  refine ⟨hideA r.1.a w, row_ck hrok.1 (Mod.refl _), ?_⟩
  refine ⟨_, _, _, row_hrd hrok.1 (by rw [add_block]; exact hpg) (by rw [addr_add, Nat.zero_add]; exact hok_box hH hxm hr), ?_⟩
  have hq' : AtL (hideA r.1.a w) q (enC cu s) := fun k v hk => row_hrd hrok.1 (by rw [add_block]; exact hqr) (hq k v hk)
  refine hq'.ldC ?_
  refine E.CallsD.mono (copied_c hs hm) fun v u ⟨s', hv, hC, hk1⟩ => ⟨_, _, _, _, _, _, _, hv, row_ck hrok.1 (Kept.mod hk1), nw_mk ⟨row_ck hrok.1 (Kept.mod (Kept.trans hk1 (Kept.new u _))), ?_⟩⟩
  refine ArrK.pushL (P := Go.Proofs.Try.prog) (ys := [((cu, s') : CD)]) (m := 1) S15c enCD_len (by omega) (hrok.1.kept hk1) enCD_one rfl rfl (by omega) (by simp only [maxLen]; omega) (by omega) fun a' c' g' u2 hrow hg _ ho => ?_
  have hm2 : Only r.2.2 w u2 := (Kept.mod (S := fun k => k + 1 = r.2.2) hk1).trans ho (fun _ _ h => h) (fun _ _ h => h)
  have tI : ∀ k cur, Blk w k cur tI' → ¬ (k + 1 = r.2.2) := fun k cur hb hk => by
    obtain ⟨cur', hb'⟩ := hrok.blk hk
    exact ne_IC (hb.ne hb')
  have tIu : ∀ k cur, Blk u k cur tI' → ¬ (k + 1 = r.2.2) := fun k cur hb hk => by
    obtain ⟨cur', hb'⟩ := (hrok.kept hk1).blk hk
    exact ne_IC (hb.ne hb')
  have hsz := hk1.size
  have hr' : ROK' B u2 (⟨a', r.1.n + 1, c'⟩, r.2.1 ++ [(cu, s')], g') := by
    refine ⟨hrow, by have := hrok.2.1; show g' = 0 ∨ B < g'; omega, fun y hy => ?_⟩
    rcases List.mem_append.1 hy with hy | hy
    · exact (hrok.2.2 y hy).mod hm2 tI
    · obtain rfl : y = (cu, s') := by simpa using hy
      obtain ⟨g, h1, h2⟩ := hC.mod ho tIu
      exact ⟨g, h1, by omega⟩
  refine ⟨_, _, _, rfl, row_ck hrok.1 hm2, ?_⟩
  obtain ⟨hok, hH', hon⟩ := hH.grow ne_IC ne_IL ne_CL hx hr hm2 hr' (by show g' = r.2.2 ∨ w.heap.size < g'; omega)
  rw [addr_add, addr_add, Nat.zero_add, Nat.add_zero]
  exact ⟨hok, nw_mk (hk _ _ (by simp) hH' (hm2.trans hon (fun _ _ h => .inl h) (fun k _ h => .inr (by have h' : k + 1 = x.p + 1 := h; omega))))⟩
end
end Go.Mir

set_option maxRecDepth 100000
namespace Go.Mir
open Go Go.E Go.RowKit Go.Tr Go.Ss Go.ChangeShapes
def updC (x : ND) (c : CutD) (e : LstD) : LstD :=
  let e1 := if x.kind = 3 then { e with cats := e.cats ++ [c] } else { e with numbers := e.numbers ++ [c] }
  if x.missing = 2 then { e1 with lost := e1.lost ++ [c] } else e1
def ensL (f : Int) (L : List LstD) : List LstD := if f ∈ L.map LstD.feature then L else L ++ [⟨f, [], [], []⟩]
def addC (L : List LstD) (p : ND × CutD) : List LstD := (ensL p.1.feature L).map fun e => if e.feature = p.1.feature then updC p.1 p.2 e else e
def cutOf (k : Nat) (nodes : List ND) (m : MkD) : Option (ND × CutD) := (nodes[m.node.toNat]?).map fun x => (x, ⟨x.thr, x.cats, (k : Int), m.frm, m.to⟩)
noncomputable def cutsT (k : Nat) (nodes : List ND) : List (ND × CutD) := (marksP nodes).filterMap (cutOf k nodes)
noncomputable def cutsP : List TD → Nat → List (ND × CutD)
  | [], _ => []
  | t :: ts, k => cutsT k t.nodes ++ cutsP ts (k + 1)
def rowD (h : HE) (k : Nat) : List CutD := ((h.rs[k]?).getD rNil).2.1.map (·.1)
def dHE (h : HE) : LstD := ⟨h.f, rowD h 0, rowD h 1, rowD h 2⟩
theorem map_set {L : List LstD} {i : Nat} {e : LstD} {f : Int} (g : LstD → LstD) (hn : (L.map LstD.feature).Nodup) (he : L[i]? = some e) (hf : e.feature = f) : L.set i (g e) = L.map fun e => if e.feature = f then g e else e := by
  apply List.ext_getElem?
  intro q
  rw [List.getElem?_set, List.getElem?_map]
  split
  · rename_i h; subst h
    rw [if_pos (List.getElem?_eq_some_iff.1 he).1, he]
    simp [hf]
  · rename_i hq
    cases hy : L[q]? with
    | none => rfl
    | some y =>
      have : y.feature ≠ f := fun h => hq (by
        have h1 := (List.getElem?_eq_some_iff.1 he).1
        have h2 := (List.getElem?_eq_some_iff.1 hy).1
        refine nodup_ix hn (by simpa using h1) (by simpa using h2) ?_
        simp only [List.getElem_map]
        rw [(List.getElem?_eq_some_iff.1 he).2, (List.getElem?_eq_some_iff.1 hy).2, hf, h])
      simp [this]
section
variable {w u : World} {a a1 : OA} {n c n1 c1 : Nat} {F F' S : Nat → Prop} {p q : Addr} {B mb i j : Nat} {H : List HE} {x : HE} {r : RC}
def Tch (w u : World) : Prop := ∀ b cur e, Blk w b cur e → e ≠ tC' → e ≠ tL' → Blk u b cur e
theorem Tch.refl (w : World) : Tch w w := fun _ _ _ h _ _ => h
theorem Tch.trans {v : World} (h : Tch w u) (k : Tch u v) : Tch w v := fun b cur e hb h1 h2 => k b cur e (h b cur e hb h1 h2) h1 h2
theorem Tch.kept (h : Kept w u) : Tch w u := fun b cur e hb _ _ => hb.keep h
theorem Tch.row {e size g : Nat} {cs : List Value} (h : Tch w u) (hr : Row w e size a n c cs g) (h1 : e ≠ tC') (h2 : e ≠ tL') : Row u e size a n c cs g := by
  refine ⟨hr.1, ?_⟩
  rcases hr.2 with h0 | ⟨b, cur, e0, ha, hb, h3⟩
  · exact .inl h0
  · exact .inr ⟨b, cur, e0, ha, h b cur e hb h1 h2, h3⟩
theorem tch_row (hH : HOK' B w mb H) (hx : x ∈ H) (hr : ROK' B w r) (hm : Mod (fun k => k + 1 = r.2.2 ∨ k = x.p) w u) : Tch w u := fun b cur e hb h1 h2 => hb.mod hm fun hk => by
  rcases hk with hk | hk
  · obtain ⟨cur', hb'⟩ := hr.blk hk; exact h1 (hb.ne hb')
  · subst hk; exact h2 (hb.ne (hH.box x hx).1)
theorem from_row (hH : HOK' B w mb H) (hx : x ∈ H) (hr : ROK' B w r) (hm : Mod (fun k => k + 1 = r.2.2 ∨ k = x.p) w u) : From B w u := hm.weak fun k _ hk => by
  have := (hH.box x hx).2.1
  have := hr.2.1
  show B ≤ k
  rcases hk with hk | hk <;> omega
def Lens (N : Nat) (H : List HE) : Prop := ∀ x ∈ H, ∀ r ∈ x.rs, r.2.1.length ≤ N
theorem Lens.mono {N M : Nat} (h : Lens N H) (hn : N ≤ M) : Lens M H := fun x hx r hr => Nat.le_trans (h x hx r hr) hn
theorem Lens.set {N : Nat} (h : Lens N H) (hx : H[i]? = some x) {r' : RC} (hr' : r'.2.1.length ≤ N) : Lens N (H.set i { x with rs := x.rs.set j r' }) := fun y hy s hs => by
  rcases mem_set hy with rfl | ⟨q, _, hq⟩
  · rcases mem_set hs with rfl | ⟨l, _, hl⟩
    · exact hr'
    · exact h x (List.mem_of_getElem? hx) s (List.mem_of_getElem? hl)
  · exact h y (List.mem_of_getElem? hq) s hs
theorem dHE_set0 (h3 : x.rs.length = 3) {r' : RC} : dHE { x with rs := x.rs.set 0 r' } = { dHE x with numbers := r'.2.1.map (·.1) } := by
  unfold dHE rowD
  simp [List.getElem?_set, h3]
theorem dHE_set1 (h3 : x.rs.length = 3) {r' : RC} : dHE { x with rs := x.rs.set 1 r' } = { dHE x with cats := r'.2.1.map (·.1) } := by
  unfold dHE rowD
  simp [List.getElem?_set, h3]
theorem dHE_set2 (h3 : x.rs.length = 3) {r' : RC} : dHE { x with rs := x.rs.set 2 r' } = { dHE x with lost := r'.2.1.map (·.1) } := by
  unfold dHE rowD
  simp [List.getElem?_set, h3]
theorem rs_get (h3 : x.rs.length = 3) {k : Nat} (hk : k < 3) : ∃ r, x.rs[k]? = some r ∧ r ∈ x.rs ∧ rowD x k = r.2.1.map (·.1) := by
  refine ⟨x.rs[k]'(by omega), List.getElem?_eq_getElem (by omega), List.getElem_mem _, ?_⟩
  unfold rowD
  rw [List.getElem?_eq_getElem (by omega)]
  rfl
abbrev tM' : Nat := 135
abbrev tN' : Nat := 101
variable {nd : ND} {m : MkD} {k0 : Nat} {pm pn : Nat} {N : Nat}
theorem lost_c {R : VP} {b34 : lists_Of.T34} {m7 : Option Nat} {p9 a27 a39 : OA} {n27 c27 n39 c39 : Nat} {x28 x29 x40 : Int} {jx : Nat} (hjx : jx < 1048576)
    (hH : HOK' B w mb H) (hB : B ≤ w.heap.size) (hx : H[i]? = some x) (bn : Blk w pn (enN nd a n c).toArray tN') {cu : CutD} (hq : AtL w p (enC cu ⟨a, n, c⟩)) (hqr : ∀ r, x.rs[2]? = some r → p.block + 1 ≠ r.2.2) (hs : LsI F w a n c cu.cats) (hm : cu.sm) (hl : Lens N H) (hN : N ≤ 1073741824)
    (hk : ∀ H' u, HOK' B u mb H' → H'.map dHE = (H.map dHE).set i (if nd.missing = 2 then { dHE x with lost := (dHE x).lost ++ [cu] } else dHE x) → Tch w u → From B w u → Lens (N + 1) H' → b34 m7 k0 p9 a27 n27 c27 x28 x29 a39 n39 c39 x40 ((jx + 1 : Nat) : Int) u) :
    lists_Of.g65 R b34 m7 k0 p9 (some ⟨pn, 0, none⟩) (some ⟨x.p, 0, none⟩) (some p) a27 n27 c27 x28 x29 a39 n39 c39 x40 jx w := by
  unfold lists_Of.g65
  have hxm := List.mem_of_getElem? hx
  have h3 := (hH.box x hxm).2.2
  refine optN_mk ⟨nd.missing, by rw [addr_add, Nat.zero_add, bn.cell]; rfl, onEq (fun e2 => ?_) fun e2 => nv_succ (by omega) ?_⟩
  · obtain ⟨r, hr, hrm, hrd⟩ := rs_get (x := x) h3 (k := 2) (by omega)
    have K0 : ∀ (r' : RC) u, r'.2.1.map (·.1) = r.2.1.map (·.1) ++ [cu] → HOK' B u mb (H.set i { x with rs := x.rs.set 2 r' }) → Mod (fun k => k + 1 = r.2.2 ∨ k = x.p) w u → inc (jx : Int) fun t => b34 m7 k0 p9 a27 n27 c27 x28 x29 a39 n39 c39 x40 t u := by
      intro r' u hd hH' hmod
      refine nv_succ (by omega) (hk _ u hH' ?_ (tch_row hH hxm (hH.row x hxm r hrm) hmod) (from_row hH hxm (hH.row x hxm r hrm) hmod) ((hl.mono (by omega)).set hx ?_))
      · rw [List.map_set, dHE_set2 h3, hd, if_pos e2]
        unfold dHE
        simp [hrd]
      · have h1 := congrArg List.length hd
        simp at h1
        have h2 := hl x hxm r hrm
        omega
    exact addRow hH hB hx hr hq (hqr r hr) hs hm (by have := hl x hxm r hrm; omega) K0
  · refine hk H w hH ?_ (Tch.refl w) (From.refl B w) (hl.mono (by omega))
    rw [if_neg e2]
    apply List.ext_getElem?
    intro q
    rw [List.getElem?_set]
    split
    · rename_i h; subst h
      rw [List.length_map, if_pos (List.getElem?_eq_some_iff.1 hx).1, List.getElem?_map, hx]; rfl
    · rfl
theorem list_get_map {α β : Type} {f : α → β} {l : List α} {i : Nat} {x : α} (h : l[i]? = some x) : (l.map f)[i]? = some (f x) := by rw [List.getElem?_map, h]; rfl
theorem j57_c {R : VP} {b18 : lists_Of.T18} {b34 : lists_Of.T34} {m7 : Option Nat} {p9 a27 a39 : OA} {n27 c27 n39 c39 : Nat} {x28 x29 x40 : Int} {jx : Nat} (hjx : jx < 1048576)
    (hH : HOK' B w mb H) (hB : B ≤ w.heap.size) (hx : H[i]? = some x) (bm : Blk w pm (enM m).toArray tM') (bn : Blk w pn (enN nd a n c).toArray tN') (hs : LsI F w a n c nd.cats) (hF : ∀ b, F b → b < B) (hm : nd.cats.length ≤ 1048576) (hl : Lens N H) (hN : N ≤ 1073741800)
    (hk : ∀ H' u, HOK' B u mb H' → H'.map dHE = (H.map dHE).set i (updC nd ⟨nd.thr, nd.cats, k0, m.frm, m.to⟩ (dHE x)) → Tch w u → From B w u → Lens (N + 2) H' → b34 m7 k0 p9 a27 n27 c27 x28 x29 a39 n39 c39 x40 ((jx + 1 : Nat) : Int) u) :
    lists_Of.j57 R b18 b34 m7 k0 p9 (some ⟨pm, 0, none⟩) (some ⟨pn, 0, none⟩) (some ⟨x.p, 0, none⟩) a27 n27 c27 x28 x29 a39 n39 c39 x40 jx w := by
  unfold lists_Of.j57 lists_Of.g57
  have hxm := List.mem_of_getElem? hx
  have h3 := (hH.box x hxm).2.2
  have cn : ∀ {k : Nat} {v : Value} {w : World}, Blk w pn (enN nd a n c).toArray tN' → (enN nd a n c)[k]? = some v → w.cell? ((⟨pn, 0, none⟩ : Addr).add k) = some v := fun h hv => by rw [addr_add, Nat.zero_add, h.cell]; simpa using hv
  have cm : ∀ {k : Nat} {v : Value}, (enM m)[k]? = some v → w.cell? ((⟨pm, 0, none⟩ : Addr).add k) = some v := fun hv => by rw [addr_add, Nat.zero_add, bm.cell]; simpa using hv
  refine optN_mk ⟨_, cn bn rfl, optN_mk ⟨_, _, _, cn bn rfl, optN_mk ⟨_, cm rfl, optN_mk ⟨_, cm rfl, ?_⟩⟩⟩⟩
  refine boxS (zs := [.float .f64 0, .slice none 0 0, .int .i64 0, .int .i64 0, .int .i64 0]) (vs := enC ⟨nd.thr, nd.cats, k0, m.frm, m.to⟩ ⟨a, n, c⟩) (e := tC') rfl fun w1 hA bA hk1 => ?_
  have hH1 := hH.kept hk1
  have hsz : B ≤ w1.heap.size := Nat.le_trans hB hk1.size
  have bn1 := bn.keep hk1
  have gle : ∀ r ∈ x.rs, r.2.2 ≤ w.heap.size := fun r hr => Row.le (hH.row x hxm r hr).1
  have apart : ∀ r ∈ x.rs, (na w).block + 1 ≠ r.2.2 := fun r hr h => by have := gle r hr; have e : (na w).block = w.heap.size := rfl; omega
  have fin : ∀ (j : Nat) (r r' : RC) (u : World) (y : LstD), j < 2 → x.rs[j]? = some r → r'.2.1.map (·.1) = r.2.1.map (·.1) ++ [(⟨nd.thr, nd.cats, k0, m.frm, m.to⟩ : CutD)] → dHE { x with rs := x.rs.set j r' } = y → (if nd.missing = 2 then { y with lost := y.lost ++ [(⟨nd.thr, nd.cats, k0, m.frm, m.to⟩ : CutD)] } else y) = updC nd ⟨nd.thr, nd.cats, k0, m.frm, m.to⟩ (dHE x) →
      HOK' B u mb (H.set i { x with rs := x.rs.set j r' }) → Mod (fun k => k + 1 = r.2.2 ∨ k = x.p) w1 u → lists_Of.j65 R b18 b34 m7 k0 p9 (some ⟨pn, 0, none⟩) (some ⟨x.p, 0, none⟩) (some (na w)) a27 n27 c27 x28 x29 a39 n39 c39 x40 jx u := by
    intro j r r' u y hj2 hr hd hy hupd hH' hmod
    have hrm := List.mem_of_getElem? hr
    have hrok := hH1.row x hxm r hrm
    have tch := tch_row hH1 hxm hrok hmod
    have fr := from_row hH1 hxm hrok hmod
    have hil := (List.getElem?_eq_some_iff.1 hx).1
    have hx' : (H.set i { x with rs := x.rs.set j r' })[i]? = some { x with rs := x.rs.set j r' } := by rw [List.getElem?_set, if_pos rfl, if_pos hil]
    have hAu : AtL u (na w) (enC (⟨nd.thr, nd.cats, k0, m.frm, m.to⟩ : CutD) ⟨a, n, c⟩) := hA.mod hmod fun hk => by
      rcases hk with hk | hk
      · exact apart r hrm hk
      · have := (hH.box x hxm).1.lt
        have e : (na w).block = w.heap.size := rfl
        omega
    have hsu : LsI F u a n c nd.cats := (hs.kept hk1).mod fr fun b hb hBb => by have := hF b hb; have h' : B ≤ b := hBb; omega
    unfold lists_Of.j65
    refine lost_c (x := { x with rs := x.rs.set j r' }) (i := i) hjx hH' (Nat.le_trans hsz hmod.size) hx' (tch _ _ _ bn1 (by decide) (by decide)) hAu (fun r2 hr2 => ?_) hsu hm (Lens.set (N := N + 1) (hl.mono (by omega)) hx ?_) (by omega) fun H' v hH2 hd2 tch2 fr2 hl2 => ?_
    · have : x.rs[2]? = some r2 := by
        rw [List.getElem?_set, if_neg (by omega)] at hr2
        exact hr2
      exact apart r2 (List.mem_of_getElem? this)
    · have h1 := congrArg List.length hd
      simp at h1
      have h2 := hl x hxm r hrm
      omega
    · refine hk H' v hH2 ?_ ((Tch.kept hk1).trans (tch.trans tch2)) ?_ hl2
      · rw [hd2, hy, hupd, List.map_set, List.set_set]
      · exact ((Kept.mod (S := fun k => B ≤ k) hk1).trans fr (fun _ _ h => h) (fun _ _ h => h)).trans fr2 (fun _ _ h => h) (fun _ _ h => h)
  refine ⟨_, cn bn1 rfl, onEq (fun e3 => ?_) fun e3 => ?_⟩
  · obtain ⟨r, hr, hrm, hrd⟩ := rs_get (x := x) h3 (k := 1) (by omega)
    refine addRow hH1 hsz hx hr hA (apart r hrm) (hs.kept hk1) hm (by have := hl x hxm r hrm; omega) fun r' u hd hH' hmod => fin 1 r r' u _ (by omega) hr hd (dHE_set1 h3) ?_ hH' hmod
    unfold updC
    rw [if_pos e3, hd]
    unfold dHE
    simp [hrd]
  · obtain ⟨r, hr, hrm, hrd⟩ := rs_get (x := x) h3 (k := 0) (by omega)
    refine addRow hH1 hsz hx hr hA (apart r hrm) (hs.kept hk1) hm (by have := hl x hxm r hrm; omega) fun r' u hd hH' hmod => fin 0 r r' u _ (by omega) hr hd (dHE_set0 h3) ?_ hH' hmod
    unfold updC
    rw [if_neg e3, hd]
    unfold dHE
    simp [hrd]
end
end Go.Mir

set_option maxRecDepth 100000
namespace Go.Mir
open Go Go.E Go.RowKit Go.Tr Go.Ss Go.ChangeShapes
section
variable {w u : World} {a a1 : OA} {n c n1 c1 : Nat} {F F' S : Nat → Prop} {p q : Addr} {B mb i j : Nat} {H : List HE} {x : HE} {r : RC} {ms : List MkD} {nodes : List ND}
theorem t130 : (Go.Proofs.Try.prog).underlying 130 = some (.map 3 92) := by kernel_rfl
theorem kInt : KeyE Go.Proofs.Try.prog 3 (enK .i64) := keyInt (by kernel_rfl)
theorem zPtr (w : World) : (zeroValue 92).run Go.Proofs.Try.prog w = .ok (.pointer none) w := by kernel_rfl
theorem hok_nodup (hH : HOK' B w mb H) : (H.map HE.f).Nodup := by
  have := hH.map.nodup kInt
  rw [List.map_map] at this
  exact this
theorem hok_get (hH : HOK' B w mb H) {f : Int} {v : Value} (h : aget (H.map HE.kv) f = some v) : ∃ (i : Nat) (x : HE), H[i]? = some x ∧ x.f = f ∧ v = .pointer (some ⟨x.p, 0, none⟩) := by
  obtain ⟨x, hx, he⟩ := List.mem_map.1 (aget_mem h)
  obtain ⟨i, hi⟩ := List.getElem?_of_mem hx
  cases he
  exact ⟨i, x, hi, rfl, rfl⟩
theorem hok_none {f : Int} (h : aget (H.map HE.kv) f = none) : f ∉ H.map HE.f := by
  have := aget_none.1 h
  rw [List.map_map] at this
  exact this
theorem dHE_feat (H : List HE) : (H.map dHE).map LstD.feature = H.map HE.f := by rw [List.map_map]; rfl
theorem rdMk (h : SlK 3 enM w a n ms) {i : Int} {K : Int → Int → Int → Prop} (h0 : 0 ≤ i) (hi : i < n) (hk : ∀ m, ms[i.toNat]? = some m → K m.node m.frm m.to) :
    ix a n i fun q => cI w ((q.add (i.toNat * 3)).add 0) .i64 fun x0 => cI w ((q.add (i.toNat * 3)).add 1) .i64 fun x1 => cI w ((q.add (i.toNat * 3)).add 2) .i64 fun x2 => K x0 x1 x2 := by
  have hi' : i.toNat < n := by omega
  refine h.read hi' fun p hp => chk_mk ⟨h0, hi⟩ ⟨_, ?_, _, ?_, _, ?_, hk _ (List.getElem?_eq_getElem (h.len ▸ hi'))⟩
  · rw [add_add]; exact hp 0 _ rfl
  · rw [add_add]; exact hp 1 _ rfl
  · rw [add_add]; exact hp 2 _ rfl
abbrev tT' : Nat := 44
theorem l34_loop {R : VP} {b18 : lists_Of.T18} {k0 : Nat} {a27 : OA} {n27 c27 : Nat} {x28 x29 o : Int} {pt g0 : Nat} {w0 : World} {L0 : List LstD} {N : Nat} (hN : N + 2 * ms.length ≤ 1073741700) (hms : ms.length ≤ 4096) (hn : n = ms.length)
    (bt : Blk w0 pt #[.int .i64 o, .slice a1 n1 c1] tT') (hnodes : Ls tN F w0 a1 n1 c1 nodes) (hF : ∀ b, F b → b < B) (hin : ∀ m ∈ ms, ∃ (i : Nat) (x : ND), m.node = (i : Int) ∧ nodes[i]? = some x) (hsh : Short 1048576 nodes) (hmk : ArrK 3 enM tM' w0 a n c ms g0)
    (hfin : ∀ H' u, HOK' B u mb H' → H'.map dHE = (ms.filterMap (cutOf k0 nodes)).foldl addC L0 → Tch w0 u → From B w0 u → Lens (N + 2 * ms.length) H' → inc x29 fun t => b18 (some mb) a27 n27 c27 x28 t u) :
    ∀ (k j : Nat) (w : World) (H : List HE), j + k = n → HOK' B w mb H → B ≤ w.heap.size → H.map dHE = ((ms.take j).filterMap (cutOf k0 nodes)).foldl addC L0 → Tch w0 w → From B w0 w → Lens (N + 2 * j) H →
      lists_Of.l34 R b18 (k + 1) (some mb) k0 (some ⟨pt, 0, none⟩) a27 n27 c27 x28 x29 a n c n j w
  | 0, j, w, H, hj, hH, hB, hd, ht, hf, hl => by
    unfold lists_Of.l34 lists_Of.g34
    refine onDec_f (by omega) ?_
    obtain rfl : j = ms.length := by omega
    rw [List.take_length] at hd
    exact hfin H w hH hd ht hf hl
  | k + 1, j, w, H, hj, hH, hB, hd, ht, hf, hl => by
    unfold lists_Of.l34 lists_Of.g34
    refine onDec_t (by omega) ?_
    have hmk' : ArrK 3 enM tM' w a n c ms g0 := ht.row hmk (by decide) (by decide)
    refine rdMk (hmk'.slk enM_len (by omega)) (by omega) (by omega) fun m hm => ?_
    rw [Int.toNat_natCast] at hm
    refine boxS (zs := [.int .i64 0, .int .i64 0, .int .i64 0]) (vs := enM m) (e := tM') rfl fun w1 hAm bm hk1 => ?_
    have bt1 := (ht _ _ _ bt (by decide) (by decide)).keep hk1
    refine ⟨_, _, _, show w1.cell? ((⟨pt, 0, none⟩ : Addr).add 1) = some (.slice a1 n1 c1) by (rw [addr_add, Nat.zero_add, bt1.cell]; rfl), ?_⟩
    refine ⟨_, hAm 0 _ rfl, ?_⟩
    obtain ⟨q, nd, hq, hnd⟩ := hin m (List.mem_of_getElem? hm)
    have hnodes1 : Ls tN F w1 a1 n1 c1 nodes := ((hnodes.mod hf fun b hb hBb => by have := hF b hb; have h' : B ≤ b := hBb; omega)).kept hk1
    have hql : q < n1 := by rw [hnodes1.len]; exact (List.getElem?_eq_some_iff.1 hnd).1
    refine hnodes1.rdN (by omega) (by omega) fun nd' a2 n2 c2 hnd' hcats => ?_
    have hnn : nd' = nd := by rw [hq, Int.toNat_natCast, hnd] at hnd'; cases hnd'; rfl
    subst hnn
    refine boxS (zs := [.int .u8 0, .int .i64 0, .int .i64 0, .float .f64 0, .slice none 0 0, .int .u8 0, .int .i64 0, .int .i64 0]) (vs := enN nd' a2 n2 c2) (e := tN') rfl fun w2 hAn bn hk2 => ?_
    have hk12 := Kept.trans hk1 hk2
    have hH2 := hH.kept hk12
    refine ⟨_, hAn 2 _ rfl, ?_⟩
    have hcut : cutOf k0 nodes m = some (nd', ⟨nd'.thr, nd'.cats, k0, m.frm, m.to⟩) := by unfold cutOf; rw [hq, Int.toNat_natCast, hnd]; rfl
    have hnext : ((ms.take (j + 1)).filterMap (cutOf k0 nodes)).foldl addC L0 = addC (H.map dHE) (nd', ⟨nd'.thr, nd'.cats, k0, m.frm, m.to⟩) := by
      rw [take_snoc hm, List.filterMap_append, List.foldl_append, ← hd]
      simp [hcut]
    have go : ∀ (H1 : List HE) (i : Nat) (x : HE) (u : World), HOK' B u mb H1 → H1[i]? = some x → x.f = nd'.feature → H1.map dHE = ensL nd'.feature (H.map dHE) → Tch w2 u → From B w2 u → Lens (N + 2 * j) H1 →
        lists_Of.j57 R b18 (lists_Of.l34 R b18 (k + 1)) (some mb) k0 (some ⟨pt, 0, none⟩) (some (na w)) (some (na w1)) (some ⟨x.p, 0, none⟩) a27 n27 c27 x28 x29 a n c n j u := by
      intro H1 i x u hH1 hx hxf hens ht1 hf1 hl1
      have hsz : B ≤ u.heap.size := Nat.le_trans (Nat.le_trans hB hk12.size) hf1.size
      refine j57_c (m := m) (nd := nd') (F := F) (by omega) hH1 hsz hx (ht1 _ _ _ (bm.keep hk2) (by decide) (by decide)) (ht1 _ _ _ bn (by decide) (by decide)) ((hcats.kept hk2).mod hf1 fun b hb hBb => by have := hF b hb; have h' : B ≤ b := hBb; omega) hF (hsh nd' (List.mem_of_getElem? hnd)) hl1 (by omega) fun H' v hH' hd' ht' hf' hl' => ?_
      refine l34_loop hN hms hn bt hnodes hF hin hsh hmk hfin k (j + 1) v H' (by omega) hH' (Nat.le_trans hsz hf'.size) ?_ (ht.trans ((Tch.kept hk12).trans (ht1.trans ht'))) ?_ (hl'.mono (by omega))
      · rw [hnext, hd']
        have hi := list_get_map (f := dHE) hx
        rw [map_set (f := nd'.feature) (updC nd' ⟨nd'.thr, nd'.cats, k0, m.frm, m.to⟩) (by rw [dHE_feat]; exact hok_nodup hH1) hi hxf, hens]
        rfl
      · exact ((hf.trans (Kept.mod (S := fun _ => False) hk12) (U := fun k => B ≤ k) (fun _ _ h => h) (fun _ _ h => h.elim)).trans hf1 (fun _ _ h => h) (fun _ _ h => h)).trans hf' (fun _ _ h => h) (fun _ _ h => h)
    refine MapL.lookup kInt t130 zPtr hH2.map ?_
    cases hg : aget (H.map HE.kv) nd'.feature with
    | none =>
      have hnf := hok_none hg
      refine ⟨none, rfl, ?_⟩
      refine ob_t ⟨_, hAn 2 _ rfl, ?_⟩
      have b3 : Blk (w2.alloc (.cells (cl68 nd'.feature none 0 0 none 0 0 none 0 0) 69)) w2.heap.size (HE.cells ⟨nd'.feature, w2.heap.size, [rNil, rNil, rNil]⟩).toArray tL' := Blk.new w2 _ _
      have hk3 : Kept w2 (w2.alloc (.cells (cl68 nd'.feature none 0 0 none 0 0 none 0 0) 69)) := Kept.new w2 _
      refine nw_mk ?_
      have hc2 : (w2.alloc (.cells (cl68 nd'.feature none 0 0 none 0 0 none 0 0) 69)).cell? ((na w1).add 2) = some (.int .i64 nd'.feature) := (hAn.kept hk3) 2 _ rfl
      refine Exists.intro nd'.feature (And.intro hc2 ?_)
      have hm3 := hH2.map.kept hk3
      have hh : ∀ R, (∀ u, MapL (enK .i64) u mb (aput (H.map HE.kv) nd'.feature (.pointer (some (na w2)))) → Only (mb + 1) (w2.alloc (.cells (cl68 nd'.feature none 0 0 none 0 0 none 0 0) 69)) u → R undef u) → rawN Go.Proofs.Try.prog (do Instr.mapUpdate 130 (.map (some mb)) (enK .i64 nd'.feature) (.pointer (some (na w2))); pure undef) (w2.alloc (.cells (cl68 nd'.feature none 0 0 none 0 0 none 0 0) 69)) R := fun R hR => MapL.update kInt t130 hm3 hR
      refine hh _ fun u hu ho => ?_
      have hnew := hH2.push (Nat.le_trans hB hk12.size) hnf b3 hk3 hu ho
      refine go (H ++ [⟨nd'.feature, w2.heap.size, [rNil, rNil, rNil]⟩]) H.length ⟨nd'.feature, w2.heap.size, [rNil, rNil, rNil]⟩ u hnew (by simp) rfl ?_ (fun b cur e hb _ _ => (hb.keep hk3).mod ho fun hk => ?_) ?_ ?_
      · unfold ensL
        rw [if_neg (by rw [dHE_feat]; exact hnf), List.map_append]
        rfl
      · obtain rfl : b = mb := by have hk' : b + 1 = mb + 1 := hk; omega
        exact hH2.map.noBlk hb
      · exact (Kept.mod (S := fun k => B ≤ k) hk3).trans ho (fun _ _ h => h) (fun k _ hk => by have hk' : k + 1 = mb + 1 := hk; have := hH.mB; show B ≤ k; omega)
      · intro y hy r hr
        rcases List.mem_append.1 hy with hy | hy
        · exact hl y hy r hr
        · obtain rfl := by simpa using hy
          have : r = rNil := by simpa using hr
          subst this
          exact Nat.zero_le _
    | some v =>
      obtain ⟨i, x, hx, hxf, rfl⟩ := hok_get hH hg
      refine ⟨_, rfl, ob_f ?_⟩
      refine go H i x w2 hH2 hx hxf ?_ (Tch.refl w2) (From.refl B w2) hl
      unfold ensL
      rw [if_pos (by rw [dHE_feat, ← hxf]; exact List.mem_map_of_mem (List.mem_of_getElem? hx))]
end
end Go.Mir

set_option maxRecDepth 100000
namespace Go.Mir
open Go Go.E Go.RowKit Go.Tr Go.Ss Go.ChangeShapes
def ltD (x y : CutD) : Bool := decide (keyP x.thr < keyP y.thr)
def ltF (x y : LstD) : Bool := decide (x.feature < y.feature)
def srtL (e : LstD) : LstD := { e with numbers := sorted ltD e.numbers }
noncomputable def listsP (ts : List TD) : List LstD := sorted ltF (((cutsP ts 0).foldl addC []).map srtL)
def toCR (x : CD) : CutR := ⟨x.1.thr, x.2, x.1.tree, x.1.frm, x.1.to⟩
def toLR (h : HE) : LstR := ⟨h.f, ((h.rs[0]?).getD rNil).1, ((h.rs[1]?).getD rNil).1, ((h.rs[2]?).getD rNil).1⟩
theorem fm_toCR (l : List CD) : (l.map toCR).flatMap enCutR = l.flatMap enCD := by
  induction l with
  | nil => rfl
  | cons x l ih => rw [List.map_cons, List.flatMap_cons, List.flatMap_cons, ih]; rfl
theorem sorted_toCR (l : List CD) : sorted ltC (l.map toCR) = (sorted (fun a b => ltD a.1 b.1) l).map toCR := sorted_map toCR l
theorem sorted_fst (l : List CD) : (sorted (fun a b => ltD a.1 b.1) l).map (·.1) = sorted ltD (l.map (·.1)) := (sorted_map (fun x : CD => x.1) l).symm
section
variable {w u : World} {a a1 : OA} {n c n1 c1 : Nat} {F F' S : Nat → Prop} {p q : Addr} {B mb i j : Nat} {H : List HE} {x : HE} {r : RC}
theorem rng_noBlk {κ : Type} [DecidableEq κ] {en : κ → Value} {b r : Nat} {L rem : List (κ × Value)} {cs : Array Value} {e : Nat} (h : Rng en w b r L rem) (hb : Blk w r cs e) : False := by
  obtain ⟨es, c, s, se, l, h1, _⟩ := h
  unfold Blk at hb
  rw [h1] at hb
  cases hb
theorem sortRow (hH : HOK' B w mb H) (hx : H[i]? = some x) (hr : x.rs[0]? = some r) (hl : r.2.1.length ≤ 1073741824) {K : World → Prop}
    (hk : ∀ u, HOK' B u mb (H.set i { x with rs := x.rs.set 0 (r.1, sorted (fun a b => ltD a.1 b.1) r.2.1, r.2.2) }) → Only r.2.2 w u → K u) :
    E.CallsD Go.Proofs.Try.prog 74 #[.slice r.1.a r.1.n r.1.c, .func (.func 75) #[] #[]] w fun v u => v = .tuple #[] ∧ K u := by
  have hrok := hH.row x (List.mem_of_getElem? hx) r (List.mem_of_getElem? hr)
  have hn := hrok.1.len enCD_len (by omega)
  have h0 : ArrK 5 enCutR tC' w r.1.a r.1.n r.1.c (r.2.1.map toCR) r.2.2 := by
    have := hrok.1
    unfold ArrK at this ⊢
    rw [fm_toCR]
    exact this
  refine E.CallsD.mono (rising_cut_c (by omega) h0) fun v u ⟨hv, h1, ho⟩ => ⟨hv, hk u (hH.turn ne_IC ne_IL ne_CL hx hr ho ⟨?_, hrok.2.1, fun y hy => ?_⟩ rfl rfl) ho⟩
  · rw [sorted_toCR] at h1
    show ArrK 5 enCD tC' u r.1.a r.1.n r.1.c (sorted (fun a b => ltD a.1 b.1) r.2.1) r.2.2
    unfold ArrK at h1 ⊢
    rw [← fm_toCR]
    exact h1
  · have hy' := (sorted_perm _ r.2.1).mem_iff.1 hy
    refine (hrok.2.2 y hy').mod ho fun k cur hb hk => ?_
    obtain ⟨cur', hb'⟩ := hrok.blk hk
    exact ne_IC (hb.ne hb')
theorem enLstR_one (x : LstR) : ∀ v ∈ enLstR x, v.oneCell' = true := by
  intro v hv
  simp only [enLstR, List.mem_cons, List.not_mem_nil, or_false] at hv
  rcases hv with h | h | h | h <;> subst h <;> rfl
theorem hok_cell (hH : HOK' B w mb H) (hx : x ∈ H) : AtL w ⟨x.p, 0, none⟩ (enLstR (toLR x)) := by
  obtain ⟨hb, _, h3⟩ := hH.box x hx
  intro j v hj
  rw [addr_add, Nat.zero_add, hb.cell]
  obtain ⟨r0, e0, _, _⟩ := rs_get (x := x) h3 (k := 0) (by omega)
  obtain ⟨r1, e1, _, _⟩ := rs_get (x := x) h3 (k := 1) (by omega)
  obtain ⟨r2, e2, _, _⟩ := rs_get (x := x) h3 (k := 2) (by omega)
  have : enLstR (toLR x) = x.cells := by
    unfold toLR HE.cells
    rw [e0, e1, e2]
    obtain ⟨f, p, rs⟩ := x
    match rs, h3 with
    | [s0, s1, s2], _ => simp at e0 e1 e2; subst e0; subst e1; subst e2; rfl
  rw [← this]
  simpa using hj
theorem kv_set {r' : RC} (hx : H[i]? = some x) : (H.set i { x with rs := x.rs.set j r' }).map HE.kv = H.map HE.kv := by
  rw [List.map_set]
  apply List.ext_getElem?
  intro q
  rw [List.getElem?_set]
  split
  · rename_i e; subst e; rw [List.length_map, if_pos (List.getElem?_eq_some_iff.1 hx).1, List.getElem?_map, hx]; rfl
  · rfl
def Part (D : List Int) (H : List HE) (L : List LstD) : Prop := H.map dHE = L.map fun e => if e.feature ∈ D then srtL e else e
theorem part_feat {D : List Int} {L : List LstD} (h : Part D H L) : H.map HE.f = L.map LstD.feature := by
  rw [← dHE_feat, h, List.map_map]
  refine List.map_congr_left fun e _ => ?_
  simp only [Function.comp]
  split <;> rfl
theorem part_at {D : List Int} {L : List LstD} (h : Part D H L) (hx : H[i]? = some x) : ∃ e, L[i]? = some e ∧ e.feature = x.f ∧ dHE x = if e.feature ∈ D then srtL e else e := by
  have h1 := list_get_map (f := dHE) hx
  rw [h, List.getElem?_map] at h1
  obtain ⟨e, he, h2⟩ := Option.map_eq_some_iff.1 h1
  refine ⟨e, he, ?_, h2.symm⟩
  have : (dHE x).feature = x.f := rfl
  rw [← this, ← h2]
  split <;> rfl
theorem rng_ne {κ : Type} [DecidableEq κ] {en : κ → Value} {b r : Nat} {L rem : List (κ × Value)} (h : Rng en w b r L rem) : b ≠ r := by
  obtain ⟨es, c, s, se, l, h1, h2, _⟩ := h
  rintro rfl
  rw [h1] at h2
  cases h2
theorem only_kept0 {g : Nat} (h : Only g w u) (hg : g = 0) : Kept w u := Mod.kept (S := fun k => k + 1 = g) h (fun k _ hk => by have h' : k + 1 = g := hk; omega)
theorem hok_out {e size g : Nat} {cs : List Value} (hH : HOK' B w mb H) (hr : Row w e size a n c cs g) (he : e = tL') (hgp : ∀ y ∈ H, y.p + 1 ≠ g) (ho : Only g w u) : HOK' B u mb H := by
  subst he
  rcases Nat.eq_zero_or_pos g with h0 | h0
  · exact hH.kept (only_kept0 ho h0)
  · obtain ⟨b, hb⟩ : ∃ b, g = b + 1 := ⟨g - 1, by omega⟩
    subst hb
    obtain ⟨cur, hblk⟩ := Row.blk hr rfl
    exact hH.apart ne_IL ne_CL ho hblk fun y hy e => hgp y hy (by omega)
theorem rng_out {e size g r : Nat} {cs : List Value} {L rem : List (Int × Value)} (hR : Rng (enK .i64) w mb r L rem) (hr : Row w e size a n c cs g) (ho : Only g w u) : Rng (enK .i64) u mb r L rem :=
  hR.mod ho (fun hk => by obtain ⟨cur, hb⟩ := Row.blk hr hk; exact hR.map.noBlk hb) fun hk => by obtain ⟨cur, hb⟩ := Row.blk hr hk; exact rng_noBlk hR hb
theorem perm_of_kv {O : List HE} (hnd : (H.map HE.f).Nodup) (hO : ∀ z ∈ O, z ∈ H) (hp : (O.map HE.kv).Perm (H.map HE.kv)) : O.Perm H := by
  have inj : ∀ x ∈ H, ∀ y ∈ H, x.f = y.f → x = y := fun x hx y hy hf => by
    obtain ⟨i, hi⟩ := List.getElem?_of_mem hx
    obtain ⟨j, hj⟩ := List.getElem?_of_mem hy
    have li := (List.getElem?_eq_some_iff.1 hi).1
    have lj := (List.getElem?_eq_some_iff.1 hj).1
    have : i = j := nodup_ix hnd (by simpa using li) (by simpa using lj) (by
      simp only [List.getElem_map]
      rw [(List.getElem?_eq_some_iff.1 hi).2, (List.getElem?_eq_some_iff.1 hj).2, hf])
    subst this
    rw [hi] at hj
    cases hj
    rfl
  have hf : (O.map HE.f).Perm (H.map HE.f) := by
    have := hp.map (·.1)
    rwa [List.map_map, List.map_map] at this
  have n1 : O.Nodup := nodup_of_map HE.f (hf.nodup_iff.2 hnd)
  have n2 : H.Nodup := nodup_of_map HE.f hnd
  refine (List.perm_ext_iff_of_nodup n1 n2).2 fun z => ⟨hO z, fun hz => ?_⟩
  obtain ⟨y, hy, he⟩ := List.mem_map.1 (hp.mem_iff.2 (List.mem_map_of_mem (f := HE.kv) hz))
  have : y.f = z.f := congrArg Prod.fst he
  rw [← inj y (hO y hy) z hz this]
  exact hy
theorem dHE_sorted (h3 : x.rs.length = 3) (hr : x.rs[0]? = some r) : dHE { x with rs := x.rs.set 0 (r.1, sorted (fun a b => ltD a.1 b.1) r.2.1, r.2.2) } = srtL (dHE x) := by
  rw [dHE_set0 h3]
  unfold srtL
  have : (dHE x).numbers = r.2.1.map (·.1) := by unfold dHE rowD; rw [hr]; rfl
  rw [this, ← sorted_fst]
theorem part_step {D : List Int} {L : List LstD} {y : HE} (h : Part D H L) (hnd : (L.map LstD.feature).Nodup) (hx : H[i]? = some x) (hxD : x.f ∉ D) (hy : dHE y = srtL (dHE x)) : Part (D ++ [x.f]) (H.set i y) L := by
  obtain ⟨e, he, hf, hd⟩ := part_at h hx
  rw [if_neg (by rw [hf]; exact hxD)] at hd
  unfold Part at h ⊢
  rw [List.map_set, h, hy, hd]
  apply List.ext_getElem?
  intro q
  rw [List.getElem?_set]
  split
  · rename_i hq; subst hq
    rw [if_pos (by rw [List.length_map]; exact (List.getElem?_eq_some_iff.1 he).1), List.getElem?_map, he]
    simp [hf]
  · rename_i hq
    rw [List.getElem?_map, List.getElem?_map]
    cases hz : L[q]? with
    | none => rfl
    | some z =>
      have : z.feature ≠ x.f := fun hzf => hq (nodup_ix hnd (by simpa using (List.getElem?_eq_some_iff.1 he).1) (by simpa using (List.getElem?_eq_some_iff.1 hz).1) (by
        simp only [List.getElem_map]
        rw [(List.getElem?_eq_some_iff.1 he).2, (List.getElem?_eq_some_iff.1 hz).2, hf, hzf]))
      simp [this]
theorem l78_loop {R : VP} {r : Nat} {w0 : World} {L0 : List LstD} {N : Nat} (hN : N ≤ 1073741824) (hL : L0.length ≤ 1073741824) (hnd : (L0.map LstD.feature).Nodup)
    (hfin : ∀ H' u a n c g, HOK' B u mb H' → Part (L0.map LstD.feature) H' L0 → From B w0 u → ArrK 4 enLstR tL' u a n c ((sorted (fun a b => decide (a.f < b.f)) H').map toLR) g → (g = 0 ∨ B < g) → R (.tuple #[.slice a n c, .int .i64 0]) u) :
    ∀ (k : Nat) (w : World) (H : List HE) (rem : List (Int × Value)) (O : List HE) (a : OA) (n c g : Nat), rem.length = k → HOK' B w mb H → B ≤ w.heap.size → Rng (enK .i64) w mb r (H.map HE.kv) rem → B ≤ r → ArrK 4 enLstR tL' w a n c (O.map toLR) g → (g = 0 ∨ B < g) → (∀ y ∈ H, y.p + 1 ≠ g) →
      (∀ z ∈ O, z ∈ H) → (O.map HE.kv ++ rem).Perm (H.map HE.kv) → Part (O.map HE.f) H L0 → Lens N H → From B w0 w → lists_Of.l78 R (k + 1) a n c (some ⟨r, 0, none⟩) w := by
  intro k
  induction k with
  | zero =>
    intro w H rem O a n c g hk hH hB hrng hr hout hg hgp hO hperm hpart hl hf
    have hrem : rem = [] := List.eq_nil_of_length_eq_zero hk
    subst hrem
    rw [List.append_nil] at hperm
    have hOH := perm_of_kv (hok_nodup hH) hO hperm
    have hn := ArrK.len (k := 4) (en := enLstR) (fun _ => rfl) (by omega) hout
    have hHl : H.length = L0.length := by have := congrArg List.length (part_feat hpart); simpa using this
    have hOl := hOH.length_eq
    rw [List.length_map] at hn
    rw [lists_Of.u78]; unfold lists_Of.g78
    refine hrng.next (fun _ => .inl ⟨rfl, ?_⟩) (fun u r1 x r2 h => by simp at h)
    unfold lists_Of.j81 lists_Of.g81
    refine ob_f (E.CallsD.mono (rising_list_c (by omega) hout) fun v u ⟨hv, h1, ho⟩ => ⟨hv, hfin H u a n c g (hok_out hH hout rfl hgp ho) ?_ (hf.trans ho (fun _ _ h => h) (fun k _ hk => by have hk' : k + 1 = g := hk; show B ≤ k; omega)) ?_ hg⟩)
    · have hfe : ∀ f, f ∈ O.map HE.f ↔ f ∈ L0.map LstD.feature := fun f => by rw [← part_feat hpart]; exact (hOH.map HE.f).mem_iff
      unfold Part at hpart ⊢
      rw [hpart]
      refine List.map_congr_left fun e _ => ?_
      simp only [hfe]
    · rw [sorted_map] at h1
      have e : sorted (fun a b => ltL (toLR a) (toLR b)) O = sorted (fun a b => decide (a.f < b.f)) H := sorted_keys (key := HE.f) hOH ((hOH.map HE.f).nodup_iff.2 (hok_nodup hH))
      rw [e] at h1
      exact h1
  | succ k ih =>
    intro w H rem O a n c g hk hH hB hrng hr hout hg hgp hO hperm hpart hl hf
    rw [lists_Of.u78]; unfold lists_Of.g78
    refine hrng.next (fun h => by rw [h] at hk; cases hk) (fun u r1 x r2 hrem hrng' ho hent => .inr ⟨_, _, rfl, ?_⟩)
    unfold lists_Of.j81 lists_Of.g81
    refine ob_t (rawN.of hent ⟨_, _, rfl, ?_⟩)
    have hxm : x ∈ H.map HE.kv := hperm.mem_iff.1 (List.mem_append_right _ (by rw [hrem]; simp))
    obtain ⟨y, hy, hyx⟩ := List.mem_map.1 hxm
    subst hyx
    obtain ⟨i, hi⟩ := List.getElem?_of_mem hy
    have h3 := (hH.box y hy).2.2
    have hne : r ≠ mb := Ne.symm (rng_ne hrng)
    have hu : HOK' B u mb H := hH.other ho (fun k cur e hb hk => by
      have hk' : k + 1 = r + 1 := hk
      obtain rfl : k = r := by omega
      exact rng_noBlk hrng hb) (fun hk => hne (by have hk' : mb + 1 = r + 1 := hk; omega))
    have hout1 : ArrK 4 enLstR tL' u a n c (O.map toLR) g := hout.mod ho fun k hk hS => by
      obtain ⟨cur, hb⟩ := Row.blk hout hk
      have hS' : k + 1 = r + 1 := hS
      obtain rfl : k = r := by omega
      exact rng_noBlk hrng hb
    have hf1 : From B w0 u := hf.trans ho (fun _ _ h => h) (fun k _ hk => by have hk' : k + 1 = r + 1 := hk; show B ≤ k; omega)
    obtain ⟨r0, hr0, hr0m, _⟩ := rs_get (x := y) h3 (k := 0) (by omega)
    have hcell := hok_cell hu hy
    show cL u ((⟨y.p, 0, none⟩ : Addr).add 1) _
    have hc1 : u.cell? ((⟨y.p, 0, none⟩ : Addr).add 1) = some (.slice r0.1.a r0.1.n r0.1.c) := by
      have := hcell 1 _ rfl
      rw [this]
      simp [toLR, hr0]
    refine ⟨_, _, _, hc1, ?_⟩
    refine sortRow hu hi hr0 (by have := hl y hy r0 hr0m; omega) fun u1 hH1 ho1 => ?_
    have hrok := hu.row y hy r0 hr0m
    have hil := (List.getElem?_eq_some_iff.1 hi).1
    obtain ⟨y2, hy2⟩ : ∃ y2 : HE, y2 = { y with rs := y.rs.set 0 (r0.1, sorted (fun a b => ltD a.1 b.1) r0.2.1, r0.2.2) } := ⟨_, rfl⟩
    rw [← hy2] at hH1
    have hi2 : (H.set i y2)[i]? = some y2 := by rw [List.getElem?_set, if_pos rfl, if_pos hil]
    have hy2m := List.mem_of_getElem? hi2
    have hcell2 := hok_cell hH1 hy2m
    have hy2p : y2.p = y.p := by rw [hy2]
    have hy2f : y2.f = y.f := by rw [hy2]
    rw [hy2p] at hcell2
    show Go.E.ldL u1 (⟨y.p, 0, none⟩ : Addr) _
    have hout2 : ArrK 4 enLstR tL' u1 a n c (O.map toLR) g := hout1.mod ho1 fun k hk hS => by
      obtain ⟨cur, hb⟩ := Row.blk hout1 hk
      obtain ⟨cur', hb'⟩ := hrok.blk hS
      exact ne_CL (hb'.ne hb)
    refine ⟨_, hcell2 0 _ rfl, _, _, _, hcell2 1 _ rfl, _, _, _, hcell2 2 _ rfl, _, _, _, hcell2 3 _ rfl, ?_⟩
    have hn := ArrK.len (k := 4) (en := enLstR) (fun _ => rfl) (by omega) hout2
    rw [List.length_map] at hn
    have hHl : H.length = L0.length := by have := congrArg List.length (part_feat hpart); simpa using this
    have hOl : O.length ≤ H.length := by have := hperm.length_eq; simp at this; omega
    have hkv2 : (H.set i y2).map HE.kv = H.map HE.kv := by rw [hy2]; exact kv_set hi
    have hps : ∀ z ∈ H.set i y2, ∃ z' ∈ H, z'.p = z.p := fun z hz => by
      rcases mem_set hz with rfl | ⟨q, _, hq⟩
      · exact ⟨y, hy, hy2p.symm⟩
      · exact ⟨z, List.mem_of_getElem? hq, rfl⟩
    refine ArrK.pushL (P := Go.Proofs.Try.prog) (en := enLstR) (ys := [toLR y2]) (m := 1) S15l (fun _ => rfl) (by omega) hout2 enLstR_one rfl rfl (by omega) (by simp only [maxLen]; omega) (by omega) fun a' c' g' u2 hout3 hg' _ ho2 => ⟨_, _, _, rfl, ?_⟩
    have hgp1 : ∀ z ∈ H.set i y2, z.p + 1 ≠ g := fun z hz => by obtain ⟨z', hz', e⟩ := hps z hz; rw [← e]; exact hgp z' hz'
    have hsz1 : B ≤ u1.heap.size := Nat.le_trans (Nat.le_trans hB ho.size) ho1.size
    have hynO : y.f ∉ O.map HE.f := fun hmem => by
      have hnd2 : ((O.map HE.kv ++ rem).map (·.1)).Nodup := ((hperm.map (·.1)).nodup_iff).2 (by rw [List.map_map]; exact hok_nodup hH)
      rw [List.map_append, hrem] at hnd2
      have := (List.nodup_append.1 hnd2).2.2 y.f (by rw [List.map_map]; exact hmem) y.f (by simp)
      exact this rfl
    refine ih u2 (H.set i y2) (r1 ++ r2) (O ++ [y2]) a' (n + 1) c' g' (by rw [hrem] at hk; simp at hk ⊢; omega) (hok_out hH1 hout2 rfl hgp1 ho2) (Nat.le_trans hsz1 ho2.size) ?_ hr ?_ (by omega) ?_ ?_ ?_ ?_ ?_ ?_
    · rw [hkv2]
      exact rng_out (rng_out hrng' (hrok.1) ho1) hout2 ho2
    · rw [List.map_append]; exact hout3
    · intro z hz
      have hzl := (hH1.box z hz).1.lt
      have := hgp1 z hz
      omega
    · intro z hz
      rcases List.mem_append.1 hz with hz | hz
      · obtain ⟨q, hq⟩ := List.getElem?_of_mem (hO z hz)
        refine List.mem_of_getElem? (i := q) ?_
        rw [List.getElem?_set, if_neg ?_]
        · exact hq
        · rintro rfl
          rw [hi] at hq
          cases hq
          exact hynO (List.mem_map_of_mem hz)
      · obtain rfl : z = y2 := by simpa using hz
        exact hy2m
    · rw [hkv2]
      refine List.Perm.trans ?_ hperm
      rw [hrem, List.map_append, List.append_assoc]
      have : y2.kv = y.kv := by rw [hy2]
      simp only [List.map_cons, List.map_nil, this, List.singleton_append]
      exact List.Perm.append_left _ List.perm_middle.symm
    · rw [List.map_append, List.map_cons, List.map_nil, hy2f]
      exact part_step hpart hnd hi hynO (by rw [hy2]; exact dHE_sorted h3 hr0)
    · rw [hy2]
      refine hl.set hi ?_
      have := (sorted_perm (fun a b => ltD a.1 b.1) r0.2.1).length_eq
      show (sorted (fun a b => ltD a.1 b.1) r0.2.1).length ≤ N
      rw [this]
      exact hl y hy r0 hr0m
    · have hrB := hrok.2.1
      exact (hf1.trans ho1 (fun _ _ h => h) (fun k _ hk => by have hk' : k + 1 = r0.2.2 := hk; show B ≤ k; omega)).trans ho2 (fun _ _ h => h) (fun k _ hk => by have hk' : k + 1 = g := hk; show B ≤ k; omega)
end
end Go.Mir
