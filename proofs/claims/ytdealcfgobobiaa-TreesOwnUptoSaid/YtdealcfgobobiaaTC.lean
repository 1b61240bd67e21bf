/- Part of a proof of laws of the seat Ytdealcfgobobiaa: functions' weakest preconditions, each checked by the kernel, contracts out of them, plain lemmas; no conditions. -/
import Derived.Test.YtdealcfgobobiaaTB
import Derived.Test.YtdealcfgobobiaaEC
set_option linter.unusedVariables false
set_option linter.unusedSimpArgs false
set_option maxRecDepth 100000
namespace Go.Mir
open Go Go.E Go.RowKit Go.Tr
theorem S_I64 : SliceT Go.Proofs.Try.prog 43 2 1 8 := sliceT (by kernel_rfl)
theorem S_str : SliceT Go.Proofs.Try.prog 42 9 1 16 := sliceT (by kernel_rfl)
abbrev enS (s : ByteArray) : Value := .string s
structure GoodE (F : Nat → Prop) (w : World) (e : ED) (f b t : SH) : Prop where
  fs : Ls tStr F w f.a f.n f.c e.features
  bs : Ls (tInt .i64) F w b.a b.n b.c e.base
  ts : Ls tT F w t.a t.n t.c e.trees
  old : ∀ b, F b → b < w.heap.size
  fm : f.n ≤ 1048576
  bm : b.n ≤ 1048576
  tm : t.n ≤ 1048576
  good : ∀ x ∈ e.trees, x.nodes.length ≤ 1048576 ∧ Short 1048576 x.nodes
/-- The sum over the trees. -/
noncomputable def scoreL (outs : Int) (xs : List Nat) : List TD → List Int → List Int × Int
  | [], acc => (acc, 0)
  | t :: ts, acc =>
    if (shapeP nanB t.nodes).1 ≠ 0 then ([], (shapeP nanB t.nodes).1) else
    if t.output < 0 ∨ outs ≤ t.output then ([], 6) else
    if wayE t.nodes xs.length ≠ 0 then ([], wayE t.nodes xs.length) else
    scoreL outs xs ts (acc.set t.output.toNat (IntKind.i64.wrap (acc.getD t.output.toNat 0 + valAt t.nodes (endP t.nodes xs))))
theorem scoreL_cons (outs : Int) (xs : List Nat) (t : TD) (ts : List TD) (acc : List Int) : scoreL outs xs (t :: ts) acc = if (shapeP nanB t.nodes).1 ≠ 0 then ([], (shapeP nanB t.nodes).1) else
    if t.output < 0 ∨ outs ≤ t.output then ([], 6) else
    if wayE t.nodes xs.length ≠ 0 then ([], wayE t.nodes xs.length) else
    scoreL outs xs ts (acc.set t.output.toNat (IntKind.i64.wrap (acc.getD t.output.toNat 0 + valAt t.nodes (endP t.nodes xs)))) := rfl
noncomputable def scoreP (e : ED) (xs : List Nat) : List Int × Int :=
  if e.outputs < 1 ∨ (e.base.length : Int) ≠ e.outputs then ([], 6) else
  if xs.length ≠ e.features.length then ([], 72) else scoreL e.outputs xs e.trees e.base
section
variable {w u w1 : World} {p : Addr} {o : Int} {a a1 : Option Addr} {n c n1 c1 : Nat} {F : Nat → Prop} {nodes : List ND} {xs : List Nat} {ys : List Int} {e : ED} {f b t : SH}
theorem GoodE.kept (h : GoodE F w e f b t) (hk : Kept w u) : GoodE F u e f b t := ⟨h.fs.kept hk, h.bs.kept hk, h.ts.kept hk, fun b hb => Nat.lt_of_lt_of_le (h.old b hb) hk.size, h.fm, h.bm, h.tm, h.good⟩
theorem GoodE.from (h : GoodE F w e f b t) (hk : From w.heap.size w u) : GoodE F u e f b t := h.kept (From.kept hk)
theorem cloneI64_c (hs : Sl enI w a n ys) (hm : n ≤ 1048576) : E.CallsD Go.Proofs.Try.prog 51 #[.slice a n c] w fun v u => ∃ a' n' c', v = .slice a' n' c' ∧ NewA enI 2 w u a' n' c' ys ∧ (a = none → a' = none) := by
  refine slices_Clone_i64.calls ?_
  unfold slices_Clone_i64 slices_Clone_i64.g0
  by_cases ha : a = none
  · subst ha
    refine ob_t ⟨_, _, _, rfl, ⟨0, ?_, .inl rfl, Below.refl _ _⟩, fun _ => rfl⟩
    have : ys = [] := by
      cases ys with
      | nil => rfl
      | cons x xs => obtain ⟨p, hp, _⟩ := hs.get 0 x rfl; cases hp
    rw [this]; exact Arr.nil _ _ _
  · exact cloneA (R := fun v u => ∃ a' n' c', v = .slice a' n' c' ∧ NewA enI 2 w u a' n' c' ys ∧ (a = none → a' = none)) S_I64 (fun _ => rfl) hs (by simp only [maxLen]; omega) (by omega) (fun h => absurd h ha) fun a' c' u h => ⟨_, _, _, rfl, _, _, _, rfl, h, fun h => absurd h ha⟩
theorem score_loop {R : Value → World → Prop} (hE : GoodE F w1 e f b t) (h5 : At5 w1 p e f b t) (hx : Sl enF w1 a1 n1 xs) (hm1 : n1 ≤ 1048576) (hb : (e.base.length : Int) = e.outputs)
    (hend : ∀ r er u a' n' c', scoreL e.outputs xs e.trees e.base = (r, er) → From w1.heap.size w1 u → (∃ g, Arr enI 2 u a' n' c' r g ∧ (g = 0 ∨ w1.heap.size < g)) → R (.tuple #[.slice a' n' c', .int .i64 er]) u) {c6 g6 : Nat} {a6 : Option Addr} (hg6 : g6 = 0 ∨ w1.heap.size < g6) :
    ∀ (k i : Nat) (acc : List Int) (w : World), i + k = t.n → From w1.heap.size w1 w → Arr enI 2 w a6 b.n c6 acc g6 → scoreL e.outputs xs e.trees e.base = scoreL e.outputs xs (e.trees.drop i) acc → trees_Score.l24 R (k + 1) a1 n1 c1 (some p) a6 b.n c6 t.a t.n t.c t.n i w := by
  have hbn : b.n = e.base.length := hE.bs.len
  have htn := hE.ts.len
  have hxl := hx.len
  intro k
  induction k with
  | zero =>
    intro i acc w hi hw h6 he
    unfold trees_Score.l24 trees_Score.g24
    refine onDec_f (by omega) ?_
    rw [List.drop_eq_nil_of_le (by omega)] at he
    exact hend _ _ w a6 b.n c6 he hw ⟨g6, h6, hg6⟩
  | succ k ih =>
    intro i acc w hi hw h6 he
    unfold trees_Score.l24 trees_Score.g24
    refine onDec_t (by omega) ?_
    have hEw := hE.from hw
    refine hEw.ts.rdT (by omega) (by have := hE.tm; omega) fun x a' n' c' hx' hL => ?_
    rw [Int.toNat_natCast] at hx'
    rw [drop_cons hx', scoreL_cons] at he
    obtain ⟨hg1, hg2⟩ := hE.good x (List.mem_of_getElem? hx')
    have hGx : Good F w a' n' c' x.nodes := ⟨hL, hEw.old, by rw [hL.len]; exact hg1, hg2⟩
    have bad : ∀ (er : Int) (u : World), From w1.heap.size w1 u → scoreL e.outputs xs e.trees e.base = ([], er) → R (.tuple #[.slice none 0 0, .int .i64 er]) u := fun er u hu h => hend _ _ u none 0 0 h hu ⟨0, Arr.nil _ _ _, .inl rfl⟩
    refine box2Tz fun u _ hT hk => ⟨_, hT.c0, _, _, _, hT.c1, ?_⟩
    have hGu := hGx.kept hk
    have hu := hw.keptThen hk
    refine E.CallsD.mono (Shape_c (o := x.output) hGu.max hGu.short hGu.ls hGu.old) fun v u2 ⟨hv, hk2⟩ => ⟨_, _, hv, ?_⟩
    have hu2 := hu.keptThen hk2
    have hT2 := hT.kept hk2
    refine onNe (fun hne => bad _ u2 hu2 (by rw [he, if_pos hne])) fun h0 => ⟨_, hT2.c0, ?_⟩
    rw [if_neg (by simpa using h0)] at he
    refine (onBool_iff _ _ _).2 ⟨fun hlt => bad _ u2 hu2 (by rw [he, if_pos (.inl (of_decide_eq_true hlt))]), fun hlt => ⟨_, hT2.c0, optN_mk ⟨_, (h5.from hu2).c2, ?_⟩⟩⟩
    refine (onBool_iff _ _ _).2 ⟨fun hge => bad _ u2 hu2 (by rw [he, if_pos (.inr (of_decide_eq_true hge))]), fun hge => ⟨_, hT2.c0, _, _, _, hT2.c1, ?_⟩⟩
    have q1 := of_decide_eq_false hlt
    have q2 := of_decide_eq_false hge
    rw [if_neg (by omega)] at he
    have hGu2 := hGu.kept hk2
    refine E.CallsD.mono (Way_c (o := x.output) (c1 := c1) hGu2 (hx.from hu2) hm1) fun v u3 ⟨a3, n3, c3, hv, hn3⟩ => ⟨_, _, _, _, hv, ?_⟩
    have hu3 := hu2.keptThen hn3.kept
    have hT3 := hT2.kept hn3.kept
    refine onNe (fun hne => bad _ u3 hu3 (by rw [he, if_pos hne])) fun hw0 => ⟨_, hT3.c0, ?_⟩
    rw [if_neg (by simpa using hw0)] at he
    obtain ⟨hlast, hpos, hend', hwl⟩ := wayP_last hw0
    have hl3 : n3 = (wayP x.nodes xs).length := by rw [hn3.len, natL_length]
    have h63 := h6.kept (Kept.trans (Kept.trans hk hk2) hn3.kept)
    have hbm := hE.bm
    have htm := hE.tm
    have hn' : n' = x.nodes.length := hL.len
    refine h63.sl.rdI (k := .i64) (by omega) (by omega) fun y hy => ⟨_, _, _, hT3.c1, ?_⟩
    refine nv_i64 (by omega) (by omega) ?_
    refine hn3.sl.rdI (k := .i64) (by omega) (by omega) fun z hz => ?_
    obtain rfl : z = (endP x.nodes xs : Int) := by
      rw [show ((n3 : Int) - 1).toNat = (wayP x.nodes xs).length - 1 by omega, hlast] at hz
      simpa using hz.symm
    refine (hGu2.kept hn3.kept).ls.rdF (by omega) (by omega) fun q x' a'' n'' c'' hx'' _ h8 => ⟨_, h8.c1, nv_mk rfl ?_⟩
    rw [Int.toNat_natCast] at hx''
    have hval : valAt x.nodes (endP x.nodes xs) = x'.value := by unfold valAt; rw [hx'']; rfl
    have hy' : acc.getD x.output.toNat 0 = y := by rw [List.getD_eq_getElem?_getD, hy]; rfl
    refine h63.wr (by omega) (by omega) (x := IntKind.i64.wrap (y + x'.value)) rfl fun u4 h64 ho => ?_
    refine nv_succ (by omega) ?_
    rw [hy', hval] at he
    exact ih (i + 1) _ u4 (by omega) (hu3.only ho hg6) h64 he
theorem Score_c (hE : GoodE F w e f b t) (hx : Sl enF w a1 n1 xs) (hm1 : n1 ≤ 1048576) : E.CallsD Go.Proofs.Try.prog 21 #[vE e f b t, .slice a1 n1 c1] w fun v u => ∃ a' n' c', v = .tuple #[.slice a' n' c', .int .i64 (scoreP e xs).2] ∧ NewA enI 2 w u a' n' c' (scoreP e xs).1 := by
  refine trees_Score.calls ?_
  unfold trees_Score trees_Score.g0
  refine box5 fun w1 _ h5 hk => ⟨_, h5.c2, ?_⟩
  have hbn : b.n = e.base.length := hE.bs.len
  have hfn : f.n = e.features.length := hE.fs.len
  have hxl := hx.len
  have no : ∀ er, scoreP e xs = ([], er) → ∃ a' n' c', Value.tuple #[.slice none 0 0, .int .i64 er] = .tuple #[.slice a' n' c', .int .i64 (scoreP e xs).2] ∧ NewA enI 2 w w1 a' n' c' (scoreP e xs).1 := fun er h => ⟨_, _, _, by rw [h], 0, by rw [h]; exact Arr.nil _ _ _, .inl rfl, hk⟩
  refine (onBool_iff _ _ _).2 ⟨fun h => no 6 (by unfold scoreP; rw [if_pos (.inl (of_decide_eq_true h))]), fun h => ⟨_, _, _, h5.c3, _, h5.c2, ?_⟩⟩
  have h1 := of_decide_eq_false h
  refine onNe (fun h => no 6 (by unfold scoreP; rw [if_pos (.inr (by omega))])) fun h2 => ⟨_, _, _, h5.c1, ?_⟩
  refine onNe (fun h => no 72 (by unfold scoreP; rw [if_neg (by omega), if_pos (by omega)])) fun h3 => ⟨_, _, _, h5.c3, ?_⟩
  have hs : scoreP e xs = scoreL e.outputs xs e.trees e.base := by unfold scoreP; rw [if_neg (by omega), if_neg (by omega)]
  have hE1 := hE.kept hk
  refine E.CallsD.mono (cloneI64_c hE1.bs.sl hE1.bm) fun v w2 ⟨a6, n6, c6, hv, ⟨g6, h6, hg6, hk2⟩, _⟩ => ⟨_, _, _, hv, _, _, _, (h5.kept hk2).c4, ?_⟩
  have hk12 := Kept.trans hk hk2
  have hn6 : n6 = b.n := by rw [h6.len, hbn]
  subst hn6
  have z1 := hk.size
  refine ⟨t.n + 1, score_loop (w1 := w1) (F := F) hE1 h5 (hx.keep hk) hm1 (by omega) (fun r er u a' n' c' he hu ⟨g, hA, hg⟩ => ⟨_, _, _, by rw [hs, he], g, by rw [hs, he]; exact hA, by omega, Kept.trans hk (From.kept hu)⟩) (g6 := g6) hg6 t.n 0 e.base w2 (by omega) (Kept.mod hk2) h6 rfl⟩
end
end Go.Mir

set_option maxRecDepth 100000
namespace Go.Mir
open Go Go.E Go.RowKit Go.Tr
section
variable {w : World} {a b : Option Addr} {n c m d : Nat} {xs ys : List Int}
theorem drop_ne {i : Nat} {x y : Int} (hx : xs[i]? = some x) (hy : ys[i]? = some y) (h : x ≠ y) : xs ≠ ys := fun e => by subst e; rw [hx] at hy; exact h (by simpa using hy)
theorem ints_loop {R : Value → World → Prop} (hn : n = xs.length) (hm : n ≤ 16777216) (he : xs.length = ys.length) (hs : Sl enI w a n xs) (ht : Sl enI w b m ys) (hR : R (.bool (decide (xs = ys))) w) : ∀ (k i : Nat), i + k = n → xs.take i = ys.take i → thicketref07_Ints.l14 R (k + 1) a n c b m d n i w
  | 0, i, hi, hp => by
    unfold thicketref07_Ints.l14 thicketref07_Ints.g14
    refine onDec_f (by omega) ?_
    rw [List.take_of_length_le (by omega), List.take_of_length_le (by omega)] at hp
    rw [decide_eq_true hp] at hR
    exact hR
  | k + 1, i, hi, hp => by
    unfold thicketref07_Ints.l14 thicketref07_Ints.g14
    refine onDec_t (by omega) ?_
    have hml := ht.len
    refine hs.rdI (k := .i64) (by omega) (by omega) fun x hx => ?_
    refine ht.rdI (k := .i64) (by omega) (by omega) fun y hy => ?_
    rw [Int.toNat_natCast] at hx hy
    refine onNe (fun h => ?_) fun h => ?_
    · rw [decide_eq_false (drop_ne hx hy h)] at hR
      exact hR
    · subst h
      refine nv_succ (by omega) ?_
      exact ints_loop hn hm he hs ht hR k (i + 1) (by omega) (by rw [take_snoc hx, take_snoc hy, hp])
theorem Ints_c (hs : Sl enI w a n xs) (ht : Sl enI w b m ys) (hm : n ≤ 16777216) : Pure Go.Proofs.Try.prog 19 #[.slice a n c, .slice b m d] w (.bool (decide (xs = ys))) := by
  refine thicketref07_Ints.calls (R := fun v' u => v' = _ ∧ Below w.heap.size w u) ?_
  unfold thicketref07_Ints thicketref07_Ints.g0
  have hl := hs.len
  have hl2 := ht.len
  refine onNe (fun h => ⟨by rw [decide_eq_false]; intro e; subst e; omega, Below.refl _ _⟩) fun h => ?_
  exact ⟨n + 1, ints_loop hl hm (by omega) hs ht ⟨rfl, Below.refl _ _⟩ n 0 (by omega) rfl⟩
theorem sums_loop {R : Value → World → Prop} (hn : n = xs.length) (hm : n ≤ 16777216) (he : xs.length = ys.length) (hs : Sl enI w a n xs) (ht : Sl enI w b m ys) (hR : R (.bool (decide (xs = ys))) w) : ∀ (k i : Nat), i + k = n → xs.take i = ys.take i → thicketlaw07_sums.l14 R (k + 1) a n c b m d n i w
  | 0, i, hi, hp => by
    unfold thicketlaw07_sums.l14 thicketlaw07_sums.g14
    refine onDec_f (by omega) ?_
    rw [List.take_of_length_le (by omega), List.take_of_length_le (by omega)] at hp
    rw [decide_eq_true hp] at hR
    exact hR
  | k + 1, i, hi, hp => by
    unfold thicketlaw07_sums.l14 thicketlaw07_sums.g14
    refine onDec_t (by omega) ?_
    have hml := ht.len
    refine hs.rdI (k := .i64) (by omega) (by omega) fun x hx => ?_
    refine ht.rdI (k := .i64) (by omega) (by omega) fun y hy => ?_
    rw [Int.toNat_natCast] at hx hy
    refine onNe (fun h => ?_) fun h => ?_
    · rw [decide_eq_false (drop_ne hx hy h)] at hR
      exact hR
    · subst h
      refine nv_succ (by omega) ?_
      exact sums_loop hn hm he hs ht hR k (i + 1) (by omega) (by rw [take_snoc hx, take_snoc hy, hp])
theorem sums_c (hs : Sl enI w a n xs) (ht : Sl enI w b m ys) (hm : n ≤ 16777216) : Pure Go.Proofs.Try.prog 23 #[.slice a n c, .slice b m d] w (.bool (decide (xs = ys))) := by
  refine thicketlaw07_sums.calls (R := fun v' u => v' = _ ∧ Below w.heap.size w u) ?_
  unfold thicketlaw07_sums thicketlaw07_sums.g0
  have hl := hs.len
  have hl2 := ht.len
  refine onNe (fun h => ⟨by rw [decide_eq_false]; intro e; subst e; omega, Below.refl _ _⟩) fun h => ?_
  exact ⟨n + 1, sums_loop hl hm (by omega) hs ht ⟨rfl, Below.refl _ _⟩ n 0 (by omega) rfl⟩
theorem NaN_c (w : World) : ∃ f, Pure Go.Proofs.Try.prog 44 #[] w (.float .f64 f) := by
  refine ⟨9221120237041090561, ?_⟩
  refine math_NaN.calls (R := fun v' u => v' = _ ∧ Below w.heap.size w u) ?_
  unfold math_NaN math_NaN.g0
  exact ⟨9221120237041090561, fun d => by kernel_rfl, rfl, Below.refl _ _⟩
end
end Go.Mir

set_option maxRecDepth 100000
namespace Go.Mir
open Go Go.E Go.RowKit Go.Tr
section
variable {w u w1 : World} {p : Addr} {o : Int} {a a1 : Option Addr} {n c n1 c1 : Nat} {F : Nat → Prop} {nodes : List ND} {xs : List Nat} {ys : List Int} {e : ED} {f b t : SH}
theorem refscore_loop {R : Value → World → Prop} (hE : GoodE F w1 e f b t) (h5 : At5 w1 p e f b t) (hx : Sl enF w1 a1 n1 xs) (hm1 : n1 ≤ 1048576) (hb : (e.base.length : Int) = e.outputs)
    (hend : ∀ r er u a' n' c', scoreL e.outputs xs e.trees e.base = (r, er) → From w1.heap.size w1 u → (∃ g, Arr enI 2 u a' n' c' r g ∧ (g = 0 ∨ w1.heap.size < g)) → R (.tuple #[.slice a' n' c', .int .i64 er]) u) {c6 g6 : Nat} {a6 : Option Addr} (hg6 : g6 = 0 ∨ w1.heap.size < g6) :
    ∀ (k i : Nat) (acc : List Int) (w : World), i + k = t.n → From w1.heap.size w1 w → Arr enI 2 w a6 b.n c6 acc g6 → scoreL e.outputs xs e.trees e.base = scoreL e.outputs xs (e.trees.drop i) acc → thicketref07_Score.l26 R (k + 1) a1 n1 c1 (some p) a6 b.n c6 t.a t.n t.c t.n i w := by
  have hbn : b.n = e.base.length := hE.bs.len
  have htn := hE.ts.len
  have hxl := hx.len
  intro k
  induction k with
  | zero =>
    intro i acc w hi hw h6 he
    unfold thicketref07_Score.l26 thicketref07_Score.g26
    refine onDec_f (by omega) ?_
    rw [List.drop_eq_nil_of_le (by omega)] at he
    exact hend _ _ w a6 b.n c6 he hw ⟨g6, h6, hg6⟩
  | succ k ih =>
    intro i acc w hi hw h6 he
    unfold thicketref07_Score.l26 thicketref07_Score.g26
    refine onDec_t (by omega) ?_
    have hEw := hE.from hw
    refine hEw.ts.rdT (by omega) (by have := hE.tm; omega) fun x a' n' c' hx' hL => ?_
    rw [Int.toNat_natCast] at hx'
    rw [drop_cons hx', scoreL_cons] at he
    obtain ⟨hg1, hg2⟩ := hE.good x (List.mem_of_getElem? hx')
    have hGx : Good F w a' n' c' x.nodes := ⟨hL, hEw.old, by rw [hL.len]; exact hg1, hg2⟩
    have bad : ∀ (er : Int) (u : World), From w1.heap.size w1 u → scoreL e.outputs xs e.trees e.base = ([], er) → R (.tuple #[.slice none 0 0, .int .i64 er]) u := fun er u hu h => hend _ _ u none 0 0 h hu ⟨0, Arr.nil _ _ _, .inl rfl⟩
    refine box2Tz fun u _ hT hk => ⟨_, hT.c0, _, _, _, hT.c1, ?_⟩
    have hGu := hGx.kept hk
    have hu := hw.keptThen hk
    refine E.CallsD.mono (refShape_c (o := x.output) hGu.max hGu.short hGu.ls hGu.old) fun v u2 ⟨hv, hk2⟩ => ⟨_, _, hv, ?_⟩
    have hu2 := hu.keptThen hk2
    have hT2 := hT.kept hk2
    refine onNe (fun hne => bad _ u2 hu2 (by rw [he, if_pos hne])) fun h0 => ⟨_, hT2.c0, ?_⟩
    rw [if_neg (by simpa using h0)] at he
    refine (onBool_iff _ _ _).2 ⟨fun hlt => bad _ u2 hu2 (by rw [he, if_pos (.inl (of_decide_eq_true hlt))]), fun hlt => ⟨_, hT2.c0, optN_mk ⟨_, (h5.from hu2).c2, ?_⟩⟩⟩
    refine (onBool_iff _ _ _).2 ⟨fun hge => bad _ u2 hu2 (by rw [he, if_pos (.inr (of_decide_eq_true hge))]), fun hge => ⟨_, hT2.c0, _, _, _, hT2.c1, ?_⟩⟩
    have q1 := of_decide_eq_false hlt
    have q2 := of_decide_eq_false hge
    rw [if_neg (by omega)] at he
    have hGu2 := hGu.kept hk2
    refine E.CallsD.mono (refWay_c (o := x.output) (c1 := c1) hGu2 (hx.from hu2) hm1) fun v u3 ⟨a3, n3, c3, hv, hn3⟩ => ⟨_, _, _, _, hv, ?_⟩
    have hu3 := hu2.keptThen hn3.kept
    have hT3 := hT2.kept hn3.kept
    refine onNe (fun hne => bad _ u3 hu3 (by rw [he, if_pos hne])) fun hw0 => ⟨_, hT3.c0, ?_⟩
    rw [if_neg (by simpa using hw0)] at he
    obtain ⟨hlast, hpos, hend', hwl⟩ := wayP_last hw0
    have hl3 : n3 = (wayP x.nodes xs).length := by rw [hn3.len, natL_length]
    have h63 := h6.kept (Kept.trans (Kept.trans hk hk2) hn3.kept)
    have hbm := hE.bm
    have htm := hE.tm
    have hn' : n' = x.nodes.length := hL.len
    refine h63.sl.rdI (k := .i64) (by omega) (by omega) fun y hy => ⟨_, _, _, hT3.c1, ?_⟩
    refine nv_i64 (by omega) (by omega) ?_
    refine hn3.sl.rdI (k := .i64) (by omega) (by omega) fun z hz => ?_
    obtain rfl : z = (endP x.nodes xs : Int) := by
      rw [show ((n3 : Int) - 1).toNat = (wayP x.nodes xs).length - 1 by omega, hlast] at hz
      simpa using hz.symm
    refine (hGu2.kept hn3.kept).ls.rdF (by omega) (by omega) fun q x' a'' n'' c'' hx'' _ h8 => ⟨_, h8.c1, nv_mk rfl ?_⟩
    rw [Int.toNat_natCast] at hx''
    have hval : valAt x.nodes (endP x.nodes xs) = x'.value := by unfold valAt; rw [hx'']; rfl
    have hy' : acc.getD x.output.toNat 0 = y := by rw [List.getD_eq_getElem?_getD, hy]; rfl
    refine h63.wr (by omega) (by omega) (x := IntKind.i64.wrap (y + x'.value)) rfl fun u4 h64 ho => ?_
    refine nv_succ (by omega) ?_
    rw [hy', hval] at he
    exact ih (i + 1) _ u4 (by omega) (hu3.only ho hg6) h64 he
theorem refScore_c (hE : GoodE F w e f b t) (hx : Sl enF w a1 n1 xs) (hm1 : n1 ≤ 1048576) : E.CallsD Go.Proofs.Try.prog 22 #[vE e f b t, .slice a1 n1 c1] w fun v u => ∃ a' n' c', v = .tuple #[.slice a' n' c', .int .i64 (scoreP e xs).2] ∧ NewA enI 2 w u a' n' c' (scoreP e xs).1 := by
  refine thicketref07_Score.calls ?_
  unfold thicketref07_Score thicketref07_Score.g0
  refine box5 fun w1 _ h5 hk => ⟨_, h5.c2, ?_⟩
  have hbn : b.n = e.base.length := hE.bs.len
  have hfn : f.n = e.features.length := hE.fs.len
  have hxl := hx.len
  have no : ∀ er, scoreP e xs = ([], er) → ∃ a' n' c', Value.tuple #[.slice none 0 0, .int .i64 er] = .tuple #[.slice a' n' c', .int .i64 (scoreP e xs).2] ∧ NewA enI 2 w w1 a' n' c' (scoreP e xs).1 := fun er h => ⟨_, _, _, by rw [h], 0, by rw [h]; exact Arr.nil _ _ _, .inl rfl, hk⟩
  refine (onBool_iff _ _ _).2 ⟨fun h => no 6 (by unfold scoreP; rw [if_pos (.inl (of_decide_eq_true h))]), fun h => ⟨_, _, _, h5.c3, _, h5.c2, ?_⟩⟩
  have h1 := of_decide_eq_false h
  refine onNe (fun h => no 6 (by unfold scoreP; rw [if_pos (.inr (by omega))])) fun h2 => ⟨_, _, _, h5.c1, ?_⟩
  refine onNe (fun h => no 72 (by unfold scoreP; rw [if_neg (by omega), if_pos (by omega)])) fun h3 => ⟨_, _, _, h5.c3, ?_⟩
  have hs : scoreP e xs = scoreL e.outputs xs e.trees e.base := by unfold scoreP; rw [if_neg (by omega), if_neg (by omega)]
  have hE1 := hE.kept hk
  refine Arr.pushes S_I64 (Arr.nil enI 2 w1) (fun _ => rfl) hE1.bs.sl (by simp only [maxLen]; have := hE.bm; omega) (by have := hE.bm; omega) fun a6 c6 g6 w2 h6 hg6 ho => ?_
  simp only [Nat.zero_add, List.nil_append] at h6 ⊢
  have hk2 : Kept w1 w2 := Mod.kept (S := fun k => k + 1 = 0) ho (fun k _ h => by omega)
  refine ⟨_, _, _, rfl, _, _, _, (h5.kept hk2).c4, ?_⟩
  have hk12 := Kept.trans hk hk2
  have z1 := hk.size
  refine ⟨t.n + 1, refscore_loop (w1 := w1) (F := F) hE1 h5 (hx.keep hk) hm1 (by omega) (fun r er u a' n' c' he hu ⟨g, hA, hg⟩ => ⟨_, _, _, by rw [hs, he], g, by rw [hs, he]; exact hA, by omega, Kept.trans hk (From.kept hu)⟩) (g6 := g6) (by omega) t.n 0 e.base w2 (by omega) (Kept.mod hk2) h6 rfl⟩
end
end Go.Mir

set_option maxRecDepth 100000
namespace Go.Mir
open Go Go.E Go.RowKit Go.Tr
def nd0 : ND := ⟨2, 0, 1, 4602678819172646912, [], 2, 2, 1⟩
def nd1 : ND := ⟨1, 30, 0, 0, [], 0, 0, 0⟩
def nd2 : ND := ⟨3, 0, 0, 0, [1, 3], 1, 3, 4⟩
def nd3 : ND := ⟨1, 10, 0, 0, [], 0, 0, 0⟩
def nd4 : ND := ⟨1, 20, 0, 0, [], 0, 0, 0⟩
def sampleN : List ND := [nd0, nd1, nd2, nd3, nd4]
def sampleT : BT := .node 0 (.node 2 (.leaf 3) (.leaf 4)) (.leaf 1)
theorem sample_shape : shapeP nanB sampleN = (0, 0) := by decide +kernel
theorem Is.uniq {nodes : List ND} : ∀ {T U : BT}, Is nodes T → Is nodes U → T.root = U.root → T = U
  | .leaf i, .leaf j, _, _, h => by simp [BT.root] at h; subst h; rfl
  | .leaf i, .node j l r, ⟨x, hx, hn⟩, ⟨y, hy, hi, _⟩, h => by simp [BT.root] at h; subst h; rw [hx] at hy; cases hy; rw [hn] at hi; cases hi
  | .node j l r, .leaf i, ⟨y, hy, hi, _⟩, ⟨x, hx, hn⟩, h => by simp [BT.root] at h; subst h; rw [hx] at hy; cases hy; rw [hn] at hi; cases hi
  | .node i l r, .node j l' r', ⟨x, hx, hi, hl, hr, h1, h2⟩, ⟨y, hy, hi', hl', hr', h1', h2'⟩, h => by
    simp [BT.root] at h; subst h
    rw [hx] at hy; cases hy
    rw [Is.uniq h1 h1' (by omega), Is.uniq h2 h2' (by omega)]
theorem sample_is : Is sampleN sampleT := ⟨nd0, rfl, by decide, rfl, rfl, ⟨nd2, rfl, by decide, rfl, rfl, ⟨nd3, rfl, by decide⟩, ⟨nd4, rfl, by decide⟩⟩, ⟨nd1, rfl, by decide⟩⟩
theorem sample_tree : treeP sampleN = sampleT := by
  have h := treeP_spec (nodes := sampleN) (by rw [sample_shape])
  exact Is.uniq h.is sample_is (by rw [h.root]; rfl)
end Go.Mir

set_option maxRecDepth 100000
namespace Go.Mir
open Go Go.E Go.RowKit Go.Tr
section
variable {w u : World}
def sampleH (q : Option Addr) : List (ND × SH) := [(nd0, ⟨none, 0, 0⟩), (nd1, ⟨none, 0, 0⟩), (nd2, ⟨q, 2, 2⟩), (nd3, ⟨none, 0, 0⟩), (nd4, ⟨none, 0, 0⟩)]
theorem Ls_of {F : Nat → Prop} {b e : Nat} {l : List (ND × SH)} (hb : Blk u b (l.flatMap enH).toArray e) (hF : F b) (hc : ∀ x ∈ l, Ls (tInt .i64) F u x.2.a x.2.n x.2.c x.1.cats) (n : Nat) (hn : n = l.length) : Ls tN F u (some ⟨b, 0, none⟩) n n (l.map (·.1)) := by
  refine ⟨by simp [hn], Nat.le_refl _, fun i x hi => ?_⟩
  rw [List.getElem?_map] at hi
  obtain ⟨y, hy, rfl⟩ := Option.map_eq_some_iff.1 hi
  refine ⟨_, enH y, rfl, hF, ⟨_, _, _, rfl, hc y (List.mem_of_getElem? hy)⟩, fun j v hj => ?_⟩
  rw [addr_add, Nat.zero_add, hb.cell]
  have := flatMap_at (k := 8) l (en := enH) (fun x _ => rfl) i y hy j v hj
  rw [List.getElem?_toArray]
  exact this
theorem Blk.rd' {w : World} {b i : Nat} {cs : Array Value} {v : Value} {e : Nat} (h : Blk w b cs e) (hi : cs[i]? = some v) : w.cell? ⟨b, i, none⟩ = some v := by rw [h.cell, hi]
theorem sample_c (w : World) : E.CallsD Go.Proofs.Try.prog 43 #[] w fun v u => ∃ a, v = vT 0 a 5 5 ∧ Ls tN (fun b => w.heap.size ≤ b ∧ b < u.heap.size) u a 5 5 sampleN ∧ Kept w u := by
  refine thicketlaw07_sample.calls ?_
  unfold thicketlaw07_sample thicketlaw07_sample.g0
  have b0 := Blk.new w #[.int .i64 0, .slice none 0 0] 33
  have k0 := Kept.new w (.cells #[.int .i64 0, .slice none 0 0] 33)
  refine nw_mk ?_
  obtain ⟨w1, hw1⟩ : ∃ w1, w.alloc (.cells #[.int .i64 0, .slice none 0 0] 33) = w1 := ⟨_, rfl⟩
  rw [hw1] at b0 k0 ⊢
  have s0 : w1.heap.size = w.heap.size + 1 := by rw [← hw1]; simp
  have h1 := Arr.new enI 3 w1 [1, 3] #[.int .i64 1, .int .i64 3] rfl (by simp [maxLen])
  have k1 := Kept.new w1 (.cells #[.int .i64 1, .int .i64 3] 3)
  refine nw_mk ?_
  obtain ⟨w2, hw2⟩ : ∃ w2, w1.alloc (.cells #[.int .i64 1, .int .i64 3] 3) = w2 := ⟨_, rfl⟩
  rw [hw2] at h1 k1 ⊢
  have s1 : w2.heap.size = w1.heap.size + 1 := by rw [← hw2]; simp
  show nw (w2.alloc (.cells ((sampleH (some (na w1))).flatMap enH).toArray 27)) _
  have b2 := Blk.new w2 ((sampleH (some (na w1))).flatMap enH).toArray 27
  have k2 := Kept.new w2 (.cells ((sampleH (some (na w1))).flatMap enH).toArray 27)
  obtain ⟨w3, hw3⟩ : ∃ w3, w2.alloc (.cells ((sampleH (some (na w1))).flatMap enH).toArray 27) = w3 := ⟨_, rfl⟩
  rw [hw3] at b2 k2 ⊢
  have s2 : w3.heap.size = w2.heap.size + 1 := by rw [← hw3]; simp
  refine nw_mk ?_
  have b03 := b0.mod (Kept.mod (S := fun _ => False) (Kept.trans k1 k2)) (fun h => h)
  simp only [na_add]
  have b04 : Blk _ _ #[.int .i64 0, .slice none 0 0] 33 := b03.set 0 (.int .i64 0)
  have b05 : Blk _ _ #[.int .i64 0, .slice (some (na w2)) 5 5] 33 := b04.set 1 (.slice (some (na w2)) 5 5)
  have o1 := Only.set w3 w.heap.size 0 (.int .i64 0)
  have o2 := Only.set (w3.setCell ⟨w.heap.size, 0, none⟩ (.int .i64 0)) w.heap.size 1 (.slice (some (na w2)) 5 5)
  obtain ⟨w4, hw4⟩ : ∃ w4, (w3.setCell ⟨w.heap.size, 0, none⟩ (.int .i64 0)).setCell ⟨w.heap.size, 1, none⟩ (.slice (some (na w2)) 5 5) = w4 := ⟨_, rfl⟩
  refine ⟨b03.ok (by simp), nw_mk ⟨b04.ok (by simp), ?_⟩⟩
  rw [hw4] at b05 o2 ⊢
  have ho : Mod (fun k => k = w.heap.size) w3 w4 := o1.trans o2 (fun k _ h => by omega) (fun k _ h => by omega)
  have hk3 : Kept w w3 := Kept.trans k0 (Kept.trans k1 k2)
  have h13 : Arr enI 3 w4 (some (na w1)) 2 2 [1, 3] (w1.heap.size + 1) := (h1.kept k2).mod ho (fun k e h => by omega)
  have b24 := b2.mod ho (fun h => by omega)
  refine nw_mk ⟨_, Blk.rd' b05 rfl, _, _, _, Blk.rd' b05 rfl, some (na w2), rfl, ?_, keptAfter hk3 ho (fun b h => by omega)⟩
  have hs := ho.size
  refine Ls_of (l := sampleH (some (na w1))) b24 ⟨by omega, by omega⟩ (fun x hx => ?_) 5 rfl
  simp only [sampleH, List.mem_cons, List.not_mem_nil, or_false] at hx
  rcases hx with h | h | h | h | h <;> subst h
  · exact Ls.nil _ _ _ _ _
  · exact Ls.nil _ _ _ _ _
  · exact (h13.ls (h1 := fun _ => rfl)).mono fun b hb => ⟨by omega, by omega⟩
  · exact Ls.nil _ _ _ _ _
  · exact Ls.nil _ _ _ _ _
end
end Go.Mir

set_option maxRecDepth 100000
namespace Go.Mir
open Go Go.E Go.RowKit Go.Tr
def nanF : Nat := 9221120237041090561
def smpF : List ByteArray := [⟨#[97]⟩, ⟨#[98]⟩]
def smpE : ED := ⟨⟨#[]⟩, smpF, 1, [7], [⟨0, sampleN⟩]⟩
theorem smp_those : thoseP sampleN false = [3, 4, 1] := by
  unfold thoseP
  rw [if_pos (by rw [sample_shape]), sample_tree]
  decide +kernel
theorem smp_wayE : wayE sampleN (([4611686018427387904, 4602678819172646912] : List Nat).length) = 0 := by decide +kernel
theorem smp_wayE2 : wayE sampleN (([0, nanF] : List Nat).length) = 0 := by decide +kernel
theorem smp_end : endP sampleN [4611686018427387904, 4602678819172646912] = 4 := by unfold endP; rw [sample_tree]; decide +kernel
theorem smp_end2 : endP sampleN [0, nanF] = 1 := by unfold endP; rw [sample_tree]; decide +kernel
theorem smp_leafK : leafK sampleN [4611686018427387904, 4602678819172646912] = 1 := by
  unfold leafK; rw [if_pos smp_wayE, smp_end, smp_those]; decide +kernel
theorem smp_leafV : leafV sampleN [4611686018427387904, 4602678819172646912] = 20 := by
  unfold leafV; rw [if_pos smp_wayE, smp_end]; decide +kernel
theorem smp_score : scoreP smpE [0, nanF] = ([37], 0) := by
  unfold scoreP
  rw [if_neg (by decide), if_neg (by decide)]
  show scoreL 1 [0, nanF] [⟨0, sampleN⟩] [7] = _
  rw [scoreL_cons]
  simp only
  rw [if_neg (by rw [sample_shape]; decide), if_neg (by decide), if_neg (by rw [smp_wayE2]; decide), smp_end2]
  decide +kernel
theorem smp_goes : goesP nd0 4602678819172646912 = 1 := by decide +kernel
theorem smp_short : Short 1048576 sampleN := by
  intro x hx
  simp only [sampleN, List.mem_cons, List.not_mem_nil, or_false] at hx
  rcases hx with h | h | h | h | h <;> subst h <;> decide
def inW (u : World) (b : Nat) : Prop := b < u.heap.size
def FL : Nat → Value → World → Prop := fun i v u => match i with
  | 0 => ∃ q, v = .slice (some q) 2 2 ∧ Ls tStr (inW u) u (some q) 2 2 smpF
  | 1 => ∃ q, v = .slice (some q) 1 1 ∧ Ls (tInt .i64) (inW u) u (some q) 1 1 [7]
  | 3 => ∃ q, v = .slice (some q) 1 1 ∧ Ls tT (inW u) u (some q) 1 1 [⟨0, sampleN⟩]
  | 5 => v = .float .f64 nanF
  | 6 => ∃ q, v = .slice (some q) 2 2 ∧ Sl enF u (some q) 2 [0, nanF]
  | 7 => ∃ a' n' c', v = .tuple #[.slice a' n' c', .int .i64 0] ∧ Sl enI u a' n' [37]
  | _ => True
section
variable {w u : World} {a : Option Addr} {n c : Nat}
theorem Ls.grow {α : Type} {T : Ty α} {xs : List α} (h : Ls T (inW w) w a n c xs) (hk : Kept w u) : Ls T (inW u) u a n c xs := (h.kept hk).mono fun b hb => Nat.lt_of_lt_of_le hb hk.size
theorem FL_keep (i : Nat) (v : Value) (u u' : World) (h : FL i v u) (hk : Below u.heap.size u u') : FL i v u' := by
  unfold FL at *
  split at h
  · obtain ⟨q, h1, h2⟩ := h; exact ⟨q, h1, Ls.grow h2 hk⟩
  · obtain ⟨q, h1, h2⟩ := h; exact ⟨q, h1, Ls.grow h2 hk⟩
  · obtain ⟨q, h1, h2⟩ := h; exact ⟨q, h1, Ls.grow h2 hk⟩
  · exact h
  · obtain ⟨q, h1, h2⟩ := h; exact ⟨q, h1, h2.keep hk⟩
  · obtain ⟨a', n', c', h1, h2⟩ := h; exact ⟨a', n', c', h1, h2.keep hk⟩
  · trivial
theorem lit_ls {α : Type} {en : α → Value} {h1 : ∀ x, (en x).oneCell' = true} (e : Nat) (w : World) (xs : List α) (cs : Array Value) (hc : cs.toList = xs.map en) (hn : xs.length ≤ maxLen) : Ls (Ty.flat en h1) (inW (w.alloc (.cells cs e))) (w.alloc (.cells cs e)) (some (na w)) xs.length xs.length xs := by
  have h := Arr.new en e w xs cs hc hn
  exact (h.ls (h1 := h1)).mono fun b hb => by have := h.le; show b < _; omega
theorem lives_c (w : World) : Pure Go.Proofs.Try.prog 12 #[] w (.bool true) := by
  refine thicketlaw07_lives.calls (R := fun v' u => v' = _ ∧ Below w.heap.size w u) ?_
  unfold thicketlaw07_lives thicketlaw07_lives.g0
  refine E.CallsD.mono (sample_c w) fun v u0 ⟨a, hv, hL0, hk0⟩ => ⟨_, _, _, _, hv, ?_⟩
  have hL0' : Ls tN (inW u0) u0 a 5 5 sampleN := hL0.mono fun b hb => hb.2
  refine box2Tz fun u1 _ hT hk1 => ⟨_, hT.c0, _, _, _, hT.c1, ?_⟩
  have hL1 := Ls.grow hL0' hk1
  have hG1 : Good (inW u1) u1 a 5 5 sampleN := ⟨hL1, fun b hb => hb, by omega, smp_short⟩
  have k01 := Kept.trans hk0 hk1
  refine E.CallsD.mono (Leaves_c (o := 0) hG1) fun v u2 ⟨a2, n2, c2, hv, hn2⟩ => ⟨_, _, _, _, hv, ?_⟩
  have hT2 := hT.kept hn2.kept
  have k02 := Kept.trans k01 hn2.kept
  refine ⟨_, hT2.c0, _, _, _, hT2.c1, nw_mk ?_⟩
  have hkx := Kept.new u2 (.cells #[.float .f64 4611686018427387904, .float .f64 4602678819172646912] 23)
  have hx := (Arr.new enF 23 u2 [4611686018427387904, 4602678819172646912] #[.float .f64 4611686018427387904, .float .f64 4602678819172646912] rfl (by simp [maxLen])).sl
  have hG3 := hG1.kept (Kept.trans hn2.kept hkx)
  have k03 := Kept.trans k02 hkx
  refine E.CallsD.mono (Leaf_c (o := 0) (c1 := 2) hG3 hx (by simp)) fun v u4 ⟨hv, hk4⟩ => ⟨_, _, _, hv, ?_⟩
  have k04 := Kept.trans k03 hk4
  have hT4 := hT2.kept (Kept.trans hkx hk4)
  have hL4 := Ls.grow hL1 (Kept.trans (Kept.trans hn2.kept hkx) hk4)
  refine ⟨FL, FL_keep, fun u hu => ⟨_, rfl, lit_ls 9 u smpF _ rfl (by simp [smpF, maxLen])⟩, fun q0 hq0 => ⟨fun u hu => ⟨_, rfl, lit_ls 2 u [7] _ rfl (by simp [maxLen])⟩, fun q1 hq1 => ⟨_, hT4.c0, _, _, _, hT4.c1, fun u hu => ?_, fun q3 hq3 => ⟨fun u hu => ?_, fun yf hyf => ?_⟩⟩⟩⟩
  · refine ⟨_, rfl, ⟨rfl, Nat.le_refl _, fun i x hi => ?_⟩⟩
    have hkn := Kept.new u (.cells #[.int .i64 0, .slice a 5 5] 33)
    have b := Blk.new u #[.int .i64 0, .slice a 5 5] 33
    cases i with
    | succ i => cases hi
    | zero =>
      cases hi
      refine ⟨na u, [.int .i64 0, .slice a 5 5], rfl, b.lt, ⟨a, 5, 5, rfl, Ls.grow hL4 (Kept.trans hu hkn)⟩, fun j v hj => ?_⟩
      rw [Nat.zero_mul, Nat.zero_add]
      exact b.rd (by simpa using hj)
  · refine math_NaN.calls ?_
    unfold math_NaN math_NaN.g0
    exact ⟨nanF, fun d => by kernel_rfl, _, rfl, rfl, Below.refl _ _⟩
  · obtain ⟨_, _, hyf⟩ := hyf
    have hyf' : yf = nanF := by have : Value.float .f64 yf = .float .f64 nanF := hyf; simpa using this
    subst hyf'
    refine ⟨fun u hu _ => ⟨_, rfl, (Arr.new enF 23 u [0, nanF] _ rfl (by simp [maxLen])).sl⟩, fun q6 hq6 => ⟨fun u hu f0 f1 f3 f5 f6 => ?_, fun a7 n7 c7 e7 hf7 u hu f0 f1 f3 f5 f6 f7 => ?_⟩⟩
    · obtain ⟨q, hq, g0⟩ := f0
      obtain ⟨q', hq', g1⟩ := f1
      obtain ⟨q'', hq'', g3⟩ := f3
      obtain ⟨q''', hq''', g6⟩ := f6
      simp only [Value.slice.injEq, Option.some.injEq, and_true] at hq hq' hq'' hq'''
      subst hq hq' hq'' hq'''
      have hE : GoodE (inW u) u smpE ⟨some q0, 2, 2⟩ ⟨some q1, 1, 1⟩ ⟨some q3, 1, 1⟩ := ⟨g0, g1, g3, fun b hb => hb, (by show (2 : Nat) ≤ 1048576; omega), (by show (1 : Nat) ≤ 1048576; omega), (by show (1 : Nat) ≤ 1048576; omega), fun x hx => by
        simp only [smpE, List.mem_cons, List.not_mem_nil, or_false] at hx
        subst hx
        exact ⟨by decide, smp_short⟩⟩
      have hsc : E.CallsD Go.Proofs.Try.prog 21 #[.agg #[.string ⟨#[]⟩, .slice (some q0) 2 2, .int .i64 1, .slice (some q1) 1 1, .slice (some q3) 1 1], .slice (some q6) 2 2] u fun v u' => ∃ a' n' c', v = .tuple #[.slice a' n' c', .int .i64 (scoreP smpE [0, nanF]).2] ∧ NewA enI 2 u u' a' n' c' (scoreP smpE [0, nanF]).1 := Score_c (F := inW u) (e := smpE) (f := ⟨some q0, 2, 2⟩) (b := ⟨some q1, 1, 1⟩) (t := ⟨some q3, 1, 1⟩) (a1 := some q6) (xs := [0, nanF]) (n1 := 2) (c1 := 2) hE g6 (by omega)
      refine E.CallsD.mono hsc fun v u5 ⟨a', n', c', hv, hn⟩ => ⟨_, _, _, _, hv, ?_, hn.kept⟩
      have e1 : (scoreP smpE [0, nanF]).1 = [37] := by rw [smp_score]
      have e2 : (scoreP smpE [0, nanF]).2 = 0 := by rw [smp_score]
      rw [e1] at hn
      rw [e2]
      have hgo : FL 7 (.tuple #[.slice a' n' c', .int .i64 0]) u5 := ⟨a', n', c', rfl, hn.sl⟩
      exact hgo
    · obtain ⟨a', n', c', h7, s7⟩ := f7
      simp at h7
      obtain ⟨⟨rfl, rfl, rfl⟩, rfl⟩ := h7
      have k05 := Kept.trans k04 hu
      rw [sample_shape, smp_leafK, smp_leafV, smp_wayE]
      refine ob_t (nw_mk ?_)
      have hk6 := Kept.new u (.cells #[.int .i64 3, .int .i64 4, .int .i64 1] 3)
      have hI := (Arr.new enI 3 u [3, 4, 1] #[.int .i64 3, .int .i64 4, .int .i64 1] rfl (by simp [maxLen])).sl
      have hl2 := hn2.len
      rw [smp_those] at hl2 hn2
      have hs2 : Sl enI _ a2 n2 [3, 4, 1] := (hn2.sl.keep (Kept.trans (Kept.trans (Kept.trans hkx hk4) hu) hk6))
      refine E.CallsD.mono (Ints_c hs2 hI (by rw [hl2]; decide)) fun v u6 ⟨hv, hk7⟩ => ⟨_, hv, ?_⟩
      have k67 := Kept.trans hk6 hk7
      have k06 := Kept.trans k05 k67
      rw [decide_eq_true rfl]
      refine ob_t (ob_t (ob_t (ob_t (ob_t ?_))))
      have hl7 := s7.len
      simp at hl7
      subst hl7
      refine ob_t ?_
      obtain ⟨p7, hp7, hc7⟩ := s7.get 0 37 rfl
      subst hp7
      refine optN_mk (chk_mk (by decide) ⟨37, bkeep k67 hc7, ob_t ?_⟩)
      have hT6 := hT4.kept (Kept.trans hu k67)
      have hL6 := Ls.grow hL4 (Kept.trans hu k67)
      refine ⟨_, _, _, hT6.c1, ?_⟩
      obtain ⟨pn, x, an, nn, cn, hpn, _, hxn, h8, hcs⟩ := hL6.nd (i := 0) (by omega)
      subst hpn
      obtain rfl : nd0 = x := by simpa [sampleN] using hxn
      rw [Nat.zero_mul] at h8
      refine optN_mk (chk_mk (by decide) (h8.ld ?_))
      have hcl := hcs.len
      refine E.CallsD.mono (Goes_c (x := nd0) (f := 4602678819172646912) (by rw [hcl]; decide) hcs.sl) fun v u7 ⟨hv, hk8⟩ => ⟨_, hv, ?_, Kept.trans k06 hk8⟩
      rw [smp_goes]
      rfl
theorem pq {P : Program} {fn : FuncId} {args : Array Value} {w u : World} {v : Value} (h : Pure P fn args u v) (hu : Kept w u) : E.CallsD P fn args u fun v' u' => v' = v ∧ Below w.heap.size w u' :=
  E.CallsD.mono h fun _ _ ⟨hv, hk⟩ => ⟨hv, Kept.trans hu hk⟩
end
end Go.Mir
