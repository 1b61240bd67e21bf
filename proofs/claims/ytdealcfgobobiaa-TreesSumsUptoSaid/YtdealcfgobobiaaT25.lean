/- Part of a proof of laws of the seat Ytdealcfgobobiaa: functions' weakest preconditions, each checked by the kernel, contracts out of them, plain lemmas; no conditions. -/
import Derived.Test.YtdealcfgobobiaaT24
set_option linter.unusedVariables false
set_option linter.unusedSimpArgs false
set_option maxRecDepth 100000
namespace Go.Mir
open Go Go.E Go.RowKit Go.Tr
section
variable {w u w1 : World} {p : Addr} {o o1 : Int} {a a1 b1 : Option Addr} {n c n1 c1 m d g B B' : Nat} {F F' S : Nat → Prop} {nodes nodes' : List ND} {xs ys : List Int} {ss rs : List ByteArray} {ts ts' : List TD} {e e' : ED} {f b t f' b' t' : SH} {x y : ND}
theorem ne_of_get {α : Type} {l r : List α} {i : Nat} {x y : α} (hx : l[i]? = some x) (hy : r[i]? = some y) (h : x ≠ y) : l ≠ r := fun e => by subst e; rw [hx] at hy; exact h (by simpa using hy)
theorem eqi_loop {R : Value → World → Prop} (hn : n = xs.length) (hm : n ≤ 16777216) (he : xs.length = ys.length) (hs : Sl enI w a n xs) (ht : Sl enI w a1 m ys) (hR : R (.bool (decB (xs = ys))) w) : ∀ (k i : Nat), i + k = n → xs.take i = ys.take i → slices_Equal_int.l14 R (k + 1) a n c a1 m d n i w
  | 0, i, hi, hp => by
    unfold slices_Equal_int.l14 slices_Equal_int.g14
    refine onDec_f (by omega) ?_
    rw [List.take_of_length_le (by omega), List.take_of_length_le (by omega)] at hp
    rw [decB_t hp] at hR
    exact hR
  | k + 1, i, hi, hp => by
    unfold slices_Equal_int.l14 slices_Equal_int.g14
    refine onDec_t (by omega) ?_
    have hml := ht.len
    refine hs.rdI (k := .i64) (by omega) (by omega) fun x hx => ?_
    refine ht.rdI (k := .i64) (by omega) (by omega) fun y hy => ?_
    rw [Int.toNat_natCast] at hx hy
    refine onNe (fun h => ?_) fun h => ?_
    · rw [decB_f (ne_of_get hx hy h)] at hR
      exact hR
    · subst h
      refine nv_succ (by omega) ?_
      exact eqi_loop hn hm he hs ht hR k (i + 1) (by omega) (by rw [take_snoc hx, take_snoc hy, hp])
theorem EqualI_c (hs : Sl enI w a n xs) (ht : Sl enI w a1 m ys) (hm : n ≤ 16777216) : Pure Go.Proofs.Try.prog 64 #[.slice a n c, .slice a1 m d] w (.bool (decB (xs = ys))) := by
  refine slices_Equal_int.calls (R := fun v' u => v' = _ ∧ Below w.heap.size w u) ?_
  unfold slices_Equal_int slices_Equal_int.g0
  have hl := hs.len
  have hl2 := ht.len
  refine onNe (fun h => ⟨by rw [decB_f]; intro e; subst e; omega, Below.refl _ _⟩) fun h => ?_
  exact ⟨n + 1, eqi_loop hl hm (by omega) hs ht ⟨rfl, Below.refl _ _⟩ n 0 (by omega) rfl⟩
theorem eqj_loop {R : Value → World → Prop} (hn : n = xs.length) (hm : n ≤ 16777216) (he : xs.length = ys.length) (hs : Sl enI w a n xs) (ht : Sl enI w a1 m ys) (hR : R (.bool (decB (xs = ys))) w) : ∀ (k i : Nat), i + k = n → xs.take i = ys.take i → slices_Equal_i64.l14 R (k + 1) a n c a1 m d n i w
  | 0, i, hi, hp => by
    unfold slices_Equal_i64.l14 slices_Equal_i64.g14
    refine onDec_f (by omega) ?_
    rw [List.take_of_length_le (by omega), List.take_of_length_le (by omega)] at hp
    rw [decB_t hp] at hR
    exact hR
  | k + 1, i, hi, hp => by
    unfold slices_Equal_i64.l14 slices_Equal_i64.g14
    refine onDec_t (by omega) ?_
    have hml := ht.len
    refine hs.rdI (k := .i64) (by omega) (by omega) fun x hx => ?_
    refine ht.rdI (k := .i64) (by omega) (by omega) fun y hy => ?_
    rw [Int.toNat_natCast] at hx hy
    refine onNe (fun h => ?_) fun h => ?_
    · rw [decB_f (ne_of_get hx hy h)] at hR
      exact hR
    · subst h
      refine nv_succ (by omega) ?_
      exact eqj_loop hn hm he hs ht hR k (i + 1) (by omega) (by rw [take_snoc hx, take_snoc hy, hp])
theorem EqualJ_c (hs : Sl enI w a n xs) (ht : Sl enI w a1 m ys) (hm : n ≤ 16777216) : Pure Go.Proofs.Try.prog 66 #[.slice a n c, .slice a1 m d] w (.bool (decB (xs = ys))) := by
  refine slices_Equal_i64.calls (R := fun v' u => v' = _ ∧ Below w.heap.size w u) ?_
  unfold slices_Equal_i64 slices_Equal_i64.g0
  have hl := hs.len
  have hl2 := ht.len
  refine onNe (fun h => ⟨by rw [decB_f]; intro e; subst e; omega, Below.refl _ _⟩) fun h => ?_
  exact ⟨n + 1, eqj_loop hl hm (by omega) hs ht ⟨rfl, Below.refl _ _⟩ n 0 (by omega) rfl⟩
theorem rdS (h : Sl enS w a n ss) {i : Int} {K : ByteArray → Prop} (h0 : 0 ≤ i) (hi : i < n) (hk : ∀ x, ss[i.toNat]? = some x → K x) :
    optN a fun q => chk (0 ≤ i ∧ i < (n : Int)) (∃ y : ByteArray, w.cell? (q.add (i.toNat * 1)) = some (.string y) ∧ K y) := h.rd (f := fun y => .string y) (sel := fun x => x) (fun _ => rfl) h0 hi hk
theorem onStr {s r : ByteArray} {t f : Prop} (ht : s = r → t) (hf : s ≠ r → f) : onBool (s.toList == r.toList) t f := by
  rw [str_eq]
  by_cases h : s = r
  · rw [decB_t h]; exact ht h
  · rw [decB_f h]; exact hf h
theorem onStrN {s r : ByteArray} {t f : Prop} (ht : s ≠ r → t) (hf : s = r → f) : onBool (!(s.toList == r.toList)) t f := by
  rw [str_eq]
  by_cases h : s = r
  · rw [decB_t h]; exact hf h
  · rw [decB_f h]; exact ht h
theorem eqs_loop {R : Value → World → Prop} (hn : n = ss.length) (hm : n ≤ 16777216) (he : ss.length = rs.length) (hs : Sl enS w a n ss) (ht : Sl enS w a1 m rs) (hR : R (.bool (decB (ss = rs))) w) : ∀ (k i : Nat), i + k = n → ss.take i = rs.take i → slices_Equal_str.l14 R (k + 1) a n c a1 m d n i w
  | 0, i, hi, hp => by
    unfold slices_Equal_str.l14 slices_Equal_str.g14
    refine onDec_f (by omega) ?_
    rw [List.take_of_length_le (by omega), List.take_of_length_le (by omega)] at hp
    rw [decB_t hp] at hR
    exact hR
  | k + 1, i, hi, hp => by
    unfold slices_Equal_str.l14 slices_Equal_str.g14
    refine onDec_t (by omega) ?_
    have hml := ht.len
    refine rdS hs (by omega) (by omega) fun x hx => ?_
    refine rdS ht (by omega) (by omega) fun y hy => ?_
    rw [Int.toNat_natCast] at hx hy
    refine onStrN (fun h => ?_) fun h => ?_
    · rw [decB_f (ne_of_get hx hy h)] at hR
      exact hR
    · subst h
      refine nv_succ (by omega) ?_
      exact eqs_loop hn hm he hs ht hR k (i + 1) (by omega) (by rw [take_snoc hx, take_snoc hy, hp])
theorem EqualS_c (hs : Sl enS w a n ss) (ht : Sl enS w a1 m rs) (hm : n ≤ 16777216) : Pure Go.Proofs.Try.prog 65 #[.slice a n c, .slice a1 m d] w (.bool (decB (ss = rs))) := by
  refine slices_Equal_str.calls (R := fun v' u => v' = _ ∧ Below w.heap.size w u) ?_
  unfold slices_Equal_str slices_Equal_str.g0
  have hl := hs.len
  have hl2 := ht.len
  refine onNe (fun h => ⟨by rw [decB_f]; intro e; subst e; omega, Below.refl _ _⟩) fun h => ?_
  exact ⟨n + 1, eqs_loop hl hm (by omega) hs ht ⟨rfl, Below.refl _ _⟩ n 0 (by omega) rfl⟩

/-! ### nodes -/
theorem ND_eq (h0 : x.kind = y.kind) (h1 : x.value = y.value) (h2 : x.feature = y.feature) (h3 : x.thr = y.thr) (h4 : x.cats = y.cats) (h5 : x.missing = y.missing) (h6 : x.left = y.left) (h7 : x.right = y.right) : x = y := by
  cases x; cases y; simp_all
theorem alike1_c (hs : Sl enI w a n x.cats) (ht : Sl enI w a1 m y.cats) (hm : n ≤ 16777216) : Pure Go.Proofs.Try.prog 62 #[vN x a n c, vN y a1 m d] w (.bool (decB (x = y))) := by
  refine trees_Alike_1.calls (R := fun v' u => v' = _ ∧ Below w.heap.size w u) ?_
  unfold trees_Alike_1 trees_Alike_1.g0
  refine box8 fun w1 _ hx1 hk1 => box8 fun w2 _ hy hk2 => ?_
  have hx := hx1.kept hk2
  have hk := Kept.trans hk1 hk2
  have no : x ≠ y → ∀ u, Below w2.heap.size w2 u → (Value.bool false = .bool (decB (x = y)) ∧ Below w.heap.size w u) := fun h u hu => ⟨by rw [decB_f h], Kept.trans hk hu⟩
  refine ⟨_, hx.c0, _, hy.c0, onEq (fun e0 => ?_) fun e0 => no fun h => e0 (by rw [h])⟩
  refine ⟨_, hx.c1, _, hy.c1, onEq (fun e1 => ?_) fun e0 => no fun h => e0 (by rw [h])⟩
  refine ⟨_, hx.c2, _, hy.c2, onEq (fun e2 => ?_) fun e0 => no fun h => e0 (by rw [h])⟩
  refine ⟨_, hx.c3, _, fb _ _, _, hy.c3, _, fb _ _, onEq (fun e3 => ?_) fun e0 => no fun h => e0 (by rw [h])⟩
  refine ⟨_, _, _, hx.c4, _, _, _, hy.c4, decB (x.cats = y.cats), fun u hu => pq (EqualI_c (hs.keep (Kept.trans hk hu)) (ht.keep (Kept.trans hk hu)) hm) hu, ?_⟩
  refine (onBool_iff _ _ _).2 ⟨fun e4 => ?_, fun e4 => no fun h => by rw [decB_t (by rw [h])] at e4; cases e4⟩
  refine ⟨_, hx.c5, _, hy.c5, onEq (fun e5 => ?_) fun e0 => no fun h => e0 (by rw [h])⟩
  refine ⟨_, hx.c6, _, hy.c6, onEq (fun e6 => ?_) fun e0 => no fun h => e0 (by rw [h])⟩
  refine ⟨_, hx.c7, _, hy.c7, fun u hu => ⟨?_, Kept.trans hk hu⟩⟩
  have h4 : x.cats = y.cats := Classical.byContradiction fun h => by rw [decB_f h] at e4; cases e4
  by_cases e7 : x.right = y.right
  · rw [decB_t (ND_eq e0 e1 e2 (by omega) h4 e5 e6 e7), e7]; simp
  · rw [decB_f (fun h => e7 (by rw [h]))]; simp [e7]
theorem eqn_loop {R : Value → World → Prop} (hG : Good F w1 a n c nodes) (hG' : Good F' w1 a1 m d nodes') (he : n = m) (hR : ∀ u, From w1.heap.size w1 u → R (.bool (decB (nodes = nodes'))) u) : ∀ (k i : Nat) (w : World), i + k = n → From w1.heap.size w1 w → nodes.take i = nodes'.take i → Equal_node.l14 R (k + 1) a1 m d a n c n i w
  | 0, i, w, hi, hw, hp => by
    have hn := hG.len
    have hn' := hG'.len
    unfold Equal_node.l14 Equal_node.g14
    refine onDec_f (by omega) ?_
    rw [List.take_of_length_le (by omega), List.take_of_length_le (by omega)] at hp
    have := hR w hw
    rw [decB_t hp] at this
    exact this
  | k + 1, i, w, hi, hw, hp => by
    have hn := hG.len
    have hn' := hG'.len
    have hmx := hG.max
    unfold Equal_node.l14 Equal_node.g14
    refine onDec_t (by omega) ?_
    refine (hG.from hw).ls.rdN (by omega) (by omega) fun x a5 n5 c5 hx hcs => ?_
    rw [Int.toNat_natCast] at hx
    refine box8z fun u _ hb hk => ?_
    have hu := hw.keptThen hk
    refine (hG'.from hu).ls.rdN (by omega) (by omega) fun y a6 n6 c6 hy hcs' => ?_
    rw [Int.toNat_natCast] at hy
    refine box8z fun u2 _ hb2 hk2 => ?_
    have hb' := hb.kept hk2
    refine hb'.ld (hb2.ld ?_)
    have hs5 := hG.short x (List.mem_of_getElem? hx)
    have hl5 := hcs.len
    refine E.CallsD.mono (alike1_c (x := x) (y := y) (hcs.kept (Kept.trans hk hk2)).sl (hcs'.kept hk2).sl (by omega)) fun v u3 ⟨hv, hk3⟩ => ⟨_, hv, ?_⟩
    have hu3 := (hu.keptThen hk2).keptThen hk3
    by_cases h : x = y
    · rw [decB_t h]
      subst h
      refine ob_f ?_
      refine nv_succ (by omega) ?_
      exact eqn_loop hG hG' he hR k (i + 1) u3 (by omega) hu3 (by rw [take_snoc hx, take_snoc hy, hp])
    · rw [decB_f h]
      refine ob_t ?_
      have := hR u3 hu3
      rw [decB_f (ne_of_get hx hy h)] at this
      exact this
theorem EqualN_c (hG : Good F w a n c nodes) (hG' : Good F' w a1 m d nodes') : Pure Go.Proofs.Try.prog 61 #[.slice a n c, .slice a1 m d, .func (.func 62) #[] #[]] w (.bool (decB (nodes = nodes'))) := by
  refine Equal_node.calls (R := fun v' u => v' = _ ∧ Below w.heap.size w u) ?_
  unfold Equal_node Equal_node.g0
  have hl := hG.len
  have hl2 := hG'.len
  refine onNe (fun h => ⟨by rw [decB_f]; intro e; subst e; omega, Below.refl _ _⟩) fun h => ?_
  exact ⟨n + 1, eqn_loop hG hG' (by omega) (fun u hu => ⟨rfl, From.kept hu⟩) n 0 w (by omega) (From.refl _ _) rfl⟩
theorem Alike_c (hG : Good F w a n c nodes) (hG' : Good F' w a1 m d nodes') : Pure Go.Proofs.Try.prog 38 #[vT o a n c, vT o1 a1 m d] w (.bool (decB (o = o1 ∧ nodes = nodes'))) := by
  refine trees_Alike.calls (R := fun v' u => v' = _ ∧ Below w.heap.size w u) ?_
  unfold trees_Alike trees_Alike.g0
  refine box2T fun w1 _ hT1 hk1 => box2T fun w2 _ hT2 hk2 => ?_
  have hT := hT1.kept hk2
  have hk := Kept.trans hk1 hk2
  refine ⟨_, hT.c0, _, hT2.c0, onEq (fun e0 => ?_) fun e0 => ⟨by rw [decB_f (fun h => e0 h.1)], hk⟩⟩
  refine ⟨_, _, _, hT.c1, _, _, _, hT2.c1, ?_⟩
  refine E.CallsD.mono (EqualN_c (hG.kept hk) (hG'.kept hk)) fun v u ⟨hv, hk3⟩ => ⟨_, hv, ?_, Kept.trans hk hk3⟩
  rw [decB_eq (p := nodes = nodes') (q := o = o1 ∧ nodes = nodes') ⟨fun h => ⟨e0, h⟩, fun h => h.2⟩]
theorem refalike_loop {R : Value → World → Prop} (hG : Good F w1 a n c nodes) (hG' : Good F' w1 a1 m d nodes') (hT : At2 w1 p o1 a1 m d) (he : n = m) (hR : ∀ u, From w1.heap.size w1 u → R (.bool (decB (nodes = nodes'))) u) : ∀ (k i : Nat) (w : World), i + k = n → From w1.heap.size w1 w → nodes.take i = nodes'.take i → thicketref07_Alike.l14 R (k + 1) (some p) a n c n i w
  | 0, i, w, hi, hw, hp => by
    have hn := hG.len
    have hn' := hG'.len
    unfold thicketref07_Alike.l14 thicketref07_Alike.g14
    refine onDec_f (by omega) ?_
    rw [List.take_of_length_le (by omega), List.take_of_length_le (by omega)] at hp
    have := hR w hw
    rw [decB_t hp] at this
    exact this
  | k + 1, i, w, hi, hw, hp => by
    have hn := hG.len
    have hn' := hG'.len
    have hmx := hG.max
    unfold thicketref07_Alike.l14 thicketref07_Alike.g14
    refine onDec_t (by omega) ?_
    refine (hG.from hw).ls.rdN (by omega) (by omega) fun x a5 n5 c5 hx hcs => ?_
    rw [Int.toNat_natCast] at hx
    refine box8z fun u _ hb hk => ?_
    have hu := hw.keptThen hk
    refine optN_mk ⟨_, _, _, (hT.from hu).c1, ?_⟩
    refine (hG'.from hu).ls.rdN (by omega) (by omega) fun y a6 n6 c6 hy hcs' => ?_
    rw [Int.toNat_natCast] at hy
    refine box8z fun u2 _ hb2 hk2 => ?_
    have hb' := hb.kept hk2
    have hs5 := hG.short x (List.mem_of_getElem? hx)
    have hl5 := hcs.len
    have hu2 := hu.keptThen hk2
    have no : x ≠ y → ∀ u, Below u2.heap.size u2 u → R (.bool false) u := fun h u hu => by
      have := hR u (hu2.keptThen hu)
      rw [decB_f (ne_of_get hx hy h)] at this
      exact this
    refine ⟨_, hb'.c0, _, hb2.c0, onNe (fun e0 => no fun h => e0 (by rw [h])) fun e0 => ?_⟩
    refine ⟨_, hb'.c1, _, hb2.c1, onNe (fun e0 => no fun h => e0 (by rw [h])) fun e1 => ?_⟩
    refine ⟨_, hb'.c2, _, hb2.c2, onNe (fun e0 => no fun h => e0 (by rw [h])) fun e2 => ?_⟩
    refine ⟨_, hb'.c3, _, fb _ _, _, hb2.c3, _, fb _ _, onNe (fun e0 => no fun h => e0 (by rw [h])) fun e3 => ?_⟩
    refine ⟨_, _, _, hb'.c4, _, _, _, hb2.c4, decide (x.cats = y.cats), fun u hu => pq (Ints_c (hcs.kept (Kept.trans hk (Kept.trans hk2 hu))).sl (hcs'.kept (Kept.trans hk2 hu)).sl (by omega)) hu, ?_⟩
    by_cases e4 : x.cats = y.cats
    · rw [decide_eq_true e4]
      refine ob_f ?_
      refine ⟨_, hb'.c5, _, hb2.c5, onNe (fun e0 => no fun h => e0 (by rw [h])) fun e5 => ?_⟩
      refine ⟨_, hb'.c6, _, hb2.c6, onNe (fun e0 => no fun h => e0 (by rw [h])) fun e6 => ?_⟩
      refine ⟨_, hb'.c7, _, hb2.c7, fun u3 hu3 => onNe (fun e0 => no (fun h => e0 (by rw [h])) u3 hu3) fun e7 => ?_⟩
      have h := ND_eq e0 e1 e2 (by omega) e4 e5 e6 e7
      subst h
      refine nv_succ (by omega) ?_
      exact refalike_loop hG hG' hT he hR k (i + 1) u3 (by omega) (hu2.keptThen hu3) (by rw [take_snoc hx, take_snoc hy, hp])
    · rw [decide_eq_false e4]
      exact ob_t (no fun h => e4 (by rw [h]))
theorem refAlike_c (hG : Good F w a n c nodes) (hG' : Good F' w a1 m d nodes') : Pure Go.Proofs.Try.prog 42 #[vT o a n c, vT o1 a1 m d] w (.bool (decB (o = o1 ∧ nodes = nodes'))) := by
  refine thicketref07_Alike.calls (R := fun v' u => v' = _ ∧ Below w.heap.size w u) ?_
  unfold thicketref07_Alike thicketref07_Alike.g0
  refine box2T fun w1 _ hT1 hk1 => box2T fun w2 _ hT2 hk2 => ?_
  have hT := hT1.kept hk2
  have hk := Kept.trans hk1 hk2
  have hl := hG.len
  have hl2 := hG'.len
  refine ⟨_, hT.c0, _, hT2.c0, onNe (fun e0 => ⟨by rw [decB_f (fun h => e0 h.1)], hk⟩) fun e0 => ?_⟩
  refine ⟨_, _, _, hT.c1, _, _, _, hT2.c1, onNe (fun e1 => ⟨by rw [decB_f (fun h => e1 (by rw [hl, hl2, h.2]))], hk⟩) fun e1 => ⟨_, _, _, hT.c1, ?_⟩⟩
  exact ⟨n + 1, refalike_loop (w1 := w2) (hG.kept hk) (hG'.kept hk) hT2 (by omega) (fun u hu => ⟨by rw [decB_eq (p := nodes = nodes') (q := o = o1 ∧ nodes = nodes') ⟨fun h => ⟨e0, h⟩, fun h => h.2⟩], Kept.trans hk (From.kept hu)⟩) n 0 w2 (by omega) (From.refl _ _) rfl⟩
end
end Go.Mir
