/- Part of a proof of laws of the seat Ytmjlipmapfofmaa: functions' weakest preconditions, each checked by the kernel, contracts out of them, plain lemmas; no conditions. -/
import Derived.Test.YtmjlipmapfofmaaTC
import Derived.Test.YtmjlipmapfofmaaTPA
set_option linter.unusedVariables false
set_option linter.unusedSimpArgs false
set_option linter.unusedSectionVars false
set_option maxRecDepth 100000
namespace Go.Mir
open Go Go.E Go.RowKit Go.Tr
section
variable {w w1 : World} {p : Addr} {o : Int} {a a1 : Option Addr} {n c n1 c1 : Nat} {F : Nat → Prop} {nodes : List ND} {xs : List Nat}
end
end Go.Mir

set_option maxRecDepth 100000
namespace Go.Mir
open Go Go.E Go.RowKit Go.Tr
def fresh (B g : Nat) : Prop := g = 0 ∨ B < g
section
variable {w u w1 : World} {p : Addr} {o : Int} {a a1 : Option Addr} {n c n1 c1 g B B' : Nat} {F S : Nat → Prop} {nodes : List ND} {xs : List Nat} {ts : List TD} {e : ED} {f b t : SH}
theorem cloneI_c {ys : List Int} (hs : Sl enI w a n ys) (hm : n ≤ 1048576) : E.CallsD Go.Proofs.Try.prog 45 #[.slice a n c] w fun v u => ∃ a' c', v = .slice a' n c' ∧ NewA enI 3 w u a' n c' ys := by
  refine slices_Clone_int.calls ?_
  unfold slices_Clone_int slices_Clone_int.g0
  refine cloneA (R := fun v u => ∃ a' c', v = .slice a' n c' ∧ NewA enI 3 w u a' n c' ys) S_I (fun _ => rfl) hs (by simp only [maxLen]; omega) (by omega) (fun h1 h2 => ?_) fun a' c' u h => ⟨_, _, _, rfl, _, _, rfl, h⟩
  have hl := hs.len
  subst h2
  simp only [List.length_nil] at hl
  subst hl
  exact ⟨_, _, rfl, 0, Arr.nil _ _ _, .inl rfl, Kept.refl _⟩
theorem enTH_one (x : TD × SH) : ∀ v ∈ enTH x, v.oneCell' = true := by
  intro v hv
  simp only [enTH, List.mem_cons, List.not_mem_nil, or_false] at hv
  rcases hv with h | h <;> subst h <;> rfl
end
end Go.Mir

set_option maxRecDepth 100000
namespace Go.Mir
open Go Go.E Go.RowKit Go.Tr
section
variable {w u w1 : World} {p : Addr} {o : Int} {a a1 : Option Addr} {n c n1 c1 g B B' : Nat} {F S : Nat → Prop} {nodes : List ND} {xs : List Nat} {ts : List TD} {e : ED} {f b t : SH}
end
end Go.Mir

set_option maxRecDepth 100000
namespace Go.Mir
open Go Go.E Go.RowKit Go.Tr
def F1 (j : Nat) (Q : Value → World → Prop) : Nat → Value → World → Prop := fun i v u => i = j → Q v u
section
variable {w u w1 : World} {p : Addr} {o : Int} {a a1 : Option Addr} {n c n1 c1 g B B' : Nat} {F S : Nat → Prop} {nodes : List ND} {xs : List Nat} {ts : List TD} {e : ED} {f b t : SH}
end
end Go.Mir

set_option maxRecDepth 100000
namespace Go.Mir
open Go Go.E Go.RowKit Go.Tr
section
variable {w u w1 : World} {p : Addr} {o o1 : Int} {a a1 b1 : Option Addr} {n c n1 c1 m d g B B' : Nat} {F F' S : Nat → Prop} {nodes nodes' : List ND} {xs ys : List Int} {ss rs : List ByteArray} {ts ts' : List TD} {e e' : ED} {f b t f' b' t' : SH} {x y : ND}
theorem ne_of_get {α : Type} {l r : List α} {i : Nat} {x y : α} (hx : l[i]? = some x) (hy : r[i]? = some y) (h : x ≠ y) : l ≠ r := fun e => by subst e; rw [hx] at hy; exact h (by simpa using hy)
theorem eqi_loop {R : Value → World → Prop} (hn : n = xs.length) (hm : n ≤ 16777216) (he : xs.length = ys.length) (hs : Sl enI w a n xs) (ht : Sl enI w a1 m ys) (hR : R (.bool (decB (xs = ys))) w) : ∀ (k i : Nat), i + k = n → xs.take i = ys.take i → slices_Equal_int.l14 R (k + 1) a n c a1 m d n i w
  | 0, i, hi, hp => by
    rw [slices_Equal_int.u14]; unfold slices_Equal_int.g14
    refine onDec_f (by omega) ?_
    rw [List.take_of_length_le (by omega), List.take_of_length_le (by omega)] at hp
    rw [decB_t hp] at hR
    exact hR
  | k + 1, i, hi, hp => by
    rw [slices_Equal_int.u14]; unfold slices_Equal_int.g14
    refine onDec_t (by omega) ?_
    have hml := ht.len
    refine hs.rdI (k := .i64) (by omega) (by omega) fun x hx => ?_
    refine ht.rdI (k := .i64) (by omega) (by omega) fun y hy => ?_
    rw [Int.toNat_natCast] at hx hy
    refine onNe (fun h => ?_) fun h => ?_
    · rw [decB_f (ne_of_get hx hy h)] at hR
      exact hR
    · subst h
      refine nv_succ (by omega) ?_
      exact eqi_loop hn hm he hs ht hR k (i + 1) (by omega) (by rw [take_snoc hx, take_snoc hy, hp])
theorem EqualI_c (hs : Sl enI w a n xs) (ht : Sl enI w a1 m ys) (hm : n ≤ 16777216) : Pure Go.Proofs.Try.prog 35 #[.slice a n c, .slice a1 m d] w (.bool (decB (xs = ys))) := by
  refine slices_Equal_int.calls (R := fun v' u => v' = _ ∧ Below w.heap.size w u) ?_
  unfold slices_Equal_int slices_Equal_int.g0
  have hl := hs.len
  have hl2 := ht.len
  refine onNe (fun h => ⟨by rw [decB_f]; intro e; subst e; omega, Below.refl _ _⟩) fun h => ?_
  exact ⟨n + 1, eqi_loop hl hm (by omega) hs ht ⟨rfl, Below.refl _ _⟩ n 0 (by omega) rfl⟩
theorem eqj_loop {R : Value → World → Prop} (hn : n = xs.length) (hm : n ≤ 16777216) (he : xs.length = ys.length) (hs : Sl enI w a n xs) (ht : Sl enI w a1 m ys) (hR : R (.bool (decB (xs = ys))) w) : ∀ (k i : Nat), i + k = n → xs.take i = ys.take i → slices_Equal_i64.l14 R (k + 1) a n c a1 m d n i w
  | 0, i, hi, hp => by
    rw [slices_Equal_i64.u14]; unfold slices_Equal_i64.g14
    refine onDec_f (by omega) ?_
    rw [List.take_of_length_le (by omega), List.take_of_length_le (by omega)] at hp
    rw [decB_t hp] at hR
    exact hR
  | k + 1, i, hi, hp => by
    rw [slices_Equal_i64.u14]; unfold slices_Equal_i64.g14
    refine onDec_t (by omega) ?_
    have hml := ht.len
    refine hs.rdI (k := .i64) (by omega) (by omega) fun x hx => ?_
    refine ht.rdI (k := .i64) (by omega) (by omega) fun y hy => ?_
    rw [Int.toNat_natCast] at hx hy
    refine onNe (fun h => ?_) fun h => ?_
    · rw [decB_f (ne_of_get hx hy h)] at hR
      exact hR
    · subst h
      refine nv_succ (by omega) ?_
      exact eqj_loop hn hm he hs ht hR k (i + 1) (by omega) (by rw [take_snoc hx, take_snoc hy, hp])
theorem EqualJ_c (hs : Sl enI w a n xs) (ht : Sl enI w a1 m ys) (hm : n ≤ 16777216) : Pure Go.Proofs.Try.prog 32 #[.slice a n c, .slice a1 m d] w (.bool (decB (xs = ys))) := by
  refine slices_Equal_i64.calls (R := fun v' u => v' = _ ∧ Below w.heap.size w u) ?_
  unfold slices_Equal_i64 slices_Equal_i64.g0
  have hl := hs.len
  have hl2 := ht.len
  refine onNe (fun h => ⟨by rw [decB_f]; intro e; subst e; omega, Below.refl _ _⟩) fun h => ?_
  exact ⟨n + 1, eqj_loop hl hm (by omega) hs ht ⟨rfl, Below.refl _ _⟩ n 0 (by omega) rfl⟩
theorem ND_eq (h0 : x.kind = y.kind) (h1 : x.value = y.value) (h2 : x.feature = y.feature) (h3 : x.thr = y.thr) (h4 : x.cats = y.cats) (h5 : x.missing = y.missing) (h6 : x.left = y.left) (h7 : x.right = y.right) : x = y := by
  cases x; cases y; simp_all
theorem alike1_c (hs : Sl enI w a n x.cats) (ht : Sl enI w a1 m y.cats) (hm : n ≤ 16777216) : Pure Go.Proofs.Try.prog 57 #[vN x a n c, vN y a1 m d] w (.bool (decB (x = y))) := by
  refine trees_Alike_1.calls (R := fun v' u => v' = _ ∧ Below w.heap.size w u) ?_
  unfold trees_Alike_1 trees_Alike_1.g0
  refine box8 fun w1 _ hx1 hk1 => box8 fun w2 _ hy hk2 => ?_
  have hx := hx1.kept hk2
  have hk := Kept.trans hk1 hk2
  have no : x ≠ y → ∀ u, Below w2.heap.size w2 u → (Value.bool false = .bool (decB (x = y)) ∧ Below w.heap.size w u) := fun h u hu => ⟨by rw [decB_f h], Kept.trans hk hu⟩
  refine ⟨_, hx.c0, _, hy.c0, onEq (fun e0 => ?_) fun e0 => no fun h => e0 (by rw [h])⟩
  refine ⟨_, hx.c1, _, hy.c1, onEq (fun e1 => ?_) fun e0 => no fun h => e0 (by rw [h])⟩
  refine ⟨_, hx.c2, _, hy.c2, onEq (fun e2 => ?_) fun e0 => no fun h => e0 (by rw [h])⟩
  refine ⟨_, hx.c3, _, fb _ _, _, hy.c3, _, fb _ _, onEq (fun e3 => ?_) fun e0 => no fun h => e0 (by rw [h])⟩
  refine ⟨_, _, _, hx.c4, _, _, _, hy.c4, decB (x.cats = y.cats), fun u hu => pq (EqualI_c (hs.keep (Kept.trans hk hu)) (ht.keep (Kept.trans hk hu)) hm) hu, ?_⟩
  refine (onBool_iff _ _ _).2 ⟨fun e4 => ?_, fun e4 => no fun h => by rw [decB_t (by rw [h])] at e4; cases e4⟩
  refine ⟨_, hx.c5, _, hy.c5, onEq (fun e5 => ?_) fun e0 => no fun h => e0 (by rw [h])⟩
  refine ⟨_, hx.c6, _, hy.c6, onEq (fun e6 => ?_) fun e0 => no fun h => e0 (by rw [h])⟩
  refine ⟨_, hx.c7, _, hy.c7, fun u hu => ⟨?_, Kept.trans hk hu⟩⟩
  have h4 : x.cats = y.cats := Classical.byContradiction fun h => by rw [decB_f h] at e4; cases e4
  by_cases e7 : x.right = y.right
  · rw [decB_t (ND_eq e0 e1 e2 (by omega) h4 e5 e6 e7), e7]; simp
  · rw [decB_f (fun h => e7 (by rw [h]))]; simp [e7]
theorem eqn_loop {R : Value → World → Prop} (hG : Good F w1 a n c nodes) (hG' : Good F' w1 a1 m d nodes') (he : n = m) (hR : ∀ u, From w1.heap.size w1 u → R (.bool (decB (nodes = nodes'))) u) : ∀ (k i : Nat) (w : World), i + k = n → From w1.heap.size w1 w → nodes.take i = nodes'.take i → Equal_node.l14 R (k + 1) a1 m d a n c n i w
  | 0, i, w, hi, hw, hp => by
    have hn := hG.len
    have hn' := hG'.len
    rw [Equal_node.u14]; unfold Equal_node.g14
    refine onDec_f (by omega) ?_
    rw [List.take_of_length_le (by omega), List.take_of_length_le (by omega)] at hp
    have := hR w hw
    rw [decB_t hp] at this
    exact this
  | k + 1, i, w, hi, hw, hp => by
    have hn := hG.len
    have hn' := hG'.len
    have hmx := hG.max
    rw [Equal_node.u14]; unfold Equal_node.g14
    refine onDec_t (by omega) ?_
    refine (hG.from hw).ls.rdN (by omega) (by omega) fun x a5 n5 c5 hx hcs => ?_
    rw [Int.toNat_natCast] at hx
    refine box8z fun u _ hb hk => ?_
    have hu := hw.keptThen hk
    refine (hG'.from hu).ls.rdN (by omega) (by omega) fun y a6 n6 c6 hy hcs' => ?_
    rw [Int.toNat_natCast] at hy
    refine box8z fun u2 _ hb2 hk2 => ?_
    have hb' := hb.kept hk2
    refine hb'.ld (hb2.ld ?_)
    have hs5 := hG.short x (List.mem_of_getElem? hx)
    have hl5 := hcs.len
    refine E.CallsD.mono (alike1_c (x := x) (y := y) (hcs.kept (Kept.trans hk hk2)).sl (hcs'.kept hk2).sl (by omega)) fun v u3 ⟨hv, hk3⟩ => ⟨_, hv, ?_⟩
    have hu3 := (hu.keptThen hk2).keptThen hk3
    by_cases h : x = y
    · rw [decB_t h]
      subst h
      refine ob_f ?_
      refine nv_succ (by omega) ?_
      exact eqn_loop hG hG' he hR k (i + 1) u3 (by omega) hu3 (by rw [take_snoc hx, take_snoc hy, hp])
    · rw [decB_f h]
      refine ob_t ?_
      have := hR u3 hu3
      rw [decB_f (ne_of_get hx hy h)] at this
      exact this
theorem EqualN_c (hG : Good F w a n c nodes) (hG' : Good F' w a1 m d nodes') : Pure Go.Proofs.Try.prog 56 #[.slice a n c, .slice a1 m d, .func (.func 57) #[] #[]] w (.bool (decB (nodes = nodes'))) := by
  refine Equal_node.calls (R := fun v' u => v' = _ ∧ Below w.heap.size w u) ?_
  unfold Equal_node Equal_node.g0
  have hl := hG.len
  have hl2 := hG'.len
  refine onNe (fun h => ⟨by rw [decB_f]; intro e; subst e; omega, Below.refl _ _⟩) fun h => ?_
  exact ⟨n + 1, eqn_loop hG hG' (by omega) (fun u hu => ⟨rfl, From.kept hu⟩) n 0 w (by omega) (From.refl _ _) rfl⟩
theorem Alike_c (hG : Good F w a n c nodes) (hG' : Good F' w a1 m d nodes') : Pure Go.Proofs.Try.prog 28 #[vT o a n c, vT o1 a1 m d] w (.bool (decB (o = o1 ∧ nodes = nodes'))) := by
  refine trees_Alike.calls (R := fun v' u => v' = _ ∧ Below w.heap.size w u) ?_
  unfold trees_Alike trees_Alike.g0
  refine box2T fun w1 _ hT1 hk1 => box2T fun w2 _ hT2 hk2 => ?_
  have hT := hT1.kept hk2
  have hk := Kept.trans hk1 hk2
  refine ⟨_, hT.c0, _, hT2.c0, onEq (fun e0 => ?_) fun e0 => ⟨by rw [decB_f (fun h => e0 h.1)], hk⟩⟩
  refine ⟨_, _, _, hT.c1, _, _, _, hT2.c1, ?_⟩
  refine E.CallsD.mono (EqualN_c (hG.kept hk) (hG'.kept hk)) fun v u ⟨hv, hk3⟩ => ⟨_, hv, ?_, Kept.trans hk hk3⟩
  rw [decB_eq (p := nodes = nodes') (q := o = o1 ∧ nodes = nodes') ⟨fun h => ⟨e0, h⟩, fun h => h.2⟩]
end
end Go.Mir

set_option maxRecDepth 100000
namespace Go.Mir
open Go Go.E Go.RowKit Go.Tr
section
variable {w u w1 : World} {p q : Addr} {o o1 : Int} {a a1 b1 : Option Addr} {n c n1 c1 m d g B B' : Nat} {F F' S : Nat → Prop} {nodes nodes' : List ND} {ts ts' : List TD} {e e' : ED} {f b t f' b' t' : SH} {x y : TD}
end
end Go.Mir

set_option maxRecDepth 100000
namespace Go.Mir
open Go Go.E Go.RowKit Go.Tr
section
variable {w u w1 : World} {p : Addr} {o : Int} {a a1 : Option Addr} {n c n1 c1 m d g B B' : Nat} {F F' S : Nat → Prop} {nodes : List ND}
end
end Go.Mir

set_option maxRecDepth 100000
namespace Go.Mir
open Go Go.E Go.RowKit Go.Tr
section
variable {w u w1 W : World} {p : Addr} {o : Int} {a a1 : Option Addr} {n c n1 c1 m d g B B' : Nat} {F F' S : Nat → Prop} {nodes : List ND}
end
end Go.Mir
