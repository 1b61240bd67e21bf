/- Part of a proof of laws of the seat YtpllehijaidinaaDoor: functions' weakest preconditions, each checked by the kernel, contracts out of them, plain lemmas; no conditions. -/
import Derived.Test.YtpllehijaidinaaDoorLMaskMarks
import Derived.Test.YtpllehijaidinaaDoorLMaskFalse
import Derived.Test.YtpllehijaidinaaDoorEC
import Derived.Test.YtpllehijaidinaaDoorKLOwn
set_option linter.unusedVariables false
set_option linter.unusedSimpArgs false
set_option maxRecDepth 100000
namespace Go.Mir
open Go Go.E Go.RowKit Go.Tr
section
variable {w w1 u W : World} {p2 : Addr} {o : Int} {a a1 a5 a7 a9 a11 a13 a21 b : Option Addr} {n c n1 c1 n5 c5 n7 c7 n9 c9 n11 c11 n13 c13 n21 c21 m d g5 g9 g11 g13 B : Nat} {F : Nat → Prop} {nodes : List ND} {xs : List Nat} {l : List (RW (BitVec 64))} {R : Value → World → Prop}
def nb (j : Nat) : BitVec 64 := BitVec.ofNat 64 (j + 1)
theorem nb_nat {j : Nat} (h : j < 9223372036854775807) : (nb j).toNat = j + 1 := by
  unfold nb
  rw [BitVec.toNat_ofNat, Nat.mod_eq_of_lt (by omega)]
theorem nv_nb {j : Nat} {K : Int → Prop} (h : j < 9223372036854775807) (hk : K ((nb j).toNat : Int)) : nv (IntKind.i64.wrap ((j : Int) + 1)) fun t => nv (IntKind.u64.wrap t) K := by
  refine nv_mk (y := (j : Int) + 1) (i64_id (by omega) (by omega)) (nv_mk ?_ hk)
  rw [u64_id (by omega) (by omega), nb_nat h]
  omega
/-- Which rows are written over. -/
structure Filled (l l' : List (RW (BitVec 64))) (i : Nat) : Prop where
  len : l'.length = l.length
  row : ∀ j t t', l[j]? = some t → l'[j]? = some t' → t'.2.1.length = t.2.1.length ∧ t'.1 = t.1 ∧ t'.2.2 = t.2.2 ∧ (j < i → ∀ e ∈ t'.2.1, e = nb j)
/-- The rows' blocks. -/
def RB (l : List (RW (BitVec 64))) : Nat → Prop := fun k => ∃ t ∈ l, k + 1 = t.2.2
theorem own1_in {b24 : Option Addr → Nat → Nat → Option Addr → Option Addr → Nat → Nat → Option Addr → Nat → Nat → Option Addr → Nat → Nat → Option Addr → Nat → Nat → Option Addr → Nat → Nat → Int → Int → World → Prop} {i : Nat} (hi : i < n5) (hn5 : n5 ≤ 4096) (hlen : ∀ t ∈ l, t.2.1.length ≤ 16777216)
    (hend : ∀ u l', Mod (RB l) w1 u → OwnM enW 30 58 B u a5 n5 c5 l' g5 → Filled l l' (i + 1) → b24 a1 n1 c1 (some p2) a5 n5 c5 a7 n7 c7 a9 n9 c9 a11 n11 c11 a13 n13 c13 n5 ((i : Int) + 1) u) :
    ∀ (m k L : Nat) (w : World) (l' : List (RW (BitVec 64))), k + m = L → (∀ t, l[i]? = some t → t.2.1.length = L) → Mod (RB l) w1 w → OwnM enW 30 58 B w a5 n5 c5 l' g5 → Filled l l' i → (∀ t', l'[i]? = some t' → ∀ q e, q < k → t'.2.1[q]? = some e → e = nb i) →
      thicketlaw13_MaskOwn.l38 R b24 (m + 1) a1 n1 c1 (some p2) a5 n5 c5 a7 n7 c7 a9 n9 c9 a11 n11 c11 a13 n13 c13 i n5 i L k w
  | 0, k, L, w, l', hk, hL, hw, h5, hF, hd => by
    unfold thicketlaw13_MaskOwn.l38 thicketlaw13_MaskOwn.g38
    refine onDec_f (by omega) ?_
    refine nv_mk (y := (i : Int) + 1) (i64_id (by omega) (by omega)) (hend w l' hw h5 ⟨hF.len, fun j t t' ht ht' => ?_⟩)
    obtain ⟨q1, q2, q3, q4⟩ := hF.row j t t' ht ht'
    refine ⟨q1, q2, q3, fun hj e he => ?_⟩
    by_cases hji : j < i
    · exact q4 hji e he
    · obtain rfl : j = i := by omega
      obtain ⟨q, hq⟩ := List.getElem?_of_mem he
      have := (List.getElem?_eq_some_iff.1 hq).1
      have hLt := hL t ht
      exact hd t' ht' q e (by omega) hq
  | m + 1, k, L, w, l', hk, hL, hw, h5, hF, hd => by
    unfold thicketlaw13_MaskOwn.l38 thicketlaw13_MaskOwn.g38
    have h5l := h5.len
    have hll := hF.len
    have ht : l[i]? = some (l[i]'(by omega)) := List.getElem?_eq_getElem _
    obtain ⟨t, hte⟩ : ∃ t, l[i]'(by omega) = t := ⟨_, rfl⟩
    rw [hte] at ht
    have hLt := hL t ht
    have htm := hlen t (List.mem_of_getElem? ht)
    refine onDec_t (by omega) ?_
    refine h5.rdRow (by omega) (by omega) fun t' ht' => ?_
    rw [Int.toNat_natCast] at ht'
    obtain ⟨q1, q2, q3, q4⟩ := hF.row i t t' ht ht'
    have hrow := (h5.row t' (List.mem_of_getElem? ht')).1
    have hrl := hrow.len
    refine nv_nb (by omega) ?_
    refine h5.wrRow (by decide) ht' (by omega) (by omega) (x := nb i) rfl fun u2 h52 ho => ?_
    rw [Int.toNat_natCast] at h52
    refine nv_succ (by omega) ?_
    refine own1_in hi hn5 hlen hend m (k + 1) L u2 _ (by omega) hL (hw.trans ho (fun _ _ h => h) (fun b _ h => ⟨t, List.mem_of_getElem? ht, by have h' : b + 1 = t'.2.2 := h; omega⟩)) h52 ⟨by rw [List.length_set]; exact hll, fun j s s' hs hs' => ?_⟩ fun s hs q e hq he => ?_
    · by_cases hji : i = j
      · subst hji
        rw [List.getElem?_set_self (by omega)] at hs'
        obtain rfl := Option.some.inj hs'
        rw [ht] at hs
        obtain rfl := Option.some.inj hs
        exact ⟨by simp only [List.length_set]; exact q1, q2, q3, fun h => by omega⟩
      · rw [List.getElem?_set_ne hji] at hs'
        exact hF.row j s s' hs hs'
    · rw [List.getElem?_set_self (by omega)] at hs
      obtain rfl := Option.some.inj hs
      simp only at he
      by_cases hqk : q = k
      · subst hqk
        rw [List.getElem?_set_self (by omega)] at he
        exact (Option.some.inj he).symm
      · rw [List.getElem?_set_ne (fun h => hqk h.symm)] at he
        exact hd t' ht' q e (by omega) he
theorem own1_loop (hn5 : n5 ≤ 4096) (hlen : ∀ t ∈ l, t.2.1.length ≤ 16777216)
    (hend : ∀ u l', Mod (RB l) w1 u → OwnM enW 30 58 B u a5 n5 c5 l' g5 → Filled l l' n5 → thicketlaw13_MaskOwn.e56 R a1 n1 c1 (some p2) a5 n5 c5 a7 n7 c7 a9 n9 c9 a11 n11 c11 a13 n13 c13 n5 0 u) :
    ∀ (m i : Nat) (w : World) (l' : List (RW (BitVec 64))), i + m = n5 → Mod (RB l) w1 w → OwnM enW 30 58 B w a5 n5 c5 l' g5 → Filled l l' i →
      thicketlaw13_MaskOwn.l24 R (m + 1) a1 n1 c1 (some p2) a5 n5 c5 a7 n7 c7 a9 n9 c9 a11 n11 c11 a13 n13 c13 n5 i w
  | 0, i, w, l', hi, hw, h5, hF => by
    unfold thicketlaw13_MaskOwn.l24 thicketlaw13_MaskOwn.g24
    refine onDec_f (by omega) ?_
    obtain rfl : i = n5 := by omega
    exact hend w l' hw h5 hF
  | m + 1, i, w, l', hi, hw, h5, hF => by
    unfold thicketlaw13_MaskOwn.l24 thicketlaw13_MaskOwn.g24
    refine onDec_t (by omega) ?_
    have h5l := h5.len
    have hll := hF.len
    refine h5.rdRow (by omega) (by omega) fun t' ht' => ?_
    rw [Int.toNat_natCast] at ht'
    have ht : l[i]? = some (l[i]'(by omega)) := List.getElem?_eq_getElem _
    obtain ⟨t, hte⟩ : ∃ t, l[i]'(by omega) = t := ⟨_, rfl⟩
    rw [hte] at ht
    obtain ⟨q1, q2, q3, q4⟩ := hF.row i t t' ht ht'
    have hrl := (h5.row t' (List.mem_of_getElem? ht')).1.len
    exact ⟨_, own1_in (by omega) hn5 hlen (fun u l2 hu h52 hF2 => own1_loop hn5 hlen hend m (i + 1) u l2 (by omega) hu h52 hF2) t'.1.n 0 t'.1.n w l' (by omega) (fun s hs => by
      rw [ht] at hs
      obtain rfl := Option.some.inj hs
      omega) hw h5 hF (fun t' _ q e hq => by omega)⟩
/-- Which rows have grown. -/
structure Grown (S : Nat) (l l' : List (RW (BitVec 64))) (i : Nat) : Prop where
  len : l'.length = l.length
  row : ∀ j t t', l[j]? = some t → l'[j]? = some t' → (j < i → t'.2.1 = t.2.1 ++ [7#64, 7#64, 7#64]) ∧ (i ≤ j → t' = t) ∧ (t'.2.2 = t.2.2 ∨ S < t'.2.2)
theorem own2_loop (hn5 : n5 ≤ 4096) (hlen : ∀ t ∈ l, t.2.1.length ≤ 16777216) (hB : B ≤ w1.heap.size)
    (hend : ∀ u l', Mod (fun k => RB l k ∨ k + 1 = g5 ∨ w1.heap.size ≤ k) w1 u → OwnM enW 30 58 B u a5 n5 c5 l' g5 → Grown w1.heap.size l l' n5 → thicketlaw13_MaskOwn.e73 R a1 n1 c1 (some p2) a5 n5 c5 a7 n7 c7 a9 n9 c9 a11 n11 c11 a13 n13 c13 n9 0 u) :
    ∀ (m i : Nat) (w : World) (l' : List (RW (BitVec 64))), i + m = n5 → Mod (fun k => RB l k ∨ k + 1 = g5 ∨ w1.heap.size ≤ k) w1 w → OwnM enW 30 58 B w a5 n5 c5 l' g5 → Grown w1.heap.size l l' i →
      thicketlaw13_MaskOwn.l56 R (m + 1) a1 n1 c1 (some p2) a5 n5 c5 a7 n7 c7 a9 n9 c9 a11 n11 c11 a13 n13 c13 n5 i w
  | 0, i, w, l', hi, hw, h5, hF => by
    unfold thicketlaw13_MaskOwn.l56 thicketlaw13_MaskOwn.g56
    refine onDec_f (by omega) ?_
    obtain rfl : i = n5 := by omega
    exact hend w l' hw h5 hF
  | m + 1, i, w, l', hi, hw, h5, hF => by
    unfold thicketlaw13_MaskOwn.l56 thicketlaw13_MaskOwn.g56
    refine onDec_t (by omega) ?_
    have h5l := h5.len
    have hll := hF.len
    have hz := hw.size
    refine h5.rdRow (by omega) (by omega) fun t' ht' => ?_
    have ht'0 := ht'
    rw [Int.toNat_natCast] at ht'
    have ht : l[i]? = some (l[i]'(by omega)) := List.getElem?_eq_getElem _
    obtain ⟨t, hte⟩ : ∃ t, l[i]'(by omega) = t := ⟨_, rfl⟩
    rw [hte] at ht
    obtain rfl := (hF.row i t t' ht ht').2.1 (Nat.le_refl _)
    have htm := hlen t' (List.mem_of_getElem? ht)
    have hrow := (h5.row t' (List.mem_of_getElem? ht')).1
    have hrl := hrow.len
    refine hrow.pushL (m := 3) Go.Bi.S_W (fun _ => rfl) (ys := [7#64, 7#64, 7#64]) rfl rfl (by omega) (by simp only [maxLen]; omega) (by omega) fun a6 c6 g6 u2 h6 hg6 hg60 ho => ⟨_, _, _, rfl, ?_⟩
    refine h5.putRow (t' := (⟨a6, t'.1.n + 3, c6⟩, t'.2.1 ++ [7#64, 7#64, 7#64], g6)) (by decide) ht'0 ho h6 hg6 (by omega) (by omega) (by omega) fun x h5x hox => ?_
    rw [Int.toNat_natCast] at h5x
    refine nv_succ (by omega) ?_
    refine own2_loop hn5 hlen hB hend m (i + 1) x _ (by omega) ((hw.trans ho (fun _ _ h => h) (fun b _ h => .inl ⟨t', List.mem_of_getElem? ht, h⟩)).trans hox (fun _ _ h => h) (fun b _ h => .inr (.inl h))) h5x ⟨by rw [List.length_set]; exact hll, fun j s s' hs hs' => ?_⟩
    by_cases hji : i = j
    · subst hji
      rw [List.getElem?_set_self (by omega)] at hs'
      obtain rfl := Option.some.inj hs'
      rw [ht] at hs
      obtain rfl := Option.some.inj hs
      exact ⟨fun _ => rfl, fun h => by omega, by show g6 = _ ∨ w1.heap.size < g6; omega⟩
    · rw [List.getElem?_set_ne hji] at hs'
      obtain ⟨q1, q2, q3⟩ := hF.row j s s' hs hs'
      exact ⟨fun h => q1 (by omega), fun h => q2 (by omega), q3⟩
theorem own3_loop (hn9 : n9 ≤ 4096)
    (hend : ∀ u (l : List MkD), Mod (fun k => k + 1 = g9) w1 u → ArrK 3 enM 44 u a9 n9 c9 l g9 → thicketlaw13_MaskOwn.e90 R a1 n1 c1 (some p2) a5 n5 c5 a7 n7 c7 a9 n9 c9 a11 n11 c11 a13 n13 c13 n11 0 u) :
    ∀ (m i : Nat) (w : World) (l : List MkD), i + m = n9 → Mod (fun k => k + 1 = g9) w1 w → ArrK 3 enM 44 w a9 n9 c9 l g9 →
      thicketlaw13_MaskOwn.l73 R (m + 1) a1 n1 c1 (some p2) a5 n5 c5 a7 n7 c7 a9 n9 c9 a11 n11 c11 a13 n13 c13 n9 i w
  | 0, i, w, l, hi, hw, h9 => by
    unfold thicketlaw13_MaskOwn.l73 thicketlaw13_MaskOwn.g73
    refine onDec_f (by omega) ?_
    exact hend w l hw h9
  | m + 1, i, w, l, hi, hw, h9 => by
    unfold thicketlaw13_MaskOwn.l73 thicketlaw13_MaskOwn.g73
    refine onDec_t (by omega) ?_
    refine h9.wrMk (by omega) (by omega) (x := ⟨-1, 0, 0⟩) fun u2 h92 ho => ?_
    refine nv_succ (by omega) ?_
    exact own3_loop hn9 hend m (i + 1) u2 _ (by omega) (hw.trans ho (fun _ _ h => h) (fun b _ h => h)) h92
theorem own4_loop (hn11 : n11 ≤ 4096)
    (hend : ∀ u (l : List MkD), Mod (fun k => k + 1 = g11) w1 u → ArrK 3 enM 44 u a11 n11 c11 l g11 → thicketlaw13_MaskOwn.e107 R a1 n1 c1 (some p2) a5 n5 c5 a7 n7 c7 a9 n9 c9 a11 n11 c11 a13 n13 c13 n13 0 u) :
    ∀ (m i : Nat) (w : World) (l : List MkD), i + m = n11 → Mod (fun k => k + 1 = g11) w1 w → ArrK 3 enM 44 w a11 n11 c11 l g11 →
      thicketlaw13_MaskOwn.l90 R (m + 1) a1 n1 c1 (some p2) a5 n5 c5 a7 n7 c7 a9 n9 c9 a11 n11 c11 a13 n13 c13 n11 i w
  | 0, i, w, l, hi, hw, h11 => by
    unfold thicketlaw13_MaskOwn.l90 thicketlaw13_MaskOwn.g90
    refine onDec_f (by omega) ?_
    exact hend w l hw h11
  | m + 1, i, w, l, hi, hw, h11 => by
    unfold thicketlaw13_MaskOwn.l90 thicketlaw13_MaskOwn.g90
    refine onDec_t (by omega) ?_
    refine h11.wrMk (by omega) (by omega) (x := ⟨-2, 0, 0⟩) fun u2 h92 ho => ?_
    refine nv_succ (by omega) ?_
    exact own4_loop hn11 hend m (i + 1) u2 _ (by omega) (hw.trans ho (fun _ _ h => h) (fun b _ h => h)) h92
theorem own5_loop {W0 : World} {l9 l11 : List MkD} (hn13 : n13 ≤ 16777216) (hn9 : n9 ≤ 4096) (hn11 : n11 ≤ 4096) (hG : Good F W0 a n c nodes) (hT : At2 W0 p2 o a n c) (hW1 : W0.heap.size ≤ w1.heap.size)
    (h9 : ArrK 3 enM 44 w1 a9 n9 c9 l9 g9) (h11 : ArrK 3 enM 44 w1 a11 n11 c11 l11 g11) (hf9 : fresh W0.heap.size g9) (hf11 : fresh W0.heap.size g11) (hf13 : fresh W0.heap.size g13) (h911 : g9 = 0 ∨ g11 = 0 ∨ g9 ≠ g11) (h139 : g13 = 0 ∨ g9 = 0 ∨ g13 ≠ g9) (h131 : g13 = 0 ∨ g11 = 0 ∨ g13 ≠ g11)
    (hend : ∀ u a9' c9' a11' c11' a21 n21 c21 l21 g21, Mod (fun k => k + 1 = g13 ∨ k + 1 = g9 ∨ k + 1 = g11 ∨ w1.heap.size ≤ k) w1 u → OwnM enW 30 58 w1.heap.size u a21 n21 c21 l21 g21 → l21.map (·.2.1) = masksP nodes →
      thicketlaw13_MaskOwn.e130 R a1 n1 c1 (some p2) a5 n5 c5 a7 n7 c7 a9' (n9 + 2) c9' a11' (n11 + 2) c11' a21 n21 c21 n21 0 u) :
    ∀ (m i : Nat) (w : World) (r : List (BitVec 64)), i + m = n13 → From W0.heap.size W0 w → Mod (fun k => k + 1 = g13) w1 w → Arr enW 58 w a13 n13 c13 r g13 →
      thicketlaw13_MaskOwn.l107 R (m + 1) a1 n1 c1 (some p2) a5 n5 c5 a7 n7 c7 a9 n9 c9 a11 n11 c11 a13 n13 c13 n13 i w
  | 0, i, w, r, hi, hw0, hw, h13 => by
    unfold thicketlaw13_MaskOwn.l107 thicketlaw13_MaskOwn.g107
    refine onDec_f (by omega) ?_
    have hz := hw.size
    have h9w : ArrK 3 enM 44 w a9 n9 c9 l9 g9 := h9.mod hw fun k h1 h2 => by have h2' : k + 1 = g13 := h2; omega
    have h11w : ArrK 3 enM 44 w a11 n11 c11 l11 g11 := h11.mod hw fun k h1 h2 => by have h2' : k + 1 = g13 := h2; omega
    refine h9w.pushL (m := 2) S_M enM_len (by omega) enM_one (ys := [⟨0, 0, 0⟩, ⟨0, 0, 0⟩]) rfl rfl (by omega) (by simp only [maxLen]; omega) (by omega) fun a' c' g' u1 h91 hg' hg0 ho1 => ⟨_, _, _, rfl, ?_⟩
    have h111 := h11w.mod ho1 fun k h1 h2 => by have h2' : k + 1 = g9 := h2; omega
    refine h111.pushL (m := 2) S_M enM_len (by omega) enM_one (ys := [⟨0, 0, 0⟩, ⟨0, 0, 0⟩]) rfl rfl (by omega) (by simp only [maxLen]; omega) (by omega) fun a'' c'' g'' u2 h112 hg'' hg0' ho2 => ⟨_, _, _, rfl, ?_⟩
    have hw02 := (hw0.only ho1 hf9).only ho2 hf11
    have hT2 := hT.from hw02
    refine optN_mk ⟨_, hT2.c0, _, _, _, hT2.c1, ?_⟩
    refine E.CallsD.mono (refMasks_c (o := o) (hG.from hw02)) fun v u3 ⟨a3, n3, c3, l3, g3, hv, h3, e3, hk3⟩ => ⟨_, _, _, _, hv, ?_⟩
    have z1 := ho1.size
    have z2 := ho2.size
    refine hend u3 a' c' a'' c'' a3 n3 c3 l3 g3 ?_ (h3.weak (by omega)) e3
    have m1 : Mod (fun k => k + 1 = g13 ∨ k + 1 = g9 ∨ k + 1 = g11 ∨ w1.heap.size ≤ k) w1 u2 := ((hw.trans ho1 (fun _ _ h => .inl h) (fun b _ h => .inr (.inl h)) : Mod (fun k => k + 1 = g13 ∨ k + 1 = g9 ∨ k + 1 = g11 ∨ w1.heap.size ≤ k) w1 u1)).trans ho2 (fun _ _ h => h) (fun b _ h => .inr (.inr (.inl h)))
    exact m1.trans (Kept.mod (S := fun _ => False) hk3) (fun _ _ h => h) (fun b _ h => h.elim)
  | m + 1, i, w, r, hi, hw0, hw, h13 => by
    unfold thicketlaw13_MaskOwn.l107 thicketlaw13_MaskOwn.g107
    refine onDec_t (by omega) ?_
    refine h13.wr (by omega) (by omega) (x := 0#64) rfl fun u2 h2 ho => ?_
    refine nv_succ (by omega) ?_
    exact own5_loop hn13 hn9 hn11 hG hT hW1 h9 h11 hf9 hf11 hf13 h911 h139 h131 hend m (i + 1) u2 _ (by omega) (hw0.only ho hf13) (hw.trans ho (fun _ _ h => h) (fun b _ h => h)) h2
theorem own6_in {b130 : Option Addr → Nat → Nat → Option Addr → Option Addr → Nat → Nat → Option Addr → Nat → Nat → Option Addr → Nat → Nat → Option Addr → Nat → Nat → Option Addr → Nat → Nat → Int → Int → World → Prop} {i L : Nat} {t : RW (BitVec 64)} (h5 : OwnM enW 30 58 B w a5 n5 c5 l g5) (hi : i < n5) (hn5 : n5 ≤ 4096) (ht : l[i]? = some t) (hL : L ≤ 16777216) (hd : ∀ q, q < L → t.2.1[q]? = some (nb i))
    (hend : b130 a1 n1 c1 (some p2) a5 n5 c5 a7 n7 c7 a9 n9 c9 a11 n11 c11 a21 n21 c21 n21 ((i : Int) + 1) w) :
    ∀ (m k : Nat), k + m = L → thicketlaw13_MaskOwn.l144 R b130 (m + 1) a1 n1 c1 (some p2) a5 n5 c5 a7 n7 c7 a9 n9 c9 a11 n11 c11 a21 n21 c21 i n21 i L k w
  | 0, k, hk => by
    unfold thicketlaw13_MaskOwn.l144 thicketlaw13_MaskOwn.g144
    refine onDec_f (by omega) ?_
    exact nv_mk (y := (i : Int) + 1) (i64_id (by omega) (by omega)) hend
  | m + 1, k, hk => by
    unfold thicketlaw13_MaskOwn.l144 thicketlaw13_MaskOwn.g144
    refine onDec_t (by omega) ?_
    refine h5.rdRow (by omega) (by omega) fun t' ht' => ?_
    rw [Int.toNat_natCast, ht] at ht'
    obtain rfl := Option.some.inj ht'
    have hrow := (h5.row t (List.mem_of_getElem? ht)).1
    have hrl := hrow.len
    have hq := hd k (by omega)
    have hql := (List.getElem?_eq_some_iff.1 hq).1
    refine hrow.sl.rdW (fun _ => rfl) (by omega) (by omega) fun x hx => ?_
    rw [Int.toNat_natCast, hq] at hx
    obtain rfl := Option.some.inj hx
    refine nv_nb (by omega) (onNe_f rfl ?_)
    refine nv_succ (by omega) ?_
    exact own6_in h5 hi hn5 ht hL hd hend m (k + 1) (by omega)
theorem own6_loop {xss : List (List (BitVec 64))} (h5 : OwnM enW 30 58 B w a5 n5 c5 l g5) (hn5 : n5 ≤ 4096) (h21 : Sl2 enW w a21 n21 xss) (hxl : ∀ xs ∈ xss, xs.length ≤ 16777216) (hd : ∀ i xs, xss[i]? = some xs → i < n5 ∧ ∃ t, l[i]? = some t ∧ ∀ q, q < xs.length → t.2.1[q]? = some (nb i)) (h721 : Sl2 enW w a7 n7 xss) (hn21 : n21 ≤ 4096) (hTab : Go.Bi.Tab w) (hG : Good F w a n c nodes) (hT : At2 w p2 o a n c) (hx : Sl enF w a1 n1 xs)
    (h9 : 1 < n9) (h11 : 1 < n11) (hR : ∀ u, Kept w u → R (.bool true) u) :
    ∀ (m i : Nat), i + m = n21 → thicketlaw13_MaskOwn.l130 R (m + 1) a1 n1 c1 (some p2) a5 n5 c5 a7 n7 c7 a9 n9 c9 a11 n11 c11 a21 n21 c21 n21 i w
  | 0, i, hi => by
    unfold thicketlaw13_MaskOwn.l130 thicketlaw13_MaskOwn.g130
    refine onDec_f (by omega) ?_
    have e1 := h721.len
    have e2 := h21.len
    refine E.CallsD.mono (sets_yes (c := c7) (d := c21) h721 h21 (by omega) hxl) fun v u1 ⟨hv, k1⟩ => ⟨_, hv, ob_t ?_⟩
    have hT1 := hT.kept k1
    refine optN_mk ⟨_, hT1.c0, _, _, _, hT1.c1, ?_⟩
    refine E.CallsD.mono (maskMarks_law (o := o) (hTab.kept k1) (hG.kept k1)) fun v u2 ⟨hv, k2⟩ => ⟨_, hv, ob_t ?_⟩
    have k12 := Kept.trans k1 k2
    have hT2 := hT.kept k12
    refine optN_mk ⟨_, hT2.c0, _, _, _, hT2.c1, ?_⟩
    refine E.CallsD.mono (maskFalse_law (o := o) (c1 := c1) (hTab.kept k12) (hG.kept k12) (hx.keep k12)) fun v u3 ⟨hv, k3⟩ => ⟨_, hv, ob_t ?_⟩
    refine onDec_t (by omega) ?_
    rw [decide_eq_true (by omega)]
    exact hR u3 (Kept.trans k12 k3)
  | m + 1, i, hi => by
    unfold thicketlaw13_MaskOwn.l130 thicketlaw13_MaskOwn.g130
    refine onDec_t (by omega) ?_
    refine h21.rdS (by omega) (by omega) fun xs' a' n' c' hx' hs' => ?_
    rw [Int.toNat_natCast] at hx'
    obtain ⟨d1, t, d2, d3⟩ := hd i xs' hx'
    have hl := hs'.len
    have hxx := hxl xs' (List.mem_of_getElem? hx')
    subst hl
    refine ⟨_, own6_in h5 d1 hn5 d2 hxx d3 ?_ xs'.length 0 (by omega)⟩
    exact own6_loop h5 hn5 h21 hxl hd h721 hn21 hTab hG hT hx h9 h11 hR m (i + 1) (by omega)
theorem Mod.union {S T : Nat → Prop} {x : World} (h : Mod S w u) (k : Mod T u x) : Mod (fun b => S b ∨ T b) w x := h.trans k (fun _ _ h => .inl h) (fun _ _ h => .inr h)
theorem noM {u' : World} : ∀ {S : Nat → Prop}, Mod S u u' → Mod S u u' := fun h => h
theorem l_at {xss : List (List (BitVec 64))} (e : l.map (·.2.1) = xss) {i : Nat} {xs : List (BitVec 64)} (h : xss[i]? = some xs) : ∃ t, l[i]? = some t ∧ t.2.1 = xs := by
  rw [← e, List.getElem?_map] at h
  obtain ⟨t, h1, h2⟩ := Option.map_eq_some_iff.1 h
  exact ⟨t, h1, h2⟩
set_option maxHeartbeats 1000000 in
/-- The law MaskOwn. -/
theorem maskOwn_law (hTab : Go.Bi.Tab w) (hG : Good F w a n c nodes) (hx : Sl enF w a1 n1 xs) : Pure Go.Proofs.Tryd.prog 6 #[vT o a n c, .slice a1 n1 c1] w (.bool true) := by
  refine thicketlaw13_MaskOwn.calls (R := fun v' u => v' = _ ∧ Below w.heap.size w u) ?_
  unfold thicketlaw13_MaskOwn thicketlaw13_MaskOwn.g0
  refine box2T fun w1 _ hT hk1 => ?_
  refine E.CallsD.mono (lives_c (hTab.kept hk1)) fun v u2 ⟨hv, e2⟩ => ⟨_, hv, ob_f ?_⟩
  have k2 := Kept.trans hk1 e2
  have hT2 := hT.kept e2
  have hG2 := hG.kept k2
  have hx2 := hx.keep k2
  clear hT hk1 e2
  refine ⟨_, hT2.c0, _, _, _, hT2.c1, ?_⟩
  refine E.CallsD.mono (Masks_c (o := o) hG2) fun v u3 ⟨a3, n3, c3, l3, g3, hv, h3, e3, k23⟩ => ⟨_, _, _, _, hv, ?_⟩
  have hT3 := hT2.kept k23
  refine ⟨_, hT3.c0, _, _, _, hT3.c1, ?_⟩
  refine E.CallsD.mono (Masks_c (o := o) (hG2.kept k23)) fun v u4 ⟨a4, n4, c4, l4, g4, hv, h4, e4, k34⟩ => ⟨_, _, _, _, hv, ?_⟩
  have k24 := Kept.trans k23 k34
  have hT4 := hT2.kept k24
  refine ⟨_, hT4.c0, _, _, _, hT4.c1, ?_⟩
  refine E.CallsD.mono (Marks_c (o := o) (hG2.kept k24)) fun v u5 ⟨a5, n5, c5, hv, g5, h5, hg5, k45⟩ => ⟨_, _, _, _, hv, ?_⟩
  have k25 := Kept.trans k24 k45
  have hT5 := hT2.kept k25
  refine ⟨_, hT5.c0, _, _, _, hT5.c1, ?_⟩
  refine E.CallsD.mono (False_c (o := o) (c1 := c1) (hG2.kept k25) (hx2.keep k25)) fun v u6 ⟨a6, n6, c6, hv, g6, h6, hg6, k56⟩ => ⟨_, _, _, _, hv, ?_⟩
  have k26 := Kept.trans k25 k56
  have hT6 := hT2.kept k26
  refine ⟨_, hT6.c0, _, _, _, hT6.c1, ?_⟩
  refine E.CallsD.mono (Reach_c (o := o) (c1 := c1) (hG2.kept k26) (hx2.keep k26)) fun v u7 ⟨a7, n7, c7, hv, g7, h7, hg7, k67⟩ => ⟨_, _, _, _, hv, ?_⟩
  have k27 := Kept.trans k26 k67
  have k37 := Kept.trans (Kept.trans (Kept.trans k34 k45) k56) k67
  have k47 := Kept.trans (Kept.trans k45 k56) k67
  have k57 := Kept.trans k56 k67
  have hn := hG.len
  have hmx := hG.max
  have hml := marks_le hG.len hG.max
  have hfl := false_le (xs := xs) hG.len hG.max
  have hms : (masksP nodes).length = (marksP nodes).length := by unfold masksP; simp
  have h3l : n3 = (masksP nodes).length := by rw [← e3, List.length_map]; exact h3.len
  have h4l : n4 = (masksP nodes).length := by rw [← e4, List.length_map]; exact h4.len
  have h5l := h5.len enM_len (by omega)
  have h6l := h6.len enM_len (by omega)
  have h7l := h7.len
  have hrl := reach_len (nodes := nodes) (xs := xs)
  have z23 := k23.size
  have z34 := k34.size
  have z45 := k45.size
  have z56 := k56.size
  have z67 := k67.size
  have le5 := h5.le
  have le6 := h6.le
  have le7 := h7.le
  have le3 := h3.out.le
  have le4 := h4.out.le
  have r3 : ∀ t ∈ l3, t.2.2 = 0 ∨ (u2.heap.size < t.2.2 ∧ t.2.2 ≤ u3.heap.size) := fun t ht => by have := (h3.row t ht).1.le; have := (h3.row t ht).2; omega
  have r4 : ∀ t ∈ l4, t.2.2 = 0 ∨ (u3.heap.size < t.2.2 ∧ t.2.2 ≤ u4.heap.size) := fun t ht => by have := (h4.row t ht).1.le; have := (h4.row t ht).2; omega
  have f3 := h3.fr
  have f4 := h4.fr
  have len3 : ∀ t ∈ l3, t.2.1.length ≤ 16777216 := fun t ht => masks_len _ (by rw [← e3]; exact List.mem_map_of_mem ht)
  refine ⟨_, own1_loop (l := l3) (w1 := u7) (g5 := g3) (B := u2.heap.size) (by omega) len3 (fun u8 l8 m8 h8 hF8 => ?_) n3 0 u7 l3 (by omega) (Mod.refl _) (h3.kept k37) ⟨rfl, fun j t t' h h' => by rw [h] at h'; obtain rfl := Option.some.inj h'; exact ⟨rfl, rfl, rfl, fun h => by omega⟩⟩⟩
  have z78 := m8.size
  have at8 : ∀ t ∈ l8, ∃ s ∈ l3, t.2.1.length = s.2.1.length ∧ t.2.2 = s.2.2 := fun t ht => by
    obtain ⟨j, hj⟩ := List.getElem?_of_mem ht
    have hjl := (List.getElem?_eq_some_iff.1 hj).1
    have hs : l3[j]? = some (l3[j]'(by have := hF8.len; omega)) := List.getElem?_eq_getElem _
    obtain ⟨q1, q2, q3, _⟩ := hF8.row j _ t hs hj
    exact ⟨_, List.mem_of_getElem? hs, q1, q3⟩
  refine ⟨_, own2_loop (l := l8) (w1 := u8) (g5 := g3) (B := u2.heap.size) (by omega) (fun t ht => by obtain ⟨s, hs, q1, _⟩ := at8 t ht; rw [q1]; exact len3 s hs) (by omega) (fun u9 l9 m9 h9 hF9 => ?_) n3 0 u8 l8 (by omega) (Mod.refl _) h8 ⟨rfl, fun j t t' h h' => by rw [h] at h'; obtain rfl := Option.some.inj h'; exact ⟨fun h => by omega, fun _ => rfl, .inl rfl⟩⟩⟩
  have z89 := m9.size
  -- what phases one and two turn
  have m79 : Mod (fun k => (u2.heap.size ≤ k ∧ k < u3.heap.size) ∨ u7.heap.size ≤ k) u7 u9 := by
    refine m8.trans m9 (fun k _ ⟨t, ht, h⟩ => ?_) (fun k _ h => ?_)
    · have := r3 t ht; omega
    · rcases h with ⟨t, ht, h⟩ | h | h
      · obtain ⟨s, hs, _, q⟩ := at8 t ht
        have := r3 s hs; omega
      · omega
      · omega
  have w29 : From u2.heap.size u2 u9 := (k27.fr).then m79 (fun k _ h => by omega)
  have h59 := (h5.kept k57).mod m79 (fun k h1 h2 => by omega)
  have h69 := (h6.kept k67).mod m79 (fun k h1 h2 => by omega)
  have h79 := h7.mod m79 (fun k h1 h2 => by omega)
  have h49 := (h4.kept k47).mod m79 (fun k h1 h2 => by omega) (fun t ht k h1 h2 => by have := r4 t ht; omega)
  have r9 : ∀ t ∈ l9, t.2.2 = 0 ∨ (u2.heap.size < t.2.2 ∧ t.2.2 ≤ u3.heap.size) ∨ (u8.heap.size < t.2.2 ∧ t.2.2 ≤ u9.heap.size) := fun t ht => by
    have hle := (h9.row t ht).1.le
    obtain ⟨j, hj⟩ := List.getElem?_of_mem ht
    have hjl := (List.getElem?_eq_some_iff.1 hj).1
    have hs : l8[j]? = some (l8[j]'(by have := hF9.len; omega)) := List.getElem?_eq_getElem _
    obtain ⟨_, _, q3⟩ := hF9.row j _ t hs hj
    obtain ⟨s, hs', _, q⟩ := at8 _ (List.mem_of_getElem? hs)
    have := r3 s hs'
    omega
  refine ⟨_, own3_loop (w1 := u9) (g9 := g5) (by omega) (fun u10 m5 m10 h10 => ?_) n5 0 u9 _ (by omega) (Mod.refl _) h59⟩
  have h610 := h69.mod m10 (fun k h1 h2 => by have h2' : k + 1 = g5 := h2; omega)
  refine ⟨_, own4_loop (w1 := u10) (g11 := g6) (by omega) (fun u11 m6 m11 h11 => ?_) n6 0 u10 _ (by omega) (Mod.refl _) h610⟩
  have m911 : Mod (fun k => k + 1 = g5 ∨ k + 1 = g6) u9 u11 := m10.trans m11 (fun _ _ h => .inl h) (fun _ _ h => .inr h)
  have z911 := m911.size
  have h511 := h10.mod m11 (fun k h1 h2 => by have h2' : k + 1 = g6 := h2; omega)
  have h711 := h79.mod m911 (fun k h1 h2 => by omega)
  have w211 : From u2.heap.size u2 u11 := w29.then m911 (fun k _ h => by omega)
  refine ⟨_, own5_loop (W0 := u2) (w1 := u11) (g9 := g5) (g11 := g6) (g13 := g7) (F := F) (o := o) (by omega) (by omega) (by omega) hG2 hT2 (by omega) h511 h11 (by unfold fresh; omega) (by unfold fresh; omega) (by unfold fresh; omega) (by omega) (by omega) (by omega) (fun u12 a9' c9' a11' c11' a21 n21 c21 l21 g21 m12 h21 e21 => ?_) n7 0 u11 _ (by omega) w211 (Mod.refl _) h711⟩
  have m912 : Mod (fun k => k + 1 = g5 ∨ k + 1 = g6 ∨ k + 1 = g7 ∨ u9.heap.size ≤ k) u9 u12 := m911.trans m12 (fun k _ h => by omega) (fun k _ h => by omega)
  have w212 : From u2.heap.size u2 u12 := w29.then m912 (fun k _ h => by omega)
  have k212 := From.kept w212
  have h912 := h9.mod m912 (fun k h1 h2 => by omega) (fun t ht k h1 h2 => by have := r9 t ht; omega)
  have h412 := h49.mod m912 (fun k h1 h2 => by omega) (fun t ht k h1 h2 => by have := r4 t ht; omega)
  have s4 := h412.sl2
  rw [e4] at s4
  have s21 := h21.sl2
  rw [e21] at s21
  have l21' := s21.len
  refine ⟨_, own6_loop (l := l9) (F := F) (o := o) h912 (by omega) s21 masks_len (fun i xs' hxi => ?_) s4 (by omega) (hTab.kept (Kept.trans k2 k212)) (hG2.kept k212) (hT2.kept k212) (hx2.keep k212) (by omega) (by omega) (fun u hu => ⟨rfl, Kept.trans (Kept.trans k2 k212) hu⟩) n21 0 (by omega)⟩
  have hil := (List.getElem?_eq_some_iff.1 hxi).1
  obtain ⟨t0, ht0, hx0⟩ := l_at e3 hxi
  have h8i : l8[i]? = some (l8[i]'(by have := hF8.len; have := h3.len; omega)) := List.getElem?_eq_getElem _
  obtain ⟨t1, ht1⟩ : ∃ t1, l8[i]? = some t1 := ⟨_, h8i⟩
  have h9i : l9[i]? = some (l9[i]'(by have := hF9.len; have := hF8.len; have := h3.len; omega)) := List.getElem?_eq_getElem _
  obtain ⟨t2, ht2⟩ : ∃ t2, l9[i]? = some t2 := ⟨_, h9i⟩
  obtain ⟨q1, _, _, q4⟩ := hF8.row i t0 t1 ht0 ht1
  obtain ⟨p1, _, _⟩ := hF9.row i t1 t2 ht1 ht2
  refine ⟨by omega, t2, ht2, fun q hq => ?_⟩
  rw [p1 (by omega), List.getElem?_append_left (by rw [q1, hx0]; exact hq)]
  have hqe : t1.2.1[q]? = some (t1.2.1[q]'(by rw [q1, hx0]; exact hq)) := List.getElem?_eq_getElem _
  rw [hqe]
  congr 1
  exact q4 (by omega) _ (List.getElem_mem _)
end
end Go.Mir
