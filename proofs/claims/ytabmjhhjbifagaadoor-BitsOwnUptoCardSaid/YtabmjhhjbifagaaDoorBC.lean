/- Part of a proof of laws of the seat YtabmjhhjbifagaaDoor: functions' weakest preconditions, each checked by the kernel, contracts out of them, plain lemmas; no conditions. -/
import Derived.Test.YtabmjhhjbifagaaDoorBB
import Derived.Test.YtabmjhhjbifagaaDoorEB
import Derived.Test.YtabmjhhjbifagaaDoorBMB
import Derived.Test.YtabmjhhjbifagaaDoorBMC
import Derived.Test.YtabmjhhjbifagaaDoorBSA
import Derived.Test.YtabmjhhjbifagaaDoorBM8
set_option linter.unusedVariables false
set_option linter.unusedSimpArgs false
namespace Go.Mir
open Go Go.E Go.RowKit Go.Bt
section
variable {w : World} {a b : Option Addr} {n c m d g : Nat} {xs ys : W}
/-! ### And, Or, Xor -/
theorem andF_c (x y : BitVec 64) (w : World) : Pure Go.Proofs.Tryd.prog 57 #[.int .u64 x.toNat, .int .u64 y.toNat] w (enW (x &&& y)) := by
  refine bits_And_1.calls (R := fun v' u => v' = _ ∧ Below w.heap.size w u) ?_
  unfold bits_And_1 bits_And_1.g0
  exact nv_mk (and64 x y) ⟨rfl, Below.refl _ _⟩
theorem orF_c (x y : BitVec 64) (w : World) : Pure Go.Proofs.Tryd.prog 58 #[.int .u64 x.toNat, .int .u64 y.toNat] w (enW (x ||| y)) := by
  refine bits_Or_1.calls (R := fun v' u => v' = _ ∧ Below w.heap.size w u) ?_
  unfold bits_Or_1 bits_Or_1.g0
  exact nv_mk (or64 x y) ⟨rfl, Below.refl _ _⟩
theorem xorF_c (x y : BitVec 64) (w : World) : Pure Go.Proofs.Tryd.prog 59 #[.int .u64 x.toNat, .int .u64 y.toNat] w (enW (x ^^^ y)) := by
  refine bits_Xor_1.calls (R := fun v' u => v' = _ ∧ Below w.heap.size w u) ?_
  unfold bits_Xor_1 bits_Xor_1.g0
  exact nv_mk (xor64 x y) ⟨rfl, Below.refl _ _⟩
def zipA (f : BitVec 64 → BitVec 64 → BitVec 64) (xs ys : W) : W × Int := if xs.length = ys.length then (xs.zipWith f ys, 0) else ([], 6)
theorem zipA_len (f : BitVec 64 → BitVec 64 → BitVec 64) (xs ys : W) (h : xs.length ≤ 16777216) : (zipA f xs ys).1.length ≤ 16777216 := by
  unfold zipA; split
  · simp; omega
  · simp
def VF (v : Value) : Nat → Value → World → Prop := fun _ x _ => x = v
theorem each_and_loop {R : Value → World → Prop} {w0 w1 : World} {a b e : Option Addr} {n c d f g : Nat} {xs ys : W} (hx : Sl enW w0 a n xs) (hy : Sl enW w0 b n ys) (hm : n ≤ 16777216) (hk0 : Kept w0 w1) (hg : w0.heap.size < g)
    (hR : ∀ u, Arr enW 56 u e n f (xs.zipWith (· &&& ·) ys) g → Kept w0 u → R (.tuple #[.slice e n f, .int .i64 0]) u) :
    ∀ (k i : Nat) (w : World), i + k = n → Arr enW 56 w e n f (mix (xs.zipWith (· &&& ·) ys) (List.replicate n 0#64) i) g → Only g w1 w → bits_each_and.l16 R (k + 1) a n c b n d e n f n i w
  | 0, i, w, hi, ha, ho => by
    have := hx.len
    have := hy.len
    have hll : (List.replicate n 0#64).length = (xs.zipWith (· &&& ·) ys).length := by simp; omega
    unfold bits_each_and.l16 bits_each_and.g16
    refine onDec_f (by omega) ?_
    have hf := mix_full hll
    rw [List.length_replicate] at hf
    obtain rfl : i = n := by omega
    rw [hf] at ha
    exact hR w ha (Kept.only hk0 ho hg)
  | k + 1, i, w, hi, ha, ho => by
    have := hx.len
    have := hy.len
    have hll : (List.replicate n 0#64).length = (xs.zipWith (· &&& ·) ys).length := by simp; omega
    have hkw := Kept.only hk0 ho hg
    have hxi : xs[i]? = some (xs[i]'(by omega)) := List.getElem?_eq_getElem _
    have hyi : ys[i]? = some (ys[i]'(by omega)) := List.getElem?_eq_getElem _
    unfold bits_each_and.l16 bits_each_and.g16
    refine onDec_t (by omega) ?_
    refine ⟨VF (enW ((xs[i]'(by omega)) &&& (ys[i]'(by omega)))), fun _ _ _ _ h _ => h, ?_⟩
    refine Sl.rdW (hx.keep hkw) (fun _ => rfl) (by omega) (by omega) fun x hx2 => ?_
    refine Sl.rdW (hy.keep hkw) (fun _ => rfl) (by omega) (by omega) fun y hy2 => ?_
    rw [Int.toNat_natCast] at hx2 hy2
    rw [hxi] at hx2
    rw [hyi] at hy2
    obtain rfl := Option.some.inj hx2
    obtain rfl := Option.some.inj hy2
    refine ⟨fun u hu => E.CallsD.mono (andF_c _ _ u) fun v u2 ⟨hv, hk⟩ => ⟨_, hv, rfl, hk⟩, fun z ⟨_, _, hz⟩ => ?_⟩
    have hz : Value.int .u64 z = enW _ := hz
    refine Arr.wrD ha (by omega) (by omega) (x := (xs[i]'(by omega)) &&& (ys[i]'(by omega))) hz fun u u' hu _ hu' ho' => ?_
    refine nv_succ (by omega) ?_
    rw [Int.toNat_natCast, mix_step hll (x := _) (by rw [List.getElem?_zipWith, hxi, hyi])] at hu'
    exact each_and_loop hx hy hm hk0 hg hR k (i + 1) u' (by omega) hu' (Only.then (Only.kept ho hu) ho')
theorem And_c (hx : Sl enW w a n xs) (hy : Sl enW w b m ys) (hm : n ≤ 16777216) : E.CallsD Go.Proofs.Tryd.prog 30 #[.slice a n c, .slice b m d] w fun v u => ∃ a' n' c', v = .tuple #[.slice a' n' c', .int .i64 (zipA (· &&& ·) xs ys).2] ∧ New enW 56 w u a' n' c' (zipA (· &&& ·) xs ys).1 := by
  refine bits_And.calls ?_
  unfold bits_And bits_And.g0
  have h1 := hx.len
  have h2 := hy.len
  refine E.CallsD.mono (R := fun v u => ∃ a' n' c', v = .tuple #[.slice a' n' c', .int .i64 (zipA (· &&& ·) xs ys).2] ∧ New enW 56 w u a' n' c' (zipA (· &&& ·) xs ys).1) ?_ fun v u ⟨a', n', c', hv, hn⟩ => ⟨_, _, _, _, hv, _, _, _, rfl, hn⟩
  refine bits_each_and.calls ?_
  unfold bits_each_and bits_each_and.g0 zipA
  refine onNe (fun hne => ?_) (fun he => ?_)
  · rw [if_neg (by omega)]
    exact ⟨none, 0, 0, rfl, 0, Arr.nil _ _ _, .inr rfl, Kept.refl _⟩
  · obtain rfl : n = m := by omega
    rw [if_pos (by omega)]
    refine Arr.make (en := enW) (x := 0#64) rfl (by omega) (by omega) (by omega) fun u1 ha hk1 => ?_
    rw [Int.toNat_natCast] at ha ⊢
    exact ⟨n + 1, each_and_loop (g := w.heap.size + 1) hx hy hm hk1 (Nat.lt_succ_self _) (fun u hu hk => ⟨_, _, _, rfl, _, hu, .inl (Nat.lt_succ_self _), hk⟩) n 0 u1 (by omega) (by rwa [mix_zero]) (Mod.refl _)⟩
theorem each_or_loop {R : Value → World → Prop} {w0 w1 : World} {a b e : Option Addr} {n c d f g : Nat} {xs ys : W} (hx : Sl enW w0 a n xs) (hy : Sl enW w0 b n ys) (hm : n ≤ 16777216) (hk0 : Kept w0 w1) (hg : w0.heap.size < g)
    (hR : ∀ u, Arr enW 56 u e n f (xs.zipWith (· ||| ·) ys) g → Kept w0 u → R (.tuple #[.slice e n f, .int .i64 0]) u) :
    ∀ (k i : Nat) (w : World), i + k = n → Arr enW 56 w e n f (mix (xs.zipWith (· ||| ·) ys) (List.replicate n 0#64) i) g → Only g w1 w → bits_each_or.l16 R (k + 1) a n c b n d e n f n i w
  | 0, i, w, hi, ha, ho => by
    have := hx.len
    have := hy.len
    have hll : (List.replicate n 0#64).length = (xs.zipWith (· ||| ·) ys).length := by simp; omega
    unfold bits_each_or.l16 bits_each_or.g16
    refine onDec_f (by omega) ?_
    have hf := mix_full hll
    rw [List.length_replicate] at hf
    obtain rfl : i = n := by omega
    rw [hf] at ha
    exact hR w ha (Kept.only hk0 ho hg)
  | k + 1, i, w, hi, ha, ho => by
    have := hx.len
    have := hy.len
    have hll : (List.replicate n 0#64).length = (xs.zipWith (· ||| ·) ys).length := by simp; omega
    have hkw := Kept.only hk0 ho hg
    have hxi : xs[i]? = some (xs[i]'(by omega)) := List.getElem?_eq_getElem _
    have hyi : ys[i]? = some (ys[i]'(by omega)) := List.getElem?_eq_getElem _
    unfold bits_each_or.l16 bits_each_or.g16
    refine onDec_t (by omega) ?_
    refine ⟨VF (enW ((xs[i]'(by omega)) ||| (ys[i]'(by omega)))), fun _ _ _ _ h _ => h, ?_⟩
    refine Sl.rdW (hx.keep hkw) (fun _ => rfl) (by omega) (by omega) fun x hx2 => ?_
    refine Sl.rdW (hy.keep hkw) (fun _ => rfl) (by omega) (by omega) fun y hy2 => ?_
    rw [Int.toNat_natCast] at hx2 hy2
    rw [hxi] at hx2
    rw [hyi] at hy2
    obtain rfl := Option.some.inj hx2
    obtain rfl := Option.some.inj hy2
    refine ⟨fun u hu => E.CallsD.mono (orF_c _ _ u) fun v u2 ⟨hv, hk⟩ => ⟨_, hv, rfl, hk⟩, fun z ⟨_, _, hz⟩ => ?_⟩
    have hz : Value.int .u64 z = enW _ := hz
    refine Arr.wrD ha (by omega) (by omega) (x := (xs[i]'(by omega)) ||| (ys[i]'(by omega))) hz fun u u' hu _ hu' ho' => ?_
    refine nv_succ (by omega) ?_
    rw [Int.toNat_natCast, mix_step hll (x := _) (by rw [List.getElem?_zipWith, hxi, hyi])] at hu'
    exact each_or_loop hx hy hm hk0 hg hR k (i + 1) u' (by omega) hu' (Only.then (Only.kept ho hu) ho')
theorem Or_c (hx : Sl enW w a n xs) (hy : Sl enW w b m ys) (hm : n ≤ 16777216) : E.CallsD Go.Proofs.Tryd.prog 31 #[.slice a n c, .slice b m d] w fun v u => ∃ a' n' c', v = .tuple #[.slice a' n' c', .int .i64 (zipA (· ||| ·) xs ys).2] ∧ New enW 56 w u a' n' c' (zipA (· ||| ·) xs ys).1 := by
  refine bits_Or.calls ?_
  unfold bits_Or bits_Or.g0
  have h1 := hx.len
  have h2 := hy.len
  refine E.CallsD.mono (R := fun v u => ∃ a' n' c', v = .tuple #[.slice a' n' c', .int .i64 (zipA (· ||| ·) xs ys).2] ∧ New enW 56 w u a' n' c' (zipA (· ||| ·) xs ys).1) ?_ fun v u ⟨a', n', c', hv, hn⟩ => ⟨_, _, _, _, hv, _, _, _, rfl, hn⟩
  refine bits_each_or.calls ?_
  unfold bits_each_or bits_each_or.g0 zipA
  refine onNe (fun hne => ?_) (fun he => ?_)
  · rw [if_neg (by omega)]
    exact ⟨none, 0, 0, rfl, 0, Arr.nil _ _ _, .inr rfl, Kept.refl _⟩
  · obtain rfl : n = m := by omega
    rw [if_pos (by omega)]
    refine Arr.make (en := enW) (x := 0#64) rfl (by omega) (by omega) (by omega) fun u1 ha hk1 => ?_
    rw [Int.toNat_natCast] at ha ⊢
    exact ⟨n + 1, each_or_loop (g := w.heap.size + 1) hx hy hm hk1 (Nat.lt_succ_self _) (fun u hu hk => ⟨_, _, _, rfl, _, hu, .inl (Nat.lt_succ_self _), hk⟩) n 0 u1 (by omega) (by rwa [mix_zero]) (Mod.refl _)⟩
theorem each_xor_loop {R : Value → World → Prop} {w0 w1 : World} {a b e : Option Addr} {n c d f g : Nat} {xs ys : W} (hx : Sl enW w0 a n xs) (hy : Sl enW w0 b n ys) (hm : n ≤ 16777216) (hk0 : Kept w0 w1) (hg : w0.heap.size < g)
    (hR : ∀ u, Arr enW 56 u e n f (xs.zipWith (· ^^^ ·) ys) g → Kept w0 u → R (.tuple #[.slice e n f, .int .i64 0]) u) :
    ∀ (k i : Nat) (w : World), i + k = n → Arr enW 56 w e n f (mix (xs.zipWith (· ^^^ ·) ys) (List.replicate n 0#64) i) g → Only g w1 w → bits_each_xor.l16 R (k + 1) a n c b n d e n f n i w
  | 0, i, w, hi, ha, ho => by
    have := hx.len
    have := hy.len
    have hll : (List.replicate n 0#64).length = (xs.zipWith (· ^^^ ·) ys).length := by simp; omega
    unfold bits_each_xor.l16 bits_each_xor.g16
    refine onDec_f (by omega) ?_
    have hf := mix_full hll
    rw [List.length_replicate] at hf
    obtain rfl : i = n := by omega
    rw [hf] at ha
    exact hR w ha (Kept.only hk0 ho hg)
  | k + 1, i, w, hi, ha, ho => by
    have := hx.len
    have := hy.len
    have hll : (List.replicate n 0#64).length = (xs.zipWith (· ^^^ ·) ys).length := by simp; omega
    have hkw := Kept.only hk0 ho hg
    have hxi : xs[i]? = some (xs[i]'(by omega)) := List.getElem?_eq_getElem _
    have hyi : ys[i]? = some (ys[i]'(by omega)) := List.getElem?_eq_getElem _
    unfold bits_each_xor.l16 bits_each_xor.g16
    refine onDec_t (by omega) ?_
    refine ⟨VF (enW ((xs[i]'(by omega)) ^^^ (ys[i]'(by omega)))), fun _ _ _ _ h _ => h, ?_⟩
    refine Sl.rdW (hx.keep hkw) (fun _ => rfl) (by omega) (by omega) fun x hx2 => ?_
    refine Sl.rdW (hy.keep hkw) (fun _ => rfl) (by omega) (by omega) fun y hy2 => ?_
    rw [Int.toNat_natCast] at hx2 hy2
    rw [hxi] at hx2
    rw [hyi] at hy2
    obtain rfl := Option.some.inj hx2
    obtain rfl := Option.some.inj hy2
    refine ⟨fun u hu => E.CallsD.mono (xorF_c _ _ u) fun v u2 ⟨hv, hk⟩ => ⟨_, hv, rfl, hk⟩, fun z ⟨_, _, hz⟩ => ?_⟩
    have hz : Value.int .u64 z = enW _ := hz
    refine Arr.wrD ha (by omega) (by omega) (x := (xs[i]'(by omega)) ^^^ (ys[i]'(by omega))) hz fun u u' hu _ hu' ho' => ?_
    refine nv_succ (by omega) ?_
    rw [Int.toNat_natCast, mix_step hll (x := _) (by rw [List.getElem?_zipWith, hxi, hyi])] at hu'
    exact each_xor_loop hx hy hm hk0 hg hR k (i + 1) u' (by omega) hu' (Only.then (Only.kept ho hu) ho')
theorem Xor_c (hx : Sl enW w a n xs) (hy : Sl enW w b m ys) (hm : n ≤ 16777216) : E.CallsD Go.Proofs.Tryd.prog 32 #[.slice a n c, .slice b m d] w fun v u => ∃ a' n' c', v = .tuple #[.slice a' n' c', .int .i64 (zipA (· ^^^ ·) xs ys).2] ∧ New enW 56 w u a' n' c' (zipA (· ^^^ ·) xs ys).1 := by
  refine bits_Xor.calls ?_
  unfold bits_Xor bits_Xor.g0
  have h1 := hx.len
  have h2 := hy.len
  refine E.CallsD.mono (R := fun v u => ∃ a' n' c', v = .tuple #[.slice a' n' c', .int .i64 (zipA (· ^^^ ·) xs ys).2] ∧ New enW 56 w u a' n' c' (zipA (· ^^^ ·) xs ys).1) ?_ fun v u ⟨a', n', c', hv, hn⟩ => ⟨_, _, _, _, hv, _, _, _, rfl, hn⟩
  refine bits_each_xor.calls ?_
  unfold bits_each_xor bits_each_xor.g0 zipA
  refine onNe (fun hne => ?_) (fun he => ?_)
  · rw [if_neg (by omega)]
    exact ⟨none, 0, 0, rfl, 0, Arr.nil _ _ _, .inr rfl, Kept.refl _⟩
  · obtain rfl : n = m := by omega
    rw [if_pos (by omega)]
    refine Arr.make (en := enW) (x := 0#64) rfl (by omega) (by omega) (by omega) fun u1 ha hk1 => ?_
    rw [Int.toNat_natCast] at ha ⊢
    exact ⟨n + 1, each_xor_loop (g := w.heap.size + 1) hx hy hm hk1 (Nat.lt_succ_self _) (fun u hu hk => ⟨_, _, _, rfl, _, hu, .inl (Nat.lt_succ_self _), hk⟩) n 0 u1 (by omega) (by rwa [mix_zero]) (Mod.refl _)⟩

theorem do_and_loop {R : Value → World → Prop} {w0 : World} {a b : Option Addr} {n c d : Nat} {xs ys : W} (hx : Sl enW w0 a n xs) (hy : Sl enW w0 b n ys) (hm : n ≤ 16777216)
    (hR : ∀ e f g u, Arr enW 56 u e n f (xs.zipWith (· &&& ·) ys) g → (w0.heap.size < g ∨ g = 0) → Kept w0 u → R (.tuple #[.slice e n f, .int .i64 0]) u) :
    ∀ (k i : Nat) (e : Option Addr) (f g : Nat) (w : World), i + k = n → Arr enW 56 w e i f ((xs.zipWith (· &&& ·) ys).take i) g → (w0.heap.size < g ∨ g = 0) → Kept w0 w → thicketref05_Do.l16 R (k + 1) a n c b n d 1 e i f n i w
  | 0, i, e, f, g, w, hi, ha, hg, hk => by
    have := hx.len
    have := hy.len
    unfold thicketref05_Do.l16 thicketref05_Do.g16
    refine onDec_f (by omega) ?_
    obtain rfl : i = n := by omega
    rw [List.take_of_length_le (by simp; omega)] at ha
    exact hR e f g w ha hg hk
  | k + 1, i, e, f, g, w, hi, ha, hg, hk => by
    have := hx.len
    have := hy.len
    have hxi : xs[i]? = some (xs[i]'(by omega)) := List.getElem?_eq_getElem _
    have hyi : ys[i]? = some (ys[i]'(by omega)) := List.getElem?_eq_getElem _
    unfold thicketref05_Do.l16 thicketref05_Do.g16
    refine onDec_t (by omega) ?_
    refine onEq_t (by omega) ?_
    refine ⟨PF (enW ((xs[i]'(by omega)) &&& (ys[i]'(by omega)))), PF.keep, ?_⟩
    refine Sl.rdW (hx.keep hk) (fun _ => rfl) (by omega) (by omega) fun x hx2 => ?_
    refine Sl.rdW (hy.keep hk) (fun _ => rfl) (by omega) (by omega) fun y hy2 => ?_
    rw [Int.toNat_natCast] at hx2 hy2
    rw [hxi] at hx2
    rw [hyi] at hy2
    obtain rfl := Option.some.inj hx2
    obtain rfl := Option.some.inj hy2
    rw [and64]
    refine nv_mk rfl ?_
    refine Arr.pushD S_W ha (x := (xs[i]'(by omega)) &&& (ys[i]'(by omega))) rfl rfl (by simp only [maxLen]; omega) (by omega) fun a' c' g' u u' hu h1 h2 h3 h4 => ⟨_, _, _, rfl, ?_⟩
    refine nv_succ (by omega) ?_
    have hsz := hk.size
    refine do_and_loop hx hy hm hR k (i + 1) a' c' g' u' (by omega) ?_ (by omega) (Kept.own (Kept.trans hk hu) h4 hg)
    rw [List.take_add_one, List.getElem?_zipWith, hxi, hyi]
    exact h1
theorem Do1_c (hx : Sl enW w a n xs) (hy : Sl enW w b m ys) (hm : n ≤ 16777216) : E.CallsD Go.Proofs.Tryd.prog 33 #[.slice a n c, .slice b m d, .int .i64 1] w fun v u => ∃ a' n' c', v = .tuple #[.slice a' n' c', .int .i64 (zipA (· &&& ·) xs ys).2] ∧ New enW 56 w u a' n' c' (zipA (· &&& ·) xs ys).1 := by
  refine thicketref05_Do.calls ?_
  unfold thicketref05_Do thicketref05_Do.g0 zipA
  have h1 := hx.len
  have h2 := hy.len
  refine onNe (fun hne => ?_) (fun he => ?_)
  · rw [if_neg (by omega)]
    exact ⟨none, 0, 0, rfl, 0, Arr.nil _ _ _, .inr rfl, Kept.refl _⟩
  · obtain rfl : n = m := by omega
    rw [if_pos (by omega)]
    exact ⟨n + 1, do_and_loop hx hy hm (fun e f g u hu hg hk => ⟨_, _, _, rfl, g, hu, hg, hk⟩) n 0 none 0 0 w (by omega) (Arr.nil _ _ _) (.inr rfl) (Kept.refl _)⟩
theorem do_or_loop {R : Value → World → Prop} {w0 : World} {a b : Option Addr} {n c d : Nat} {xs ys : W} (hx : Sl enW w0 a n xs) (hy : Sl enW w0 b n ys) (hm : n ≤ 16777216)
    (hR : ∀ e f g u, Arr enW 56 u e n f (xs.zipWith (· ||| ·) ys) g → (w0.heap.size < g ∨ g = 0) → Kept w0 u → R (.tuple #[.slice e n f, .int .i64 0]) u) :
    ∀ (k i : Nat) (e : Option Addr) (f g : Nat) (w : World), i + k = n → Arr enW 56 w e i f ((xs.zipWith (· ||| ·) ys).take i) g → (w0.heap.size < g ∨ g = 0) → Kept w0 w → thicketref05_Do.l16 R (k + 1) a n c b n d 2 e i f n i w
  | 0, i, e, f, g, w, hi, ha, hg, hk => by
    have := hx.len
    have := hy.len
    unfold thicketref05_Do.l16 thicketref05_Do.g16
    refine onDec_f (by omega) ?_
    obtain rfl : i = n := by omega
    rw [List.take_of_length_le (by simp; omega)] at ha
    exact hR e f g w ha hg hk
  | k + 1, i, e, f, g, w, hi, ha, hg, hk => by
    have := hx.len
    have := hy.len
    have hxi : xs[i]? = some (xs[i]'(by omega)) := List.getElem?_eq_getElem _
    have hyi : ys[i]? = some (ys[i]'(by omega)) := List.getElem?_eq_getElem _
    unfold thicketref05_Do.l16 thicketref05_Do.g16
    refine onDec_t (by omega) ?_
    refine onEq_f (by omega) ?_
    refine onEq_t (by omega) ?_
    refine ⟨PF (enW ((xs[i]'(by omega)) ||| (ys[i]'(by omega)))), PF.keep, ?_⟩
    refine Sl.rdW (hx.keep hk) (fun _ => rfl) (by omega) (by omega) fun x hx2 => ?_
    refine Sl.rdW (hy.keep hk) (fun _ => rfl) (by omega) (by omega) fun y hy2 => ?_
    rw [Int.toNat_natCast] at hx2 hy2
    rw [hxi] at hx2
    rw [hyi] at hy2
    obtain rfl := Option.some.inj hx2
    obtain rfl := Option.some.inj hy2
    rw [or64]
    refine nv_mk rfl ?_
    refine Arr.pushD S_W ha (x := (xs[i]'(by omega)) ||| (ys[i]'(by omega))) rfl rfl (by simp only [maxLen]; omega) (by omega) fun a' c' g' u u' hu h1 h2 h3 h4 => ⟨_, _, _, rfl, ?_⟩
    refine nv_succ (by omega) ?_
    have hsz := hk.size
    refine do_or_loop hx hy hm hR k (i + 1) a' c' g' u' (by omega) ?_ (by omega) (Kept.own (Kept.trans hk hu) h4 hg)
    rw [List.take_add_one, List.getElem?_zipWith, hxi, hyi]
    exact h1
theorem Do2_c (hx : Sl enW w a n xs) (hy : Sl enW w b m ys) (hm : n ≤ 16777216) : E.CallsD Go.Proofs.Tryd.prog 33 #[.slice a n c, .slice b m d, .int .i64 2] w fun v u => ∃ a' n' c', v = .tuple #[.slice a' n' c', .int .i64 (zipA (· ||| ·) xs ys).2] ∧ New enW 56 w u a' n' c' (zipA (· ||| ·) xs ys).1 := by
  refine thicketref05_Do.calls ?_
  unfold thicketref05_Do thicketref05_Do.g0 zipA
  have h1 := hx.len
  have h2 := hy.len
  refine onNe (fun hne => ?_) (fun he => ?_)
  · rw [if_neg (by omega)]
    exact ⟨none, 0, 0, rfl, 0, Arr.nil _ _ _, .inr rfl, Kept.refl _⟩
  · obtain rfl : n = m := by omega
    rw [if_pos (by omega)]
    exact ⟨n + 1, do_or_loop hx hy hm (fun e f g u hu hg hk => ⟨_, _, _, rfl, g, hu, hg, hk⟩) n 0 none 0 0 w (by omega) (Arr.nil _ _ _) (.inr rfl) (Kept.refl _)⟩
theorem do_xor_loop {R : Value → World → Prop} {w0 : World} {a b : Option Addr} {n c d : Nat} {xs ys : W} (hx : Sl enW w0 a n xs) (hy : Sl enW w0 b n ys) (hm : n ≤ 16777216)
    (hR : ∀ e f g u, Arr enW 56 u e n f (xs.zipWith (· ^^^ ·) ys) g → (w0.heap.size < g ∨ g = 0) → Kept w0 u → R (.tuple #[.slice e n f, .int .i64 0]) u) :
    ∀ (k i : Nat) (e : Option Addr) (f g : Nat) (w : World), i + k = n → Arr enW 56 w e i f ((xs.zipWith (· ^^^ ·) ys).take i) g → (w0.heap.size < g ∨ g = 0) → Kept w0 w → thicketref05_Do.l16 R (k + 1) a n c b n d 3 e i f n i w
  | 0, i, e, f, g, w, hi, ha, hg, hk => by
    have := hx.len
    have := hy.len
    unfold thicketref05_Do.l16 thicketref05_Do.g16
    refine onDec_f (by omega) ?_
    obtain rfl : i = n := by omega
    rw [List.take_of_length_le (by simp; omega)] at ha
    exact hR e f g w ha hg hk
  | k + 1, i, e, f, g, w, hi, ha, hg, hk => by
    have := hx.len
    have := hy.len
    have hxi : xs[i]? = some (xs[i]'(by omega)) := List.getElem?_eq_getElem _
    have hyi : ys[i]? = some (ys[i]'(by omega)) := List.getElem?_eq_getElem _
    unfold thicketref05_Do.l16 thicketref05_Do.g16
    refine onDec_t (by omega) ?_
    refine onEq_f (by omega) ?_
    refine onEq_f (by omega) ?_
    refine ⟨PF (enW ((xs[i]'(by omega)) ^^^ (ys[i]'(by omega)))), PF.keep, ?_⟩
    refine Sl.rdW (hx.keep hk) (fun _ => rfl) (by omega) (by omega) fun x hx2 => ?_
    refine Sl.rdW (hy.keep hk) (fun _ => rfl) (by omega) (by omega) fun y hy2 => ?_
    rw [Int.toNat_natCast] at hx2 hy2
    rw [hxi] at hx2
    rw [hyi] at hy2
    obtain rfl := Option.some.inj hx2
    obtain rfl := Option.some.inj hy2
    rw [xor64]
    refine nv_mk rfl ?_
    refine Arr.pushD S_W ha (x := (xs[i]'(by omega)) ^^^ (ys[i]'(by omega))) rfl rfl (by simp only [maxLen]; omega) (by omega) fun a' c' g' u u' hu h1 h2 h3 h4 => ⟨_, _, _, rfl, ?_⟩
    refine nv_succ (by omega) ?_
    have hsz := hk.size
    refine do_xor_loop hx hy hm hR k (i + 1) a' c' g' u' (by omega) ?_ (by omega) (Kept.own (Kept.trans hk hu) h4 hg)
    rw [List.take_add_one, List.getElem?_zipWith, hxi, hyi]
    exact h1
theorem Do3_c (hx : Sl enW w a n xs) (hy : Sl enW w b m ys) (hm : n ≤ 16777216) : E.CallsD Go.Proofs.Tryd.prog 33 #[.slice a n c, .slice b m d, .int .i64 3] w fun v u => ∃ a' n' c', v = .tuple #[.slice a' n' c', .int .i64 (zipA (· ^^^ ·) xs ys).2] ∧ New enW 56 w u a' n' c' (zipA (· ^^^ ·) xs ys).1 := by
  refine thicketref05_Do.calls ?_
  unfold thicketref05_Do thicketref05_Do.g0 zipA
  have h1 := hx.len
  have h2 := hy.len
  refine onNe (fun hne => ?_) (fun he => ?_)
  · rw [if_neg (by omega)]
    exact ⟨none, 0, 0, rfl, 0, Arr.nil _ _ _, .inr rfl, Kept.refl _⟩
  · obtain rfl : n = m := by omega
    rw [if_pos (by omega)]
    exact ⟨n + 1, do_xor_loop hx hy hm (fun e f g u hu hg hk => ⟨_, _, _, rfl, g, hu, hg, hk⟩) n 0 none 0 0 w (by omega) (Arr.nil _ _ _) (.inr rfl) (Kept.refl _)⟩

end
end Go.Mir

namespace Go.Mir
open Go Go.E Go.RowKit Go.Bt
section
variable {w : World} {a b : Option Addr} {n c m d g : Nat} {xs ys : W} {i : Int}
/-- The law BitsWords. -/
theorem bitsWords_law (hT : Tab w) (hx : Sl enW w a n xs) (hy : Sl enW w b m ys) (hm : n ≤ 16777216) (hm2 : m ≤ 16777216) : Pure Go.Proofs.Tryd.prog 6 #[.slice a n c, .slice b m d] w (.bool true) := by
  refine thicketlaw05_BitsWords.calls (R := fun v' u => v' = _ ∧ Below w.heap.size w u) ?_
  unfold thicketlaw05_BitsWords thicketlaw05_BitsWords.g0
  have hxl := hx.len
  have hyl := hy.len
  refine E.CallsD.mono (And_c hx hy hm) fun v u1 ⟨a1, n1, c1, hv, s1⟩ => ⟨_, _, _, _, hv, ?_⟩
  have k1 := s1.kept
  refine E.CallsD.mono (Or_c (hx.keep k1) (hy.keep k1) hm) fun v u2 ⟨a2, n2, c2, hv, s2⟩ => ⟨_, _, _, _, hv, ?_⟩
  have k2 := Kept.trans k1 s2.kept
  refine E.CallsD.mono (Xor_c (hx.keep k2) (hy.keep k2) hm) fun v u3 ⟨a3, n3, c3, hv, s3⟩ => ⟨_, _, _, _, hv, ?_⟩
  have k3 := Kept.trans k2 s3.kept
  refine E.CallsD.mono (Do1_c (hx.keep k3) (hy.keep k3) hm) fun v u4 ⟨a4, n4, c4, hv, s4⟩ => ⟨_, _, _, _, hv, ?_⟩
  have k4 := Kept.trans k3 s4.kept
  refine E.CallsD.mono (Do2_c (hx.keep k4) (hy.keep k4) hm) fun v u5 ⟨a5, n5, c5, hv, s5⟩ => ⟨_, _, _, _, hv, ?_⟩
  have k5 := Kept.trans k4 s5.kept
  refine E.CallsD.mono (Do3_c (hx.keep k5) (hy.keep k5) hm) fun v u6 ⟨a6, n6, c6, hv, s6⟩ => ⟨_, _, _, _, hv, ?_⟩
  have k6 := Kept.trans k5 s6.kept
  have f1 : ∀ {b : Bool} {t f : Prop}, b = true → f → onBool (!b) t f := fun hb hf => by subst hb; exact hf
  refine E.CallsD.mono (lives_c (hT.kept k6)) fun v u7 ⟨hv, q7⟩ => ⟨_, hv, f1 rfl ?_⟩
  have k47 := Kept.trans s5.kept (Kept.trans s6.kept q7)
  have k37 := Kept.trans s4.kept k47
  have k27 := Kept.trans s3.kept k37
  refine E.CallsD.mono (Same_yes (s1.sl.keep (Kept.trans s2.kept k27)) (s4.sl.keep k47) (by rw [s1.len]; exact zipA_len _ _ _ (by omega))) fun v u8 ⟨hv, q8⟩ => ⟨_, hv, f1 rfl ?_⟩
  have k78 := Kept.trans q7 q8
  refine E.CallsD.mono (Same_yes (s2.sl.keep (Kept.trans k27 q8)) (s5.sl.keep (Kept.trans s6.kept k78)) (by rw [s2.len]; exact zipA_len _ _ _ (by omega))) fun v u9 ⟨hv, q9⟩ => ⟨_, hv, f1 rfl ?_⟩
  have k79 := Kept.trans k78 q9
  refine E.CallsD.mono (Same_yes (s3.sl.keep (Kept.trans k37 (Kept.trans q8 q9))) (s6.sl.keep k79) (by rw [s3.len]; exact zipA_len _ _ _ (by omega))) fun v u10 ⟨hv, q10⟩ => ⟨_, hv, f1 rfl ?_⟩
  have k710 := Kept.trans k79 q10
  have k10 := Kept.trans k6 k710
  have err : ∀ f h : BitVec 64 → BitVec 64 → BitVec 64, (zipA f xs ys).2 = (zipA h xs ys).2 := fun f h => by unfold zipA; split <;> rfl
  refine onNe_f (by omega) ?_
  refine onNe_f (by omega) ?_
  refine onNe_f (by omega) ?_
  refine E.CallsD.mono (copied_c (hx.keep k10) hm) fun v u11 ⟨ac, cc, hv, s11⟩ => ⟨_, _, _, hv, ?_⟩
  have k11 := Kept.trans k10 s11.kept
  refine E.CallsD.mono (copied_c (hy.keep k11) hm2) fun v u12 ⟨ad, cd, hv, s12⟩ => ⟨_, _, _, hv, ?_⟩
  have k12 := Kept.trans k11 s12.kept
  by_cases hne : n = m
  · subst hne
    obtain ⟨gc, hac, hgc, _⟩ := s11
    obtain ⟨gd, had, hgd, q12⟩ := s12
    have hle := hac.le
    refine E.CallsD.mono (Meet_c (hac.kept q12) (fun u ho => (had.mod ho fun k h4 h5 => by omega).sl) hm) fun v u13 ⟨hv, hb, ho⟩ => ⟨_, hv, ?_⟩
    have q1013 : Kept u10 u13 := by
      rcases hgc with h | h
      · exact Kept.only (Kept.trans (by assumption) q12) ho h
      · exact Kept.trans (Kept.trans (by assumption) q12) (ho.kept fun k h5 h6 => by omega)
    have k13 := Kept.trans k10 q1013
    have z0 : (zipA (fun x y => x &&& y) xs ys) = (xs.zipWith (fun x y => x &&& y) ys, 0) := by unfold zipA; rw [if_pos (by omega)]
    have e0 : (zipA (fun x y => x &&& y) xs ys).2 = 0 := by rw [z0]
    refine onNe_f (by omega) ?_
    refine onEq_t (by omega) ?_
    have s4' := s4.sl.keep (Kept.trans k47 (Kept.trans (Kept.trans q8 (Kept.trans q9 q10)) q1013))
    rw [z0] at s4'
    refine E.CallsD.mono (Same_yes hb.sl s4' hm) fun v u14 ⟨hv, q14⟩ => ⟨_, hv, ?_⟩
    rw [onBool_t]
    refine E.CallsD.mono (Same_yes ((had.mod ho fun k h4 h5 => by omega).sl.keep q14) (hy.keep (Kept.trans k13 q14)) hm) fun v u15 ⟨hv, q15⟩ => ⟨_, hv, rfl, Kept.trans k13 (Kept.trans q14 q15)⟩
  · refine E.CallsD.mono (Meet_no hne) fun v u13 ⟨hv, q13⟩ => ⟨_, hv, ?_⟩
    have k13 := Kept.trans k12 q13
    have e6 : (zipA (fun x y => x &&& y) xs ys).2 = 6 := by unfold zipA; rw [if_neg (by omega)]
    refine onNe_t (by omega) ?_
    refine onEq_t (by omega) ?_
    refine E.CallsD.mono (Same_yes (s11.sl.keep (Kept.trans s12.kept q13)) (hx.keep k13) hm) fun v u14 ⟨hv, q14⟩ => ⟨_, hv, ?_⟩
    rw [onBool_t]
    refine E.CallsD.mono (Same_yes (s12.sl.keep (Kept.trans q13 q14)) (hy.keep (Kept.trans k13 q14)) hm2) fun v u15 ⟨hv, q15⟩ => ⟨_, hv, rfl, Kept.trans k13 (Kept.trans q14 q15)⟩

/-! ### With, Less, Put -/
def inW (xs : W) (i : Int) : Bool := decide (0 ≤ i) && decide (i / 64 < xs.length)
def withA (xs : W) (i : Int) : W × Int := if inW xs i then (ofB xs.length (fun j => bit xs j || decide (j = i.toNat)), 0) else ([], 2)
def lessA (xs : W) (i : Int) : W × Int := if inW xs i then (ofB xs.length (fun j => bit xs j && !decide (j = i.toNat)), 0) else ([], 2)
theorem set_with {xs : W} {i : Nat} {x : BitVec 64} (hx : xs[i / 64]? = some x) : xs.set (i / 64) (x ||| BitVec.twoPow 64 (i % 64)) = ofB xs.length (fun j => bit xs j || decide (j = i)) := by
  apply ext (by simp)
  intro j hj
  simp at hj
  rw [put_in hx (by omega), bit_ofB, Nat.div_add_mod]
  simp [hj]
theorem set_less {xs : W} {i : Nat} {x : BitVec 64} (hx : xs[i / 64]? = some x) : xs.set (i / 64) (x &&& ~~~BitVec.twoPow 64 (i % 64)) = ofB xs.length (fun j => bit xs j && !decide (j = i)) := by
  apply ext (by simp)
  intro j hj
  simp at hj
  rw [put_out hx (by omega), bit_ofB, Nat.div_add_mod]
  simp [hj]
theorem With_c (hx : Sl enW w a n xs) (hm : n ≤ 16777216) (hi : i ≤ 9223372036854775807) : E.CallsD Go.Proofs.Tryd.prog 39 #[.slice a n c, .int .i64 i] w fun v u => ∃ a' n' c', v = .tuple #[.slice a' n' c', .int .i64 (withA xs i).2] ∧ New enW 56 w u a' n' c' (withA xs i).1 := by
  refine bits_With.calls ?_
  unfold bits_With bits_With.g0
  have hl := hx.len
  refine E.CallsD.mono (within_c hi) fun v u ⟨hv, hu⟩ => ⟨_, hv, ?_⟩
  have e : (decide (0 ≤ i) && decide (i / 64 < n)) = inW xs i := by unfold inW; rw [hl]
  rw [e]
  unfold withA
  cases hin : inW xs i with
  | false =>
    show onBool true _ _
    rw [onBool_t]
    exact ⟨none, 0, 0, rfl, 0, Arr.nil _ _ _, .inr rfl, hu⟩
  | true =>
    show onBool false _ _
    rw [onBool_f]
    unfold inW at hin
    simp only [Bool.and_eq_true, decide_eq_true_eq] at hin
    obtain ⟨h0, h1⟩ := hin
    refine Arr.pushes S_W (Arr.nil enW _ u) (fun _ => rfl) (hx.keep hu) (by simp only [maxLen]; omega) (by omega) fun a' c' g' u2 ha hg ho => ⟨_, _, _, rfl, ?_⟩
    rw [Nat.zero_add, List.nil_append] at ha
    rw [Nat.zero_add]
    obtain ⟨q, hq⟩ : ∃ q : Nat, i = q := ⟨i.toNat, by omega⟩
    subst hq
    refine putP ha (by omega) (by omega) fun u3 x hx3 hu3 ho3 => ?_
    rw [set_with hx3] at hu3
    refine ⟨_, _, _, rfl, g', by simpa using hu3, by have := hu.size; omega, ?_⟩
    have k2 : Kept u u2 := ho.kept fun k _ hk => by omega
    have hsz := hu.size
    exact Kept.own (Kept.trans hu k2) ho3 (by omega)
theorem Less_c (hx : Sl enW w a n xs) (hm : n ≤ 16777216) (hi : i ≤ 9223372036854775807) : E.CallsD Go.Proofs.Tryd.prog 41 #[.slice a n c, .int .i64 i] w fun v u => ∃ a' n' c', v = .tuple #[.slice a' n' c', .int .i64 (lessA xs i).2] ∧ New enW 56 w u a' n' c' (lessA xs i).1 := by
  refine bits_Less.calls ?_
  unfold bits_Less bits_Less.g0
  refine E.CallsD.mono (With_c hx hm hi) fun v u ⟨a', n', c', hv, g, ha, hg, hk⟩ => ⟨_, _, _, _, hv, ?_⟩
  unfold withA at ha ⊢
  unfold lessA
  cases hin : inW xs i with
  | false =>
    rw [hin] at ha
    simp only [Bool.false_eq_true, if_false] at ha ⊢
    refine onEq_f (by omega) ?_
    exact ⟨_, _, _, rfl, g, ha, hg, hk⟩
  | true =>
    rw [hin] at ha
    simp only [if_true] at ha ⊢
    refine onEq_t (by omega) ?_
    unfold inW at hin
    simp only [Bool.and_eq_true, decide_eq_true_eq] at hin
    obtain ⟨h0, h1⟩ := hin
    have hln := ha.len
    rw [ofB_length] at hln
    have hl := hx.len
    obtain ⟨q, hq⟩ : ∃ q : Nat, i = q := ⟨i.toNat, by omega⟩
    subst hq
    refine nv_div (by omega) (by omega) (by omega) ?_
    refine Sl.rdW ha.sl (fun _ => rfl) (by omega) (by omega) fun x hx2 => ?_
    refine nv_mod (by omega) ?_
    refine nchk_mk (by omega) ?_
    rw [shl1]
    refine nv_mk rfl ?_
    rw [andNot64]
    refine nv_mk rfl ?_
    refine Arr.wr ha (by omega) (by omega) (x := x &&& ~~~BitVec.twoPow 64 (((q : Int) % 64).toNat)) rfl fun u2 hu ho => ?_
    rw [show ((q : Int) / 64).toNat = q / 64 from by omega] at hx2 hu
    rw [show ((q : Int) % 64).toNat = q % 64 from by omega, set_less hx2] at hu
    refine ⟨_, _, _, rfl, g, ?_, hg, Kept.own hk ho hg⟩
    have e : ofB (ofB xs.length fun j => bit xs j || decide (j = (q : Int).toNat)).length (fun j => bit (ofB xs.length fun j => bit xs j || decide (j = (q : Int).toNat)) j && !decide (j = q)) = ofB xs.length fun j => bit xs j && !decide (j = (q : Int).toNat) := by
      rw [ofB_length]
      apply ofB_ext
      intro j hj
      rw [bit_ofB, decide_eq_true hj, Int.toNat_natCast]
      by_cases hjq : j = q
      · simp [hjq]
      · simp [hjq]
    rw [← e]
    exact hu
theorem Put_c (q : Bool) (hx : Sl enW w a n xs) (hm : n ≤ 16777216) (hi : i ≤ 9223372036854775807) : E.CallsD Go.Proofs.Tryd.prog 40 #[.slice a n c, .int .i64 i, .bool q] w fun v u => ∃ a' n' c', v = .tuple #[.slice a' n' c', .int .i64 (bif q then withA xs i else lessA xs i).2] ∧ New enW 56 w u a' n' c' (bif q then withA xs i else lessA xs i).1 := by
  refine thicketref05_Put.calls ?_
  unfold thicketref05_Put thicketref05_Put.g0
  have hl := hx.len
  have no : inW xs i = false → (∃ a' n' c', Value.tuple #[.slice none 0 0, .int .i64 2] = .tuple #[.slice a' n' c', .int .i64 (bif q then withA xs i else lessA xs i).2] ∧ New enW 56 w w a' n' c' (bif q then withA xs i else lessA xs i).1) := fun h => by
    have e : (bif q then withA xs i else lessA xs i) = ([], 2) := by unfold withA lessA; rw [h]; cases q <;> rfl
    rw [e]
    exact ⟨none, 0, 0, rfl, 0, Arr.nil _ _ _, .inr rfl, Kept.refl _⟩
  refine onDec (fun h0 => no (by unfold inW; rw [decide_eq_false (by omega)]; rfl)) fun h0 => ?_
  refine nv_div (by omega) (by omega) (by omega) ?_
  refine onDec (fun h1 => no (by unfold inW; rw [decide_eq_false (show ¬ i / 64 < xs.length by omega), Bool.and_false])) fun h1 => ?_
  have hin : inW xs i = true := by unfold inW; rw [decide_eq_true (show 0 ≤ i by omega), decide_eq_true (show i / 64 < xs.length by omega)]; rfl
  refine Arr.pushes S_W (Arr.nil enW _ w) (fun _ => rfl) hx (by simp only [maxLen]; omega) (by omega) fun a' c' g' u2 ha hg ho => ⟨_, _, _, rfl, ?_⟩
  rw [Nat.zero_add, List.nil_append] at ha
  rw [Nat.zero_add]
  have k2 : Kept w u2 := ho.kept fun k _ hk => by omega
  obtain ⟨z, hz⟩ : ∃ z : Nat, i = z := ⟨i.toNat, by omega⟩
  subst hz
  refine nv_div (by omega) (by omega) (by omega) ?_
  refine nv_div (by omega) (by omega) (by omega) ?_
  refine Sl.rdW ha.sl (fun _ => rfl) (by omega) (by omega) fun x hx2 => ?_
  refine nv_mod (by omega) ?_
  refine nv_u64 (by omega) (by omega) ?_
  refine nchk_mk (by omega) ?_
  rw [shl1]
  refine nv_mk rfl ?_
  rw [andNot64]
  refine nv_mk rfl ?_
  refine Arr.wr ha (by omega) (by omega) (x := x &&& ~~~BitVec.twoPow 64 (((z : Int) % 64).toNat)) rfl fun u3 hu3 ho3 => ?_
  rw [show ((z : Int) / 64).toNat = z / 64 from by omega] at hx2 hu3
  rw [show ((z : Int) % 64).toNat = z % 64 from by omega, set_less hx2] at hu3
  have k3 := Kept.own k2 ho3 (show w.heap.size < g' ∨ g' = 0 by omega)
  cases q with
  | false =>
    rw [onBool_f]
    have e : (bif false then withA xs z else lessA xs z) = (ofB xs.length (fun j => bit xs j && !decide (j = z)), 0) := by unfold lessA; rw [hin]; rfl
    rw [e]
    exact ⟨_, _, _, rfl, g', hu3, by omega, k3⟩
  | true =>
    rw [onBool_t]
    have e : (bif true then withA xs z else lessA xs z) = (ofB xs.length (fun j => bit xs j || decide (j = z)), 0) := by unfold withA; rw [hin]; rfl
    rw [e]
    refine putR hu3 (by omega) (by omega) fun u4 x4 hx4 hu4 ho4 => ?_
    rw [set_with hx4] at hu4
    refine ⟨_, _, _, rfl, g', ?_, by omega, Kept.own k3 ho4 (by omega)⟩
    have e : ofB (ofB xs.length fun j => bit xs j && !decide (j = z)).length (fun j => bit (ofB xs.length fun j => bit xs j && !decide (j = z)) j || decide (j = z)) = ofB xs.length fun j => bit xs j || decide (j = z) := by
      rw [ofB_length]
      apply ofB_ext
      intro j hj
      rw [bit_ofB, decide_eq_true hj]
      by_cases hjq : j = z
      · simp [hjq]
      · simp [hjq]
    rw [e] at hu4
    exact hu4
end
end Go.Mir

namespace Go.Mir
open Go Go.E Go.RowKit Go.Bt
section
variable {w : World} {a b : Option Addr} {n c m d g : Nat} {xs ys : W} {i : Int}
theorem Sl.take {α : Type} {en : α → Value} {xs : List α} (h : Sl en w a n xs) {q : Nat} (hq : q ≤ n) : Sl en w a q (xs.take q) :=
  ⟨by have := h.len; simp; omega, fun i x hi => h.get i x (by rw [List.getElem?_take] at hi; split at hi <;> simp_all)⟩
theorem slA_zero (a : Option Addr) (m sz : Nat) : slA a m 0 sz = a := by
  unfold slA
  split
  · rfl
  · cases a <;> simp [Addr.add]
theorem maskI {r : Nat} (h : r < 64) : IntKind.u64.wrap (((BitVec.twoPow 64 r).toNat : Int) - 1) = ((maskW r).toNat : Int) := by
  have hp : 0 < 2 ^ r := Nat.pow_pos (by omega)
  have hlt : 2 ^ r < 2 ^ 64 := Nat.pow_lt_pow_right (by omega) h
  have e1 : (BitVec.twoPow 64 r).toNat = 2 ^ r := by rw [BitVec.toNat_twoPow]; exact Nat.mod_eq_of_lt hlt
  unfold maskW
  rw [e1, BitVec.toNat_ofNat, Nat.mod_eq_of_lt (by omega), u64_id (by omega) (by omega)]
  omega
theorem Rank_c (hx : Sl enW w a n xs) (hm : n ≤ 16777216) (hn : n ≤ c) (hi : i ≤ 9223372036854775807) : Pure Go.Proofs.Tryd.prog 48 #[.slice a n c, .int .i64 i] w (.int .i64 (rank xs i : Nat)) := by
  refine bits_Rank.calls (R := fun v' u => v' = _ ∧ Below w.heap.size w u) ?_
  unfold bits_Rank bits_Rank.g0
  have hl := hx.len
  refine onDec (fun h0 => ⟨by rw [rank_neg h0]; rfl, Below.refl _ _⟩) fun h0 => ?_
  refine nv_div (by omega) (by omega) (by omega) ?_
  refine onDec (fun h1 => ?_) fun h1 => ?_
  · rw [rank_out (by omega)]
    exact E.CallsD.mono (Count_c hx hm) fun v u ⟨hv, hk⟩ => ⟨_, hv, rfl, hk⟩
  · obtain ⟨q, hq⟩ : ∃ q : Nat, i = q := ⟨i.toNat, by omega⟩
    subst hq
    refine nv_div (by omega) (by omega) (by omega) ?_
    refine chk_mk (by omega) ?_
    rw [slA_zero, show ((q : Int) / 64).toNat = q / 64 from by omega]
    have ht := Sl.take hx (q := q / 64) (by omega)
    have hct := count_le (xs.take (q / 64))
    have hc2 : (xs.take (q / 64)).length ≤ xs.length := by simp; omega
    refine ⟨_, fun u hu => (Count_c (c := c) (ht.keep hu) (by omega)).quiet hu, ?_⟩
    refine nv_div (by omega) (by omega) (by omega) ?_
    refine Sl.rdW hx (fun _ => rfl) (by omega) (by omega) fun x hx2 => ?_
    refine nv_mod (by omega) ?_
    refine nchk_mk (by omega) ?_
    rw [show ((q : Int) / 64).toNat = q / 64 from by omega] at hx2
    rw [shl1]
    refine nv_mk rfl ?_
    rw [show ((q : Int) % 64).toNat = q % 64 from by omega, maskI (by omega)]
    refine nv_mk rfl ?_
    rw [and64]
    refine nv_mk rfl ?_
    have hp := pop_le (x &&& maskW (q % 64))
    refine ⟨_, fun u hu => (OnesCount64_c (x &&& maskW (q % 64)) u).quiet hu, ?_⟩
    refine nv_mk (y := ((rank xs q : Nat) : Int)) (by rw [rank_at hx2, i64_id (by omega) (by omega)]; omega) ?_
    exact fun u hu => ⟨rfl, hu⟩
theorem refRank_loop {R : Value → World → Prop} {l : List Nat} (hl : Arr enN 3 w a n c l g) (hm : n ≤ 1073741824) (hR : R (.int .i64 ((l.filter fun j : Nat => decide ((j : Int) < i)).length : Nat)) w) :
    ∀ (k j acc : Nat), j + k = n → acc = ((l.take j).filter fun j : Nat => decide ((j : Int) < i)).length → thicketref05_Rank.l8 R (k + 1) i acc a n c n j w
  | 0, j, acc, hj, ha => by
    unfold thicketref05_Rank.l8 thicketref05_Rank.g8
    refine onDec_f (by omega) ?_
    rw [List.take_of_length_le (by have := hl.len; omega)] at ha
    rw [ha]
    exact hR
  | k + 1, j, acc, hj, ha => by
    have hal := List.length_filter_le (fun j : Nat => decide ((j : Int) < i)) (l.take j)
    rw [List.length_take] at hal
    unfold thicketref05_Rank.l8 thicketref05_Rank.g8
    refine onDec_t (by omega) ?_
    refine Sl.rdN hl.sl (by omega) (by omega) fun x hx => ?_
    rw [Int.toNat_natCast] at hx
    have e : (l.take (j + 1)).filter (fun j : Nat => decide ((j : Int) < i)) = (l.take j).filter (fun j : Nat => decide ((j : Int) < i)) ++ if (x : Int) < i then [x] else [] := by
      rw [List.take_add_one, hx, List.filter_append]
      simp only [Option.toList_some, List.filter_cons, List.filter_nil, decide_eq_true_eq]
    refine onDec (fun h => ?_) fun h => ?_
    · rw [if_pos h] at e
      refine nv_mk (y := ((acc + 1 : Nat) : Int)) (by rw [i64_id (by omega) (by omega)]; omega) ?_
      refine nv_succ (by omega) ?_
      exact refRank_loop hl hm hR k (j + 1) (acc + 1) (by omega) (by rw [e, List.length_append, ← ha]; rfl)
    · rw [if_neg h] at e
      refine nv_succ (by omega) ?_
      exact refRank_loop hl hm hR k (j + 1) acc (by omega) (by rw [e, List.append_nil]; exact ha)
theorem refRank_c (hx : Sl enW w a n xs) (hm : n ≤ 16777216) : Pure Go.Proofs.Tryd.prog 49 #[.slice a n c, .int .i64 i] w (.int .i64 (rank xs i : Nat)) := by
  refine thicketref05_Rank.calls (R := fun v' u => v' = _ ∧ Below w.heap.size w u) ?_
  unfold thicketref05_Rank thicketref05_Rank.g0
  have hl := hx.len
  have hc := count_le xs
  refine E.CallsD.mono (All_c hx hm) fun v u ⟨a', c', hv, g, ha, _, hk⟩ => ⟨_, _, _, hv, ?_⟩
  exact ⟨count xs + 1, refRank_loop ha (by omega) ⟨rfl, hk⟩ (count xs) 0 0 (by omega) rfl⟩
theorem refSelect_c (hx : Sl enW w a n xs) (hm : n ≤ 16777216) : Pure Go.Proofs.Tryd.prog 51 #[.slice a n c, .int .i64 i] w (.int .i64 (sel xs i)) := by
  refine thicketref05_Select.calls (R := fun v' u => v' = _ ∧ Below w.heap.size w u) ?_
  unfold thicketref05_Select thicketref05_Select.g0
  have hl := hx.len
  have hc := count_le xs
  refine E.CallsD.mono (All_c hx hm) fun v u ⟨a', c', hv, hn⟩ => ⟨_, _, _, hv, ?_⟩
  refine onDec (fun h => ⟨by unfold sel; rw [if_pos h], hn.kept⟩) fun h => onDec (fun h2 => ⟨?_, hn.kept⟩) fun h2 => ?_
  · have := sel_out (a := xs) (k := i.toNat) (by omega)
    rw [show ((i.toNat : Nat) : Int) = i from by omega] at this
    rw [this]
  · refine Sl.rdN hn.sl (by omega) (by omega) fun x hx2 => ⟨?_, hn.kept⟩
    unfold sel
    rw [if_neg h, hx2]
/-- The lowest bit goes. -/
theorem clear_one {x : BitVec 64} (h : x.toNat ≠ 0) : ∃ l, bitsOf x = Lib.ctz 64 x.toNat :: l ∧ bitsOf (x &&& BitVec.ofNat 64 (x.toNat - 1)) = l := by
  obtain ⟨c1, c2, c3⟩ := ctz_low x.isLt h
  obtain ⟨l, h1, h2⟩ := bitsOf_low (x := x) (c := Lib.ctz 64 x.toNat) c2 c3
  refine ⟨l, h1, h2 _ fun j hj => ?_⟩
  obtain ⟨k, hk, _⟩ := Lib.ctzFrom_spec 64 x.toNat (by omega) x.isLt
  have e : Lib.ctz 64 x.toNat = Lib.ctzFrom 64 x.toNat := by simp [Lib.ctz, h]
  rw [← e] at hk
  rw [BitVec.getLsbD_and, BitVec.getLsbD_ofNat]
  have := clear_low (m := k) (c := Lib.ctz 64 x.toNat) j
  rw [← hk, Nat.testBit_and] at this
  simp only [hj, decide_true, Bool.true_and]
  exact this
theorem bitsOf_ne {x : BitVec 64} {d p : Nat} (h : (bitsOf x)[d]? = some p) : x.toNat ≠ 0 := by
  intro h0
  have : bitsOf x = [] := by
    unfold bitsOf
    exact filter_none fun j hj => zero_word.1 h0 j (by simpa using hj)
  rw [this] at h
  cases h
theorem Select_in {R : Value → World → Prop} {b14 : Int → Option Addr → Nat → Nat → Int → Int → World → Prop} (hT : Tab w) {q : Nat} (hq : q ≤ 16777216) (K : Nat) (hK : K ≤ 64) (p : Nat) (hR : ∀ u, Kept w u → R (.int .i64 (64 * q + p : Nat)) u) :
    ∀ (d j : Nat) (x : BitVec 64), j + d = K → (bitsOf x)[d]? = some p → bits_Select.l39 R b14 (d + 1) q x.toNat K j w
  | 0, j, x, hj, hp => by
    have hx0 := bitsOf_ne hp
    obtain ⟨l, h1, _⟩ := clear_one hx0
    rw [h1] at hp
    have hp : Lib.ctz 64 x.toNat = p := Option.some.inj hp
    have hlt := (ctz_low x.isLt hx0).1
    unfold bits_Select.l39 bits_Select.g39
    refine onDec_f (by omega) ?_
    refine nv_i64 (by omega) (by omega) ?_
    refine E.CallsD.mono (tz64 x.toNat x.isLt hx0 hT) fun v u ⟨hv, hu⟩ => ⟨_, hv, ?_⟩
    refine nv_mk (y := ((64 * q + p : Nat) : Int)) (by rw [hp, i64_id (by omega) (by omega)]; omega) ?_
    exact hR u hu
  | d + 1, j, x, hj, hp => by
    have hx0 := bitsOf_ne hp
    obtain ⟨l, h1, h2⟩ := clear_one hx0
    have hlt := x.isLt
    unfold bits_Select.l39 bits_Select.g39
    refine onDec_t (by omega) ?_
    refine nv_mk (y := ((BitVec.ofNat 64 (x.toNat - 1)).toNat : Int)) (by rw [u64_id (by omega) (by omega), BitVec.toNat_ofNat, Nat.mod_eq_of_lt (by omega)]; omega) ?_
    rw [and64]
    refine nv_mk rfl ?_
    refine nv_succ (by omega) ?_
    refine Select_in hT hq K hK p hR d (j + 1) _ (by omega) ?_
    rw [h2]
    rw [h1] at hp
    simpa using hp
theorem Select_loop {R : Value → World → Prop} {w0 : World} {k0 : Nat} (hT : Tab w0) (hx : Sl enW w0 a n xs) (hm : n ≤ 16777216) (hR : ∀ u, Kept w0 u → R (.int .i64 (sel xs k0)) u) :
    ∀ (k q kk : Nat) (w : World), q + k = n → count (xs.take q) + kk = k0 → kk ≤ 9223372036854775807 → Kept w0 w → bits_Select.l14 R (k + 1) kk a n c n q w
  | 0, q, kk, w, hq, hk, hb, hkw => by
    have hl := hx.len
    unfold bits_Select.l14 bits_Select.g14
    refine onDec_f (by omega) ?_
    rw [List.take_of_length_le (by omega)] at hk
    have := hR w hkw
    rw [sel_out (by omega)] at this
    exact this
  | k + 1, q, kk, w, hq, hk, hb, hkw => by
    have hl := hx.len
    unfold bits_Select.l14 bits_Select.g14
    refine onDec_t (by omega) ?_
    refine Sl.rdW (hx.keep hkw) (fun _ => rfl) (by omega) (by omega) fun x hx2 => ?_
    rw [Int.toNat_natCast] at hx2
    refine E.CallsD.mono (OnesCount64_c x w) fun v u ⟨hv, hu⟩ => ⟨_, hv, ?_⟩
    have hct := count_take hx2
    have hp64 := pop_le x
    refine onDec (fun hge => ?_) fun hlt => ?_
    · refine nv_mk (y := ((kk - pop x : Nat) : Int)) (by rw [i64_id (by omega) (by omega)]; omega) ?_
      refine nv_succ (by omega) ?_
      exact Select_loop hT hx hm hR k (q + 1) (kk - pop x) u (by omega) (by omega) (by omega) (Kept.trans hkw hu)
    · have hpl : kk < (bitsOf x).length := by unfold bitsOf; unfold pop at hlt; omega
      have hp := List.getElem?_eq_getElem hpl
      have e := sel_at hx2 hp
      rw [hk] at e
      refine ⟨_, Select_in (hT.kept (Kept.trans hkw hu)) (by omega) kk (by omega) _ (fun u' hu' => ?_) kk 0 x (by omega) hp⟩
      have := hR u' (Kept.trans (Kept.trans hkw hu) hu')
      rwa [e] at this
theorem Select_c (hT : Tab w) (hx : Sl enW w a n xs) (hm : n ≤ 16777216) (hi : i ≤ 9223372036854775807) : Pure Go.Proofs.Tryd.prog 50 #[.slice a n c, .int .i64 i] w (.int .i64 (sel xs i)) := by
  refine bits_Select.calls (R := fun v' u => v' = _ ∧ Below w.heap.size w u) ?_
  unfold bits_Select bits_Select.g0
  refine onDec (fun h => ⟨by unfold sel; rw [if_pos h], Below.refl _ _⟩) fun h => ?_
  obtain ⟨q, hq⟩ : ∃ q : Nat, i = q := ⟨i.toNat, by omega⟩
  subst hq
  exact ⟨n + 1, Select_loop (k0 := q) hT hx hm (fun u hu => ⟨rfl, hu⟩) n 0 q w (by omega) (by simp [count, all]) (by omega) (Kept.refl _)⟩

/-- The law BitsAsks. -/
theorem bitsAsks_law {k : Int} (hT : Tab w) (hx : Sl enW w a n xs) (hm : n ≤ 16777216) (hn : n ≤ c) (hi : i ≤ 9223372036854775807) (hk : k ≤ 9223372036854775807) : Pure Go.Proofs.Tryd.prog 8 #[.slice a n c, .int .i64 i, .int .i64 k] w (.bool true) := by
  refine thicketlaw05_BitsAsks.calls (R := fun v' u => v' = _ ∧ Below w.heap.size w u) ?_
  unfold thicketlaw05_BitsAsks thicketlaw05_BitsAsks.g0
  have f1 : ∀ {b : Bool} {t f : Prop}, b = true → f → onBool (!b) t f := fun hb hf => by subst hb; exact hf
  have wl : (withA xs i).1.length ≤ 16777216 := by have := hx.len; unfold withA; split <;> simp; omega
  have ll : (lessA xs i).1.length ≤ 16777216 := by have := hx.len; unfold lessA; split <;> simp; omega
  refine E.CallsD.mono (With_c hx hm hi) fun v u1 ⟨a1, n1, c1, hv, s1⟩ => ⟨_, _, _, _, hv, ?_⟩
  have k1 := s1.kept
  refine E.CallsD.mono (Put_c true (hx.keep k1) hm hi) fun v u2 ⟨a2, n2, c2, hv, s2⟩ => ⟨_, _, _, _, hv, ?_⟩
  have k2 := Kept.trans k1 s2.kept
  refine E.CallsD.mono (Less_c (hx.keep k2) hm hi) fun v u3 ⟨a3, n3, c3, hv, s3⟩ => ⟨_, _, _, _, hv, ?_⟩
  have k3 := Kept.trans k2 s3.kept
  refine E.CallsD.mono (Put_c false (hx.keep k3) hm hi) fun v u4 ⟨a4, n4, c4, hv, s4⟩ => ⟨_, _, _, _, hv, ?_⟩
  have k4 := Kept.trans k3 s4.kept
  refine E.CallsD.mono (lives_c (hT.kept k4)) fun v u5 ⟨hv, q5⟩ => ⟨_, hv, f1 rfl ?_⟩
  have k5 := Kept.trans k4 q5
  have q24 := Kept.trans s3.kept (Kept.trans s4.kept q5)
  refine E.CallsD.mono (Same_yes (s1.sl.keep (Kept.trans s2.kept q24)) (s2.sl.keep q24) (by rw [s1.len]; exact wl)) fun v u6 ⟨hv, q6⟩ => ⟨_, hv, f1 rfl ?_⟩
  refine onNe_f rfl ?_
  have q46 := Kept.trans q5 q6
  refine E.CallsD.mono (Same_yes (s3.sl.keep (Kept.trans s4.kept q46)) (s4.sl.keep q46) (by rw [s3.len]; exact ll)) fun v u7 ⟨hv, q7⟩ => ⟨_, hv, f1 rfl ?_⟩
  refine onNe_f rfl ?_
  have k7 := Kept.trans k4 (Kept.trans q46 q7)
  refine E.CallsD.mono (Has_c (hx.keep k7) hi) fun v u8 ⟨hv, q8⟩ => ⟨_, hv, ?_⟩
  have k8 := Kept.trans k7 q8
  refine E.CallsD.mono (refHas_c (hx.keep k8) hi) fun v u9 ⟨hv, q9⟩ => ⟨_, hv, ?_⟩
  have k9 := Kept.trans k8 q9
  rw [show ∀ b : Bool, (b == b) = true from fun b => by simp, onBool_t]
  refine E.CallsD.mono (Lowest_c (hT.kept k9) (hx.keep k9) hm) fun v u10 ⟨hv, q10⟩ => ⟨_, hv, ?_⟩
  have k10 := Kept.trans k9 q10
  refine E.CallsD.mono (refLowest_c (hx.keep k10) hm) fun v u11 ⟨hv, q11⟩ => ⟨_, hv, ?_⟩
  have k11 := Kept.trans k10 q11
  refine onEq_t (by omega) ?_
  refine E.CallsD.mono (Highest_c (hx.keep k11) hm) fun v u12 ⟨hv, q12⟩ => ⟨_, hv, ?_⟩
  have k12 := Kept.trans k11 q12
  refine E.CallsD.mono (refHighest_c (hx.keep k12) hm) fun v u13 ⟨hv, q13⟩ => ⟨_, hv, ?_⟩
  have k13 := Kept.trans k12 q13
  refine onEq_t (by omega) ?_
  refine E.CallsD.mono (Count_c (hx.keep k13) hm) fun v u14 ⟨hv, q14⟩ => ⟨_, hv, ?_⟩
  have k14 := Kept.trans k13 q14
  refine E.CallsD.mono (All_c (hx.keep k14) hm) fun v u15 ⟨a15, c15, hv, s15⟩ => ⟨_, _, _, hv, ?_⟩
  have k15 := Kept.trans k14 s15.kept
  refine onEq_t (by omega) ?_
  refine E.CallsD.mono (Rank_c (hx.keep k15) hm hn hi) fun v u16 ⟨hv, q16⟩ => ⟨_, hv, ?_⟩
  have k16 := Kept.trans k15 q16
  refine E.CallsD.mono (refRank_c (hx.keep k16) hm) fun v u17 ⟨hv, q17⟩ => ⟨_, hv, ?_⟩
  have k17 := Kept.trans k16 q17
  refine onEq_t (by omega) ?_
  refine E.CallsD.mono (Select_c (hT.kept k17) (hx.keep k17) hm hk) fun v u18 ⟨hv, q18⟩ => ⟨_, hv, ?_⟩
  have k18 := Kept.trans k17 q18
  refine E.CallsD.mono (refSelect_c (hx.keep k18) hm) fun v u19 ⟨hv, q19⟩ => ⟨_, hv, by simp, Kept.trans k18 q19⟩
end
end Go.Mir

namespace Go.Mir
open Go Go.E Go.RowKit Go.Bt
section
variable {w : World} {a b : Option Addr} {n c m d g : Nat} {xs ys : W} {i : Int}
theorem off1 {b : Bool} {t f : Prop} (hb : b = true) (hf : f) : onBool (!b) t f := by subst hb; exact hf
theorem laws_runs {R : Value → World → Prop} {w0 : World} {l : Rs} {e : Option Addr} {p f : Nat} (hT : Tab w0) (hx : Sl enW w0 a n xs) (hm : n ≤ 16777216) (hn : n ≤ c) (hl : SlK 2 enR w0 e p l) (hp : p ≤ 1073741824) (hlb : ∀ r ∈ l, 0 ≤ r.1 ∧ r.2 ≤ 1073741824)
    (hR : ∀ u, Kept w0 u → R (.bool true) u) :
    ∀ (k j : Nat) (last tot : Int) (w : World), j + k = p → 0 ≤ tot → -1 ≤ last → chainR xs last (l.drop j) → tot + sumR (l.drop j) = count xs → Kept w0 w → thicketlaw05_BitsLaws.l75 R (k + 1) a n c (count xs : Nat) tot last e p f p j w
  | 0, j, last, tot, w, hj, h0, h1, hc, ht, hk => by
    have hll := hl.len
    have hxl := hx.len
    have hcl := count_le xs
    unfold thicketlaw05_BitsLaws.l75 thicketlaw05_BitsLaws.g75
    refine onDec_f (by omega) ?_
    refine E.CallsD.mono (Count_c (hx.keep hk) hm) fun v u ⟨hv, hu⟩ => ⟨_, hv, ?_⟩
    rw [List.drop_of_length_le (by omega)] at ht
    simp only [sumR] at ht
    refine onEq_t (by omega) ?_
    refine onEq_t (by omega) ?_
    have k2 := Kept.trans hk hu
    refine E.CallsD.mono (Select_c (i := (count xs : Nat)) (hT.kept k2) (hx.keep k2) hm (by omega)) fun v u2 ⟨hv, hu2⟩ => ⟨_, hv, ?_⟩
    rw [sel_out (Nat.le_refl _)]
    exact hR u2 (Kept.trans k2 hu2)
  | k + 1, j, last, tot, w, hj, h0, h1, hc, ht, hk => by
    have hll := hl.len
    have hxl := hx.len
    unfold thicketlaw05_BitsLaws.l75 thicketlaw05_BitsLaws.g75
    refine onDec_t (by omega) ?_
    refine SlK.rd2 (hl.keep hk) (by omega) (by omega) fun r hr => ?_
    rw [Int.toNat_natCast] at hr
    obtain ⟨hlt, hre⟩ := List.getElem?_eq_some_iff.1 hr
    rw [List.drop_eq_getElem_cons hlt, hre] at hc ht
    obtain ⟨⟨q1, q2, q3⟩, hc⟩ := hc
    simp only [sumR] at ht
    have hb := hlb r (List.mem_of_getElem? hr)
    refine box2 fun u hB hu => ⟨_, hB.rd rfl, ?_⟩
    have k1 := Kept.trans hk hu
    refine onDec_f (by omega) ?_
    refine ⟨_, hB.rd rfl, _, hB.rd rfl, ?_⟩
    refine onDec_f (by omega) ?_
    refine ⟨_, hB.rd rfl, ?_⟩
    have hcl := count_le xs
    have hrk : ∀ z : Int, (rank xs z : Int) ≤ 1073741824 := fun z => by
      have : rank xs z ≤ count xs := by unfold rank count; exact List.length_filter_le _ _
      omega
    have h5 := hrk r.1
    have h6 := hrk r.2
    refine ⟨_, fun u' hu' => (Rank_c (i := r.2) (hx.keep (Kept.trans k1 hu')) hm hn (by omega)).quiet hu', ?_⟩
    refine ⟨_, hB.rd rfl, ?_⟩
    refine ⟨_, fun u' hu' => (Rank_c (i := r.1) (hx.keep (Kept.trans k1 hu')) hm hn (by omega)).quiet hu', ?_⟩
    refine nv_i64 (by omega) (by omega) ?_
    refine ⟨_, hB.rd rfl, _, hB.rd rfl, ?_⟩
    refine nv_i64 (by omega) (by omega) ?_
    intro u2 hu2
    refine onNe_f (by omega) ?_
    have hB2 := hB.keep hu2
    have rd : ∀ {i : Nat} {v : Value}, (#[.int .i64 r.1, .int .i64 r.2] : Array Value)[i]? = some v → u2.cell? ((na w).add i) = some v := fun h => by rw [na_add, hB2.cell]; exact h
    refine ⟨_, rd (i := 1) rfl, _, rd (i := 1) rfl, _, rd (i := 0) rfl, ?_⟩
    have hsum : 0 ≤ sumR (l.drop (j + 1)) := sumR_pos _ _ hc
    refine nv_i64 (by omega) (by omega) ?_
    refine nv_i64 (by omega) (by omega) ?_
    refine nv_succ (by omega) ?_
    exact laws_runs hT hx hm hn hl hp hlb hR k (j + 1) r.2 (tot + (r.2 - r.1)) u2 (by omega) (by omega) (by omega) hc (by omega) (Kept.trans k1 hu2)
where sumR_pos : ∀ (l : Rs) (last : Int), chainR xs last l → 0 ≤ sumR l
  | [], _, _ => by simp [sumR]
  | r :: l, last, h => by
    have := sumR_pos l r.2 h.2
    have := h.1.2.1
    simp only [sumR]
    omega
theorem runs_bounds {xs : W} (h : xs.length ≤ 16777216) : ∀ r ∈ runsOf xs, 0 ≤ r.1 ∧ r.2 ≤ 1073741824 := fun r hr => by
  have := runsTo_wf (64 * xs.length) r hr
  omega
theorem laws_sel {R : Value → World → Prop} {w0 : World} (hT : Tab w0) (hx : Sl enW w0 a n xs) (hm : n ≤ 16777216) (hn : n ≤ c) (hR : ∀ u, Kept w0 u → R (.bool true) u) :
    ∀ (k q : Nat) (w : World), q + k = count xs → Kept w0 w → thicketlaw05_BitsLaws.l46 R (k + 1) a n c q q w
  | 0, q, w, hq, hk => by
    have hxl := hx.len
    have hcl := count_le xs
    unfold thicketlaw05_BitsLaws.l46 thicketlaw05_BitsLaws.g46
    refine E.CallsD.mono (Count_c (hx.keep hk) hm) fun v u ⟨hv, hu⟩ => ⟨_, hv, ?_⟩
    refine onDec_f (by omega) ?_
    have k1 := Kept.trans hk hu
    refine E.CallsD.mono (Runs_c (hx.keep k1) hm) fun v u2 ⟨a2, n2, c2, hv, g2, h2, _, k2⟩ => ⟨_, _, _, hv, ?_⟩
    have k12 := Kept.trans k1 k2
    obtain ⟨ch, sm⟩ := runs_chain xs (64 * xs.length)
    rw [← runsOf_to] at ch sm
    rw [rk_all] at sm
    have hrl := runs_len xs (64 * xs.length)
    have h2l := h2.len2
    rw [runsOf_to] at h2l
    obtain rfl : q = count xs := by omega
    exact ⟨n2 + 1, laws_runs (hT.kept k12) (hx.keep k12) hm hn h2.slk2 (by omega) (runs_bounds (by omega)) (fun u3 k3 => hR u3 (Kept.trans k12 k3)) n2 0 (-1) 0 u2 (by omega) (by omega) (by omega) ch (by rw [List.drop_zero]; omega) (Kept.refl _)⟩
  | k + 1, q, w, hq, hk => by
    have hxl := hx.len
    have hcl := count_le xs
    obtain ⟨p, hp, hs⟩ := sel_get (a := xs) (k := q) (by omega)
    have hpb := all_lt (List.mem_of_getElem? hp)
    have hbit : bit xs p = true := mem_all.1 (List.mem_of_getElem? hp)
    unfold thicketlaw05_BitsLaws.l46 thicketlaw05_BitsLaws.g46
    refine E.CallsD.mono (Count_c (hx.keep hk) hm) fun v u ⟨hv, hu⟩ => ⟨_, hv, ?_⟩
    refine onDec_t (by omega) ?_
    have k1 := Kept.trans hk hu
    refine E.CallsD.mono (Select_c (i := q) (hT.kept k1) (hx.keep k1) hm (by omega)) fun v u2 ⟨hv, hu2⟩ => ⟨_, hv, ?_⟩
    have k2 := Kept.trans k1 hu2
    rw [hs]
    refine E.CallsD.mono (Has_c (i := p) (hx.keep k2) (by omega)) fun v u3 ⟨hv, hu3⟩ => ⟨_, hv, off1 (by unfold has; simp [hbit]) ?_⟩
    have k3 := Kept.trans k2 hu3
    refine E.CallsD.mono (Rank_c (i := p) (hx.keep k3) hm hn (by omega)) fun v u4 ⟨hv, hu4⟩ => ⟨_, hv, ?_⟩
    have k4 := Kept.trans k3 hu4
    rw [rank_sel hp]
    refine onNe_f (by omega) ?_
    have tail : ∀ u, Kept w0 u → E.CallsD Go.Proofs.Tryd.prog 25 #[.slice a n c] u fun yv202 u203 => ∃ yx_204 : Int, yv202 = .int .i64 yx_204 ∧ (nv (IntKind.i64.wrap (yx_204 - 1)) fun t205 => onBool ((q : Int) == t205)
        (E.CallsD Go.Proofs.Tryd.prog 45 #[.slice a n c] u203 fun yv206 u207 => ∃ yx_208 : Int, yv206 = .int .i64 yx_208 ∧ (onBool ((p : Int) != yx_208) (R (.bool false) u207) (nv (IntKind.i64.wrap ((q : Int) + 1)) fun t209 => nv (IntKind.i64.wrap ((q : Int) + 1)) fun t210 => thicketlaw05_BitsLaws.l46 R (k + 1) a n c t209 t210 u207)))
        (nv (IntKind.i64.wrap ((q : Int) + 1)) fun t211 => nv (IntKind.i64.wrap ((q : Int) + 1)) fun t212 => thicketlaw05_BitsLaws.l46 R (k + 1) a n c t211 t212 u203)) := by
      intro u hu
      refine E.CallsD.mono (Count_c (hx.keep hu) hm) fun v u5 ⟨hv, hu5⟩ => ⟨_, hv, ?_⟩
      have k5 := Kept.trans hu hu5
      refine nv_i64 (by omega) (by omega) ?_
      refine onEq (fun he => ?_) fun he => ?_
      · refine E.CallsD.mono (Highest_c (hx.keep k5) hm) fun v u6 ⟨hv, hu6⟩ => ⟨_, hv, ?_⟩
        rw [high_sel (a := xs) (p := p) (by rw [show count xs - 1 = q from by omega]; exact hp)]
        refine onNe_f (by omega) ?_
        refine nv_succ (by omega) ?_
        refine nv_succ (by omega) ?_
        exact laws_sel hT hx hm hn hR k (q + 1) u6 (by omega) (Kept.trans k5 hu6)
      · refine nv_succ (by omega) ?_
        refine nv_succ (by omega) ?_
        exact laws_sel hT hx hm hn hR k (q + 1) u5 (by omega) k5
    refine onEq (fun he => ?_) fun he => tail u4 k4
    obtain rfl : q = 0 := by omega
    refine E.CallsD.mono (Lowest_c (hT.kept k4) (hx.keep k4) hm) fun v u5 ⟨hv, hu5⟩ => ⟨_, hv, ?_⟩
    rw [low_sel hp]
    refine onNe_f (by omega) ?_
    exact tail u5 (Kept.trans k4 hu5)
theorem has_zip {f : BitVec 64 → BitVec 64 → BitVec 64} {h : Bool → Bool → Bool} (hf : ∀ x y j, j < 64 → (f x y).getLsbD j = h (x.getLsbD j) (y.getLsbD j)) (h0 : h false false = false) (hl : xs.length = ys.length) (i : Int) : has (xs.zipWith f ys) i = h (has xs i) (has ys i) := by
  unfold has
  by_cases hi : 0 ≤ i
  · rw [decide_eq_true hi, bit_zipA hf h0 hl]
    simp
  · rw [decide_eq_false hi]
    simp [h0]
/-- The law BitsLaws. -/
theorem bitsLaws_law (hT : Tab w) (hx : Sl enW w a n xs) (hy : Sl enW w b m ys) (hm : n ≤ 16777216) (hm2 : m ≤ 16777216) (hn : n ≤ c) (hi : i ≤ 9223372036854775807) : Pure Go.Proofs.Tryd.prog 11 #[.slice a n c, .slice b m d, .int .i64 i] w (.bool true) := by
  refine thicketlaw05_BitsLaws.calls (R := fun v' u => v' = _ ∧ Below w.heap.size w u) ?_
  unfold thicketlaw05_BitsLaws thicketlaw05_BitsLaws.g0
  have hxl := hx.len
  have hyl := hy.len
  refine E.CallsD.mono (lives_c hT) fun v u0 ⟨hv, k0⟩ => ⟨_, hv, off1 rfl ?_⟩
  refine E.CallsD.mono (And_c (hx.keep k0) (hy.keep k0) hm) fun v u1 ⟨a1, n1, c1, hv, s1⟩ => ⟨_, _, _, _, hv, ?_⟩
  have k1 := Kept.trans k0 s1.kept
  refine E.CallsD.mono (Or_c (hx.keep k1) (hy.keep k1) hm) fun v u2 ⟨a2, n2, c2, hv, s2⟩ => ⟨_, _, _, _, hv, ?_⟩
  have k2 := Kept.trans k1 s2.kept
  refine E.CallsD.mono (Xor_c (hx.keep k2) (hy.keep k2) hm) fun v u3 ⟨a3, n3, c3, hv, s3⟩ => ⟨_, _, _, _, hv, ?_⟩
  have k3 := Kept.trans k2 s3.kept
  by_cases hne : n = m
  · subst hne
    have hl : xs.length = ys.length := by omega
    have z : ∀ f, zipA f xs ys = (xs.zipWith f ys, 0) := fun f => by unfold zipA; rw [if_pos hl]
    rw [z] at s1 s2 s3 ⊢
    rw [z, z]
    simp only at s1 s2 s3 ⊢
    refine onNe_f (by omega) ?_
    refine onNe_f (by omega) ?_
    refine onNe_f (by omega) ?_
    have t1 := s1.sl.keep (Kept.trans s2.kept s3.kept)
    have t2 := s2.sl.keep s3.kept
    have t3 := s3.sl
    have l1 : n1 ≤ 16777216 := by rw [t1.len]; simp; omega
    have l2 : n2 ≤ 16777216 := by rw [t2.len]; simp; omega
    have l3 : n3 ≤ 16777216 := by rw [t3.len]; simp; omega
    obtain ⟨e1, e2⟩ := count_laws hl
    have b1 := count_le xs
    have b2 := count_le ys
    refine E.CallsD.mono (Count_c t1 l1) fun v u4 ⟨hv, q4⟩ => ⟨_, hv, ?_⟩
    refine E.CallsD.mono (Count_c (t2.keep q4) l2) fun v u5 ⟨hv, q5⟩ => ⟨_, hv, ?_⟩
    have k35 := Kept.trans q4 q5
    refine nv_i64 (by omega) (by omega) ?_
    refine E.CallsD.mono (Count_c (hx.keep (Kept.trans k3 k35)) hm) fun v u6 ⟨hv, q6⟩ => ⟨_, hv, ?_⟩
    have k36 := Kept.trans k35 q6
    refine E.CallsD.mono (Count_c (hy.keep (Kept.trans k3 k36)) hm) fun v u7 ⟨hv, q7⟩ => ⟨_, hv, ?_⟩
    have k37 := Kept.trans k36 q7
    refine nv_i64 (by omega) (by omega) ?_
    refine onNe_f (by omega) ?_
    refine E.CallsD.mono (Count_c (t3.keep k37) l3) fun v u8 ⟨hv, q8⟩ => ⟨_, hv, ?_⟩
    have k38 := Kept.trans k37 q8
    refine E.CallsD.mono (Count_c (t2.keep k38) l2) fun v u9 ⟨hv, q9⟩ => ⟨_, hv, ?_⟩
    have k39 := Kept.trans k38 q9
    refine E.CallsD.mono (Count_c (t1.keep k39) l1) fun v u10 ⟨hv, q10⟩ => ⟨_, hv, ?_⟩
    have k310 := Kept.trans k39 q10
    refine nv_i64 (by omega) (by omega) ?_
    refine onNe_f (by omega) ?_
    have hA : ∀ u, Kept u3 u → Pure Go.Proofs.Tryd.prog 24 #[.slice a n c, .int .i64 i] u (.bool (has xs i)) := fun u hu => Has_c (hx.keep (Kept.trans k3 hu)) hi
    have hB : ∀ u, Kept u3 u → Pure Go.Proofs.Tryd.prog 24 #[.slice b n d, .int .i64 i] u (.bool (has ys i)) := fun u hu => Has_c (hy.keep (Kept.trans k3 hu)) hi
    have hX : ∀ u, Kept u3 u → Pure Go.Proofs.Tryd.prog 24 #[.slice a1 n1 c1, .int .i64 i] u (.bool (has xs i && has ys i)) := fun u hu => by
      have := Has_c (c := c1) (i := i) (t1.keep hu) hi
      rwa [has_zip (h := fun a b => a && b) (fun x y j _ => by simp [BitVec.getLsbD_and]) rfl hl] at this
    have hY : ∀ u, Kept u3 u → Pure Go.Proofs.Tryd.prog 24 #[.slice a2 n2 c2, .int .i64 i] u (.bool (has xs i || has ys i)) := fun u hu => by
      have := Has_c (c := c2) (i := i) (t2.keep hu) hi
      rwa [has_zip (h := fun a b => a || b) (fun x y j _ => by simp [BitVec.getLsbD_or]) rfl hl] at this
    have hZ : ∀ u, Kept u3 u → Pure Go.Proofs.Tryd.prog 24 #[.slice a3 n3 c3, .int .i64 i] u (.bool (has xs i ^^ has ys i)) := fun u hu => by
      have := Has_c (c := c3) (i := i) (t3.keep hu) hi
      rwa [has_zip (h := fun a b => a ^^ b) (fun x y j _ => by simp [BitVec.getLsbD_xor]) rfl hl] at this
    have fin : ∀ u, Kept u3 u → thicketlaw05_BitsLaws.e46 (fun v' u => v' = Value.bool true ∧ Below w.heap.size w u) a n c 0 0 u := fun u hu =>
      ⟨count xs + 1, laws_sel (hT.kept (Kept.trans k3 hu)) (hx.keep (Kept.trans k3 hu)) hm hn (fun u' hu' => ⟨rfl, Kept.trans (Kept.trans k3 hu) hu'⟩) (count xs) 0 u (by omega) (Kept.refl _)⟩
    generalize has xs i = p at hA hX hY hZ
    generalize has ys i = q at hB hX hY hZ
    refine E.CallsD.mono (hX _ k310) fun v u11 ⟨hv, q11⟩ => ⟨_, hv, ?_⟩
    have k11 := Kept.trans k310 q11
    refine E.CallsD.mono (hA _ k11) fun v u12 ⟨hv, q12⟩ => ⟨_, hv, ?_⟩
    have k12 := Kept.trans k11 q12
    -- the rest behind the first question
    have zs : ∀ u, Kept u3 u → E.CallsD Go.Proofs.Tryd.prog 24 #[.slice a3 n3 c3, .int .i64 i] u fun yv u' => ∃ y1 : Bool, yv = .bool y1 ∧ (E.CallsD Go.Proofs.Tryd.prog 24 #[.slice a n c, .int .i64 i] u' fun yv u' => ∃ y2 : Bool, yv = .bool y2 ∧ (E.CallsD Go.Proofs.Tryd.prog 24 #[.slice b n d, .int .i64 i] u' fun yv u' => ∃ y3 : Bool, yv = .bool y3 ∧
        (onBool (!(y1 == (!(y2 == y3)))) ((fun v' u => v' = Value.bool true ∧ Below w.heap.size w u) (.bool false) u') (thicketlaw05_BitsLaws.e46 (fun v' u => v' = Value.bool true ∧ Below w.heap.size w u) a n c 0 0 u')))) := by
      intro u hu
      refine E.CallsD.mono (hZ u hu) fun v v1 ⟨hv, r1⟩ => ⟨_, hv, ?_⟩
      have j1 := Kept.trans hu r1
      refine E.CallsD.mono (hA v1 j1) fun v v2 ⟨hv, r2⟩ => ⟨_, hv, ?_⟩
      have j2 := Kept.trans j1 r2
      refine E.CallsD.mono (hB v2 j2) fun v v3 ⟨hv, r3⟩ => ⟨_, hv, off1 (by cases p <;> cases q <;> rfl) (fin v3 (Kept.trans j2 r3))⟩
    cases p with
    | true =>
      rw [onBool_t]
      refine E.CallsD.mono (hB _ k12) fun v u13 ⟨hv, q13⟩ => ⟨_, hv, off1 (by cases q <;> rfl) ?_⟩
      have k13 := Kept.trans k12 q13
      refine E.CallsD.mono (hY _ k13) fun v u14 ⟨hv, q14⟩ => ⟨_, hv, ?_⟩
      have k14 := Kept.trans k13 q14
      refine E.CallsD.mono (hA _ k14) fun v u15 ⟨hv, q15⟩ => ⟨_, hv, ?_⟩
      rw [onBool_t]
      exact off1 (by cases q <;> rfl) (zs u15 (Kept.trans k14 q15))
    | false =>
      rw [onBool_f]
      refine off1 (by cases q <;> rfl) ?_
      refine E.CallsD.mono (hY _ k12) fun v u14 ⟨hv, q14⟩ => ⟨_, hv, ?_⟩
      have k14 := Kept.trans k12 q14
      refine E.CallsD.mono (hA _ k14) fun v u15 ⟨hv, q15⟩ => ⟨_, hv, ?_⟩
      have k15 := Kept.trans k14 q15
      rw [onBool_f]
      refine E.CallsD.mono (hB _ k15) fun v u16 ⟨hv, q16⟩ => ⟨_, hv, off1 (by cases q <;> rfl) (zs u16 (Kept.trans k15 q16))⟩
  · have z : ∀ f, zipA f xs ys = ([], 6) := fun f => by unfold zipA; rw [if_neg (by omega)]
    rw [z, z, z]
    simp only
    refine onNe_t (by omega) ?_
    refine ⟨?_, k3⟩
    have : ((n : Int) != (m : Int)) = true := by simp; omega
    rw [this]
end
end Go.Mir

namespace Go.Mir
open Go Go.E Go.RowKit Go.Bt
section
/-- Four slices of one's own, in an array. -/
structure Quad (w : World) (B : Nat) (A : Nat → Option Addr) (N C G : Nat → Nat) (X : Nat → W) : Prop where
  blk : Blk w B #[.slice (A 0) (N 0) (C 0), .slice (A 1) (N 1) (C 1), .slice (A 2) (N 2) (C 2), .slice (A 3) (N 3) (C 3)] 55
  arr : ∀ k, k < 4 → Arr enW 56 w (A k) (N k) (C k) (X k) (G k)
  off : ∀ k, k < 4 → B + 1 ≠ G k
  dis : ∀ j k, j < 4 → k < 4 → j ≠ k → G j ≠ G k ∨ G k = 0
def upd {α : Type} (f : Nat → α) (k : Nat) (v : α) : Nat → α := fun i => if i = k then v else f i
theorem upd_same {α : Type} (f : Nat → α) (k : Nat) (v : α) : upd f k v k = v := if_pos rfl
theorem upd_ne {α : Type} (f : Nat → α) {k i : Nat} (v : α) (h : i ≠ k) : upd f k v i = f i := if_neg h
variable {w u : World} {B : Nat} {A : Nat → Option Addr} {N C G : Nat → Nat} {X : Nat → W}
theorem Quad.cell (h : Quad w B A N C G X) {k : Nat} (hk : k < 4) : w.cell? ⟨B, k, none⟩ = some (.slice (A k) (N k) (C k)) := by
  rw [h.blk.cell]
  match k, hk with
  | 0, _ => rfl
  | 1, _ => rfl
  | 2, _ => rfl
  | 3, _ => rfl
theorem Quad.rd (h : Quad w B A N C G X) {i : Int} {K : Option Addr → Nat → Nat → Prop} (h0 : 0 ≤ i) (h4 : i < 4) (hk : K (A i.toNat) (N i.toNat) (C i.toNat)) :
    chk ((0 : Int) ≤ i ∧ i < (4 : Int)) (∃ ya : Option Addr, ∃ yn : Nat, ∃ yc : Nat, w.cell? ((⟨B, 0, none⟩ : Addr).add (i.toNat * 1)) = some (.slice ya yn yc) ∧ K ya yn yc) := by
  refine chk_mk ⟨h0, h4⟩ ⟨_, _, _, ?_, hk⟩
  rw [addr_add, Nat.zero_add, Nat.mul_one]
  exact h.cell (by omega)
theorem Quad.kept (h : Quad w B A N C G X) (hk : Kept w u) : Quad u B A N C G X := ⟨h.blk.keep hk, fun k h4 => (h.arr k h4).kept hk, h.off, h.dis⟩
/-- One of the four is written. -/
theorem Quad.wr (h : Quad w B A N C G X) {k : Nat} (hk : k < 4) {ys : W} (ha : Arr enW 56 u (A k) (N k) (C k) ys (G k)) (ho : Only (G k) w u) : Quad u B A N C G (upd X k ys) := by
  refine ⟨h.blk.mod ho (h.off k hk), fun j hj => ?_, h.off, h.dis⟩
  by_cases hjk : j = k
  · subst hjk; rw [upd_same]; exact ha
  · rw [upd_ne _ _ hjk]
    exact (h.arr j hj).mod ho fun z h1 h2 => by rcases h.dis j k hj hk hjk with h3 | h3 <;> omega
/-- One of the four grows. -/
theorem Quad.grow (h : Quad w B A N C G X) {k : Nat} (hk : k < 4) {w1 : World} {a' : Option Addr} {n' c' g' : Nat} {ys : W} (ha : Arr enW 56 w1 a' n' c' ys g') (ho : Only (G k) w w1) (hg : g' = G k ∨ w.heap.size < g') (hu : u = w1.setCell ⟨B, k, none⟩ (.slice a' n' c')) :
    Quad u B (upd A k a') (upd N k n') (upd C k c') (upd G k g') (upd X k ys) ∧ Only (B + 1) w1 u := by
  subst hu
  have hoB : Only (B + 1) w1 (w1.setCell ⟨B, k, none⟩ (.slice a' n' c')) := Only.set w1 B k _
  have hBlt := h.blk.lt
  have hb1 := h.blk.mod ho (h.off k hk)
  refine ⟨⟨?_, fun j hj => ?_, fun j hj => ?_, fun i j hi hj hij => ?_⟩, hoB⟩
  · have := hb1.set k (.slice a' n' c')
    match k, hk with
    | 0, _ => exact this
    | 1, _ => exact this
    | 2, _ => exact this
    | 3, _ => exact this
  · by_cases hjk : j = k
    · subst hjk
      simp only [upd_same]
      exact ha.mod hoB fun z h1 h2 => by have := h.off j hj; omega
    · simp only [upd_ne _ _ hjk]
      refine ((h.arr j hj).mod ho fun z h1 h2 => ?_).mod hoB fun z h1 h2 => ?_
      · rcases h.dis j k hj hk hjk with h3 | h3 <;> omega
      · have := h.off j hj; omega
  · by_cases hjk : j = k
    · subst hjk; rw [upd_same]; have := h.off j hj; omega
    · rw [upd_ne _ _ hjk]; exact h.off j hj
  · have hle := (h.arr i hi).le
    have hle2 := (h.arr j hj).le
    by_cases hik : i = k
    · subst hik
      rw [upd_same, upd_ne _ _ (Ne.symm hij)]
      have := h.dis i j hi hj hij
      omega
    · by_cases hjk : j = k
      · subst hjk
        rw [upd_same, upd_ne _ _ hik]
        have := h.dis i j hi hj hij
        have := h.dis j i hj hi (Ne.symm hij)
        rcases hg with hg | hg
        · rw [hg]; exact h.dis i j hi hj hij
        · left; omega
      · rw [upd_ne _ _ hik, upd_ne _ _ hjk]
        exact h.dis i j hi hj hij
/-- Of what lies apart from the four nothing is turned. -/
def Apart (w0 w : World) (S : Nat → Prop) : Prop := Mod (fun k => ¬ S k) w0 w
end
section
variable {R : Value → World → Prop} {a p : Option Addr} {n c nc cc B : Nat}
/-- The blocks from M on, and nothing else, are turned. -/
theorem From.only {M g : Nat} {w0 w u : World} (h : From M w0 w) (ho : Only g w u) (hg : M < g ∨ g = 0) : From M w0 u := From.then h ho fun k _ hk => by omega
def val (k : Nat) : BitVec 64 := BitVec.ofNat 64 (k + 3)
theorem val_int {k : Nat} (h : k < 4) : ((k : Int) + 3) = ((val k).toNat : Int) := by
  unfold val
  rw [BitVec.toNat_ofNat, Nat.mod_eq_of_lt (by omega)]
  rfl
/-- All of one of the four is written over. -/
theorem own_in {M : Nat} {w0 : World} {A : Nat → Option Addr} {N C G : Nat → Nat} {X : Nat → W} {b36 : Option Addr → Nat → Nat → Option Addr → Nat → Nat → Option Addr → Int → World → Prop} {q : Nat} (hq : q < 4) (hM : ∀ k, k < 4 → M < G k ∨ G k = 0) (hN : N q ≤ 1073741824) (hX : (X q).length = N q)
    (H : ∀ u, Quad u B A N C G (upd X q (List.replicate (N q) (val q))) → From M w0 u → b36 a n c p nc cc (some ⟨B, 0, none⟩) (q + 1 : Nat) u) :
    ∀ (k j : Nat) (w : World), j + k = N q → Quad w B A N C G (upd X q (mix (List.replicate (N q) (val q)) (X q) j)) → From M w0 w → thicketlaw05_BitsOwn.l50 R b36 (k + 1) a n c p nc cc (some ⟨B, 0, none⟩) q q (N q) j w
  | 0, j, w, hj, hQ, hF => by
    unfold thicketlaw05_BitsOwn.l50 thicketlaw05_BitsOwn.g50
    refine onDec_f (by omega) ?_
    refine nv_succ (by omega) ?_
    have hl := (hQ.arr q hq).len
    rw [upd_same] at hl
    have hl2 : (X q).length = (List.replicate (N q) (val q)).length := by
      simp; omega
    have hf := mix_full hl2
    rw [List.length_replicate] at hl2
    rw [hl2, show N q = j from by omega] at hf
    rw [show j = N q from by omega] at hf
    rw [show j = N q from by omega, hf] at hQ
    exact H w hQ hF
  | k + 1, j, w, hj, hQ, hF => by
    have ha := hQ.arr q hq
    rw [upd_same] at ha
    have hl := ha.len
    have hl2 : (X q).length = (List.replicate (N q) (val q)).length := by
      simp; omega
    unfold thicketlaw05_BitsOwn.l50 thicketlaw05_BitsOwn.g50
    refine onDec_t (by omega) ?_
    refine Quad.rd hQ (by omega) (by omega) ?_
    rw [Int.toNat_natCast]
    refine nv_i64 (by omega) (by omega) ?_
    refine nv_u64 (by omega) (by omega) ?_
    refine Arr.wr ha (by omega) (by omega) (x := val q) (by rw [val_int hq]; rfl) fun u hu ho => ?_
    refine nv_succ (by omega) ?_
    rw [Int.toNat_natCast, mix_step hl2 (by rw [List.getElem?_replicate, if_pos (by omega)])] at hu
    have hQ2 := hQ.wr hq hu ho
    have e : upd (upd X q (mix (List.replicate (N q) (val q)) (X q) j)) q (mix (List.replicate (N q) (val q)) (X q) (j + 1)) = upd X q (mix (List.replicate (N q) (val q)) (X q) (j + 1)) := by
      funext i; unfold upd; split <;> rfl
    rw [e] at hQ2
    exact own_in hq hM hN hX H k (j + 1) u (by omega) hQ2 (From.only hF ho (hM q hq))
/-- The four are written over. -/
theorem own_over {M : Nat} {w0 : World} {A : Nat → Option Addr} {N C G : Nat → Nat} (hM : ∀ k, k < 4 → M < G k ∨ G k = 0) (hN : ∀ k, k < 4 → N k ≤ 1073741824)
    (H : ∀ u, Quad u B A N C G (fun k => List.replicate (N k) (val k)) → From M w0 u → thicketlaw05_BitsOwn.e68 R a n c p nc cc (some ⟨B, 0, none⟩) 0 u) :
    ∀ (k q : Nat) (Y : Nat → W) (w : World), q + k = 4 → (∀ i, i < q → Y i = List.replicate (N i) (val i)) → Quad w B A N C G Y → From M w0 w → thicketlaw05_BitsOwn.l36 R (k + 1) a n c p nc cc (some ⟨B, 0, none⟩) q w
  | 0, q, Y, w, hq, hY, hQ, hF => by
    unfold thicketlaw05_BitsOwn.l36 thicketlaw05_BitsOwn.g36
    refine onDec_f (by omega) ?_
    refine H w ⟨hQ.blk, fun k hk => ?_, hQ.off, hQ.dis⟩ hF
    rw [← hY k (by omega)]
    exact hQ.arr k hk
  | k + 1, q, Y, w, hq, hY, hQ, hF => by
    unfold thicketlaw05_BitsOwn.l36 thicketlaw05_BitsOwn.g36
    refine onDec_t (by omega) ?_
    refine Quad.rd hQ (by omega) (by omega) ?_
    rw [Int.toNat_natCast]
    refine ⟨N q + 1, own_in (A := A) (C := C) (X := Y) (by omega) hM (hN q (by omega)) (hQ.arr q (by omega)).len.symm (fun u hQ2 hF2 => ?_) (N q) 0 w (by omega) ?_ hF⟩
    · refine own_over hM hN H k (q + 1) _ u (by omega) (fun i hi => ?_) hQ2 hF2
      by_cases h : i = q
      · subst h; rw [upd_same]
      · rw [upd_ne _ _ h]; exact hY i (by omega)
    · rw [mix_zero]
      have e : upd Y q (Y q) = Y := by funext i; unfold upd; split <;> simp_all
      rw [e]; exact hQ
def nines : W := [9#64, 9#64, 9#64]
/-- The four grow. -/
theorem own_grow {M : Nat} {w0 : World} {N0 : Nat → Nat} (hMB : M ≤ B) (hM0 : M ≤ w0.heap.size) (hN : ∀ k, k < 4 → N0 k ≤ 1073741824)
    (H : ∀ u A C G, Quad u B A (fun k => N0 k + 3) C G (fun k => List.replicate (N0 k) (val k) ++ nines) → From M w0 u → thicketlaw05_BitsOwn.e85 R a n c p nc cc (some ⟨B, 0, none⟩) 0 u) :
    ∀ (k q : Nat) (A : Nat → Option Addr) (N C G : Nat → Nat) (Y : Nat → W) (w : World), q + k = 4 → (∀ k, k < 4 → M < G k ∨ G k = 0) → (∀ i, i < q → N i = N0 i + 3 ∧ Y i = List.replicate (N0 i) (val i) ++ nines) → (∀ i, q ≤ i → N i = N0 i ∧ Y i = List.replicate (N0 i) (val i)) →
      Quad w B A N C G Y → From M w0 w → thicketlaw05_BitsOwn.l68 R (k + 1) a n c p nc cc (some ⟨B, 0, none⟩) q w
  | 0, q, A, N, C, G, Y, w, hq, hM, h1, h2, hQ, hF => by
    unfold thicketlaw05_BitsOwn.l68 thicketlaw05_BitsOwn.g68
    refine onDec_f (by omega) ?_
    refine H w A C G ⟨?_, fun k hk => ?_, hQ.off, hQ.dis⟩ hF
    · have := hQ.blk
      rwa [(h1 0 (by omega)).1, (h1 1 (by omega)).1, (h1 2 (by omega)).1, (h1 3 (by omega)).1] at this
    · rw [← (h1 k (by omega)).1, ← (h1 k (by omega)).2]
      exact hQ.arr k hk
  | k + 1, q, A, N, C, G, Y, w, hq, hM, h1, h2, hQ, hF => by
    unfold thicketlaw05_BitsOwn.l68 thicketlaw05_BitsOwn.g68
    refine onDec_t (by omega) ?_
    refine Quad.rd hQ (by omega) (by omega) ?_
    rw [Int.toNat_natCast]
    obtain ⟨e1, e2⟩ := h2 q (Nat.le_refl _)
    have hnq := hN q (by omega)
    refine nw_mk ?_
    have hkn := Kept.new w (.cells #[.int .u64 9, .int .u64 9, .int .u64 9] 56)
    have hs := Sl.new enW 56 w nines #[.int .u64 9, .int .u64 9, .int .u64 9] rfl
    have hQn := hQ.kept hkn
    refine Arr.pushes S_W (hQn.arr q (by omega)) (fun _ => rfl) hs (by simp only [maxLen, nines, List.length_cons, List.length_nil]; omega) (by simp only [nines, List.length_cons, List.length_nil]; omega) fun a' c' g' u ha hg ho => ⟨_, _, _, rfl, ?_⟩
    refine chk_mk (by omega) ?_
    simp only [addr_add, Nat.zero_add, Nat.mul_one, Nat.add_zero]
    have hBb := hQn.blk.mod ho (hQ.off q (by omega))
    refine ⟨hBb.ok (by simp; omega), nw_mk ?_⟩
    refine nv_succ (by omega) ?_
    obtain ⟨hQ2, ho2⟩ := hQn.grow (by omega) ha ho (by rcases hg with h | h; exact .inl h; exact .inr h) rfl
    have hsz := hkn.size
    have hsw := hF.size
    refine own_grow hMB hM0 hN H k (q + 1) _ _ _ _ _ _ (by omega) (fun i hi => ?_) (fun i hi => ?_) (fun i hi => ?_) hQ2 ?_
    · by_cases h : i = q
      · subst h; rw [upd_same]; have := hM i hi; omega
      · rw [upd_ne _ _ h]; exact hM i hi
    · by_cases h : i = q
      · subst h
        rw [upd_same, upd_same, e1, e2]
        exact ⟨rfl, rfl⟩
      · rw [upd_ne _ _ h, upd_ne _ _ h]; exact h1 i (by omega)
    · rw [upd_ne _ _ (by omega), upd_ne _ _ (by omega)]; exact h2 i (by omega)
    · exact From.only (From.only (From.keptThen hF hkn) ho (hM q (by omega))) ho2 (by omega)
end
end Go.Mir

namespace Go.Mir
open Go Go.E Go.RowKit Go.Bt
section
variable {R : Value → World → Prop} {a p : Option Addr} {n c nc cc B : Nat}
def four {α : Type} (x0 x1 x2 x3 : α) : Nat → α
  | 0 => x0
  | 1 => x1
  | 2 => x2
  | _ => x3
theorem own_chk {w : World} {A : Nat → Option Addr} {C G : Nat → Nat} {N0 : Nat → Nat} {b85 : Option Addr → Nat → Nat → Option Addr → Nat → Nat → Option Addr → Int → World → Prop} {q : Nat} (hq : q < 4) (hN : N0 q ≤ 1073741824) (hQ : Quad w B A (fun k => N0 k + 3) C G (fun k => List.replicate (N0 k) (val k) ++ nines))
    (H : b85 a n c p nc cc (some ⟨B, 0, none⟩) (q + 1 : Nat) w) :
    ∀ (k j : Nat), j + k = N0 q → thicketlaw05_BitsOwn.l99 R b85 (k + 1) a n c p nc cc (some ⟨B, 0, none⟩) q j q w
  | 0, j, hj => by
    unfold thicketlaw05_BitsOwn.l99 thicketlaw05_BitsOwn.g99
    refine Quad.rd hQ (by omega) (by omega) ?_
    rw [Int.toNat_natCast]
    refine nv_i64 (by omega) (by omega) ?_
    refine onDec_f (by omega) ?_
    refine nv_succ (by omega) ?_
    exact H
  | k + 1, j, hj => by
    unfold thicketlaw05_BitsOwn.l99 thicketlaw05_BitsOwn.g99
    refine Quad.rd hQ (by omega) (by omega) ?_
    rw [Int.toNat_natCast]
    refine nv_i64 (by omega) (by omega) ?_
    refine onDec_t (by omega) ?_
    refine Quad.rd hQ (by omega) (by omega) ?_
    rw [Int.toNat_natCast]
    refine Sl.rdW (hQ.arr q hq).sl (fun _ => rfl) (by omega) (by omega) fun x hx => ?_
    rw [Int.toNat_natCast, List.getElem?_append_left (by simp; omega), List.getElem?_replicate, if_pos (by omega)] at hx
    obtain rfl := Option.some.inj hx
    have e := val_int hq
    refine nv_i64 (by omega) (by omega) ?_
    refine nv_u64 (by omega) (by omega) ?_
    refine onNe_f (by omega) ?_
    refine nv_succ (by omega) ?_
    exact own_chk hq hN hQ H k (j + 1) (by omega)
theorem own_chks {w : World} {A : Nat → Option Addr} {C G : Nat → Nat} {N0 : Nat → Nat} (hN : ∀ k, k < 4 → N0 k ≤ 1073741824) (hQ : Quad w B A (fun k => N0 k + 3) C G (fun k => List.replicate (N0 k) (val k) ++ nines))
    (H : E.CallsD Go.Proofs.Tryd.prog 37 #[.slice p nc cc] w fun yv125 u126 => ∃ ya_127 : Option Addr, ∃ yn_127 : Nat, ∃ yc_127 : Nat, yv125 = .slice ya_127 yn_127 yc_127 ∧ (thicketlaw05_BitsOwn.e123 R a n c p nc cc ya_127 yn_127 yc_127 (yn_127 : Int) 0 u126)) :
    ∀ (k q : Nat), q + k = 4 → thicketlaw05_BitsOwn.l85 R (k + 1) a n c p nc cc (some ⟨B, 0, none⟩) q w
  | 0, q, hq => by
    unfold thicketlaw05_BitsOwn.l85 thicketlaw05_BitsOwn.g85
    refine onDec_f (by omega) ?_
    exact H
  | k + 1, q, hq => by
    unfold thicketlaw05_BitsOwn.l85 thicketlaw05_BitsOwn.g85
    refine onDec_t (by omega) ?_
    exact ⟨N0 q + 1, own_chk (by omega) (hN q (by omega)) hQ (own_chks hN hQ H k (q + 1) (by omega)) (N0 q) 0 (by omega)⟩
theorem wr2 {w : World} {a : Option Addr} {n c g e : Nat} {xs : Rs} (h : ArrK 2 enR e w a n c xs g) {i : Int} {K : World → Prop} (h0 : 0 ≤ i) (hi : i < n) {x y : Int} (hk : ∀ u ys, ArrK 2 enR e u a n c ys g → Only g w u → K u) :
    optN a fun q => chk (0 ≤ i ∧ i < (n : Int)) (okSt w ((q.add (i.toNat * 2)).add 0) ∧ nw (w.setCell ((q.add (i.toNat * 2)).add 0) (.int .i64 x)) fun w1 => okSt w1 ((q.add (i.toNat * 2)).add 1) ∧ nw (w1.setCell ((q.add (i.toNat * 2)).add 1) (.int .i64 y)) K) := by
  have hl := h.len2
  obtain ⟨r, hr⟩ : ∃ r, xs[i.toNat]? = some r := ⟨_, List.getElem?_eq_getElem (by omega)⟩
  obtain ⟨b, rfl, rfl, h3, h4, h5⟩ := ArrK.set (k := 2) (en := enR) (fun _ => rfl) h (i := i.toNat) (j := 0) (x := r) (y := (x, r.2)) (v := .int .i64 x) hr (by omega) (by omega) rfl
  obtain ⟨b', hb', _, h3', h4', h5'⟩ := ArrK.set (k := 2) (en := enR) (fun _ => rfl) h4 (i := i.toNat) (j := 1) (x := (x, r.2)) (y := (x, y)) (v := .int .i64 y) (by rw [List.getElem?_set_self (by omega)]) (by omega) (by omega) rfl
  obtain rfl : b' = b := by omega
  refine chk_mk ⟨h0, hi⟩ ?_
  simp only [addr_add, Nat.zero_add]
  exact ⟨h3, nw_mk ⟨h3', nw_mk (hk _ _ h4' (Only.then h5 h5'))⟩⟩
theorem own_runs {w0 : World} {xs : W} {e : Option Addr} {m d g : Nat} (hx : Sl enW w0 a n xs) (hc : Sl enW w0 p n xs) (hm : n ≤ 16777216) (hml : m = (runsOf xs).length) (hg : w0.heap.size < g ∨ g = 0) (hR : ∀ u, Kept w0 u → R (.bool true) u) :
    ∀ (k j : Nat) (ys : Rs) (w : World), j + k = m → ArrK 2 enR 58 w e m d ys g → Kept w0 w → thicketlaw05_BitsOwn.l123 R (k + 1) a n c p n cc e m d m j w
  | 0, j, ys, w, hj, ha, hk => by
    have hxl := hx.len
    have hrl := runs_len xs (64 * xs.length)
    rw [← runsOf_to] at hrl
    unfold thicketlaw05_BitsOwn.l123 thicketlaw05_BitsOwn.g123
    refine onDec_f (by omega) ?_
    refine nw_mk ?_
    have hkn := Kept.new w (.cells #[.int .i64 0, .int .i64 0, .int .i64 0, .int .i64 0] 58)
    refine rawN_row S_R (by omega) (Row.kept ha hkn) (news := [.int .i64 0, .int .i64 0, .int .i64 0, .int .i64 0]) (by simp) (fun j u hj => ⟨_, rfl, by rw [cell_new]; simpa using hj⟩) (fun h => by cases h) (by simp [Value.oneCell']) (by simp only [maxLen]; omega) (by omega) fun a' c' g' u hr _ ho => ⟨_, _, _, rfl, ?_⟩
    have k1 : Kept w0 u := Kept.own (Kept.trans hk hkn) ho hg
    refine E.CallsD.mono (Same_yes (hc.keep k1) (hx.keep k1) hm) fun v u2 ⟨hv, q2⟩ => ⟨_, hv, ?_⟩
    rw [onBool_t]
    have k2 := Kept.trans k1 q2
    refine E.CallsD.mono (Runs_c (hc.keep k2) hm) fun v u3 ⟨a3, n3, c3, hv, g3, h3, _, q3⟩ => ⟨_, _, _, hv, ?_⟩
    have k3 := Kept.trans k2 q3
    refine E.CallsD.mono (refRuns_c (hx.keep k3) hm) fun v u4 ⟨a4, n4, c4, hv, g4, h4, _, q4⟩ => ⟨_, _, _, hv, ?_⟩
    have h3l := h3.len2
    refine E.CallsD.mono (runs_yes (h3.kept q4).slk2 h4.slk2 (by omega)) fun v u5 ⟨hv, q5⟩ => ⟨_, hv, ?_⟩
    rw [onBool_t]
    have k5 := Kept.trans k3 (Kept.trans q4 q5)
    refine E.CallsD.mono (refRuns_c (hx.keep k5) hm) fun v u6 ⟨a6, n6, c6, hv, g6, h6, _, q6⟩ => ⟨_, _, _, hv, ?_⟩
    have h6l := h6.len2
    refine nv_i64 (by omega) (by omega) ?_
    have e : (((m + 2 : Nat) : Int) == ((n6 : Int) + 2)) = true := by rw [beq_iff_eq]; omega
    rw [e]
    exact hR u6 (Kept.trans k5 q6)
  | k + 1, j, ys, w, hj, ha, hk => by
    have hxl := hx.len
    have hrl := runs_len xs (64 * xs.length)
    rw [← runsOf_to] at hrl
    unfold thicketlaw05_BitsOwn.l123 thicketlaw05_BitsOwn.g123
    refine onDec_t (by omega) ?_
    refine wr2 ha (by omega) (by omega) fun u ys' ha' ho => ?_
    refine nv_succ (by omega) ?_
    exact own_runs hx hc hm hml hg hR k (j + 1) ys' u (by omega) ha' (Kept.own hk ho hg)
theorem inW_lt {xs : W} {i : Int} : inW xs i = (decide (0 ≤ i) && decide (i < 64 * xs.length)) := by
  unfold inW
  congr 1
  exact decide_eq_decide.2 (by omega)
/-- The law BitsOwn. -/
theorem bitsOwn_law {w : World} {xs : W} {i : Int} (hT : Tab w) (hx : Sl enW w a n xs) (hm : n ≤ 16777216) (hi : i ≤ 9223372036854775807) : Pure Go.Proofs.Tryd.prog 10 #[.slice a n c, .int .i64 i] w (.bool true) := by
  refine thicketlaw05_BitsOwn.calls (R := fun v' u => v' = _ ∧ Below w.heap.size w u) ?_
  unfold thicketlaw05_BitsOwn thicketlaw05_BitsOwn.g0
  have hxl := hx.len
  refine E.CallsD.mono (lives_c hT) fun v u0 ⟨hv, k0⟩ => ⟨_, hv, off1 rfl ?_⟩
  refine E.CallsD.mono (copied_c (hx.keep k0) hm) fun v u1 ⟨p, cc, hv, s1⟩ => ⟨_, _, _, hv, ?_⟩
  have k1 := Kept.trans k0 s1.kept
  have hc := s1.sl
  refine E.CallsD.mono (With_c hc hm hi) fun v u2 ⟨a2, n2, c2, hv, g2, h2, m2, q2⟩ => ⟨_, _, _, _, hv, ?_⟩
  refine E.CallsD.mono (Less_c (hc.keep q2) hm hi) fun v u3 ⟨a3, n3, c3, hv, g3, h3, m3, q3⟩ => ⟨_, _, _, _, hv, ?_⟩
  have q23 := Kept.trans q2 q3
  refine E.CallsD.mono (And_c (hc.keep q23) (hc.keep q23) hm) fun v u4 ⟨a4, n4, c4, hv, g4, h4, m4, q4⟩ => ⟨_, _, _, _, hv, ?_⟩
  have q24 := Kept.trans q23 q4
  refine E.CallsD.mono (Or_c (hc.keep q24) (hc.keep q24) hm) fun v u5 ⟨a5, n5, c5, hv, g5, h5, m5, q5⟩ => ⟨_, _, _, _, hv, ?_⟩
  have q25 := Kept.trans q24 q5
  refine nv_i64 (by omega) (by omega) ?_
  -- the array of the four
  have b0 := Blk.new u5 #[.slice none 0 0, .slice none 0 0, .slice none 0 0, .slice none 0 0] 55
  have b1 := b0.set 0 (.slice a2 n2 c2)
  have b2 := b1.set 1 (.slice a3 n3 c3)
  have b3 := b2.set 2 (.slice a4 n4 c4)
  have b4 := b3.set 3 (.slice a5 n5 c5)
  simp only [na_add]
  refine nw_mk ⟨b0.ok (by simp), nw_mk ⟨b1.ok (by simp), nw_mk ⟨b2.ok (by simp), nw_mk ⟨b3.ok (by simp), nw_mk ?_⟩⟩⟩⟩
  have s1' : From u5.heap.size u5 _ := Kept.mod (Kept.new u5 (.cells #[.slice none 0 0, .slice none 0 0, .slice none 0 0, .slice none 0 0] 55))
  have s2' := From.then s1' (Only.set _ u5.heap.size 0 (.slice a2 n2 c2)) fun k h1 h2 => by omega
  have s3' := From.then s2' (Only.set _ u5.heap.size 1 (.slice a3 n3 c3)) fun k h1 h2 => by omega
  have s4' := From.then s3' (Only.set _ u5.heap.size 2 (.slice a4 n4 c4)) fun k h1 h2 => by omega
  have kA := (From.then s4' (Only.set _ u5.heap.size 3 (.slice a5 n5 c5)) fun k h1 h2 => by omega).kept
  obtain ⟨W', hW⟩ : ∃ W', W' = ((((u5.alloc (.cells #[.slice none 0 0, .slice none 0 0, .slice none 0 0, .slice none 0 0] 55)).setCell ⟨u5.heap.size, 0, none⟩ (.slice a2 n2 c2)).setCell ⟨u5.heap.size, 1, none⟩ (.slice a3 n3 c3)).setCell ⟨u5.heap.size, 2, none⟩ (.slice a4 n4 c4)).setCell ⟨u5.heap.size, 3, none⟩ (.slice a5 n5 c5) := ⟨_, rfl⟩
  rw [← hW] at b4 kA ⊢
  have hz2 := q2.size
  have hz3 := q3.size
  have hz4 := q4.size
  have hz5 := q5.size
  have l2 := h2.le
  have l3 := h3.le
  have l4 := h4.le
  have l5 := h5.le
  have f2 := h2.kept (Kept.trans q3 (Kept.trans q4 (Kept.trans q5 kA)))
  have f3 := h3.kept (Kept.trans q4 (Kept.trans q5 kA))
  have f4 := h4.kept (Kept.trans q5 kA)
  have f5 := h5.kept kA
  have zz : ∀ f, (zipA f xs xs).1.length = xs.length := fun f => by unfold zipA; rw [if_pos rfl]; simp
  have wl : (withA xs i).1.length ≤ xs.length := by unfold withA; split <;> simp
  have ll : (lessA xs i).1.length ≤ xs.length := by unfold lessA; split <;> simp
  have e2 := h2.len
  have e3 := h3.len
  have e4 := h4.len
  have e5 := h5.len
  rw [zz] at e4 e5
  have M0 : ∀ z, (u1.heap.size < z ∨ z = 0) → u1.heap.size < z ∨ z = 0 := fun _ h => h
  obtain ⟨N0, hN0⟩ : ∃ N0 : Nat → Nat, N0 = four n2 n3 n4 n5 := ⟨_, rfl⟩
  have hN : ∀ k, k < 4 → N0 k ≤ 1073741824 := fun k hk => by
    subst hN0
    match k, hk with
    | 0, _ => simp only [four]; omega
    | 1, _ => simp only [four]; omega
    | 2, _ => simp only [four]; omega
    | 3, _ => simp only [four]; omega
  have hfin : ∀ u, Kept u1 u → (fun v' u => v' = Value.bool true ∧ Below w.heap.size w u) (.bool true) u := fun u hu => ⟨rfl, Kept.trans k1 hu⟩
  have hQ : Quad W' u5.heap.size (four a2 a3 a4 a5) N0 (four c2 c3 c4 c5) (four g2 g3 g4 g5)
      (four (withA xs i).1 (lessA xs i).1 (zipA (· &&& ·) xs xs).1 (zipA (· ||| ·) xs xs).1) := by
    subst hN0
    refine ⟨b4, fun k hk => ?_, fun k hk => ?_, fun j k hj hk hjk => ?_⟩
    · match k, hk with
      | 0, _ => exact f2
      | 1, _ => exact f3
      | 2, _ => exact f4
      | 3, _ => exact f5
    · match k, hk with
      | 0, _ => simp only [four]; omega
      | 1, _ => simp only [four]; omega
      | 2, _ => simp only [four]; omega
      | 3, _ => simp only [four]; omega
    · match j, hj, k, hk with
      | 0, _, 0, _ | 1, _, 1, _ | 2, _, 2, _ | 3, _, 3, _ => omega
      | 0, _, 1, _ | 0, _, 2, _ | 0, _, 3, _ | 1, _, 0, _ | 1, _, 2, _ | 1, _, 3, _ | 2, _, 0, _ | 2, _, 1, _ | 2, _, 3, _ | 3, _, 0, _ | 3, _, 1, _ | 3, _, 2, _ => simp only [four]; omega
  have hM : ∀ k, k < 4 → u1.heap.size < (four g2 g3 g4 g5) k ∨ (four g2 g3 g4 g5) k = 0 := fun k hk => by
    match k, hk with
    | 0, _ => simp only [four]; omega
    | 1, _ => simp only [four]; omega
    | 2, _ => simp only [four]; omega
    | 3, _ => simp only [four]; omega
  have hF : From u1.heap.size u1 W' := Kept.mod (Kept.trans q25 kA)
  have main : thicketlaw05_BitsOwn.e36 (fun v' u => v' = Value.bool true ∧ Below w.heap.size w u) a n c p n cc (some ⟨u5.heap.size, 0, none⟩) 0 W' := by
    refine ⟨4 + 1, own_over (M := u1.heap.size) (w0 := u1) hM hN (fun u hQ2 hF2 => ?_) 4 0 _ _ (by omega) (fun i hi => by omega) hQ hF⟩
    refine ⟨4 + 1, own_grow (M := u1.heap.size) (w0 := u1) (N0 := N0) (by omega) (Nat.le_refl _) hN (fun u A C G hQ3 hF3 => ?_) 4 0 _ _ _ _ _ u (by omega) hM (fun i hi => by omega) (fun i _ => ⟨rfl, rfl⟩) hQ2 hF2⟩
    have k3 := hF3.kept
    refine ⟨4 + 1, own_chks hN hQ3 ?_ 4 0 (by omega)⟩
    refine E.CallsD.mono (Runs_c (hc.keep k3) hm) fun v u7 ⟨a7, n7, c7, hv, g7, h7, m7, q7⟩ => ⟨_, _, _, hv, ?_⟩
    have hz := k3.size
    exact ⟨n7 + 1, own_runs (w0 := u1) (hx.keep k1) hc hm h7.len2 (by omega) hfin n7 0 _ u7 (by omega) h7 (Kept.trans k3 q7)⟩
  have hin : inW xs i = (decide (0 ≤ i) && decide (i < 64 * n)) := by rw [inW_lt, hxl]
  have w2 : (withA xs i).2 = if inW xs i then 0 else 2 := by unfold withA; split <;> rfl
  have l2' : (lessA xs i).2 = if inW xs i then 0 else 2 := by unfold lessA; split <;> rfl
  refine onDec (fun h0 => ?_) fun h0 => ?_
  · refine off1 ?_ ?_
    · rw [w2, hin, decide_eq_true (show 0 ≤ i from h0), Bool.true_and]
      by_cases h : i < 64 * n
      · simp [h]
      · simp [h]
    · refine onNe_f (by rw [w2, l2']) main
  · refine off1 ?_ ?_
    · rw [w2, hin, decide_eq_false (show ¬ 0 ≤ i from h0)]
      rfl
    · refine onNe_f (by rw [w2, l2']) main
end
end Go.Mir
