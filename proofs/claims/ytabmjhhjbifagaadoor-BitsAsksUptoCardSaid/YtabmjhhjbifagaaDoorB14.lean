/- Part of a proof of laws of the seat YtabmjhhjbifagaaDoor: functions' weakest preconditions, each checked by the kernel, and contracts out of them; no conditions. -/
import Derived.Test.YtabmjhhjbifagaaDoorB13
import Derived.Test.YtabmjhhjbifagaaDoorM6
import Derived.Test.YtabmjhhjbifagaaDoorBM5
set_option linter.unusedVariables false
set_option linter.unusedSimpArgs false
namespace Go.Mir
open Go Go.E Go.RowKit Go.Bt
section
variable {w : World} {a b : Option Addr} {n c m d g : Nat} {xs ys : W}
/-! ### And, Or, Xor -/
theorem andF_c (x y : BitVec 64) (w : World) : Pure Go.Proofs.Tryd.prog 57 #[.int .u64 x.toNat, .int .u64 y.toNat] w (enW (x &&& y)) := by
  refine bits_And_1.calls (R := fun v' u => v' = _ ∧ Below w.heap.size w u) ?_
  unfold bits_And_1 bits_And_1.g0
  exact nv_mk (and64 x y) ⟨rfl, Below.refl _ _⟩
theorem orF_c (x y : BitVec 64) (w : World) : Pure Go.Proofs.Tryd.prog 58 #[.int .u64 x.toNat, .int .u64 y.toNat] w (enW (x ||| y)) := by
  refine bits_Or_1.calls (R := fun v' u => v' = _ ∧ Below w.heap.size w u) ?_
  unfold bits_Or_1 bits_Or_1.g0
  exact nv_mk (or64 x y) ⟨rfl, Below.refl _ _⟩
theorem xorF_c (x y : BitVec 64) (w : World) : Pure Go.Proofs.Tryd.prog 59 #[.int .u64 x.toNat, .int .u64 y.toNat] w (enW (x ^^^ y)) := by
  refine bits_Xor_1.calls (R := fun v' u => v' = _ ∧ Below w.heap.size w u) ?_
  unfold bits_Xor_1 bits_Xor_1.g0
  exact nv_mk (xor64 x y) ⟨rfl, Below.refl _ _⟩
def zipA (f : BitVec 64 → BitVec 64 → BitVec 64) (xs ys : W) : W × Int := if xs.length = ys.length then (xs.zipWith f ys, 0) else ([], 6)
theorem zipA_len (f : BitVec 64 → BitVec 64 → BitVec 64) (xs ys : W) (h : xs.length ≤ 16777216) : (zipA f xs ys).1.length ≤ 16777216 := by
  unfold zipA; split
  · simp; omega
  · simp
def VF (v : Value) : Nat → Value → World → Prop := fun _ x _ => x = v
theorem each_and_loop {R : Value → World → Prop} {w0 w1 : World} {a b e : Option Addr} {n c d f g : Nat} {xs ys : W} (hx : Sl enW w0 a n xs) (hy : Sl enW w0 b n ys) (hm : n ≤ 16777216) (hk0 : Kept w0 w1) (hg : w0.heap.size < g)
    (hR : ∀ u, Arr enW 56 u e n f (xs.zipWith (· &&& ·) ys) g → Kept w0 u → R (.tuple #[.slice e n f, .int .i64 0]) u) :
    ∀ (k i : Nat) (w : World), i + k = n → Arr enW 56 w e n f (mix (xs.zipWith (· &&& ·) ys) (List.replicate n 0#64) i) g → Only g w1 w → bits_each_and.l16 R (k + 1) a n c b n d e n f n i w
  | 0, i, w, hi, ha, ho => by
    have := hx.len
    have := hy.len
    have hll : (List.replicate n 0#64).length = (xs.zipWith (· &&& ·) ys).length := by simp; omega
    unfold bits_each_and.l16 bits_each_and.g16
    refine onDec_f (by omega) ?_
    have hf := mix_full hll
    rw [List.length_replicate] at hf
    obtain rfl : i = n := by omega
    rw [hf] at ha
    exact hR w ha (Kept.only hk0 ho hg)
  | k + 1, i, w, hi, ha, ho => by
    have := hx.len
    have := hy.len
    have hll : (List.replicate n 0#64).length = (xs.zipWith (· &&& ·) ys).length := by simp; omega
    have hkw := Kept.only hk0 ho hg
    have hxi : xs[i]? = some (xs[i]'(by omega)) := List.getElem?_eq_getElem _
    have hyi : ys[i]? = some (ys[i]'(by omega)) := List.getElem?_eq_getElem _
    unfold bits_each_and.l16 bits_each_and.g16
    refine onDec_t (by omega) ?_
    refine ⟨VF (enW ((xs[i]'(by omega)) &&& (ys[i]'(by omega)))), fun _ _ _ _ h _ => h, ?_⟩
    refine Sl.rdW (hx.keep hkw) (fun _ => rfl) (by omega) (by omega) fun x hx2 => ?_
    refine Sl.rdW (hy.keep hkw) (fun _ => rfl) (by omega) (by omega) fun y hy2 => ?_
    rw [Int.toNat_natCast] at hx2 hy2
    rw [hxi] at hx2
    rw [hyi] at hy2
    obtain rfl := Option.some.inj hx2
    obtain rfl := Option.some.inj hy2
    refine ⟨fun u hu => E.CallsD.mono (andF_c _ _ u) fun v u2 ⟨hv, hk⟩ => ⟨_, hv, rfl, hk⟩, fun z ⟨_, _, hz⟩ => ?_⟩
    have hz : Value.int .u64 z = enW _ := hz
    refine Arr.wrD ha (by omega) (by omega) (x := (xs[i]'(by omega)) &&& (ys[i]'(by omega))) hz fun u u' hu _ hu' ho' => ?_
    refine nv_succ (by omega) ?_
    rw [Int.toNat_natCast, mix_step hll (x := _) (by rw [List.getElem?_zipWith, hxi, hyi])] at hu'
    exact each_and_loop hx hy hm hk0 hg hR k (i + 1) u' (by omega) hu' (Only.then (Only.kept ho hu) ho')
theorem And_c (hx : Sl enW w a n xs) (hy : Sl enW w b m ys) (hm : n ≤ 16777216) : E.CallsD Go.Proofs.Tryd.prog 30 #[.slice a n c, .slice b m d] w fun v u => ∃ a' n' c', v = .tuple #[.slice a' n' c', .int .i64 (zipA (· &&& ·) xs ys).2] ∧ New enW 56 w u a' n' c' (zipA (· &&& ·) xs ys).1 := by
  refine bits_And.calls ?_
  unfold bits_And bits_And.g0
  have h1 := hx.len
  have h2 := hy.len
  refine E.CallsD.mono (R := fun v u => ∃ a' n' c', v = .tuple #[.slice a' n' c', .int .i64 (zipA (· &&& ·) xs ys).2] ∧ New enW 56 w u a' n' c' (zipA (· &&& ·) xs ys).1) ?_ fun v u ⟨a', n', c', hv, hn⟩ => ⟨_, _, _, _, hv, _, _, _, rfl, hn⟩
  refine bits_each_and.calls ?_
  unfold bits_each_and bits_each_and.g0 zipA
  refine onNe (fun hne => ?_) (fun he => ?_)
  · rw [if_neg (by omega)]
    exact ⟨none, 0, 0, rfl, 0, Arr.nil _ _ _, .inr rfl, Kept.refl _⟩
  · obtain rfl : n = m := by omega
    rw [if_pos (by omega)]
    refine Arr.make (en := enW) (x := 0#64) rfl (by omega) (by omega) (by omega) fun u1 ha hk1 => ?_
    rw [Int.toNat_natCast] at ha ⊢
    exact ⟨n + 1, each_and_loop (g := w.heap.size + 1) hx hy hm hk1 (Nat.lt_succ_self _) (fun u hu hk => ⟨_, _, _, rfl, _, hu, .inl (Nat.lt_succ_self _), hk⟩) n 0 u1 (by omega) (by rwa [mix_zero]) (Mod.refl _)⟩
theorem each_or_loop {R : Value → World → Prop} {w0 w1 : World} {a b e : Option Addr} {n c d f g : Nat} {xs ys : W} (hx : Sl enW w0 a n xs) (hy : Sl enW w0 b n ys) (hm : n ≤ 16777216) (hk0 : Kept w0 w1) (hg : w0.heap.size < g)
    (hR : ∀ u, Arr enW 56 u e n f (xs.zipWith (· ||| ·) ys) g → Kept w0 u → R (.tuple #[.slice e n f, .int .i64 0]) u) :
    ∀ (k i : Nat) (w : World), i + k = n → Arr enW 56 w e n f (mix (xs.zipWith (· ||| ·) ys) (List.replicate n 0#64) i) g → Only g w1 w → bits_each_or.l16 R (k + 1) a n c b n d e n f n i w
  | 0, i, w, hi, ha, ho => by
    have := hx.len
    have := hy.len
    have hll : (List.replicate n 0#64).length = (xs.zipWith (· ||| ·) ys).length := by simp; omega
    unfold bits_each_or.l16 bits_each_or.g16
    refine onDec_f (by omega) ?_
    have hf := mix_full hll
    rw [List.length_replicate] at hf
    obtain rfl : i = n := by omega
    rw [hf] at ha
    exact hR w ha (Kept.only hk0 ho hg)
  | k + 1, i, w, hi, ha, ho => by
    have := hx.len
    have := hy.len
    have hll : (List.replicate n 0#64).length = (xs.zipWith (· ||| ·) ys).length := by simp; omega
    have hkw := Kept.only hk0 ho hg
    have hxi : xs[i]? = some (xs[i]'(by omega)) := List.getElem?_eq_getElem _
    have hyi : ys[i]? = some (ys[i]'(by omega)) := List.getElem?_eq_getElem _
    unfold bits_each_or.l16 bits_each_or.g16
    refine onDec_t (by omega) ?_
    refine ⟨VF (enW ((xs[i]'(by omega)) ||| (ys[i]'(by omega)))), fun _ _ _ _ h _ => h, ?_⟩
    refine Sl.rdW (hx.keep hkw) (fun _ => rfl) (by omega) (by omega) fun x hx2 => ?_
    refine Sl.rdW (hy.keep hkw) (fun _ => rfl) (by omega) (by omega) fun y hy2 => ?_
    rw [Int.toNat_natCast] at hx2 hy2
    rw [hxi] at hx2
    rw [hyi] at hy2
    obtain rfl := Option.some.inj hx2
    obtain rfl := Option.some.inj hy2
    refine ⟨fun u hu => E.CallsD.mono (orF_c _ _ u) fun v u2 ⟨hv, hk⟩ => ⟨_, hv, rfl, hk⟩, fun z ⟨_, _, hz⟩ => ?_⟩
    have hz : Value.int .u64 z = enW _ := hz
    refine Arr.wrD ha (by omega) (by omega) (x := (xs[i]'(by omega)) ||| (ys[i]'(by omega))) hz fun u u' hu _ hu' ho' => ?_
    refine nv_succ (by omega) ?_
    rw [Int.toNat_natCast, mix_step hll (x := _) (by rw [List.getElem?_zipWith, hxi, hyi])] at hu'
    exact each_or_loop hx hy hm hk0 hg hR k (i + 1) u' (by omega) hu' (Only.then (Only.kept ho hu) ho')
theorem Or_c (hx : Sl enW w a n xs) (hy : Sl enW w b m ys) (hm : n ≤ 16777216) : E.CallsD Go.Proofs.Tryd.prog 31 #[.slice a n c, .slice b m d] w fun v u => ∃ a' n' c', v = .tuple #[.slice a' n' c', .int .i64 (zipA (· ||| ·) xs ys).2] ∧ New enW 56 w u a' n' c' (zipA (· ||| ·) xs ys).1 := by
  refine bits_Or.calls ?_
  unfold bits_Or bits_Or.g0
  have h1 := hx.len
  have h2 := hy.len
  refine E.CallsD.mono (R := fun v u => ∃ a' n' c', v = .tuple #[.slice a' n' c', .int .i64 (zipA (· ||| ·) xs ys).2] ∧ New enW 56 w u a' n' c' (zipA (· ||| ·) xs ys).1) ?_ fun v u ⟨a', n', c', hv, hn⟩ => ⟨_, _, _, _, hv, _, _, _, rfl, hn⟩
  refine bits_each_or.calls ?_
  unfold bits_each_or bits_each_or.g0 zipA
  refine onNe (fun hne => ?_) (fun he => ?_)
  · rw [if_neg (by omega)]
    exact ⟨none, 0, 0, rfl, 0, Arr.nil _ _ _, .inr rfl, Kept.refl _⟩
  · obtain rfl : n = m := by omega
    rw [if_pos (by omega)]
    refine Arr.make (en := enW) (x := 0#64) rfl (by omega) (by omega) (by omega) fun u1 ha hk1 => ?_
    rw [Int.toNat_natCast] at ha ⊢
    exact ⟨n + 1, each_or_loop (g := w.heap.size + 1) hx hy hm hk1 (Nat.lt_succ_self _) (fun u hu hk => ⟨_, _, _, rfl, _, hu, .inl (Nat.lt_succ_self _), hk⟩) n 0 u1 (by omega) (by rwa [mix_zero]) (Mod.refl _)⟩
theorem each_xor_loop {R : Value → World → Prop} {w0 w1 : World} {a b e : Option Addr} {n c d f g : Nat} {xs ys : W} (hx : Sl enW w0 a n xs) (hy : Sl enW w0 b n ys) (hm : n ≤ 16777216) (hk0 : Kept w0 w1) (hg : w0.heap.size < g)
    (hR : ∀ u, Arr enW 56 u e n f (xs.zipWith (· ^^^ ·) ys) g → Kept w0 u → R (.tuple #[.slice e n f, .int .i64 0]) u) :
    ∀ (k i : Nat) (w : World), i + k = n → Arr enW 56 w e n f (mix (xs.zipWith (· ^^^ ·) ys) (List.replicate n 0#64) i) g → Only g w1 w → bits_each_xor.l16 R (k + 1) a n c b n d e n f n i w
  | 0, i, w, hi, ha, ho => by
    have := hx.len
    have := hy.len
    have hll : (List.replicate n 0#64).length = (xs.zipWith (· ^^^ ·) ys).length := by simp; omega
    unfold bits_each_xor.l16 bits_each_xor.g16
    refine onDec_f (by omega) ?_
    have hf := mix_full hll
    rw [List.length_replicate] at hf
    obtain rfl : i = n := by omega
    rw [hf] at ha
    exact hR w ha (Kept.only hk0 ho hg)
  | k + 1, i, w, hi, ha, ho => by
    have := hx.len
    have := hy.len
    have hll : (List.replicate n 0#64).length = (xs.zipWith (· ^^^ ·) ys).length := by simp; omega
    have hkw := Kept.only hk0 ho hg
    have hxi : xs[i]? = some (xs[i]'(by omega)) := List.getElem?_eq_getElem _
    have hyi : ys[i]? = some (ys[i]'(by omega)) := List.getElem?_eq_getElem _
    unfold bits_each_xor.l16 bits_each_xor.g16
    refine onDec_t (by omega) ?_
    refine ⟨VF (enW ((xs[i]'(by omega)) ^^^ (ys[i]'(by omega)))), fun _ _ _ _ h _ => h, ?_⟩
    refine Sl.rdW (hx.keep hkw) (fun _ => rfl) (by omega) (by omega) fun x hx2 => ?_
    refine Sl.rdW (hy.keep hkw) (fun _ => rfl) (by omega) (by omega) fun y hy2 => ?_
    rw [Int.toNat_natCast] at hx2 hy2
    rw [hxi] at hx2
    rw [hyi] at hy2
    obtain rfl := Option.some.inj hx2
    obtain rfl := Option.some.inj hy2
    refine ⟨fun u hu => E.CallsD.mono (xorF_c _ _ u) fun v u2 ⟨hv, hk⟩ => ⟨_, hv, rfl, hk⟩, fun z ⟨_, _, hz⟩ => ?_⟩
    have hz : Value.int .u64 z = enW _ := hz
    refine Arr.wrD ha (by omega) (by omega) (x := (xs[i]'(by omega)) ^^^ (ys[i]'(by omega))) hz fun u u' hu _ hu' ho' => ?_
    refine nv_succ (by omega) ?_
    rw [Int.toNat_natCast, mix_step hll (x := _) (by rw [List.getElem?_zipWith, hxi, hyi])] at hu'
    exact each_xor_loop hx hy hm hk0 hg hR k (i + 1) u' (by omega) hu' (Only.then (Only.kept ho hu) ho')
theorem Xor_c (hx : Sl enW w a n xs) (hy : Sl enW w b m ys) (hm : n ≤ 16777216) : E.CallsD Go.Proofs.Tryd.prog 32 #[.slice a n c, .slice b m d] w fun v u => ∃ a' n' c', v = .tuple #[.slice a' n' c', .int .i64 (zipA (· ^^^ ·) xs ys).2] ∧ New enW 56 w u a' n' c' (zipA (· ^^^ ·) xs ys).1 := by
  refine bits_Xor.calls ?_
  unfold bits_Xor bits_Xor.g0
  have h1 := hx.len
  have h2 := hy.len
  refine E.CallsD.mono (R := fun v u => ∃ a' n' c', v = .tuple #[.slice a' n' c', .int .i64 (zipA (· ^^^ ·) xs ys).2] ∧ New enW 56 w u a' n' c' (zipA (· ^^^ ·) xs ys).1) ?_ fun v u ⟨a', n', c', hv, hn⟩ => ⟨_, _, _, _, hv, _, _, _, rfl, hn⟩
  refine bits_each_xor.calls ?_
  unfold bits_each_xor bits_each_xor.g0 zipA
  refine onNe (fun hne => ?_) (fun he => ?_)
  · rw [if_neg (by omega)]
    exact ⟨none, 0, 0, rfl, 0, Arr.nil _ _ _, .inr rfl, Kept.refl _⟩
  · obtain rfl : n = m := by omega
    rw [if_pos (by omega)]
    refine Arr.make (en := enW) (x := 0#64) rfl (by omega) (by omega) (by omega) fun u1 ha hk1 => ?_
    rw [Int.toNat_natCast] at ha ⊢
    exact ⟨n + 1, each_xor_loop (g := w.heap.size + 1) hx hy hm hk1 (Nat.lt_succ_self _) (fun u hu hk => ⟨_, _, _, rfl, _, hu, .inl (Nat.lt_succ_self _), hk⟩) n 0 u1 (by omega) (by rwa [mix_zero]) (Mod.refl _)⟩

theorem do_and_loop {R : Value → World → Prop} {w0 : World} {a b : Option Addr} {n c d : Nat} {xs ys : W} (hx : Sl enW w0 a n xs) (hy : Sl enW w0 b n ys) (hm : n ≤ 16777216)
    (hR : ∀ e f g u, Arr enW 56 u e n f (xs.zipWith (· &&& ·) ys) g → (w0.heap.size < g ∨ g = 0) → Kept w0 u → R (.tuple #[.slice e n f, .int .i64 0]) u) :
    ∀ (k i : Nat) (e : Option Addr) (f g : Nat) (w : World), i + k = n → Arr enW 56 w e i f ((xs.zipWith (· &&& ·) ys).take i) g → (w0.heap.size < g ∨ g = 0) → Kept w0 w → thicketref05_Do.l16 R (k + 1) a n c b n d 1 e i f n i w
  | 0, i, e, f, g, w, hi, ha, hg, hk => by
    have := hx.len
    have := hy.len
    unfold thicketref05_Do.l16 thicketref05_Do.g16
    refine onDec_f (by omega) ?_
    obtain rfl : i = n := by omega
    rw [List.take_of_length_le (by simp; omega)] at ha
    exact hR e f g w ha hg hk
  | k + 1, i, e, f, g, w, hi, ha, hg, hk => by
    have := hx.len
    have := hy.len
    have hxi : xs[i]? = some (xs[i]'(by omega)) := List.getElem?_eq_getElem _
    have hyi : ys[i]? = some (ys[i]'(by omega)) := List.getElem?_eq_getElem _
    unfold thicketref05_Do.l16 thicketref05_Do.g16
    refine onDec_t (by omega) ?_
    refine onEq_t (by omega) ?_
    refine ⟨PF (enW ((xs[i]'(by omega)) &&& (ys[i]'(by omega)))), PF.keep, ?_⟩
    refine Sl.rdW (hx.keep hk) (fun _ => rfl) (by omega) (by omega) fun x hx2 => ?_
    refine Sl.rdW (hy.keep hk) (fun _ => rfl) (by omega) (by omega) fun y hy2 => ?_
    rw [Int.toNat_natCast] at hx2 hy2
    rw [hxi] at hx2
    rw [hyi] at hy2
    obtain rfl := Option.some.inj hx2
    obtain rfl := Option.some.inj hy2
    rw [and64]
    refine nv_mk rfl ?_
    refine Arr.pushD S_W ha (x := (xs[i]'(by omega)) &&& (ys[i]'(by omega))) rfl rfl (by simp only [maxLen]; omega) (by omega) fun a' c' g' u u' hu h1 h2 h3 h4 => ⟨_, _, _, rfl, ?_⟩
    refine nv_succ (by omega) ?_
    have hsz := hk.size
    refine do_and_loop hx hy hm hR k (i + 1) a' c' g' u' (by omega) ?_ (by omega) (Kept.own (Kept.trans hk hu) h4 hg)
    rw [List.take_add_one, List.getElem?_zipWith, hxi, hyi]
    exact h1
theorem Do1_c (hx : Sl enW w a n xs) (hy : Sl enW w b m ys) (hm : n ≤ 16777216) : E.CallsD Go.Proofs.Tryd.prog 33 #[.slice a n c, .slice b m d, .int .i64 1] w fun v u => ∃ a' n' c', v = .tuple #[.slice a' n' c', .int .i64 (zipA (· &&& ·) xs ys).2] ∧ New enW 56 w u a' n' c' (zipA (· &&& ·) xs ys).1 := by
  refine thicketref05_Do.calls ?_
  unfold thicketref05_Do thicketref05_Do.g0 zipA
  have h1 := hx.len
  have h2 := hy.len
  refine onNe (fun hne => ?_) (fun he => ?_)
  · rw [if_neg (by omega)]
    exact ⟨none, 0, 0, rfl, 0, Arr.nil _ _ _, .inr rfl, Kept.refl _⟩
  · obtain rfl : n = m := by omega
    rw [if_pos (by omega)]
    exact ⟨n + 1, do_and_loop hx hy hm (fun e f g u hu hg hk => ⟨_, _, _, rfl, g, hu, hg, hk⟩) n 0 none 0 0 w (by omega) (Arr.nil _ _ _) (.inr rfl) (Kept.refl _)⟩
theorem do_or_loop {R : Value → World → Prop} {w0 : World} {a b : Option Addr} {n c d : Nat} {xs ys : W} (hx : Sl enW w0 a n xs) (hy : Sl enW w0 b n ys) (hm : n ≤ 16777216)
    (hR : ∀ e f g u, Arr enW 56 u e n f (xs.zipWith (· ||| ·) ys) g → (w0.heap.size < g ∨ g = 0) → Kept w0 u → R (.tuple #[.slice e n f, .int .i64 0]) u) :
    ∀ (k i : Nat) (e : Option Addr) (f g : Nat) (w : World), i + k = n → Arr enW 56 w e i f ((xs.zipWith (· ||| ·) ys).take i) g → (w0.heap.size < g ∨ g = 0) → Kept w0 w → thicketref05_Do.l16 R (k + 1) a n c b n d 2 e i f n i w
  | 0, i, e, f, g, w, hi, ha, hg, hk => by
    have := hx.len
    have := hy.len
    unfold thicketref05_Do.l16 thicketref05_Do.g16
    refine onDec_f (by omega) ?_
    obtain rfl : i = n := by omega
    rw [List.take_of_length_le (by simp; omega)] at ha
    exact hR e f g w ha hg hk
  | k + 1, i, e, f, g, w, hi, ha, hg, hk => by
    have := hx.len
    have := hy.len
    have hxi : xs[i]? = some (xs[i]'(by omega)) := List.getElem?_eq_getElem _
    have hyi : ys[i]? = some (ys[i]'(by omega)) := List.getElem?_eq_getElem _
    unfold thicketref05_Do.l16 thicketref05_Do.g16
    refine onDec_t (by omega) ?_
    refine onEq_f (by omega) ?_
    refine onEq_t (by omega) ?_
    refine ⟨PF (enW ((xs[i]'(by omega)) ||| (ys[i]'(by omega)))), PF.keep, ?_⟩
    refine Sl.rdW (hx.keep hk) (fun _ => rfl) (by omega) (by omega) fun x hx2 => ?_
    refine Sl.rdW (hy.keep hk) (fun _ => rfl) (by omega) (by omega) fun y hy2 => ?_
    rw [Int.toNat_natCast] at hx2 hy2
    rw [hxi] at hx2
    rw [hyi] at hy2
    obtain rfl := Option.some.inj hx2
    obtain rfl := Option.some.inj hy2
    rw [or64]
    refine nv_mk rfl ?_
    refine Arr.pushD S_W ha (x := (xs[i]'(by omega)) ||| (ys[i]'(by omega))) rfl rfl (by simp only [maxLen]; omega) (by omega) fun a' c' g' u u' hu h1 h2 h3 h4 => ⟨_, _, _, rfl, ?_⟩
    refine nv_succ (by omega) ?_
    have hsz := hk.size
    refine do_or_loop hx hy hm hR k (i + 1) a' c' g' u' (by omega) ?_ (by omega) (Kept.own (Kept.trans hk hu) h4 hg)
    rw [List.take_add_one, List.getElem?_zipWith, hxi, hyi]
    exact h1
theorem Do2_c (hx : Sl enW w a n xs) (hy : Sl enW w b m ys) (hm : n ≤ 16777216) : E.CallsD Go.Proofs.Tryd.prog 33 #[.slice a n c, .slice b m d, .int .i64 2] w fun v u => ∃ a' n' c', v = .tuple #[.slice a' n' c', .int .i64 (zipA (· ||| ·) xs ys).2] ∧ New enW 56 w u a' n' c' (zipA (· ||| ·) xs ys).1 := by
  refine thicketref05_Do.calls ?_
  unfold thicketref05_Do thicketref05_Do.g0 zipA
  have h1 := hx.len
  have h2 := hy.len
  refine onNe (fun hne => ?_) (fun he => ?_)
  · rw [if_neg (by omega)]
    exact ⟨none, 0, 0, rfl, 0, Arr.nil _ _ _, .inr rfl, Kept.refl _⟩
  · obtain rfl : n = m := by omega
    rw [if_pos (by omega)]
    exact ⟨n + 1, do_or_loop hx hy hm (fun e f g u hu hg hk => ⟨_, _, _, rfl, g, hu, hg, hk⟩) n 0 none 0 0 w (by omega) (Arr.nil _ _ _) (.inr rfl) (Kept.refl _)⟩
theorem do_xor_loop {R : Value → World → Prop} {w0 : World} {a b : Option Addr} {n c d : Nat} {xs ys : W} (hx : Sl enW w0 a n xs) (hy : Sl enW w0 b n ys) (hm : n ≤ 16777216)
    (hR : ∀ e f g u, Arr enW 56 u e n f (xs.zipWith (· ^^^ ·) ys) g → (w0.heap.size < g ∨ g = 0) → Kept w0 u → R (.tuple #[.slice e n f, .int .i64 0]) u) :
    ∀ (k i : Nat) (e : Option Addr) (f g : Nat) (w : World), i + k = n → Arr enW 56 w e i f ((xs.zipWith (· ^^^ ·) ys).take i) g → (w0.heap.size < g ∨ g = 0) → Kept w0 w → thicketref05_Do.l16 R (k + 1) a n c b n d 3 e i f n i w
  | 0, i, e, f, g, w, hi, ha, hg, hk => by
    have := hx.len
    have := hy.len
    unfold thicketref05_Do.l16 thicketref05_Do.g16
    refine onDec_f (by omega) ?_
    obtain rfl : i = n := by omega
    rw [List.take_of_length_le (by simp; omega)] at ha
    exact hR e f g w ha hg hk
  | k + 1, i, e, f, g, w, hi, ha, hg, hk => by
    have := hx.len
    have := hy.len
    have hxi : xs[i]? = some (xs[i]'(by omega)) := List.getElem?_eq_getElem _
    have hyi : ys[i]? = some (ys[i]'(by omega)) := List.getElem?_eq_getElem _
    unfold thicketref05_Do.l16 thicketref05_Do.g16
    refine onDec_t (by omega) ?_
    refine onEq_f (by omega) ?_
    refine onEq_f (by omega) ?_
    refine ⟨PF (enW ((xs[i]'(by omega)) ^^^ (ys[i]'(by omega)))), PF.keep, ?_⟩
    refine Sl.rdW (hx.keep hk) (fun _ => rfl) (by omega) (by omega) fun x hx2 => ?_
    refine Sl.rdW (hy.keep hk) (fun _ => rfl) (by omega) (by omega) fun y hy2 => ?_
    rw [Int.toNat_natCast] at hx2 hy2
    rw [hxi] at hx2
    rw [hyi] at hy2
    obtain rfl := Option.some.inj hx2
    obtain rfl := Option.some.inj hy2
    rw [xor64]
    refine nv_mk rfl ?_
    refine Arr.pushD S_W ha (x := (xs[i]'(by omega)) ^^^ (ys[i]'(by omega))) rfl rfl (by simp only [maxLen]; omega) (by omega) fun a' c' g' u u' hu h1 h2 h3 h4 => ⟨_, _, _, rfl, ?_⟩
    refine nv_succ (by omega) ?_
    have hsz := hk.size
    refine do_xor_loop hx hy hm hR k (i + 1) a' c' g' u' (by omega) ?_ (by omega) (Kept.own (Kept.trans hk hu) h4 hg)
    rw [List.take_add_one, List.getElem?_zipWith, hxi, hyi]
    exact h1
theorem Do3_c (hx : Sl enW w a n xs) (hy : Sl enW w b m ys) (hm : n ≤ 16777216) : E.CallsD Go.Proofs.Tryd.prog 33 #[.slice a n c, .slice b m d, .int .i64 3] w fun v u => ∃ a' n' c', v = .tuple #[.slice a' n' c', .int .i64 (zipA (· ^^^ ·) xs ys).2] ∧ New enW 56 w u a' n' c' (zipA (· ^^^ ·) xs ys).1 := by
  refine thicketref05_Do.calls ?_
  unfold thicketref05_Do thicketref05_Do.g0 zipA
  have h1 := hx.len
  have h2 := hy.len
  refine onNe (fun hne => ?_) (fun he => ?_)
  · rw [if_neg (by omega)]
    exact ⟨none, 0, 0, rfl, 0, Arr.nil _ _ _, .inr rfl, Kept.refl _⟩
  · obtain rfl : n = m := by omega
    rw [if_pos (by omega)]
    exact ⟨n + 1, do_xor_loop hx hy hm (fun e f g u hu hg hk => ⟨_, _, _, rfl, g, hu, hg, hk⟩) n 0 none 0 0 w (by omega) (Arr.nil _ _ _) (.inr rfl) (Kept.refl _)⟩

end
end Go.Mir
