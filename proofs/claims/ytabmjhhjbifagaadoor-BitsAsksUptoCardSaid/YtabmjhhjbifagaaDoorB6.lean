/- Part of a proof of laws of the seat YtabmjhhjbifagaaDoor: functions' weakest preconditions, each checked by the kernel, and contracts out of them; no conditions. -/
import Derived.Test.YtabmjhhjbifagaaDoorB5
import Derived.Test.YtabmjhhjbifagaaDoorBM4
set_option linter.unusedVariables false
set_option linter.unusedSimpArgs false
namespace Go.Mir
open Go Go.E Go.RowKit Go.Bt
theorem Kept.only {w w1 u : World} {g : Nat} (h : Kept w w1) (ho : Only g w1 u) (hg : w.heap.size < g) : Kept w u := by
  have s1 : From w.heap.size w w1 := Kept.mod h
  exact (From.then s1 ho fun k h4 h5 => by omega).kept
theorem Only.kept {w u x : World} {g : Nat} (h : Only g w u) (k : Kept u x) : Only g w x := Mod.trans (S := fun k => k + 1 = g) h (Kept.mod (S := fun _ => False) k) (fun _ _ h => h) (fun _ _ h => h.elim)
theorem Only.then {w u x : World} {g : Nat} (h : Only g w u) (k : Only g u x) : Only g w x := Mod.trans (S := fun k => k + 1 = g) h k (fun _ _ h => h) (fun _ _ h => h)
section
variable {w : World} {a b : Option Addr} {n c m d g : Nat} {xs ys : W} {i : Int}
abbrev enN (i : Nat) : Value := .int .i64 (i : Int)
theorem S_I : SliceT Go.Proofs.Tryd.prog 51 3 1 8 := sliceT (by kernel_rfl)
theorem S_B : SliceT Go.Proofs.Tryd.prog 63 5 1 1 := sliceT (by kernel_rfl)

/-! ### Print -/
def prB (xs : W) (n : Nat) : List UInt8 := (List.range n).map fun i => if bit xs i then 49 else 48
theorem prB_at {xs : W} {n i : Nat} (h : i < n) : (prB xs n)[i]? = some (if bit xs i then 49 else 48) := by simp [prB, h]
theorem Print_loop {R : Value → World → Prop} {w0 w1 : World} {a : Option Addr} {n c d g N : Nat} (hx : Sl enW w0 a n xs) (hk0 : Kept w0 w1) (hg : w0.heap.size < g) (hN : N ≤ 1048576)
    (hR : ∀ u, Arr enB 5 u b N d (prB xs N) g → Only g w1 u → R (.tuple #[.string ⟨(prB xs N).toArray⟩, .int .i64 0]) u) :
    ∀ (k i : Nat) (w : World), i + k = N → Arr enB 5 w b N d (mix (prB xs N) (List.replicate N 0) i) g → Only g w1 w → bits_Print.l31 R (k + 1) a n c b N d N i w
  | 0, i, w, hi, ha, ho => by
    unfold bits_Print.l31 bits_Print.g31
    refine onDec_f (by omega) ?_
    have hl : (List.replicate N (0 : UInt8)).length = (prB xs N).length := by simp [prB]
    have hf := mix_full hl
    rw [List.length_replicate] at hf
    obtain rfl : i = N := by omega
    rw [hf] at ha
    exact rawN_bytes (e := 5) (by kernel_rfl) (by kernel_rfl) (by kernel_rfl) ha.sl ⟨_, rfl, hR w ha ho⟩
  | k + 1, i, w, hi, ha, ho => by
    have hl : (List.replicate N (0 : UInt8)).length = (prB xs N).length := by simp [prB]
    unfold bits_Print.l31 bits_Print.g31
    refine onDec_t (by omega) ?_
    refine Arr.wr ha (by omega) (by omega) (x := 48) rfl fun u hu mu => ?_
    rw [Int.toNat_natCast] at hu
    have ho1 := Only.then ho mu
    have hxu := hx.keep (Kept.only hk0 ho1 hg)
    refine E.CallsD.mono (Has_c hxu (by omega)) fun v u2 ⟨hv, hk⟩ => ⟨_, hv, ?_⟩
    have ho2 := Only.kept ho1 hk
    have hu2 := hu.kept hk
    have hh : has xs i = bit xs i := by unfold has; simp
    rw [hh]
    refine onBool_mk (fun hb => ?_) (fun hb => ?_)
    · refine Arr.wr hu2 (by omega) (by omega) (x := 49) rfl fun u3 hu3 mu3 => ?_
      refine nv_succ (by omega) ?_
      rw [Int.toNat_natCast, List.set_set, mix_step hl (x := 49) (by rw [prB_at (by omega), hb]; rfl)] at hu3
      exact Print_loop hx hk0 hg hN hR k (i + 1) u3 (by omega) hu3 (Only.then ho2 mu3)
    · refine nv_succ (by omega) ?_
      rw [mix_step hl (x := 48) (by rw [prB_at (by omega), hb]; rfl)] at hu2
      exact Print_loop hx hk0 hg hN hR k (i + 1) u2 (by omega) hu2 ho2
/-- What is printed, and the error. -/
def prOf (xs : W) (n : Int) : List UInt8 × Int := if n < 0 ∨ 1048576 < n then ([], 2) else if nW n ≠ xs.length then ([], 6) else if high xs ≥ n then ([], 50) else (prB xs n.toNat, 0)
theorem Print_c (hx : Sl enW w a n xs) (hm : n ≤ 16777216) (N : Int) : Pure Go.Proofs.Tryd.prog 26 #[.slice a n c, .int .i64 N] w (.tuple #[.string ⟨(prOf xs N).1.toArray⟩, .int .i64 (prOf xs N).2]) := by
  refine bits_Print.calls (R := fun v' u => v' = _ ∧ Below w.heap.size w u) ?_
  unfold bits_Print bits_Print.g0
  have hl := hx.len
  by_cases h0 : N < 0 ∨ 1048576 < N
  · unfold prOf
    rw [if_pos h0]
    refine E.CallsD.mono (Words_no h0 w) fun v u ⟨hv, hk⟩ => ⟨_, _, hv, ?_⟩
    refine onNe_t (by omega) ?_
    exact ⟨rfl, hk⟩
  · unfold prOf
    rw [if_neg h0]
    refine E.CallsD.mono (Words_ok (by omega) (by omega) w) fun v u ⟨hv, hk⟩ => ⟨_, _, hv, ?_⟩
    refine onNe_f (by omega) ?_
    by_cases h1 : nW N ≠ xs.length
    · rw [if_pos h1]
      refine onNe_t (by omega) ?_
      exact ⟨rfl, hk⟩
    · rw [if_neg h1]
      refine onNe_f (by omega) ?_
      refine E.CallsD.mono (Highest_c (hx.keep hk) hm) fun v u1 ⟨hv, hk1⟩ => ⟨_, hv, ?_⟩
      have hk1' := Kept.trans hk hk1
      by_cases h2 : high xs ≥ N
      · rw [if_pos h2]
        refine onDec_t (by omega) ?_
        exact ⟨rfl, hk1'⟩
      · rw [if_neg h2]
        refine onDec_f (by omega) ?_
        refine Arr.make (en := enB) (x := 0) rfl (by omega) (by omega) (by omega) fun u2 hb hk2 => ?_
        have e : ((N.toNat : Nat) : Int) = N := by omega
        refine ⟨N.toNat + 1, Print_loop hx (Kept.trans hk1' hk2) (g := u1.heap.size + 1) (by have := hk1'.size; omega) (by omega) (fun u3 _ ho => ⟨rfl, ?_⟩) N.toNat 0 u2 (by omega) (by rwa [mix_zero]) (Mod.refl _)⟩
        exact Kept.only (Kept.trans hk1' hk2) ho (by have := hk1'.size; omega)
end
end Go.Mir
