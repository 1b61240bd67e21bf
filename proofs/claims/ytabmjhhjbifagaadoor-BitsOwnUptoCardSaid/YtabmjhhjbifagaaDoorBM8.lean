/- Part of a proof of laws of the seat YtabmjhhjbifagaaDoor: functions' weakest preconditions, each checked by the kernel, contracts out of them, plain lemmas; no conditions. -/
import Derived.Test.YtabmjhhjbifagaaDoorBMA
set_option linter.unusedVariables false
set_option linter.unusedSimpArgs false
set_option linter.unusedVariables false
namespace Go.Mir
open Go Go.E Go.RowKit
-- thicket/bits.Rank
def bits_Rank.an : An := An.nil
def bits_Rank.g0 (R : Value → World → Prop) (a0 : Option Addr) (n0 : Nat) (c0 : Nat) (x1 : Int) (w : World) : Prop :=
  onBool (decide (x1 < 0))
    (R (.int .i64 0) w)
    (nv (IntKind.i64.wrap (Int.tdiv x1 64)) fun t23 =>
    onBool (decide (t23 ≥ (n0 : Int)))
      (Go.E.CallsD Go.Proofs.Tryd.prog 25 #[.slice a0 n0 c0] w fun yv24 u25 =>
        ∃ yx_26 : Int, yv24 = .int .i64 yx_26 ∧
          (R (.int .i64 yx_26) u25))
      (nv (IntKind.i64.wrap (Int.tdiv x1 64)) fun t27 =>
      chk ((0 : Int) ≤ t27 ∧ t27 ≤ (c0 : Int))
        (∃ yx_28 : Int, (∀ u29 : World, Below w.heap.size w u29 → Go.E.CallsD Go.Proofs.Tryd.prog 25 #[.slice (slA a0 c0 0 1) t27.toNat c0] u29 fun yv30 u31 => yv30 = .int .i64 yx_28 ∧ Below w.heap.size w u31) ∧
          (nv (IntKind.i64.wrap (Int.tdiv x1 64)) fun t32 =>
          optN a0 fun q33 =>
          chk ((0 : Int) ≤ t32 ∧ t32 < (n0 : Int))
            (∃ yx_34 : Int, w.cell? (q33.add (t32.toNat * 1)) = some (.int .u64 yx_34) ∧
              (nv (Int.tmod x1 64) fun t35 =>
              nchk (t35 < 0)
                (nv (IntKind.u64.wrap (1 * 2 ^ (min t35.toNat 64))) fun t36 =>
                nv (IntKind.u64.wrap (t36 - 1)) fun t37 =>
                nv (bitsI .and .u64 yx_34 t37) fun t38 =>
                ∃ yx_39 : Int, (∀ u40 : World, Below w.heap.size w u40 → Go.E.CallsD Go.Proofs.Tryd.prog 55 #[.int .u64 t38] u40 fun yv41 u42 => yv41 = .int .i64 yx_39 ∧ Below w.heap.size w u42) ∧
                  (nv (IntKind.i64.wrap (yx_28 + yx_39)) fun t43 =>
                  ∀ u44 : World, Below w.heap.size w u44 →
                    R (.int .i64 t43) u44))))))))
def bits_Rank (R : Value → World → Prop) (a0 : Option Addr) (n0 : Nat) (c0 : Nat) (x1 : Int) (w : World) : Prop := bits_Rank.g0 R a0 n0 c0 x1 w
theorem bits_Rank.root0 (R : Value → World → Prop) (a0 : Option Addr) (n0 : Nat) (c0 : Nat) (x1 : Int) (w : World) : fnN Go.Proofs.Tryd.prog Go.Proofs.Tryd.f48 bits_Rank.an #[.slice a0 n0 c0, .int .i64 x1] w R = bits_Rank.g0 R a0 n0 c0 x1 w := by kernel_rfl
theorem bits_Rank.calls {R : Value → World → Prop} {a0 : Option Addr} {n0 : Nat} {c0 : Nat} {x1 : Int} {w : World} (h : bits_Rank R a0 n0 c0 x1 w) : Go.E.CallsD Go.Proofs.Tryd.prog 48 #[.slice a0 n0 c0, .int .i64 x1] w R := by
  refine callsD_of (n := bits_Rank.an) M_follows M_sizes Go.Proofs.Tryd.func48 (by rfl) ?_
  rw [bits_Rank.root0]
  unfold bits_Rank at h
  exact h
-- thicket/thicketref05.Rank
def thicketref05_Rank.an : An := (.mk none .nil (.mk none .nil (.mk none (.mk none .nil (.mk none (.mk (some [1, 5, 9, 10, 11]) .nil .nil) .nil)) .nil)))
def thicketref05_Rank.g0 (R : Value → World → Prop) (e8 : Int → Int → (Option Addr) → Nat → Nat → Int → Int → World → Prop) (a0 : Option Addr) (n0 : Nat) (c0 : Nat) (x1 : Int) (w : World) : Prop :=
  Go.E.CallsD Go.Proofs.Tryd.prog 47 #[.slice a0 n0 c0] w fun yv8 u9 =>
    ∃ ya_10 : Option Addr, ∃ yn_10 : Nat, ∃ yc_10 : Nat, yv8 = .slice ya_10 yn_10 yc_10 ∧
      (e8 x1 0 ya_10 yn_10 yc_10 (yn_10 : Int) 0 u9)
def thicketref05_Rank.g8 (R : Value → World → Prop) (b8 : Int → Int → (Option Addr) → Nat → Nat → Int → Int → World → Prop) (x1 : Int) (x5 : Int) (a9 : Option Addr) (n9 : Nat) (c9 : Nat) (x10 : Int) (x11 : Int) (w : World) : Prop :=
  onBool (decide (x11 < x10))
    (optN a9 fun q11 =>
    chk ((0 : Int) ≤ x11 ∧ x11 < (n9 : Int))
      (∃ yx_12 : Int, w.cell? (q11.add (x11.toNat * 1)) = some (.int .i64 yx_12) ∧
        (onBool (decide (yx_12 < x1))
          (nv (IntKind.i64.wrap (x5 + 1)) fun t13 =>
          nv (IntKind.i64.wrap (x11 + 1)) fun t14 =>
          b8 x1 t13 a9 n9 c9 x10 t14 w)
          (nv (IntKind.i64.wrap (x11 + 1)) fun t15 =>
          b8 x1 x5 a9 n9 c9 x10 t15 w))))
    (R (.int .i64 x5) w)
def thicketref05_Rank.q2 (R : Value → World → Prop) : Exit → Act → World → Prop := (fin Go.Proofs.Tryd.prog Go.Proofs.Tryd.f49 R)
def thicketref05_Rank.q4 (R : Value → World → Prop) : Exit → Act → World → Prop := (thicketref05_Rank.q2 R)
def thicketref05_Rank.q5 (R : Value → World → Prop) : Exit → Act → World → Prop := Exit.then (startN none (codeN Go.Proofs.Tryd.prog (sub (codeOf Go.Proofs.Tryd.f49) [1, 1, 1]) (nsub thicketref05_Rank.an [1, 1, 1]) (thicketref05_Rank.q4 R))) (thicketref05_Rank.q4 R)
def thicketref05_Rank.q7 (R : Value → World → Prop) : Exit → Act → World → Prop := (thicketref05_Rank.q5 R)
def thicketref05_Rank.q8 (R : Value → World → Prop) : Exit → Act → World → Prop := Exit.inBlock 0 (thicketref05_Rank.q7 R)
def thicketref05_Rank.rl8 (R : Value → World → Prop) (k : Nat) (x1 : Int) (x5 : Int) (a9 : Option Addr) (n9 : Nat) (c9 : Nat) (x10 : Int) (x11 : Int) (w : World) : Prop := loopN [1, 5, 9, 10, 11] (codeN Go.Proofs.Tryd.prog (sub (codeOf Go.Proofs.Tryd.f49) [1, 1, 0, 1, 0, 0]) (nsub thicketref05_Rank.an [1, 1, 0, 1, 0, 0])) (thicketref05_Rank.q8 R) k ⟨#[undef, .int .i64 x1, undef, undef, undef, .int .i64 x5, undef, undef, undef, .slice a9 n9 c9, .int .i64 x10, .int .i64 x11, undef, undef, undef, undef, undef, undef, undef, undef, undef, undef], []⟩ w
def thicketref05_Rank.re8 (R : Value → World → Prop) (x1 : Int) (x5 : Int) (a9 : Option Addr) (n9 : Nat) (c9 : Nat) (x10 : Int) (x11 : Int) (w : World) : Prop := ∃ k, thicketref05_Rank.rl8 R k x1 x5 a9 n9 c9 x10 x11 w
def thicketref05_Rank.l8 (R : Value → World → Prop) : Nat → Int → Int → (Option Addr) → Nat → Nat → Int → Int → World → Prop
  | 0, _, _, _, _, _, _, _, _ => False
  | k + 1, x1, x5, a9, n9, c9, x10, x11, w => thicketref05_Rank.g8 R (thicketref05_Rank.l8 R k) x1 x5 a9 n9 c9 x10 x11 w
def thicketref05_Rank.e8 (R : Value → World → Prop) (x1 : Int) (x5 : Int) (a9 : Option Addr) (n9 : Nat) (c9 : Nat) (x10 : Int) (x11 : Int) (w : World) : Prop := ∃ k, thicketref05_Rank.l8 R k x1 x5 a9 n9 c9 x10 x11 w
theorem thicketref05_Rank.s8 (R : Value → World → Prop) (k : Nat) (x1 : Int) (x5 : Int) (a9 : Option Addr) (n9 : Nat) (c9 : Nat) (x10 : Int) (x11 : Int) (w : World) : thicketref05_Rank.rl8 R (k + 1) x1 x5 a9 n9 c9 x10 x11 w = ∀ _ : Nat → Value, thicketref05_Rank.g8 R (thicketref05_Rank.rl8 R k) x1 x5 a9 n9 c9 x10 x11 w := by kernel_rfl
theorem thicketref05_Rank.lq8 (R : Value → World → Prop) : ∀ k, thicketref05_Rank.l8 R k = thicketref05_Rank.rl8 R k
  | 0 => by funext x1 x5 a9 n9 c9 x10 x11 w; rfl
  | k + 1 => by
    funext x1 x5 a9 n9 c9 x10 x11 w
    rw [thicketref05_Rank.s8, forall_const]
    unfold thicketref05_Rank.l8
    have ih := thicketref05_Rank.lq8 R k
    rw [ih]
    all_goals rfl
theorem thicketref05_Rank.eq8 (R : Value → World → Prop) : thicketref05_Rank.e8 R = thicketref05_Rank.re8 R := by
  funext x1 x5 a9 n9 c9 x10 x11 w
  unfold thicketref05_Rank.e8 thicketref05_Rank.re8
  simp only [thicketref05_Rank.lq8 R]
def thicketref05_Rank (R : Value → World → Prop) (a0 : Option Addr) (n0 : Nat) (c0 : Nat) (x1 : Int) (w : World) : Prop := thicketref05_Rank.g0 R (thicketref05_Rank.e8 R) a0 n0 c0 x1 w
theorem thicketref05_Rank.root0 (R : Value → World → Prop) (a0 : Option Addr) (n0 : Nat) (c0 : Nat) (x1 : Int) (w : World) : fnN Go.Proofs.Tryd.prog Go.Proofs.Tryd.f49 thicketref05_Rank.an #[.slice a0 n0 c0, .int .i64 x1] w R = thicketref05_Rank.g0 R (thicketref05_Rank.re8 R) a0 n0 c0 x1 w := by kernel_rfl
theorem thicketref05_Rank.calls {R : Value → World → Prop} {a0 : Option Addr} {n0 : Nat} {c0 : Nat} {x1 : Int} {w : World} (h : thicketref05_Rank R a0 n0 c0 x1 w) : Go.E.CallsD Go.Proofs.Tryd.prog 49 #[.slice a0 n0 c0, .int .i64 x1] w R := by
  refine callsD_of (n := thicketref05_Rank.an) M_follows M_sizes Go.Proofs.Tryd.func49 (by rfl) ?_
  rw [thicketref05_Rank.root0]
  unfold thicketref05_Rank at h
  rw [thicketref05_Rank.eq8 R] at h
  exact h
-- thicket/bits.Select
def bits_Select.an : An := (.mk none .nil (.mk none .nil (.mk none (.mk none .nil (.mk none (.mk (some [1, 10, 11, 12]) (.mk none .nil (.mk none .nil (.mk none (.mk none (.mk none .nil (.mk none .nil (.mk none .nil (.mk none (.mk none .nil (.mk none (.mk (some [5, 6, 25, 26]) .nil .nil) .nil)) .nil)))) .nil) .nil))) .nil) .nil)) .nil)))
def bits_Select.g0 (R : Value → World → Prop) (e14 : Int → (Option Addr) → Nat → Nat → Int → Int → World → Prop) (a0 : Option Addr) (n0 : Nat) (c0 : Nat) (x1 : Int) (w : World) : Prop :=
  onBool (decide (x1 < 0))
    (R (.int .i64 (-1)) w)
    (e14 x1 a0 n0 c0 (n0 : Int) 0 w)
def bits_Select.g14 (R : Value → World → Prop) (b14 : Int → (Option Addr) → Nat → Nat → Int → Int → World → Prop) (e39 : Int → Int → Int → Int → World → Prop) (x1 : Int) (a10 : Option Addr) (n10 : Nat) (c10 : Nat) (x11 : Int) (x12 : Int) (w : World) : Prop :=
  onBool (decide (x12 < x11))
    (optN a10 fun q16 =>
    chk ((0 : Int) ≤ x12 ∧ x12 < (n10 : Int))
      (∃ yx_17 : Int, w.cell? (q16.add (x12.toNat * 1)) = some (.int .u64 yx_17) ∧
        (Go.E.CallsD Go.Proofs.Tryd.prog 55 #[.int .u64 yx_17] w fun yv18 u19 =>
          ∃ yx_20 : Int, yv18 = .int .i64 yx_20 ∧
            (onBool (decide (x1 ≥ yx_20))
              (nv (IntKind.i64.wrap (x1 - yx_20)) fun t21 =>
              nv (IntKind.i64.wrap (x12 + 1)) fun t22 =>
              b14 t21 a10 n10 c10 x11 t22 u19)
              (e39 x12 yx_17 x1 0 u19)))))
    (R (.int .i64 (-1)) w)
def bits_Select.g39 (R : Value → World → Prop) (b39 : Int → Int → Int → Int → World → Prop) (x5 : Int) (x6 : Int) (x25 : Int) (x26 : Int) (w : World) : Prop :=
  onBool (decide (x26 < x25))
    (nv (IntKind.u64.wrap (x6 - 1)) fun t23 =>
    nv (bitsI .and .u64 x6 t23) fun t24 =>
    nv (IntKind.i64.wrap (x26 + 1)) fun t25 =>
    b39 x5 t24 x25 t25 w)
    (nv (IntKind.i64.wrap (64 * x5)) fun t26 =>
    Go.E.CallsD Go.Proofs.Tryd.prog 60 #[.int .u64 x6] w fun yv27 u28 =>
      ∃ yx_29 : Int, yv27 = .int .i64 yx_29 ∧
        (nv (IntKind.i64.wrap (t26 + yx_29)) fun t30 =>
        R (.int .i64 t30) u28))
def bits_Select.q2 (R : Value → World → Prop) : Exit → Act → World → Prop := (fin Go.Proofs.Tryd.prog Go.Proofs.Tryd.f50 R)
def bits_Select.q10 (R : Value → World → Prop) : Exit → Act → World → Prop := (bits_Select.q2 R)
def bits_Select.q11 (R : Value → World → Prop) : Exit → Act → World → Prop := Exit.then (startN none (codeN Go.Proofs.Tryd.prog (sub (codeOf Go.Proofs.Tryd.f50) [1, 1, 1]) (nsub bits_Select.an [1, 1, 1]) (bits_Select.q10 R))) (bits_Select.q10 R)
def bits_Select.q13 (R : Value → World → Prop) : Exit → Act → World → Prop := (bits_Select.q11 R)
def bits_Select.q14 (R : Value → World → Prop) : Exit → Act → World → Prop := Exit.inBlock 0 (bits_Select.q13 R)
def bits_Select.rl14 (R : Value → World → Prop) (k : Nat) (x1 : Int) (a10 : Option Addr) (n10 : Nat) (c10 : Nat) (x11 : Int) (x12 : Int) (w : World) : Prop := loopN [1, 10, 11, 12] (codeN Go.Proofs.Tryd.prog (sub (codeOf Go.Proofs.Tryd.f50) [1, 1, 0, 1, 0, 0]) (nsub bits_Select.an [1, 1, 0, 1, 0, 0])) (bits_Select.q14 R) k ⟨#[undef, .int .i64 x1, undef, undef, undef, undef, undef, undef, undef, undef, .slice a10 n10 c10, .int .i64 x11, .int .i64 x12, undef, undef, undef, undef, undef, undef, undef, undef, undef, undef, undef, undef, undef, undef, undef, undef, undef, undef, undef, undef, undef, undef, undef, undef, undef, undef], []⟩ w
def bits_Select.re14 (R : Value → World → Prop) (x1 : Int) (a10 : Option Addr) (n10 : Nat) (c10 : Nat) (x11 : Int) (x12 : Int) (w : World) : Prop := ∃ k, bits_Select.rl14 R k x1 a10 n10 c10 x11 x12 w
def bits_Select.q15 (R : Value → World → Prop) (k14 : Nat) : Exit → Act → World → Prop := Exit.then (fun a w => loopN [1, 10, 11, 12] (codeN Go.Proofs.Tryd.prog (sub (codeOf Go.Proofs.Tryd.f50) [1, 1, 0, 1, 0, 0]) (nsub bits_Select.an [1, 1, 0, 1, 0, 0])) (bits_Select.q14 R) k14 (clr [1, 10, 11, 12] a) w) (bits_Select.q14 R)
def bits_Select.q17 (R : Value → World → Prop) (k14 : Nat) : Exit → Act → World → Prop := (bits_Select.q15 R k14)
def bits_Select.q21 (R : Value → World → Prop) (k14 : Nat) : Exit → Act → World → Prop := (bits_Select.q17 R k14)
def bits_Select.q22 (R : Value → World → Prop) (k14 : Nat) : Exit → Act → World → Prop := Exit.then (startN none (codeN Go.Proofs.Tryd.prog (sub (codeOf Go.Proofs.Tryd.f50) [1, 1, 0, 1, 0, 0, 1, 1, 1]) (nsub bits_Select.an [1, 1, 0, 1, 0, 0, 1, 1, 1]) (bits_Select.q21 R k14))) (bits_Select.q21 R k14)
def bits_Select.q23 (R : Value → World → Prop) (k14 : Nat) : Exit → Act → World → Prop := Exit.inBlock 1 (bits_Select.q22 R k14)
def bits_Select.q25 (R : Value → World → Prop) (k14 : Nat) : Exit → Act → World → Prop := (bits_Select.q23 R k14)
def bits_Select.q27 (R : Value → World → Prop) (k14 : Nat) : Exit → Act → World → Prop := (bits_Select.q25 R k14)
def bits_Select.q35 (R : Value → World → Prop) (k14 : Nat) : Exit → Act → World → Prop := (bits_Select.q27 R k14)
def bits_Select.q36 (R : Value → World → Prop) (k14 : Nat) : Exit → Act → World → Prop := Exit.then (startN none (codeN Go.Proofs.Tryd.prog (sub (codeOf Go.Proofs.Tryd.f50) [1, 1, 0, 1, 0, 0, 1, 1, 0, 0, 1, 1, 1, 1]) (nsub bits_Select.an [1, 1, 0, 1, 0, 0, 1, 1, 0, 0, 1, 1, 1, 1]) (bits_Select.q35 R k14))) (bits_Select.q35 R k14)
def bits_Select.q38 (R : Value → World → Prop) (k14 : Nat) : Exit → Act → World → Prop := (bits_Select.q36 R k14)
def bits_Select.q39 (R : Value → World → Prop) (k14 : Nat) : Exit → Act → World → Prop := Exit.inBlock 2 (bits_Select.q38 R k14)
def bits_Select.rl39 (R : Value → World → Prop) (k14 : Nat) (k : Nat) (x5 : Int) (x6 : Int) (x25 : Int) (x26 : Int) (w : World) : Prop := loopN [5, 6, 25, 26] (codeN Go.Proofs.Tryd.prog (sub (codeOf Go.Proofs.Tryd.f50) [1, 1, 0, 1, 0, 0, 1, 1, 0, 0, 1, 1, 1, 0, 1, 0, 0]) (nsub bits_Select.an [1, 1, 0, 1, 0, 0, 1, 1, 0, 0, 1, 1, 1, 0, 1, 0, 0])) (bits_Select.q39 R k14) k ⟨#[undef, undef, undef, undef, undef, .int .i64 x5, .int .u64 x6, undef, undef, undef, undef, undef, undef, undef, undef, undef, undef, undef, undef, undef, undef, undef, undef, undef, undef, .int .i64 x25, .int .i64 x26, undef, undef, undef, undef, undef, undef, undef, undef, undef, undef, undef, undef], []⟩ w
def bits_Select.re39 (R : Value → World → Prop) (k14 : Nat) (x5 : Int) (x6 : Int) (x25 : Int) (x26 : Int) (w : World) : Prop := ∃ k, bits_Select.rl39 R k14 k x5 x6 x25 x26 w
def bits_Select.l39 (R : Value → World → Prop) (b14 : Int → (Option Addr) → Nat → Nat → Int → Int → World → Prop) : Nat → Int → Int → Int → Int → World → Prop
  | 0, _, _, _, _, _ => False
  | k + 1, x5, x6, x25, x26, w => bits_Select.g39 R (bits_Select.l39 R b14 k) x5 x6 x25 x26 w
def bits_Select.e39 (R : Value → World → Prop) (b14 : Int → (Option Addr) → Nat → Nat → Int → Int → World → Prop) (x5 : Int) (x6 : Int) (x25 : Int) (x26 : Int) (w : World) : Prop := ∃ k, bits_Select.l39 R b14 k x5 x6 x25 x26 w
theorem bits_Select.s39 (R : Value → World → Prop) (k14 : Nat) (k : Nat) (x5 : Int) (x6 : Int) (x25 : Int) (x26 : Int) (w : World) : bits_Select.rl39 R k14 (k + 1) x5 x6 x25 x26 w = ∀ _ : Nat → Value, bits_Select.g39 R (bits_Select.rl39 R k14 k) x5 x6 x25 x26 w := by kernel_rfl
theorem bits_Select.lq39 (R : Value → World → Prop) (k14 : Nat) (b14 : Int → (Option Addr) → Nat → Nat → Int → Int → World → Prop) (hb14 : b14 = bits_Select.rl14 R k14) : ∀ k, bits_Select.l39 R b14 k = bits_Select.rl39 R k14 k
  | 0 => by funext x5 x6 x25 x26 w; rfl
  | k + 1 => by
    funext x5 x6 x25 x26 w
    rw [bits_Select.s39, forall_const]
    unfold bits_Select.l39
    have ih := bits_Select.lq39 R k14 b14 hb14 k
    subst hb14
    rw [ih]
    all_goals rfl
theorem bits_Select.eq39 (R : Value → World → Prop) (k14 : Nat) (b14 : Int → (Option Addr) → Nat → Nat → Int → Int → World → Prop) (hb14 : b14 = bits_Select.rl14 R k14) : bits_Select.e39 R b14 = bits_Select.re39 R k14 := by
  funext x5 x6 x25 x26 w
  unfold bits_Select.e39 bits_Select.re39
  simp only [bits_Select.lq39 R k14 b14 hb14]
def bits_Select.l14 (R : Value → World → Prop) : Nat → Int → (Option Addr) → Nat → Nat → Int → Int → World → Prop
  | 0, _, _, _, _, _, _, _ => False
  | k + 1, x1, a10, n10, c10, x11, x12, w => bits_Select.g14 R (bits_Select.l14 R k) (bits_Select.e39 R (bits_Select.l14 R k)) x1 a10 n10 c10 x11 x12 w
def bits_Select.e14 (R : Value → World → Prop) (x1 : Int) (a10 : Option Addr) (n10 : Nat) (c10 : Nat) (x11 : Int) (x12 : Int) (w : World) : Prop := ∃ k, bits_Select.l14 R k x1 a10 n10 c10 x11 x12 w
theorem bits_Select.s14 (R : Value → World → Prop) (k : Nat) (x1 : Int) (a10 : Option Addr) (n10 : Nat) (c10 : Nat) (x11 : Int) (x12 : Int) (w : World) : bits_Select.rl14 R (k + 1) x1 a10 n10 c10 x11 x12 w = ∀ _ : Nat → Value, bits_Select.g14 R (bits_Select.rl14 R k) (bits_Select.re39 R k) x1 a10 n10 c10 x11 x12 w := by kernel_rfl
theorem bits_Select.lq14 (R : Value → World → Prop) : ∀ k, bits_Select.l14 R k = bits_Select.rl14 R k
  | 0 => by funext x1 a10 n10 c10 x11 x12 w; rfl
  | k + 1 => by
    funext x1 a10 n10 c10 x11 x12 w
    rw [bits_Select.s14, forall_const]
    unfold bits_Select.l14
    have ih := bits_Select.lq14 R k
    rw [bits_Select.eq39 R k _ ih]
    rw [ih]
    all_goals rfl
theorem bits_Select.eq14 (R : Value → World → Prop) : bits_Select.e14 R = bits_Select.re14 R := by
  funext x1 a10 n10 c10 x11 x12 w
  unfold bits_Select.e14 bits_Select.re14
  simp only [bits_Select.lq14 R]
def bits_Select (R : Value → World → Prop) (a0 : Option Addr) (n0 : Nat) (c0 : Nat) (x1 : Int) (w : World) : Prop := bits_Select.g0 R (bits_Select.e14 R) a0 n0 c0 x1 w
theorem bits_Select.root0 (R : Value → World → Prop) (a0 : Option Addr) (n0 : Nat) (c0 : Nat) (x1 : Int) (w : World) : fnN Go.Proofs.Tryd.prog Go.Proofs.Tryd.f50 bits_Select.an #[.slice a0 n0 c0, .int .i64 x1] w R = bits_Select.g0 R (bits_Select.re14 R) a0 n0 c0 x1 w := by kernel_rfl
theorem bits_Select.calls {R : Value → World → Prop} {a0 : Option Addr} {n0 : Nat} {c0 : Nat} {x1 : Int} {w : World} (h : bits_Select R a0 n0 c0 x1 w) : Go.E.CallsD Go.Proofs.Tryd.prog 50 #[.slice a0 n0 c0, .int .i64 x1] w R := by
  refine callsD_of (n := bits_Select.an) M_follows M_sizes Go.Proofs.Tryd.func50 (by rfl) ?_
  rw [bits_Select.root0]
  unfold bits_Select at h
  rw [bits_Select.eq14 R] at h
  exact h
-- thicket/thicketref05.Select
def thicketref05_Select.an : An := An.nil
def thicketref05_Select.g0 (R : Value → World → Prop) (a0 : Option Addr) (n0 : Nat) (c0 : Nat) (x1 : Int) (w : World) : Prop :=
  Go.E.CallsD Go.Proofs.Tryd.prog 47 #[.slice a0 n0 c0] w fun yv4 u5 =>
    ∃ ya_6 : Option Addr, ∃ yn_6 : Nat, ∃ yc_6 : Nat, yv4 = .slice ya_6 yn_6 yc_6 ∧
      (onBool (decide (x1 < 0))
        (R (.int .i64 (-1)) u5)
        (onBool (decide (x1 ≥ (yn_6 : Int)))
          (R (.int .i64 (-1)) u5)
          (optN ya_6 fun q7 =>
          chk ((0 : Int) ≤ x1 ∧ x1 < (yn_6 : Int))
            (∃ yx_8 : Int, u5.cell? (q7.add (x1.toNat * 1)) = some (.int .i64 yx_8) ∧
              (R (.int .i64 yx_8) u5)))))
def thicketref05_Select (R : Value → World → Prop) (a0 : Option Addr) (n0 : Nat) (c0 : Nat) (x1 : Int) (w : World) : Prop := thicketref05_Select.g0 R a0 n0 c0 x1 w
theorem thicketref05_Select.root0 (R : Value → World → Prop) (a0 : Option Addr) (n0 : Nat) (c0 : Nat) (x1 : Int) (w : World) : fnN Go.Proofs.Tryd.prog Go.Proofs.Tryd.f51 thicketref05_Select.an #[.slice a0 n0 c0, .int .i64 x1] w R = thicketref05_Select.g0 R a0 n0 c0 x1 w := by kernel_rfl
theorem thicketref05_Select.calls {R : Value → World → Prop} {a0 : Option Addr} {n0 : Nat} {c0 : Nat} {x1 : Int} {w : World} (h : thicketref05_Select R a0 n0 c0 x1 w) : Go.E.CallsD Go.Proofs.Tryd.prog 51 #[.slice a0 n0 c0, .int .i64 x1] w R := by
  refine callsD_of (n := thicketref05_Select.an) M_follows M_sizes Go.Proofs.Tryd.func51 (by rfl) ?_
  rw [thicketref05_Select.root0]
  unfold thicketref05_Select at h
  exact h
-- thicket/thicketlaw05.BitsAsks
def thicketlaw05_BitsAsks.an : An := An.nil
def thicketlaw05_BitsAsks.g0 (R : Value → World → Prop) (a0 : Option Addr) (n0 : Nat) (c0 : Nat) (x1 : Int) (x2 : Int) (w : World) : Prop :=
  Go.E.CallsD Go.Proofs.Tryd.prog 39 #[.slice a0 n0 c0, .int .i64 x1] w fun yv22 u23 =>
    ∃ ya_24_0 : Option Addr, ∃ yn_24_0 : Nat, ∃ yc_24_0 : Nat, ∃ yx_24_1 : Int, yv22 = .tuple #[.slice ya_24_0 yn_24_0 yc_24_0, .int .i64 yx_24_1] ∧
      (Go.E.CallsD Go.Proofs.Tryd.prog 40 #[.slice a0 n0 c0, .int .i64 x1, .bool true] u23 fun yv25 u26 =>
        ∃ ya_27_0 : Option Addr, ∃ yn_27_0 : Nat, ∃ yc_27_0 : Nat, ∃ yx_27_1 : Int, yv25 = .tuple #[.slice ya_27_0 yn_27_0 yc_27_0, .int .i64 yx_27_1] ∧
          (Go.E.CallsD Go.Proofs.Tryd.prog 41 #[.slice a0 n0 c0, .int .i64 x1] u26 fun yv28 u29 =>
            ∃ ya_30_0 : Option Addr, ∃ yn_30_0 : Nat, ∃ yc_30_0 : Nat, ∃ yx_30_1 : Int, yv28 = .tuple #[.slice ya_30_0 yn_30_0 yc_30_0, .int .i64 yx_30_1] ∧
              (Go.E.CallsD Go.Proofs.Tryd.prog 40 #[.slice a0 n0 c0, .int .i64 x1, .bool false] u29 fun yv31 u32 =>
                ∃ ya_33_0 : Option Addr, ∃ yn_33_0 : Nat, ∃ yc_33_0 : Nat, ∃ yx_33_1 : Int, yv31 = .tuple #[.slice ya_33_0 yn_33_0 yc_33_0, .int .i64 yx_33_1] ∧
                  (Go.E.CallsD Go.Proofs.Tryd.prog 20 #[] u32 fun yv34 u35 =>
                    ∃ yb_36 : Bool, yv34 = .bool yb_36 ∧
                      (onBool (!yb_36)
                        (R (.bool false) u35)
                        (Go.E.CallsD Go.Proofs.Tryd.prog 21 #[.slice ya_24_0 yn_24_0 yc_24_0, .slice ya_27_0 yn_27_0 yc_27_0] u35 fun yv37 u38 =>
                          ∃ yb_39 : Bool, yv37 = .bool yb_39 ∧
                            (onBool (!yb_39)
                              (R (.bool false) u38)
                              (onBool (yx_24_1 != yx_27_1)
                                (R (.bool false) u38)
                                (Go.E.CallsD Go.Proofs.Tryd.prog 21 #[.slice ya_30_0 yn_30_0 yc_30_0, .slice ya_33_0 yn_33_0 yc_33_0] u38 fun yv40 u41 =>
                                  ∃ yb_42 : Bool, yv40 = .bool yb_42 ∧
                                    (onBool (!yb_42)
                                      (R (.bool false) u41)
                                      (onBool (yx_30_1 != yx_33_1)
                                        (R (.bool false) u41)
                                        (Go.E.CallsD Go.Proofs.Tryd.prog 24 #[.slice a0 n0 c0, .int .i64 x1] u41 fun yv43 u44 =>
                                          ∃ yb_45 : Bool, yv43 = .bool yb_45 ∧
                                            (Go.E.CallsD Go.Proofs.Tryd.prog 42 #[.slice a0 n0 c0, .int .i64 x1] u44 fun yv46 u47 =>
                                              ∃ yb_48 : Bool, yv46 = .bool yb_48 ∧
                                                (onBool (yb_45 == yb_48)
                                                  (Go.E.CallsD Go.Proofs.Tryd.prog 43 #[.slice a0 n0 c0] u47 fun yv49 u50 =>
                                                    ∃ yx_51 : Int, yv49 = .int .i64 yx_51 ∧
                                                      (Go.E.CallsD Go.Proofs.Tryd.prog 44 #[.slice a0 n0 c0] u50 fun yv52 u53 =>
                                                        ∃ yx_54 : Int, yv52 = .int .i64 yx_54 ∧
                                                          (onBool (yx_51 == yx_54)
                                                            (Go.E.CallsD Go.Proofs.Tryd.prog 45 #[.slice a0 n0 c0] u53 fun yv55 u56 =>
                                                              ∃ yx_57 : Int, yv55 = .int .i64 yx_57 ∧
                                                                (Go.E.CallsD Go.Proofs.Tryd.prog 46 #[.slice a0 n0 c0] u56 fun yv58 u59 =>
                                                                  ∃ yx_60 : Int, yv58 = .int .i64 yx_60 ∧
                                                                    (onBool (yx_57 == yx_60)
                                                                      (Go.E.CallsD Go.Proofs.Tryd.prog 25 #[.slice a0 n0 c0] u59 fun yv61 u62 =>
                                                                        ∃ yx_63 : Int, yv61 = .int .i64 yx_63 ∧
                                                                          (Go.E.CallsD Go.Proofs.Tryd.prog 47 #[.slice a0 n0 c0] u62 fun yv64 u65 =>
                                                                            ∃ ya_66 : Option Addr, ∃ yn_66 : Nat, ∃ yc_66 : Nat, yv64 = .slice ya_66 yn_66 yc_66 ∧
                                                                              (onBool (yx_63 == (yn_66 : Int))
                                                                                (Go.E.CallsD Go.Proofs.Tryd.prog 48 #[.slice a0 n0 c0, .int .i64 x1] u65 fun yv67 u68 =>
                                                                                  ∃ yx_69 : Int, yv67 = .int .i64 yx_69 ∧
                                                                                    (Go.E.CallsD Go.Proofs.Tryd.prog 49 #[.slice a0 n0 c0, .int .i64 x1] u68 fun yv70 u71 =>
                                                                                      ∃ yx_72 : Int, yv70 = .int .i64 yx_72 ∧
                                                                                        (onBool (yx_69 == yx_72)
                                                                                          (Go.E.CallsD Go.Proofs.Tryd.prog 50 #[.slice a0 n0 c0, .int .i64 x2] u71 fun yv73 u74 =>
                                                                                            ∃ yx_75 : Int, yv73 = .int .i64 yx_75 ∧
                                                                                              (Go.E.CallsD Go.Proofs.Tryd.prog 51 #[.slice a0 n0 c0, .int .i64 x2] u74 fun yv76 u77 =>
                                                                                                ∃ yx_78 : Int, yv76 = .int .i64 yx_78 ∧
                                                                                                  (R (.bool (yx_75 == yx_78)) u77)))
                                                                                          (R (.bool false) u71))))
                                                                                (R (.bool false) u65))))
                                                                      (R (.bool false) u59))))
                                                            (R (.bool false) u53))))
                                                  (R (.bool false) u47)))))))))))))))
def thicketlaw05_BitsAsks (R : Value → World → Prop) (a0 : Option Addr) (n0 : Nat) (c0 : Nat) (x1 : Int) (x2 : Int) (w : World) : Prop := thicketlaw05_BitsAsks.g0 R a0 n0 c0 x1 x2 w
theorem thicketlaw05_BitsAsks.root0 (R : Value → World → Prop) (a0 : Option Addr) (n0 : Nat) (c0 : Nat) (x1 : Int) (x2 : Int) (w : World) : fnN Go.Proofs.Tryd.prog Go.Proofs.Tryd.f8 thicketlaw05_BitsAsks.an #[.slice a0 n0 c0, .int .i64 x1, .int .i64 x2] w R = thicketlaw05_BitsAsks.g0 R a0 n0 c0 x1 x2 w := by kernel_rfl
theorem thicketlaw05_BitsAsks.calls {R : Value → World → Prop} {a0 : Option Addr} {n0 : Nat} {c0 : Nat} {x1 : Int} {x2 : Int} {w : World} (h : thicketlaw05_BitsAsks R a0 n0 c0 x1 x2 w) : Go.E.CallsD Go.Proofs.Tryd.prog 8 #[.slice a0 n0 c0, .int .i64 x1, .int .i64 x2] w R := by
  refine callsD_of (n := thicketlaw05_BitsAsks.an) M_follows M_sizes Go.Proofs.Tryd.func8 (by rfl) ?_
  rw [thicketlaw05_BitsAsks.root0]
  unfold thicketlaw05_BitsAsks at h
  exact h
-- thicket/thicketlaw05.BitsBack
def thicketlaw05_BitsBack.an : An := An.nil
def thicketlaw05_BitsBack.g0 (R : Value → World → Prop) (a0 : Option Addr) (n0 : Nat) (c0 : Nat) (x1 : Int) (w : World) : Prop :=
  Go.E.CallsD Go.Proofs.Tryd.prog 20 #[] w fun yv28 u29 =>
    ∃ yb_30 : Bool, yv28 = .bool yb_30 ∧
      (onBool (!yb_30)
        (R (.bool false) u29)
        (Go.E.CallsD Go.Proofs.Tryd.prog 26 #[.slice a0 n0 c0, .int .i64 x1] u29 fun yv31 u32 =>
          ∃ ys_33_0 : ByteArray, ∃ yx_33_1 : Int, yv31 = .tuple #[.string ys_33_0, .int .i64 yx_33_1] ∧
            (onBool (yx_33_1 != 0)
              (Go.E.CallsD Go.Proofs.Tryd.prog 12 #[.int .i64 x1] u32 fun yv34 u35 =>
                ∃ yx_36_0 : Int, ∃ yx_36_1 : Int, yv34 = .tuple #[.int .i64 yx_36_0, .int .i64 yx_36_1] ∧
                  (onBool (yx_36_1 != 0)
                    (R (.bool true) u35)
                    (onBool (yx_36_0 != (n0 : Int))
                      (R (.bool true) u35)
                      (Go.E.CallsD Go.Proofs.Tryd.prog 45 #[.slice a0 n0 c0] u35 fun yv37 u38 =>
                        ∃ yx_39 : Int, yv37 = .int .i64 yx_39 ∧
                          (R (.bool (decide (yx_39 ≥ x1))) u38)))))
              (Go.E.CallsD Go.Proofs.Tryd.prog 28 #[.string ys_33_0] u32 fun yv40 u41 =>
                ∃ ya_42_0 : Option Addr, ∃ yn_42_0 : Nat, ∃ yc_42_0 : Nat, ∃ yx_42_1 : Int, ∃ yx_42_2 : Int, ∃ yx_42_3 : Int, yv40 = .tuple #[.slice ya_42_0 yn_42_0 yc_42_0, .int .i64 yx_42_1, .int .i64 yx_42_2, .int .i64 yx_42_3] ∧
                  (Go.E.CallsD Go.Proofs.Tryd.prog 37 #[.slice a0 n0 c0] u41 fun yv43 u44 =>
                    ∃ ya_45 : Option Addr, ∃ yn_45 : Nat, ∃ yc_45 : Nat, yv43 = .slice ya_45 yn_45 yc_45 ∧
                      (Go.E.CallsD Go.Proofs.Tryd.prog 34 #[.int .i64 x1, .slice ya_45 yn_45 yc_45] u44 fun yv46 u47 =>
                        ∃ ya_48_0 : Option Addr, ∃ yn_48_0 : Nat, ∃ yc_48_0 : Nat, ∃ yx_48_1 : Int, yv46 = .tuple #[.slice ya_48_0 yn_48_0 yc_48_0, .int .i64 yx_48_1] ∧
                          (onBool (yx_42_2 == 0)
                            (onBool (yx_48_1 == 0)
                              (onBool (yx_42_1 == x1)
                                (onBool (((ys_33_0 : ByteArray).size : Int) == x1)
                                  (Go.E.CallsD Go.Proofs.Tryd.prog 21 #[.slice a0 n0 c0, .slice ya_42_0 yn_42_0 yc_42_0] u47 fun yv49 u50 =>
                                    ∃ yb_51 : Bool, yv49 = .bool yb_51 ∧
                                      (onBool yb_51
                                        (Go.E.CallsD Go.Proofs.Tryd.prog 21 #[.slice a0 n0 c0, .slice ya_48_0 yn_48_0 yc_48_0] u50 fun yv52 u53 =>
                                          ∃ yb_54 : Bool, yv52 = .bool yb_54 ∧
                                            (R (.bool yb_54) u53))
                                        (R (.bool false) u50)))
                                  (R (.bool false) u47))
                                (R (.bool false) u47))
                              (R (.bool false) u47))
                            (R (.bool false) u47))))))))
def thicketlaw05_BitsBack (R : Value → World → Prop) (a0 : Option Addr) (n0 : Nat) (c0 : Nat) (x1 : Int) (w : World) : Prop := thicketlaw05_BitsBack.g0 R a0 n0 c0 x1 w
theorem thicketlaw05_BitsBack.root0 (R : Value → World → Prop) (a0 : Option Addr) (n0 : Nat) (c0 : Nat) (x1 : Int) (w : World) : fnN Go.Proofs.Tryd.prog Go.Proofs.Tryd.f9 thicketlaw05_BitsBack.an #[.slice a0 n0 c0, .int .i64 x1] w R = thicketlaw05_BitsBack.g0 R a0 n0 c0 x1 w := by kernel_rfl
theorem thicketlaw05_BitsBack.calls {R : Value → World → Prop} {a0 : Option Addr} {n0 : Nat} {c0 : Nat} {x1 : Int} {w : World} (h : thicketlaw05_BitsBack R a0 n0 c0 x1 w) : Go.E.CallsD Go.Proofs.Tryd.prog 9 #[.slice a0 n0 c0, .int .i64 x1] w R := by
  refine callsD_of (n := thicketlaw05_BitsBack.an) M_follows M_sizes Go.Proofs.Tryd.func9 (by rfl) ?_
  rw [thicketlaw05_BitsBack.root0]
  unfold thicketlaw05_BitsBack at h
  exact h
-- thicket/thicketlaw05.BitsOwn
def thicketlaw05_BitsOwn.an : An := (.mk none .nil (.mk none .nil (.mk none .nil (.mk none .nil (.mk none .nil (.mk none .nil (.mk none .nil (.mk none .nil (.mk none .nil (.mk none .nil (.mk none (.mk none .nil (.mk none (.mk (some [0, 5, 15, 74]) (.mk none .nil (.mk none .nil (.mk none (.mk none (.mk none .nil (.mk none .nil (.mk none (.mk (some [0, 5, 15, 16, 74, 80, 81]) .nil .nil) .nil))) .nil) .nil))) .nil) .nil)) (.mk none (.mk none .nil (.mk none (.mk (some [0, 5, 15, 94]) .nil .nil) .nil)) (.mk none (.mk none .nil (.mk none (.mk (some [0, 5, 15, 105]) (.mk none .nil (.mk none .nil (.mk none (.mk none (.mk none .nil (.mk none .nil (.mk none (.mk (some [0, 5, 15, 19, 20, 105]) .nil .nil) .nil))) .nil) .nil))) .nil) .nil)) (.mk none .nil (.mk none (.mk none .nil (.mk none (.mk (some [0, 5, 21, 131, 132]) .nil .nil) .nil)) .nil)))))))))))))))
def thicketlaw05_BitsOwn.g0 (R : Value → World → Prop) (e36 : (Option Addr) → Nat → Nat → (Option Addr) → Nat → Nat → (Option Addr) → Int → World → Prop) (a0 : Option Addr) (n0 : Nat) (c0 : Nat) (x1 : Int) (w : World) : Prop :=
  Go.E.CallsD Go.Proofs.Tryd.prog 20 #[] w fun yv82 u83 =>
    ∃ yb_84 : Bool, yv82 = .bool yb_84 ∧
      (onBool (!yb_84)
        (R (.bool false) u83)
        (Go.E.CallsD Go.Proofs.Tryd.prog 22 #[.slice a0 n0 c0] u83 fun yv85 u86 =>
          ∃ ya_87 : Option Addr, ∃ yn_87 : Nat, ∃ yc_87 : Nat, yv85 = .slice ya_87 yn_87 yc_87 ∧
            (Go.E.CallsD Go.Proofs.Tryd.prog 39 #[.slice ya_87 yn_87 yc_87, .int .i64 x1] u86 fun yv88 u89 =>
              ∃ ya_90_0 : Option Addr, ∃ yn_90_0 : Nat, ∃ yc_90_0 : Nat, ∃ yx_90_1 : Int, yv88 = .tuple #[.slice ya_90_0 yn_90_0 yc_90_0, .int .i64 yx_90_1] ∧
                (Go.E.CallsD Go.Proofs.Tryd.prog 41 #[.slice ya_87 yn_87 yc_87, .int .i64 x1] u89 fun yv91 u92 =>
                  ∃ ya_93_0 : Option Addr, ∃ yn_93_0 : Nat, ∃ yc_93_0 : Nat, ∃ yx_93_1 : Int, yv91 = .tuple #[.slice ya_93_0 yn_93_0 yc_93_0, .int .i64 yx_93_1] ∧
                    (Go.E.CallsD Go.Proofs.Tryd.prog 30 #[.slice ya_87 yn_87 yc_87, .slice ya_87 yn_87 yc_87] u92 fun yv94 u95 =>
                      ∃ ya_96_0 : Option Addr, ∃ yn_96_0 : Nat, ∃ yc_96_0 : Nat, ∃ yx_96_1 : Int, yv94 = .tuple #[.slice ya_96_0 yn_96_0 yc_96_0, .int .i64 yx_96_1] ∧
                        (Go.E.CallsD Go.Proofs.Tryd.prog 31 #[.slice ya_87 yn_87 yc_87, .slice ya_87 yn_87 yc_87] u95 fun yv97 u98 =>
                          ∃ ya_99_0 : Option Addr, ∃ yn_99_0 : Nat, ∃ yc_99_0 : Nat, ∃ yx_99_1 : Int, yv97 = .tuple #[.slice ya_99_0 yn_99_0 yc_99_0, .int .i64 yx_99_1] ∧
                            (nv (IntKind.i64.wrap (64 * (n0 : Int))) fun t100 =>
                            nw (u98.alloc (.cells #[.slice none 0 0, .slice none 0 0, .slice none 0 0, .slice none 0 0] 55)) fun w101 =>
                            okSt w101 ((na u98).add 0) ∧
                              (nw (w101.setCell ((na u98).add 0) (.slice ya_90_0 yn_90_0 yc_90_0)) fun w102 =>
                              okSt w102 ((na u98).add 1) ∧
                                (nw (w102.setCell ((na u98).add 1) (.slice ya_93_0 yn_93_0 yc_93_0)) fun w103 =>
                                okSt w103 ((na u98).add 2) ∧
                                  (nw (w103.setCell ((na u98).add 2) (.slice ya_96_0 yn_96_0 yc_96_0)) fun w104 =>
                                  okSt w104 ((na u98).add 3) ∧
                                    (nw (w104.setCell ((na u98).add 3) (.slice ya_99_0 yn_99_0 yc_99_0)) fun w105 =>
                                    onBool (decide (x1 ≥ 0))
                                      (onBool (!((yx_90_1 == 0) == (decide (x1 < t100))))
                                        (R (.bool false) w105)
                                        (onBool (yx_90_1 != yx_93_1)
                                          (R (.bool false) w105)
                                          (e36 a0 n0 c0 ya_87 yn_87 yc_87 (some (na u98)) 0 w105)))
                                      (onBool (!((yx_90_1 == 0) == false))
                                        (R (.bool false) w105)
                                        (onBool (yx_90_1 != yx_93_1)
                                          (R (.bool false) w105)
                                          (e36 a0 n0 c0 ya_87 yn_87 yc_87 (some (na u98)) 0 w105))))))))))))))
def thicketlaw05_BitsOwn.g36 (R : Value → World → Prop) (e50 : (Option Addr) → Nat → Nat → (Option Addr) → Nat → Nat → (Option Addr) → Int → Int → Int → Int → World → Prop) (e68 : (Option Addr) → Nat → Nat → (Option Addr) → Nat → Nat → (Option Addr) → Int → World → Prop) (a0 : Option Addr) (n0 : Nat) (c0 : Nat) (a5 : Option Addr) (n5 : Nat) (c5 : Nat) (p15 : Option Addr) (x74 : Int) (w : World) : Prop :=
  onBool (decide (x74 < 4))
    (optN p15 fun q106 =>
    chk ((0 : Int) ≤ x74 ∧ x74 < (4 : Int))
      (∃ ya_107 : Option Addr, ∃ yn_107 : Nat, ∃ yc_107 : Nat, w.cell? (q106.add (x74.toNat * 1)) = some (.slice ya_107 yn_107 yc_107) ∧
        (e50 a0 n0 c0 a5 n5 c5 p15 x74 x74 (yn_107 : Int) 0 w)))
    (e68 a0 n0 c0 a5 n5 c5 p15 0 w)
def thicketlaw05_BitsOwn.g50 (R : Value → World → Prop) (b36 : (Option Addr) → Nat → Nat → (Option Addr) → Nat → Nat → (Option Addr) → Int → World → Prop) (b50 : (Option Addr) → Nat → Nat → (Option Addr) → Nat → Nat → (Option Addr) → Int → Int → Int → Int → World → Prop) (a0 : Option Addr) (n0 : Nat) (c0 : Nat) (a5 : Option Addr) (n5 : Nat) (c5 : Nat) (p15 : Option Addr) (x16 : Int) (x74 : Int) (x80 : Int) (x81 : Int) (w : World) : Prop :=
  onBool (decide (x81 < x80))
    (optN p15 fun q108 =>
    chk ((0 : Int) ≤ x16 ∧ x16 < (4 : Int))
      (∃ ya_109 : Option Addr, ∃ yn_109 : Nat, ∃ yc_109 : Nat, w.cell? (q108.add (x16.toNat * 1)) = some (.slice ya_109 yn_109 yc_109) ∧
        (nv (IntKind.i64.wrap (x16 + 3)) fun t110 =>
        nv (IntKind.u64.wrap t110) fun t111 =>
        optN ya_109 fun q112 =>
        chk ((0 : Int) ≤ x81 ∧ x81 < (yn_109 : Int))
          (okSt w ((q112.add (x81.toNat * 1)).add 0) ∧
            (nw (w.setCell ((q112.add (x81.toNat * 1)).add 0) (.int .u64 t111)) fun w113 =>
            nv (IntKind.i64.wrap (x81 + 1)) fun t114 =>
            b50 a0 n0 c0 a5 n5 c5 p15 x16 x74 x80 t114 w113)))))
    (nv (IntKind.i64.wrap (x74 + 1)) fun t115 =>
    b36 a0 n0 c0 a5 n5 c5 p15 t115 w)
def thicketlaw05_BitsOwn.g68 (R : Value → World → Prop) (b68 : (Option Addr) → Nat → Nat → (Option Addr) → Nat → Nat → (Option Addr) → Int → World → Prop) (e85 : (Option Addr) → Nat → Nat → (Option Addr) → Nat → Nat → (Option Addr) → Int → World → Prop) (a0 : Option Addr) (n0 : Nat) (c0 : Nat) (a5 : Option Addr) (n5 : Nat) (c5 : Nat) (p15 : Option Addr) (x94 : Int) (w : World) : Prop :=
  onBool (decide (x94 < 4))
    (optN p15 fun q116 =>
    chk ((0 : Int) ≤ x94 ∧ x94 < (4 : Int))
      (∃ ya_117 : Option Addr, ∃ yn_117 : Nat, ∃ yc_117 : Nat, w.cell? (q116.add (x94.toNat * 1)) = some (.slice ya_117 yn_117 yc_117) ∧
        (nw (w.alloc (.cells #[.int .u64 9, .int .u64 9, .int .u64 9] 56)) fun w118 =>
        rawN Go.Proofs.Tryd.prog (Builtin.append_ #[25, 25] 25 #[.slice ya_117 yn_117 yc_117, .slice (some (na w)) 3 3]) w118 fun yv119 u120 =>
          ∃ ya_121 : Option Addr, ∃ yn_121 : Nat, ∃ yc_121 : Nat, yv119 = .slice ya_121 yn_121 yc_121 ∧
            (optN p15 fun q122 =>
            chk ((0 : Int) ≤ x94 ∧ x94 < (4 : Int))
              (okSt u120 ((q122.add (x94.toNat * 1)).add 0) ∧
                (nw (u120.setCell ((q122.add (x94.toNat * 1)).add 0) (.slice ya_121 yn_121 yc_121)) fun w123 =>
                nv (IntKind.i64.wrap (x94 + 1)) fun t124 =>
                b68 a0 n0 c0 a5 n5 c5 p15 t124 w123))))))
    (e85 a0 n0 c0 a5 n5 c5 p15 0 w)
def thicketlaw05_BitsOwn.g85 (R : Value → World → Prop) (e99 : (Option Addr) → Nat → Nat → (Option Addr) → Nat → Nat → (Option Addr) → Int → Int → Int → World → Prop) (e123 : (Option Addr) → Nat → Nat → (Option Addr) → Nat → Nat → (Option Addr) → Nat → Nat → Int → Int → World → Prop) (a0 : Option Addr) (n0 : Nat) (c0 : Nat) (a5 : Option Addr) (n5 : Nat) (c5 : Nat) (p15 : Option Addr) (x105 : Int) (w : World) : Prop :=
  onBool (decide (x105 < 4))
    (e99 a0 n0 c0 a5 n5 c5 p15 x105 0 x105 w)
    (Go.E.CallsD Go.Proofs.Tryd.prog 37 #[.slice a5 n5 c5] w fun yv125 u126 =>
      ∃ ya_127 : Option Addr, ∃ yn_127 : Nat, ∃ yc_127 : Nat, yv125 = .slice ya_127 yn_127 yc_127 ∧
        (e123 a0 n0 c0 a5 n5 c5 ya_127 yn_127 yc_127 (yn_127 : Int) 0 u126))
def thicketlaw05_BitsOwn.g99 (R : Value → World → Prop) (b85 : (Option Addr) → Nat → Nat → (Option Addr) → Nat → Nat → (Option Addr) → Int → World → Prop) (b99 : (Option Addr) → Nat → Nat → (Option Addr) → Nat → Nat → (Option Addr) → Int → Int → Int → World → Prop) (a0 : Option Addr) (n0 : Nat) (c0 : Nat) (a5 : Option Addr) (n5 : Nat) (c5 : Nat) (p15 : Option Addr) (x19 : Int) (x20 : Int) (x105 : Int) (w : World) : Prop :=
  optN p15 fun q128 =>
  chk ((0 : Int) ≤ x19 ∧ x19 < (4 : Int))
    (∃ ya_129 : Option Addr, ∃ yn_129 : Nat, ∃ yc_129 : Nat, w.cell? (q128.add (x19.toNat * 1)) = some (.slice ya_129 yn_129 yc_129) ∧
      (nv (IntKind.i64.wrap ((yn_129 : Int) - 3)) fun t130 =>
      onBool (decide (x20 < t130))
        (optN p15 fun q131 =>
        chk ((0 : Int) ≤ x19 ∧ x19 < (4 : Int))
          (∃ ya_132 : Option Addr, ∃ yn_132 : Nat, ∃ yc_132 : Nat, w.cell? (q131.add (x19.toNat * 1)) = some (.slice ya_132 yn_132 yc_132) ∧
            (optN ya_132 fun q133 =>
            chk ((0 : Int) ≤ x20 ∧ x20 < (yn_132 : Int))
              (∃ yx_134 : Int, w.cell? (q133.add (x20.toNat * 1)) = some (.int .u64 yx_134) ∧
                (nv (IntKind.i64.wrap (x19 + 3)) fun t135 =>
                nv (IntKind.u64.wrap t135) fun t136 =>
                onBool (yx_134 != t136)
                  (R (.bool false) w)
                  (nv (IntKind.i64.wrap (x20 + 1)) fun t137 =>
                  b99 a0 n0 c0 a5 n5 c5 p15 x19 t137 x105 w))))))
        (nv (IntKind.i64.wrap (x105 + 1)) fun t138 =>
        b85 a0 n0 c0 a5 n5 c5 p15 t138 w)))
def thicketlaw05_BitsOwn.g123 (R : Value → World → Prop) (b123 : (Option Addr) → Nat → Nat → (Option Addr) → Nat → Nat → (Option Addr) → Nat → Nat → Int → Int → World → Prop) (a0 : Option Addr) (n0 : Nat) (c0 : Nat) (a5 : Option Addr) (n5 : Nat) (c5 : Nat) (a21 : Option Addr) (n21 : Nat) (c21 : Nat) (x131 : Int) (x132 : Int) (w : World) : Prop :=
  onBool (decide (x132 < x131))
    (optN a21 fun q139 =>
    chk ((0 : Int) ≤ x132 ∧ x132 < (n21 : Int))
      (okSt w ((q139.add (x132.toNat * 2)).add 0) ∧
        (nw (w.setCell ((q139.add (x132.toNat * 2)).add 0) (.int .i64 (-1))) fun w140 =>
        okSt w140 ((q139.add (x132.toNat * 2)).add 1) ∧
          (nw (w140.setCell ((q139.add (x132.toNat * 2)).add 1) (.int .i64 (-1))) fun w141 =>
          nv (IntKind.i64.wrap (x132 + 1)) fun t142 =>
          b123 a0 n0 c0 a5 n5 c5 a21 n21 c21 x131 t142 w141))))
    (nw (w.alloc (.cells #[.int .i64 0, .int .i64 0, .int .i64 0, .int .i64 0] 58)) fun w143 =>
    rawN Go.Proofs.Tryd.prog (Builtin.append_ #[44, 44] 44 #[.slice a21 n21 c21, .slice (some (na w)) 2 2]) w143 fun yv144 u145 =>
      ∃ ya_146 : Option Addr, ∃ yn_146 : Nat, ∃ yc_146 : Nat, yv144 = .slice ya_146 yn_146 yc_146 ∧
        (Go.E.CallsD Go.Proofs.Tryd.prog 21 #[.slice a5 n5 c5, .slice a0 n0 c0] u145 fun yv147 u148 =>
          ∃ yb_149 : Bool, yv147 = .bool yb_149 ∧
            (onBool yb_149
              (Go.E.CallsD Go.Proofs.Tryd.prog 37 #[.slice a5 n5 c5] u148 fun yv150 u151 =>
                ∃ ya_152 : Option Addr, ∃ yn_152 : Nat, ∃ yc_152 : Nat, yv150 = .slice ya_152 yn_152 yc_152 ∧
                  (Go.E.CallsD Go.Proofs.Tryd.prog 38 #[.slice a0 n0 c0] u151 fun yv153 u154 =>
                    ∃ ya_155 : Option Addr, ∃ yn_155 : Nat, ∃ yc_155 : Nat, yv153 = .slice ya_155 yn_155 yc_155 ∧
                      (Go.E.CallsD Go.Proofs.Tryd.prog 36 #[.slice ya_152 yn_152 yc_152, .slice ya_155 yn_155 yc_155] u154 fun yv156 u157 =>
                        ∃ yb_158 : Bool, yv156 = .bool yb_158 ∧
                          (onBool yb_158
                            (Go.E.CallsD Go.Proofs.Tryd.prog 38 #[.slice a0 n0 c0] u157 fun yv159 u160 =>
                              ∃ ya_161 : Option Addr, ∃ yn_161 : Nat, ∃ yc_161 : Nat, yv159 = .slice ya_161 yn_161 yc_161 ∧
                                (nv (IntKind.i64.wrap ((yn_161 : Int) + 2)) fun t162 =>
                                R (.bool ((yn_146 : Int) == t162)) u160))
                            (R (.bool false) u157)))))
              (R (.bool false) u148))))
def thicketlaw05_BitsOwn.q2 (R : Value → World → Prop) : Exit → Act → World → Prop := (fin Go.Proofs.Tryd.prog Go.Proofs.Tryd.f10 R)
def thicketlaw05_BitsOwn.q10 (R : Value → World → Prop) : Exit → Act → World → Prop := (thicketlaw05_BitsOwn.q2 R)
def thicketlaw05_BitsOwn.q12 (R : Value → World → Prop) : Exit → Act → World → Prop := (thicketlaw05_BitsOwn.q10 R)
def thicketlaw05_BitsOwn.q14 (R : Value → World → Prop) : Exit → Act → World → Prop := (thicketlaw05_BitsOwn.q12 R)
def thicketlaw05_BitsOwn.q16 (R : Value → World → Prop) : Exit → Act → World → Prop := (thicketlaw05_BitsOwn.q14 R)
def thicketlaw05_BitsOwn.q18 (R : Value → World → Prop) : Exit → Act → World → Prop := (thicketlaw05_BitsOwn.q16 R)
def thicketlaw05_BitsOwn.q20 (R : Value → World → Prop) : Exit → Act → World → Prop := (thicketlaw05_BitsOwn.q18 R)
def thicketlaw05_BitsOwn.q22 (R : Value → World → Prop) : Exit → Act → World → Prop := (thicketlaw05_BitsOwn.q20 R)
def thicketlaw05_BitsOwn.q24 (R : Value → World → Prop) : Exit → Act → World → Prop := (thicketlaw05_BitsOwn.q22 R)
def thicketlaw05_BitsOwn.q32 (R : Value → World → Prop) : Exit → Act → World → Prop := (thicketlaw05_BitsOwn.q24 R)
def thicketlaw05_BitsOwn.q33 (R : Value → World → Prop) : Exit → Act → World → Prop := Exit.then (startN none (codeN Go.Proofs.Tryd.prog (sub (codeOf Go.Proofs.Tryd.f10) [1, 1, 1, 1, 1, 1, 1, 1, 1, 1, 1]) (nsub thicketlaw05_BitsOwn.an [1, 1, 1, 1, 1, 1, 1, 1, 1, 1, 1]) (thicketlaw05_BitsOwn.q32 R))) (thicketlaw05_BitsOwn.q32 R)
def thicketlaw05_BitsOwn.q35 (R : Value → World → Prop) : Exit → Act → World → Prop := (thicketlaw05_BitsOwn.q33 R)
def thicketlaw05_BitsOwn.q36 (R : Value → World → Prop) : Exit → Act → World → Prop := Exit.inBlock 0 (thicketlaw05_BitsOwn.q35 R)
def thicketlaw05_BitsOwn.rl36 (R : Value → World → Prop) (k : Nat) (a0 : Option Addr) (n0 : Nat) (c0 : Nat) (a5 : Option Addr) (n5 : Nat) (c5 : Nat) (p15 : Option Addr) (x74 : Int) (w : World) : Prop := loopN [0, 5, 15, 74] (codeN Go.Proofs.Tryd.prog (sub (codeOf Go.Proofs.Tryd.f10) [1, 1, 1, 1, 1, 1, 1, 1, 1, 1, 0, 1, 0, 0]) (nsub thicketlaw05_BitsOwn.an [1, 1, 1, 1, 1, 1, 1, 1, 1, 1, 0, 1, 0, 0])) (thicketlaw05_BitsOwn.q36 R) k ⟨#[.slice a0 n0 c0, undef, undef, undef, undef, .slice a5 n5 c5, undef, undef, undef, undef, undef, undef, undef, undef, undef, .pointer p15, undef, undef, undef, undef, undef, undef, undef, undef, undef, undef, undef, undef, undef, undef, undef, undef, undef, undef, undef, undef, undef, undef, undef, undef, undef, undef, undef, undef, undef, undef, undef, undef, undef, undef, undef, undef, undef, undef, undef, undef, undef, undef, undef, undef, undef, undef, undef, undef, undef, undef, undef, undef, undef, undef, undef, undef, undef, undef, .int .i64 x74, undef, undef, undef, undef, undef, undef, undef, undef, undef, undef, undef, undef, undef, undef, undef, undef, undef, undef, undef, undef, undef, undef, undef, undef, undef, undef, undef, undef, undef, undef, undef, undef, undef, undef, undef, undef, undef, undef, undef, undef, undef, undef, undef, undef, undef, undef, undef, undef, undef, undef, undef, undef, undef, undef, undef, undef, undef, undef, undef, undef, undef, undef, undef, undef, undef, undef, undef, undef, undef, undef, undef, undef, undef, undef, undef, undef, undef, undef, undef, undef, undef, undef, undef, undef, undef, undef, undef, undef, undef], []⟩ w
def thicketlaw05_BitsOwn.re36 (R : Value → World → Prop) (a0 : Option Addr) (n0 : Nat) (c0 : Nat) (a5 : Option Addr) (n5 : Nat) (c5 : Nat) (p15 : Option Addr) (x74 : Int) (w : World) : Prop := ∃ k, thicketlaw05_BitsOwn.rl36 R k a0 n0 c0 a5 n5 c5 p15 x74 w
def thicketlaw05_BitsOwn.q37 (R : Value → World → Prop) (k36 : Nat) : Exit → Act → World → Prop := Exit.then (fun a w => loopN [0, 5, 15, 74] (codeN Go.Proofs.Tryd.prog (sub (codeOf Go.Proofs.Tryd.f10) [1, 1, 1, 1, 1, 1, 1, 1, 1, 1, 0, 1, 0, 0]) (nsub thicketlaw05_BitsOwn.an [1, 1, 1, 1, 1, 1, 1, 1, 1, 1, 0, 1, 0, 0])) (thicketlaw05_BitsOwn.q36 R) k36 (clr [0, 5, 15, 74] a) w) (thicketlaw05_BitsOwn.q36 R)
def thicketlaw05_BitsOwn.q39 (R : Value → World → Prop) (k36 : Nat) : Exit → Act → World → Prop := (thicketlaw05_BitsOwn.q37 R k36)
def thicketlaw05_BitsOwn.q43 (R : Value → World → Prop) (k36 : Nat) : Exit → Act → World → Prop := (thicketlaw05_BitsOwn.q39 R k36)
def thicketlaw05_BitsOwn.q44 (R : Value → World → Prop) (k36 : Nat) : Exit → Act → World → Prop := Exit.then (startN none (codeN Go.Proofs.Tryd.prog (sub (codeOf Go.Proofs.Tryd.f10) [1, 1, 1, 1, 1, 1, 1, 1, 1, 1, 0, 1, 0, 0, 1, 1, 1]) (nsub thicketlaw05_BitsOwn.an [1, 1, 1, 1, 1, 1, 1, 1, 1, 1, 0, 1, 0, 0, 1, 1, 1]) (thicketlaw05_BitsOwn.q43 R k36))) (thicketlaw05_BitsOwn.q43 R k36)
def thicketlaw05_BitsOwn.q45 (R : Value → World → Prop) (k36 : Nat) : Exit → Act → World → Prop := Exit.inBlock 1 (thicketlaw05_BitsOwn.q44 R k36)
def thicketlaw05_BitsOwn.q47 (R : Value → World → Prop) (k36 : Nat) : Exit → Act → World → Prop := (thicketlaw05_BitsOwn.q45 R k36)
def thicketlaw05_BitsOwn.q49 (R : Value → World → Prop) (k36 : Nat) : Exit → Act → World → Prop := (thicketlaw05_BitsOwn.q47 R k36)
def thicketlaw05_BitsOwn.q50 (R : Value → World → Prop) (k36 : Nat) : Exit → Act → World → Prop := Exit.inBlock 2 (thicketlaw05_BitsOwn.q49 R k36)
def thicketlaw05_BitsOwn.rl50 (R : Value → World → Prop) (k36 : Nat) (k : Nat) (a0 : Option Addr) (n0 : Nat) (c0 : Nat) (a5 : Option Addr) (n5 : Nat) (c5 : Nat) (p15 : Option Addr) (x16 : Int) (x74 : Int) (x80 : Int) (x81 : Int) (w : World) : Prop := loopN [0, 5, 15, 16, 74, 80, 81] (codeN Go.Proofs.Tryd.prog (sub (codeOf Go.Proofs.Tryd.f10) [1, 1, 1, 1, 1, 1, 1, 1, 1, 1, 0, 1, 0, 0, 1, 1, 0, 0, 1, 1, 0, 0]) (nsub thicketlaw05_BitsOwn.an [1, 1, 1, 1, 1, 1, 1, 1, 1, 1, 0, 1, 0, 0, 1, 1, 0, 0, 1, 1, 0, 0])) (thicketlaw05_BitsOwn.q50 R k36) k ⟨#[.slice a0 n0 c0, undef, undef, undef, undef, .slice a5 n5 c5, undef, undef, undef, undef, undef, undef, undef, undef, undef, .pointer p15, .int .i64 x16, undef, undef, undef, undef, undef, undef, undef, undef, undef, undef, undef, undef, undef, undef, undef, undef, undef, undef, undef, undef, undef, undef, undef, undef, undef, undef, undef, undef, undef, undef, undef, undef, undef, undef, undef, undef, undef, undef, undef, undef, undef, undef, undef, undef, undef, undef, undef, undef, undef, undef, undef, undef, undef, undef, undef, undef, undef, .int .i64 x74, undef, undef, undef, undef, undef, .int .i64 x80, .int .i64 x81, undef, undef, undef, undef, undef, undef, undef, undef, undef, undef, undef, undef, undef, undef, undef, undef, undef, undef, undef, undef, undef, undef, undef, undef, undef, undef, undef, undef, undef, undef, undef, undef, undef, undef, undef, undef, undef, undef, undef, undef, undef, undef, undef, undef, undef, undef, undef, undef, undef, undef, undef, undef, undef, undef, undef, undef, undef, undef, undef, undef, undef, undef, undef, undef, undef, undef, undef, undef, undef, undef, undef, undef, undef, undef, undef, undef, undef, undef, undef, undef, undef, undef], []⟩ w
def thicketlaw05_BitsOwn.re50 (R : Value → World → Prop) (k36 : Nat) (a0 : Option Addr) (n0 : Nat) (c0 : Nat) (a5 : Option Addr) (n5 : Nat) (c5 : Nat) (p15 : Option Addr) (x16 : Int) (x74 : Int) (x80 : Int) (x81 : Int) (w : World) : Prop := ∃ k, thicketlaw05_BitsOwn.rl50 R k36 k a0 n0 c0 a5 n5 c5 p15 x16 x74 x80 x81 w
def thicketlaw05_BitsOwn.q64 (R : Value → World → Prop) : Exit → Act → World → Prop := (thicketlaw05_BitsOwn.q32 R)
def thicketlaw05_BitsOwn.q65 (R : Value → World → Prop) : Exit → Act → World → Prop := Exit.then (startN none (codeN Go.Proofs.Tryd.prog (sub (codeOf Go.Proofs.Tryd.f10) [1, 1, 1, 1, 1, 1, 1, 1, 1, 1, 1, 1]) (nsub thicketlaw05_BitsOwn.an [1, 1, 1, 1, 1, 1, 1, 1, 1, 1, 1, 1]) (thicketlaw05_BitsOwn.q64 R))) (thicketlaw05_BitsOwn.q64 R)
def thicketlaw05_BitsOwn.q67 (R : Value → World → Prop) : Exit → Act → World → Prop := (thicketlaw05_BitsOwn.q65 R)
def thicketlaw05_BitsOwn.q68 (R : Value → World → Prop) : Exit → Act → World → Prop := Exit.inBlock 4 (thicketlaw05_BitsOwn.q67 R)
def thicketlaw05_BitsOwn.rl68 (R : Value → World → Prop) (k : Nat) (a0 : Option Addr) (n0 : Nat) (c0 : Nat) (a5 : Option Addr) (n5 : Nat) (c5 : Nat) (p15 : Option Addr) (x94 : Int) (w : World) : Prop := loopN [0, 5, 15, 94] (codeN Go.Proofs.Tryd.prog (sub (codeOf Go.Proofs.Tryd.f10) [1, 1, 1, 1, 1, 1, 1, 1, 1, 1, 1, 0, 1, 0, 0]) (nsub thicketlaw05_BitsOwn.an [1, 1, 1, 1, 1, 1, 1, 1, 1, 1, 1, 0, 1, 0, 0])) (thicketlaw05_BitsOwn.q68 R) k ⟨#[.slice a0 n0 c0, undef, undef, undef, undef, .slice a5 n5 c5, undef, undef, undef, undef, undef, undef, undef, undef, undef, .pointer p15, undef, undef, undef, undef, undef, undef, undef, undef, undef, undef, undef, undef, undef, undef, undef, undef, undef, undef, undef, undef, undef, undef, undef, undef, undef, undef, undef, undef, undef, undef, undef, undef, undef, undef, undef, undef, undef, undef, undef, undef, undef, undef, undef, undef, undef, undef, undef, undef, undef, undef, undef, undef, undef, undef, undef, undef, undef, undef, undef, undef, undef, undef, undef, undef, undef, undef, undef, undef, undef, undef, undef, undef, undef, undef, undef, undef, undef, undef, .int .i64 x94, undef, undef, undef, undef, undef, undef, undef, undef, undef, undef, undef, undef, undef, undef, undef, undef, undef, undef, undef, undef, undef, undef, undef, undef, undef, undef, undef, undef, undef, undef, undef, undef, undef, undef, undef, undef, undef, undef, undef, undef, undef, undef, undef, undef, undef, undef, undef, undef, undef, undef, undef, undef, undef, undef, undef, undef, undef, undef, undef, undef, undef, undef, undef, undef, undef, undef, undef, undef, undef], []⟩ w
def thicketlaw05_BitsOwn.re68 (R : Value → World → Prop) (a0 : Option Addr) (n0 : Nat) (c0 : Nat) (a5 : Option Addr) (n5 : Nat) (c5 : Nat) (p15 : Option Addr) (x94 : Int) (w : World) : Prop := ∃ k, thicketlaw05_BitsOwn.rl68 R k a0 n0 c0 a5 n5 c5 p15 x94 w
def thicketlaw05_BitsOwn.q81 (R : Value → World → Prop) : Exit → Act → World → Prop := (thicketlaw05_BitsOwn.q64 R)
def thicketlaw05_BitsOwn.q82 (R : Value → World → Prop) : Exit → Act → World → Prop := Exit.then (startN none (codeN Go.Proofs.Tryd.prog (sub (codeOf Go.Proofs.Tryd.f10) [1, 1, 1, 1, 1, 1, 1, 1, 1, 1, 1, 1, 1]) (nsub thicketlaw05_BitsOwn.an [1, 1, 1, 1, 1, 1, 1, 1, 1, 1, 1, 1, 1]) (thicketlaw05_BitsOwn.q81 R))) (thicketlaw05_BitsOwn.q81 R)
def thicketlaw05_BitsOwn.q84 (R : Value → World → Prop) : Exit → Act → World → Prop := (thicketlaw05_BitsOwn.q82 R)
def thicketlaw05_BitsOwn.q85 (R : Value → World → Prop) : Exit → Act → World → Prop := Exit.inBlock 6 (thicketlaw05_BitsOwn.q84 R)
def thicketlaw05_BitsOwn.rl85 (R : Value → World → Prop) (k : Nat) (a0 : Option Addr) (n0 : Nat) (c0 : Nat) (a5 : Option Addr) (n5 : Nat) (c5 : Nat) (p15 : Option Addr) (x105 : Int) (w : World) : Prop := loopN [0, 5, 15, 105] (codeN Go.Proofs.Tryd.prog (sub (codeOf Go.Proofs.Tryd.f10) [1, 1, 1, 1, 1, 1, 1, 1, 1, 1, 1, 1, 0, 1, 0, 0]) (nsub thicketlaw05_BitsOwn.an [1, 1, 1, 1, 1, 1, 1, 1, 1, 1, 1, 1, 0, 1, 0, 0])) (thicketlaw05_BitsOwn.q85 R) k ⟨#[.slice a0 n0 c0, undef, undef, undef, undef, .slice a5 n5 c5, undef, undef, undef, undef, undef, undef, undef, undef, undef, .pointer p15, undef, undef, undef, undef, undef, undef, undef, undef, undef, undef, undef, undef, undef, undef, undef, undef, undef, undef, undef, undef, undef, undef, undef, undef, undef, undef, undef, undef, undef, undef, undef, undef, undef, undef, undef, undef, undef, undef, undef, undef, undef, undef, undef, undef, undef, undef, undef, undef, undef, undef, undef, undef, undef, undef, undef, undef, undef, undef, undef, undef, undef, undef, undef, undef, undef, undef, undef, undef, undef, undef, undef, undef, undef, undef, undef, undef, undef, undef, undef, undef, undef, undef, undef, undef, undef, undef, undef, undef, undef, .int .i64 x105, undef, undef, undef, undef, undef, undef, undef, undef, undef, undef, undef, undef, undef, undef, undef, undef, undef, undef, undef, undef, undef, undef, undef, undef, undef, undef, undef, undef, undef, undef, undef, undef, undef, undef, undef, undef, undef, undef, undef, undef, undef, undef, undef, undef, undef, undef, undef, undef, undef, undef, undef, undef, undef, undef, undef, undef, undef, undef], []⟩ w
def thicketlaw05_BitsOwn.re85 (R : Value → World → Prop) (a0 : Option Addr) (n0 : Nat) (c0 : Nat) (a5 : Option Addr) (n5 : Nat) (c5 : Nat) (p15 : Option Addr) (x105 : Int) (w : World) : Prop := ∃ k, thicketlaw05_BitsOwn.rl85 R k a0 n0 c0 a5 n5 c5 p15 x105 w
def thicketlaw05_BitsOwn.q86 (R : Value → World → Prop) (k85 : Nat) : Exit → Act → World → Prop := Exit.then (fun a w => loopN [0, 5, 15, 105] (codeN Go.Proofs.Tryd.prog (sub (codeOf Go.Proofs.Tryd.f10) [1, 1, 1, 1, 1, 1, 1, 1, 1, 1, 1, 1, 0, 1, 0, 0]) (nsub thicketlaw05_BitsOwn.an [1, 1, 1, 1, 1, 1, 1, 1, 1, 1, 1, 1, 0, 1, 0, 0])) (thicketlaw05_BitsOwn.q85 R) k85 (clr [0, 5, 15, 105] a) w) (thicketlaw05_BitsOwn.q85 R)
def thicketlaw05_BitsOwn.q88 (R : Value → World → Prop) (k85 : Nat) : Exit → Act → World → Prop := (thicketlaw05_BitsOwn.q86 R k85)
def thicketlaw05_BitsOwn.q92 (R : Value → World → Prop) (k85 : Nat) : Exit → Act → World → Prop := (thicketlaw05_BitsOwn.q88 R k85)
def thicketlaw05_BitsOwn.q93 (R : Value → World → Prop) (k85 : Nat) : Exit → Act → World → Prop := Exit.then (startN none (codeN Go.Proofs.Tryd.prog (sub (codeOf Go.Proofs.Tryd.f10) [1, 1, 1, 1, 1, 1, 1, 1, 1, 1, 1, 1, 0, 1, 0, 0, 1, 1, 1]) (nsub thicketlaw05_BitsOwn.an [1, 1, 1, 1, 1, 1, 1, 1, 1, 1, 1, 1, 0, 1, 0, 0, 1, 1, 1]) (thicketlaw05_BitsOwn.q92 R k85))) (thicketlaw05_BitsOwn.q92 R k85)
def thicketlaw05_BitsOwn.q94 (R : Value → World → Prop) (k85 : Nat) : Exit → Act → World → Prop := Exit.inBlock 7 (thicketlaw05_BitsOwn.q93 R k85)
def thicketlaw05_BitsOwn.q96 (R : Value → World → Prop) (k85 : Nat) : Exit → Act → World → Prop := (thicketlaw05_BitsOwn.q94 R k85)
def thicketlaw05_BitsOwn.q98 (R : Value → World → Prop) (k85 : Nat) : Exit → Act → World → Prop := (thicketlaw05_BitsOwn.q96 R k85)
def thicketlaw05_BitsOwn.q99 (R : Value → World → Prop) (k85 : Nat) : Exit → Act → World → Prop := Exit.inBlock 8 (thicketlaw05_BitsOwn.q98 R k85)
def thicketlaw05_BitsOwn.rl99 (R : Value → World → Prop) (k85 : Nat) (k : Nat) (a0 : Option Addr) (n0 : Nat) (c0 : Nat) (a5 : Option Addr) (n5 : Nat) (c5 : Nat) (p15 : Option Addr) (x19 : Int) (x20 : Int) (x105 : Int) (w : World) : Prop := loopN [0, 5, 15, 19, 20, 105] (codeN Go.Proofs.Tryd.prog (sub (codeOf Go.Proofs.Tryd.f10) [1, 1, 1, 1, 1, 1, 1, 1, 1, 1, 1, 1, 0, 1, 0, 0, 1, 1, 0, 0, 1, 1, 0, 0]) (nsub thicketlaw05_BitsOwn.an [1, 1, 1, 1, 1, 1, 1, 1, 1, 1, 1, 1, 0, 1, 0, 0, 1, 1, 0, 0, 1, 1, 0, 0])) (thicketlaw05_BitsOwn.q99 R k85) k ⟨#[.slice a0 n0 c0, undef, undef, undef, undef, .slice a5 n5 c5, undef, undef, undef, undef, undef, undef, undef, undef, undef, .pointer p15, undef, undef, undef, .int .i64 x19, .int .i64 x20, undef, undef, undef, undef, undef, undef, undef, undef, undef, undef, undef, undef, undef, undef, undef, undef, undef, undef, undef, undef, undef, undef, undef, undef, undef, undef, undef, undef, undef, undef, undef, undef, undef, undef, undef, undef, undef, undef, undef, undef, undef, undef, undef, undef, undef, undef, undef, undef, undef, undef, undef, undef, undef, undef, undef, undef, undef, undef, undef, undef, undef, undef, undef, undef, undef, undef, undef, undef, undef, undef, undef, undef, undef, undef, undef, undef, undef, undef, undef, undef, undef, undef, undef, undef, .int .i64 x105, undef, undef, undef, undef, undef, undef, undef, undef, undef, undef, undef, undef, undef, undef, undef, undef, undef, undef, undef, undef, undef, undef, undef, undef, undef, undef, undef, undef, undef, undef, undef, undef, undef, undef, undef, undef, undef, undef, undef, undef, undef, undef, undef, undef, undef, undef, undef, undef, undef, undef, undef, undef, undef, undef, undef, undef, undef, undef], []⟩ w
def thicketlaw05_BitsOwn.re99 (R : Value → World → Prop) (k85 : Nat) (a0 : Option Addr) (n0 : Nat) (c0 : Nat) (a5 : Option Addr) (n5 : Nat) (c5 : Nat) (p15 : Option Addr) (x19 : Int) (x20 : Int) (x105 : Int) (w : World) : Prop := ∃ k, thicketlaw05_BitsOwn.rl99 R k85 k a0 n0 c0 a5 n5 c5 p15 x19 x20 x105 w
def thicketlaw05_BitsOwn.q117 (R : Value → World → Prop) : Exit → Act → World → Prop := (thicketlaw05_BitsOwn.q81 R)
def thicketlaw05_BitsOwn.q119 (R : Value → World → Prop) : Exit → Act → World → Prop := (thicketlaw05_BitsOwn.q117 R)
def thicketlaw05_BitsOwn.q120 (R : Value → World → Prop) : Exit → Act → World → Prop := Exit.then (startN none (codeN Go.Proofs.Tryd.prog (sub (codeOf Go.Proofs.Tryd.f10) [1, 1, 1, 1, 1, 1, 1, 1, 1, 1, 1, 1, 1, 1, 1]) (nsub thicketlaw05_BitsOwn.an [1, 1, 1, 1, 1, 1, 1, 1, 1, 1, 1, 1, 1, 1, 1]) (thicketlaw05_BitsOwn.q119 R))) (thicketlaw05_BitsOwn.q119 R)
def thicketlaw05_BitsOwn.q122 (R : Value → World → Prop) : Exit → Act → World → Prop := (thicketlaw05_BitsOwn.q120 R)
def thicketlaw05_BitsOwn.q123 (R : Value → World → Prop) : Exit → Act → World → Prop := Exit.inBlock 10 (thicketlaw05_BitsOwn.q122 R)
def thicketlaw05_BitsOwn.rl123 (R : Value → World → Prop) (k : Nat) (a0 : Option Addr) (n0 : Nat) (c0 : Nat) (a5 : Option Addr) (n5 : Nat) (c5 : Nat) (a21 : Option Addr) (n21 : Nat) (c21 : Nat) (x131 : Int) (x132 : Int) (w : World) : Prop := loopN [0, 5, 21, 131, 132] (codeN Go.Proofs.Tryd.prog (sub (codeOf Go.Proofs.Tryd.f10) [1, 1, 1, 1, 1, 1, 1, 1, 1, 1, 1, 1, 1, 1, 0, 1, 0, 0]) (nsub thicketlaw05_BitsOwn.an [1, 1, 1, 1, 1, 1, 1, 1, 1, 1, 1, 1, 1, 1, 0, 1, 0, 0])) (thicketlaw05_BitsOwn.q123 R) k ⟨#[.slice a0 n0 c0, undef, undef, undef, undef, .slice a5 n5 c5, undef, undef, undef, undef, undef, undef, undef, undef, undef, undef, undef, undef, undef, undef, undef, .slice a21 n21 c21, undef, undef, undef, undef, undef, undef, undef, undef, undef, undef, undef, undef, undef, undef, undef, undef, undef, undef, undef, undef, undef, undef, undef, undef, undef, undef, undef, undef, undef, undef, undef, undef, undef, undef, undef, undef, undef, undef, undef, undef, undef, undef, undef, undef, undef, undef, undef, undef, undef, undef, undef, undef, undef, undef, undef, undef, undef, undef, undef, undef, undef, undef, undef, undef, undef, undef, undef, undef, undef, undef, undef, undef, undef, undef, undef, undef, undef, undef, undef, undef, undef, undef, undef, undef, undef, undef, undef, undef, undef, undef, undef, undef, undef, undef, undef, undef, undef, undef, undef, undef, undef, undef, undef, undef, undef, undef, undef, undef, undef, .int .i64 x131, .int .i64 x132, undef, undef, undef, undef, undef, undef, undef, undef, undef, undef, undef, undef, undef, undef, undef, undef, undef, undef, undef, undef, undef, undef, undef, undef, undef, undef, undef, undef, undef, undef, undef], []⟩ w
def thicketlaw05_BitsOwn.re123 (R : Value → World → Prop) (a0 : Option Addr) (n0 : Nat) (c0 : Nat) (a5 : Option Addr) (n5 : Nat) (c5 : Nat) (a21 : Option Addr) (n21 : Nat) (c21 : Nat) (x131 : Int) (x132 : Int) (w : World) : Prop := ∃ k, thicketlaw05_BitsOwn.rl123 R k a0 n0 c0 a5 n5 c5 a21 n21 c21 x131 x132 w
def thicketlaw05_BitsOwn.l50 (R : Value → World → Prop) (b36 : (Option Addr) → Nat → Nat → (Option Addr) → Nat → Nat → (Option Addr) → Int → World → Prop) : Nat → (Option Addr) → Nat → Nat → (Option Addr) → Nat → Nat → (Option Addr) → Int → Int → Int → Int → World → Prop
  | 0, _, _, _, _, _, _, _, _, _, _, _, _ => False
  | k + 1, a0, n0, c0, a5, n5, c5, p15, x16, x74, x80, x81, w => thicketlaw05_BitsOwn.g50 R b36 (thicketlaw05_BitsOwn.l50 R b36 k) a0 n0 c0 a5 n5 c5 p15 x16 x74 x80 x81 w
def thicketlaw05_BitsOwn.e50 (R : Value → World → Prop) (b36 : (Option Addr) → Nat → Nat → (Option Addr) → Nat → Nat → (Option Addr) → Int → World → Prop) (a0 : Option Addr) (n0 : Nat) (c0 : Nat) (a5 : Option Addr) (n5 : Nat) (c5 : Nat) (p15 : Option Addr) (x16 : Int) (x74 : Int) (x80 : Int) (x81 : Int) (w : World) : Prop := ∃ k, thicketlaw05_BitsOwn.l50 R b36 k a0 n0 c0 a5 n5 c5 p15 x16 x74 x80 x81 w
theorem thicketlaw05_BitsOwn.s50 (R : Value → World → Prop) (k36 : Nat) (k : Nat) (a0 : Option Addr) (n0 : Nat) (c0 : Nat) (a5 : Option Addr) (n5 : Nat) (c5 : Nat) (p15 : Option Addr) (x16 : Int) (x74 : Int) (x80 : Int) (x81 : Int) (w : World) : thicketlaw05_BitsOwn.rl50 R k36 (k + 1) a0 n0 c0 a5 n5 c5 p15 x16 x74 x80 x81 w = ∀ _ : Nat → Value, thicketlaw05_BitsOwn.g50 R (thicketlaw05_BitsOwn.rl36 R k36) (thicketlaw05_BitsOwn.rl50 R k36 k) a0 n0 c0 a5 n5 c5 p15 x16 x74 x80 x81 w := by kernel_rfl
theorem thicketlaw05_BitsOwn.lq50 (R : Value → World → Prop) (k36 : Nat) (b36 : (Option Addr) → Nat → Nat → (Option Addr) → Nat → Nat → (Option Addr) → Int → World → Prop) (hb36 : b36 = thicketlaw05_BitsOwn.rl36 R k36) : ∀ k, thicketlaw05_BitsOwn.l50 R b36 k = thicketlaw05_BitsOwn.rl50 R k36 k
  | 0 => by funext a0 n0 c0 a5 n5 c5 p15 x16 x74 x80 x81 w; rfl
  | k + 1 => by
    funext a0 n0 c0 a5 n5 c5 p15 x16 x74 x80 x81 w
    rw [thicketlaw05_BitsOwn.s50, forall_const]
    unfold thicketlaw05_BitsOwn.l50
    have ih := thicketlaw05_BitsOwn.lq50 R k36 b36 hb36 k
    subst hb36
    rw [ih]
    all_goals rfl
theorem thicketlaw05_BitsOwn.eq50 (R : Value → World → Prop) (k36 : Nat) (b36 : (Option Addr) → Nat → Nat → (Option Addr) → Nat → Nat → (Option Addr) → Int → World → Prop) (hb36 : b36 = thicketlaw05_BitsOwn.rl36 R k36) : thicketlaw05_BitsOwn.e50 R b36 = thicketlaw05_BitsOwn.re50 R k36 := by
  funext a0 n0 c0 a5 n5 c5 p15 x16 x74 x80 x81 w
  unfold thicketlaw05_BitsOwn.e50 thicketlaw05_BitsOwn.re50
  simp only [thicketlaw05_BitsOwn.lq50 R k36 b36 hb36]
def thicketlaw05_BitsOwn.l99 (R : Value → World → Prop) (b85 : (Option Addr) → Nat → Nat → (Option Addr) → Nat → Nat → (Option Addr) → Int → World → Prop) : Nat → (Option Addr) → Nat → Nat → (Option Addr) → Nat → Nat → (Option Addr) → Int → Int → Int → World → Prop
  | 0, _, _, _, _, _, _, _, _, _, _, _ => False
  | k + 1, a0, n0, c0, a5, n5, c5, p15, x19, x20, x105, w => thicketlaw05_BitsOwn.g99 R b85 (thicketlaw05_BitsOwn.l99 R b85 k) a0 n0 c0 a5 n5 c5 p15 x19 x20 x105 w
def thicketlaw05_BitsOwn.e99 (R : Value → World → Prop) (b85 : (Option Addr) → Nat → Nat → (Option Addr) → Nat → Nat → (Option Addr) → Int → World → Prop) (a0 : Option Addr) (n0 : Nat) (c0 : Nat) (a5 : Option Addr) (n5 : Nat) (c5 : Nat) (p15 : Option Addr) (x19 : Int) (x20 : Int) (x105 : Int) (w : World) : Prop := ∃ k, thicketlaw05_BitsOwn.l99 R b85 k a0 n0 c0 a5 n5 c5 p15 x19 x20 x105 w
theorem thicketlaw05_BitsOwn.s99 (R : Value → World → Prop) (k85 : Nat) (k : Nat) (a0 : Option Addr) (n0 : Nat) (c0 : Nat) (a5 : Option Addr) (n5 : Nat) (c5 : Nat) (p15 : Option Addr) (x19 : Int) (x20 : Int) (x105 : Int) (w : World) : thicketlaw05_BitsOwn.rl99 R k85 (k + 1) a0 n0 c0 a5 n5 c5 p15 x19 x20 x105 w = ∀ _ : Nat → Value, thicketlaw05_BitsOwn.g99 R (thicketlaw05_BitsOwn.rl85 R k85) (thicketlaw05_BitsOwn.rl99 R k85 k) a0 n0 c0 a5 n5 c5 p15 x19 x20 x105 w := by kernel_rfl
theorem thicketlaw05_BitsOwn.lq99 (R : Value → World → Prop) (k85 : Nat) (b85 : (Option Addr) → Nat → Nat → (Option Addr) → Nat → Nat → (Option Addr) → Int → World → Prop) (hb85 : b85 = thicketlaw05_BitsOwn.rl85 R k85) : ∀ k, thicketlaw05_BitsOwn.l99 R b85 k = thicketlaw05_BitsOwn.rl99 R k85 k
  | 0 => by funext a0 n0 c0 a5 n5 c5 p15 x19 x20 x105 w; rfl
  | k + 1 => by
    funext a0 n0 c0 a5 n5 c5 p15 x19 x20 x105 w
    rw [thicketlaw05_BitsOwn.s99, forall_const]
    unfold thicketlaw05_BitsOwn.l99
    have ih := thicketlaw05_BitsOwn.lq99 R k85 b85 hb85 k
    subst hb85
    rw [ih]
    all_goals rfl
theorem thicketlaw05_BitsOwn.eq99 (R : Value → World → Prop) (k85 : Nat) (b85 : (Option Addr) → Nat → Nat → (Option Addr) → Nat → Nat → (Option Addr) → Int → World → Prop) (hb85 : b85 = thicketlaw05_BitsOwn.rl85 R k85) : thicketlaw05_BitsOwn.e99 R b85 = thicketlaw05_BitsOwn.re99 R k85 := by
  funext a0 n0 c0 a5 n5 c5 p15 x19 x20 x105 w
  unfold thicketlaw05_BitsOwn.e99 thicketlaw05_BitsOwn.re99
  simp only [thicketlaw05_BitsOwn.lq99 R k85 b85 hb85]
def thicketlaw05_BitsOwn.l123 (R : Value → World → Prop) : Nat → (Option Addr) → Nat → Nat → (Option Addr) → Nat → Nat → (Option Addr) → Nat → Nat → Int → Int → World → Prop
  | 0, _, _, _, _, _, _, _, _, _, _, _, _ => False
  | k + 1, a0, n0, c0, a5, n5, c5, a21, n21, c21, x131, x132, w => thicketlaw05_BitsOwn.g123 R (thicketlaw05_BitsOwn.l123 R k) a0 n0 c0 a5 n5 c5 a21 n21 c21 x131 x132 w
def thicketlaw05_BitsOwn.e123 (R : Value → World → Prop) (a0 : Option Addr) (n0 : Nat) (c0 : Nat) (a5 : Option Addr) (n5 : Nat) (c5 : Nat) (a21 : Option Addr) (n21 : Nat) (c21 : Nat) (x131 : Int) (x132 : Int) (w : World) : Prop := ∃ k, thicketlaw05_BitsOwn.l123 R k a0 n0 c0 a5 n5 c5 a21 n21 c21 x131 x132 w
theorem thicketlaw05_BitsOwn.s123 (R : Value → World → Prop) (k : Nat) (a0 : Option Addr) (n0 : Nat) (c0 : Nat) (a5 : Option Addr) (n5 : Nat) (c5 : Nat) (a21 : Option Addr) (n21 : Nat) (c21 : Nat) (x131 : Int) (x132 : Int) (w : World) : thicketlaw05_BitsOwn.rl123 R (k + 1) a0 n0 c0 a5 n5 c5 a21 n21 c21 x131 x132 w = ∀ _ : Nat → Value, thicketlaw05_BitsOwn.g123 R (thicketlaw05_BitsOwn.rl123 R k) a0 n0 c0 a5 n5 c5 a21 n21 c21 x131 x132 w := by kernel_rfl
theorem thicketlaw05_BitsOwn.lq123 (R : Value → World → Prop) : ∀ k, thicketlaw05_BitsOwn.l123 R k = thicketlaw05_BitsOwn.rl123 R k
  | 0 => by funext a0 n0 c0 a5 n5 c5 a21 n21 c21 x131 x132 w; rfl
  | k + 1 => by
    funext a0 n0 c0 a5 n5 c5 a21 n21 c21 x131 x132 w
    rw [thicketlaw05_BitsOwn.s123, forall_const]
    unfold thicketlaw05_BitsOwn.l123
    have ih := thicketlaw05_BitsOwn.lq123 R k
    rw [ih]
    all_goals rfl
theorem thicketlaw05_BitsOwn.eq123 (R : Value → World → Prop) : thicketlaw05_BitsOwn.e123 R = thicketlaw05_BitsOwn.re123 R := by
  funext a0 n0 c0 a5 n5 c5 a21 n21 c21 x131 x132 w
  unfold thicketlaw05_BitsOwn.e123 thicketlaw05_BitsOwn.re123
  simp only [thicketlaw05_BitsOwn.lq123 R]
def thicketlaw05_BitsOwn.l85 (R : Value → World → Prop) : Nat → (Option Addr) → Nat → Nat → (Option Addr) → Nat → Nat → (Option Addr) → Int → World → Prop
  | 0, _, _, _, _, _, _, _, _, _ => False
  | k + 1, a0, n0, c0, a5, n5, c5, p15, x105, w => thicketlaw05_BitsOwn.g85 R (thicketlaw05_BitsOwn.e99 R (thicketlaw05_BitsOwn.l85 R k)) (thicketlaw05_BitsOwn.e123 R) a0 n0 c0 a5 n5 c5 p15 x105 w
def thicketlaw05_BitsOwn.e85 (R : Value → World → Prop) (a0 : Option Addr) (n0 : Nat) (c0 : Nat) (a5 : Option Addr) (n5 : Nat) (c5 : Nat) (p15 : Option Addr) (x105 : Int) (w : World) : Prop := ∃ k, thicketlaw05_BitsOwn.l85 R k a0 n0 c0 a5 n5 c5 p15 x105 w
theorem thicketlaw05_BitsOwn.s85 (R : Value → World → Prop) (k : Nat) (a0 : Option Addr) (n0 : Nat) (c0 : Nat) (a5 : Option Addr) (n5 : Nat) (c5 : Nat) (p15 : Option Addr) (x105 : Int) (w : World) : thicketlaw05_BitsOwn.rl85 R (k + 1) a0 n0 c0 a5 n5 c5 p15 x105 w = ∀ _ : Nat → Value, thicketlaw05_BitsOwn.g85 R (thicketlaw05_BitsOwn.re99 R k) (thicketlaw05_BitsOwn.re123 R) a0 n0 c0 a5 n5 c5 p15 x105 w := by kernel_rfl
theorem thicketlaw05_BitsOwn.lq85 (R : Value → World → Prop) : ∀ k, thicketlaw05_BitsOwn.l85 R k = thicketlaw05_BitsOwn.rl85 R k
  | 0 => by funext a0 n0 c0 a5 n5 c5 p15 x105 w; rfl
  | k + 1 => by
    funext a0 n0 c0 a5 n5 c5 p15 x105 w
    rw [thicketlaw05_BitsOwn.s85, forall_const]
    unfold thicketlaw05_BitsOwn.l85
    have ih := thicketlaw05_BitsOwn.lq85 R k
    rw [thicketlaw05_BitsOwn.eq99 R k _ ih]
    rw [thicketlaw05_BitsOwn.eq123 R]
    all_goals rfl
theorem thicketlaw05_BitsOwn.eq85 (R : Value → World → Prop) : thicketlaw05_BitsOwn.e85 R = thicketlaw05_BitsOwn.re85 R := by
  funext a0 n0 c0 a5 n5 c5 p15 x105 w
  unfold thicketlaw05_BitsOwn.e85 thicketlaw05_BitsOwn.re85
  simp only [thicketlaw05_BitsOwn.lq85 R]
def thicketlaw05_BitsOwn.l68 (R : Value → World → Prop) : Nat → (Option Addr) → Nat → Nat → (Option Addr) → Nat → Nat → (Option Addr) → Int → World → Prop
  | 0, _, _, _, _, _, _, _, _, _ => False
  | k + 1, a0, n0, c0, a5, n5, c5, p15, x94, w => thicketlaw05_BitsOwn.g68 R (thicketlaw05_BitsOwn.l68 R k) (thicketlaw05_BitsOwn.e85 R) a0 n0 c0 a5 n5 c5 p15 x94 w
def thicketlaw05_BitsOwn.e68 (R : Value → World → Prop) (a0 : Option Addr) (n0 : Nat) (c0 : Nat) (a5 : Option Addr) (n5 : Nat) (c5 : Nat) (p15 : Option Addr) (x94 : Int) (w : World) : Prop := ∃ k, thicketlaw05_BitsOwn.l68 R k a0 n0 c0 a5 n5 c5 p15 x94 w
theorem thicketlaw05_BitsOwn.s68 (R : Value → World → Prop) (k : Nat) (a0 : Option Addr) (n0 : Nat) (c0 : Nat) (a5 : Option Addr) (n5 : Nat) (c5 : Nat) (p15 : Option Addr) (x94 : Int) (w : World) : thicketlaw05_BitsOwn.rl68 R (k + 1) a0 n0 c0 a5 n5 c5 p15 x94 w = ∀ _ : Nat → Value, thicketlaw05_BitsOwn.g68 R (thicketlaw05_BitsOwn.rl68 R k) (thicketlaw05_BitsOwn.re85 R) a0 n0 c0 a5 n5 c5 p15 x94 w := by kernel_rfl
theorem thicketlaw05_BitsOwn.lq68 (R : Value → World → Prop) : ∀ k, thicketlaw05_BitsOwn.l68 R k = thicketlaw05_BitsOwn.rl68 R k
  | 0 => by funext a0 n0 c0 a5 n5 c5 p15 x94 w; rfl
  | k + 1 => by
    funext a0 n0 c0 a5 n5 c5 p15 x94 w
    rw [thicketlaw05_BitsOwn.s68, forall_const]
    unfold thicketlaw05_BitsOwn.l68
    have ih := thicketlaw05_BitsOwn.lq68 R k
    rw [thicketlaw05_BitsOwn.eq85 R]
    rw [ih]
    all_goals rfl
theorem thicketlaw05_BitsOwn.eq68 (R : Value → World → Prop) : thicketlaw05_BitsOwn.e68 R = thicketlaw05_BitsOwn.re68 R := by
  funext a0 n0 c0 a5 n5 c5 p15 x94 w
  unfold thicketlaw05_BitsOwn.e68 thicketlaw05_BitsOwn.re68
  simp only [thicketlaw05_BitsOwn.lq68 R]
def thicketlaw05_BitsOwn.l36 (R : Value → World → Prop) : Nat → (Option Addr) → Nat → Nat → (Option Addr) → Nat → Nat → (Option Addr) → Int → World → Prop
  | 0, _, _, _, _, _, _, _, _, _ => False
  | k + 1, a0, n0, c0, a5, n5, c5, p15, x74, w => thicketlaw05_BitsOwn.g36 R (thicketlaw05_BitsOwn.e50 R (thicketlaw05_BitsOwn.l36 R k)) (thicketlaw05_BitsOwn.e68 R) a0 n0 c0 a5 n5 c5 p15 x74 w
def thicketlaw05_BitsOwn.e36 (R : Value → World → Prop) (a0 : Option Addr) (n0 : Nat) (c0 : Nat) (a5 : Option Addr) (n5 : Nat) (c5 : Nat) (p15 : Option Addr) (x74 : Int) (w : World) : Prop := ∃ k, thicketlaw05_BitsOwn.l36 R k a0 n0 c0 a5 n5 c5 p15 x74 w
theorem thicketlaw05_BitsOwn.s36 (R : Value → World → Prop) (k : Nat) (a0 : Option Addr) (n0 : Nat) (c0 : Nat) (a5 : Option Addr) (n5 : Nat) (c5 : Nat) (p15 : Option Addr) (x74 : Int) (w : World) : thicketlaw05_BitsOwn.rl36 R (k + 1) a0 n0 c0 a5 n5 c5 p15 x74 w = ∀ _ : Nat → Value, thicketlaw05_BitsOwn.g36 R (thicketlaw05_BitsOwn.re50 R k) (thicketlaw05_BitsOwn.re68 R) a0 n0 c0 a5 n5 c5 p15 x74 w := by kernel_rfl
theorem thicketlaw05_BitsOwn.lq36 (R : Value → World → Prop) : ∀ k, thicketlaw05_BitsOwn.l36 R k = thicketlaw05_BitsOwn.rl36 R k
  | 0 => by funext a0 n0 c0 a5 n5 c5 p15 x74 w; rfl
  | k + 1 => by
    funext a0 n0 c0 a5 n5 c5 p15 x74 w
    rw [thicketlaw05_BitsOwn.s36, forall_const]
    unfold thicketlaw05_BitsOwn.l36
    have ih := thicketlaw05_BitsOwn.lq36 R k
    rw [thicketlaw05_BitsOwn.eq50 R k _ ih]
    rw [thicketlaw05_BitsOwn.eq68 R]
    all_goals rfl
theorem thicketlaw05_BitsOwn.eq36 (R : Value → World → Prop) : thicketlaw05_BitsOwn.e36 R = thicketlaw05_BitsOwn.re36 R := by
  funext a0 n0 c0 a5 n5 c5 p15 x74 w
  unfold thicketlaw05_BitsOwn.e36 thicketlaw05_BitsOwn.re36
  simp only [thicketlaw05_BitsOwn.lq36 R]
def thicketlaw05_BitsOwn (R : Value → World → Prop) (a0 : Option Addr) (n0 : Nat) (c0 : Nat) (x1 : Int) (w : World) : Prop := thicketlaw05_BitsOwn.g0 R (thicketlaw05_BitsOwn.e36 R) a0 n0 c0 x1 w
theorem thicketlaw05_BitsOwn.root0 (R : Value → World → Prop) (a0 : Option Addr) (n0 : Nat) (c0 : Nat) (x1 : Int) (w : World) : fnN Go.Proofs.Tryd.prog Go.Proofs.Tryd.f10 thicketlaw05_BitsOwn.an #[.slice a0 n0 c0, .int .i64 x1] w R = thicketlaw05_BitsOwn.g0 R (thicketlaw05_BitsOwn.re36 R) a0 n0 c0 x1 w := by kernel_rfl
theorem thicketlaw05_BitsOwn.calls {R : Value → World → Prop} {a0 : Option Addr} {n0 : Nat} {c0 : Nat} {x1 : Int} {w : World} (h : thicketlaw05_BitsOwn R a0 n0 c0 x1 w) : Go.E.CallsD Go.Proofs.Tryd.prog 10 #[.slice a0 n0 c0, .int .i64 x1] w R := by
  refine callsD_of (n := thicketlaw05_BitsOwn.an) M_follows M_sizes Go.Proofs.Tryd.func10 (by rfl) ?_
  rw [thicketlaw05_BitsOwn.root0]
  unfold thicketlaw05_BitsOwn at h
  rw [thicketlaw05_BitsOwn.eq36 R] at h
  exact h
-- thicket/thicketlaw05.BitsLaws
def thicketlaw05_BitsLaws.an : An := (.mk none .nil (.mk none .nil (.mk none .nil (.mk none .nil (.mk none .nil (.mk none .nil (.mk none .nil (.mk none .nil (.mk none .nil (.mk none (.mk none .nil (.mk none (.mk (some [0, 13, 14]) .nil .nil) .nil)) (.mk none .nil (.mk none .nil (.mk none (.mk none .nil (.mk none (.mk (some [0, 13, 16, 17, 161, 162, 163]) .nil .nil) .nil)) .nil)))))))))))))
def thicketlaw05_BitsLaws.g0 (R : Value → World → Prop) (e46 : (Option Addr) → Nat → Nat → Int → Int → World → Prop) (a0 : Option Addr) (n0 : Nat) (c0 : Nat) (a1 : Option Addr) (n1 : Nat) (c1 : Nat) (x2 : Int) (w : World) : Prop :=
  Go.E.CallsD Go.Proofs.Tryd.prog 20 #[] w fun yv77 u78 =>
    ∃ yb_79 : Bool, yv77 = .bool yb_79 ∧
      (onBool (!yb_79)
        (R (.bool false) u78)
        (Go.E.CallsD Go.Proofs.Tryd.prog 30 #[.slice a0 n0 c0, .slice a1 n1 c1] u78 fun yv80 u81 =>
          ∃ ya_82_0 : Option Addr, ∃ yn_82_0 : Nat, ∃ yc_82_0 : Nat, ∃ yx_82_1 : Int, yv80 = .tuple #[.slice ya_82_0 yn_82_0 yc_82_0, .int .i64 yx_82_1] ∧
            (Go.E.CallsD Go.Proofs.Tryd.prog 31 #[.slice a0 n0 c0, .slice a1 n1 c1] u81 fun yv83 u84 =>
              ∃ ya_85_0 : Option Addr, ∃ yn_85_0 : Nat, ∃ yc_85_0 : Nat, ∃ yx_85_1 : Int, yv83 = .tuple #[.slice ya_85_0 yn_85_0 yc_85_0, .int .i64 yx_85_1] ∧
                (Go.E.CallsD Go.Proofs.Tryd.prog 32 #[.slice a0 n0 c0, .slice a1 n1 c1] u84 fun yv86 u87 =>
                  ∃ ya_88_0 : Option Addr, ∃ yn_88_0 : Nat, ∃ yc_88_0 : Nat, ∃ yx_88_1 : Int, yv86 = .tuple #[.slice ya_88_0 yn_88_0 yc_88_0, .int .i64 yx_88_1] ∧
                    (onBool (yx_82_1 != 0)
                      (R (.bool ((n0 : Int) != (n1 : Int))) u87)
                      (onBool (yx_85_1 != 0)
                        (R (.bool ((n0 : Int) != (n1 : Int))) u87)
                        (onBool (yx_88_1 != 0)
                          (R (.bool ((n0 : Int) != (n1 : Int))) u87)
                          (Go.E.CallsD Go.Proofs.Tryd.prog 25 #[.slice ya_82_0 yn_82_0 yc_82_0] u87 fun yv89 u90 =>
                            ∃ yx_91 : Int, yv89 = .int .i64 yx_91 ∧
                              (Go.E.CallsD Go.Proofs.Tryd.prog 25 #[.slice ya_85_0 yn_85_0 yc_85_0] u90 fun yv92 u93 =>
                                ∃ yx_94 : Int, yv92 = .int .i64 yx_94 ∧
                                  (nv (IntKind.i64.wrap (yx_91 + yx_94)) fun t95 =>
                                  Go.E.CallsD Go.Proofs.Tryd.prog 25 #[.slice a0 n0 c0] u93 fun yv96 u97 =>
                                    ∃ yx_98 : Int, yv96 = .int .i64 yx_98 ∧
                                      (Go.E.CallsD Go.Proofs.Tryd.prog 25 #[.slice a1 n1 c1] u97 fun yv99 u100 =>
                                        ∃ yx_101 : Int, yv99 = .int .i64 yx_101 ∧
                                          (nv (IntKind.i64.wrap (yx_98 + yx_101)) fun t102 =>
                                          onBool (t95 != t102)
                                            (R (.bool false) u100)
                                            (Go.E.CallsD Go.Proofs.Tryd.prog 25 #[.slice ya_88_0 yn_88_0 yc_88_0] u100 fun yv103 u104 =>
                                              ∃ yx_105 : Int, yv103 = .int .i64 yx_105 ∧
                                                (Go.E.CallsD Go.Proofs.Tryd.prog 25 #[.slice ya_85_0 yn_85_0 yc_85_0] u104 fun yv106 u107 =>
                                                  ∃ yx_108 : Int, yv106 = .int .i64 yx_108 ∧
                                                    (Go.E.CallsD Go.Proofs.Tryd.prog 25 #[.slice ya_82_0 yn_82_0 yc_82_0] u107 fun yv109 u110 =>
                                                      ∃ yx_111 : Int, yv109 = .int .i64 yx_111 ∧
                                                        (nv (IntKind.i64.wrap (yx_108 - yx_111)) fun t112 =>
                                                        onBool (yx_105 != t112)
                                                          (R (.bool false) u110)
                                                          (Go.E.CallsD Go.Proofs.Tryd.prog 24 #[.slice ya_82_0 yn_82_0 yc_82_0, .int .i64 x2] u110 fun yv113 u114 =>
                                                            ∃ yb_115 : Bool, yv113 = .bool yb_115 ∧
                                                              (Go.E.CallsD Go.Proofs.Tryd.prog 24 #[.slice a0 n0 c0, .int .i64 x2] u114 fun yv116 u117 =>
                                                                ∃ yb_118 : Bool, yv116 = .bool yb_118 ∧
                                                                  (onBool yb_118
                                                                    (Go.E.CallsD Go.Proofs.Tryd.prog 24 #[.slice a1 n1 c1, .int .i64 x2] u117 fun yv119 u120 =>
                                                                      ∃ yb_121 : Bool, yv119 = .bool yb_121 ∧
                                                                        (onBool (!(yb_115 == yb_121))
                                                                          (R (.bool false) u120)
                                                                          (Go.E.CallsD Go.Proofs.Tryd.prog 24 #[.slice ya_85_0 yn_85_0 yc_85_0, .int .i64 x2] u120 fun yv122 u123 =>
                                                                            ∃ yb_124 : Bool, yv122 = .bool yb_124 ∧
                                                                              (Go.E.CallsD Go.Proofs.Tryd.prog 24 #[.slice a0 n0 c0, .int .i64 x2] u123 fun yv125 u126 =>
                                                                                ∃ yb_127 : Bool, yv125 = .bool yb_127 ∧
                                                                                  (onBool yb_127
                                                                                    (onBool (!(yb_124 == true))
                                                                                      (R (.bool false) u126)
                                                                                      (Go.E.CallsD Go.Proofs.Tryd.prog 24 #[.slice ya_88_0 yn_88_0 yc_88_0, .int .i64 x2] u126 fun yv128 u129 =>
                                                                                        ∃ yb_130 : Bool, yv128 = .bool yb_130 ∧
                                                                                          (Go.E.CallsD Go.Proofs.Tryd.prog 24 #[.slice a0 n0 c0, .int .i64 x2] u129 fun yv131 u132 =>
                                                                                            ∃ yb_133 : Bool, yv131 = .bool yb_133 ∧
                                                                                              (Go.E.CallsD Go.Proofs.Tryd.prog 24 #[.slice a1 n1 c1, .int .i64 x2] u132 fun yv134 u135 =>
                                                                                                ∃ yb_136 : Bool, yv134 = .bool yb_136 ∧
                                                                                                  (onBool (!(yb_130 == (!(yb_133 == yb_136))))
                                                                                                    (R (.bool false) u135)
                                                                                                    (e46 a0 n0 c0 0 0 u135))))))
                                                                                    (Go.E.CallsD Go.Proofs.Tryd.prog 24 #[.slice a1 n1 c1, .int .i64 x2] u126 fun yv137 u138 =>
                                                                                      ∃ yb_139 : Bool, yv137 = .bool yb_139 ∧
                                                                                        (onBool (!(yb_124 == yb_139))
                                                                                          (R (.bool false) u138)
                                                                                          (Go.E.CallsD Go.Proofs.Tryd.prog 24 #[.slice ya_88_0 yn_88_0 yc_88_0, .int .i64 x2] u138 fun yv140 u141 =>
                                                                                            ∃ yb_142 : Bool, yv140 = .bool yb_142 ∧
                                                                                              (Go.E.CallsD Go.Proofs.Tryd.prog 24 #[.slice a0 n0 c0, .int .i64 x2] u141 fun yv143 u144 =>
                                                                                                ∃ yb_145 : Bool, yv143 = .bool yb_145 ∧
                                                                                                  (Go.E.CallsD Go.Proofs.Tryd.prog 24 #[.slice a1 n1 c1, .int .i64 x2] u144 fun yv146 u147 =>
                                                                                                    ∃ yb_148 : Bool, yv146 = .bool yb_148 ∧
                                                                                                      (onBool (!(yb_142 == (!(yb_145 == yb_148))))
                                                                                                        (R (.bool false) u147)
                                                                                                        (e46 a0 n0 c0 0 0 u147))))))))))))
                                                                    (onBool (!(yb_115 == false))
                                                                      (R (.bool false) u117)
                                                                      (Go.E.CallsD Go.Proofs.Tryd.prog 24 #[.slice ya_85_0 yn_85_0 yc_85_0, .int .i64 x2] u117 fun yv149 u150 =>
                                                                        ∃ yb_151 : Bool, yv149 = .bool yb_151 ∧
                                                                          (Go.E.CallsD Go.Proofs.Tryd.prog 24 #[.slice a0 n0 c0, .int .i64 x2] u150 fun yv152 u153 =>
                                                                            ∃ yb_154 : Bool, yv152 = .bool yb_154 ∧
                                                                              (onBool yb_154
                                                                                (onBool (!(yb_151 == true))
                                                                                  (R (.bool false) u153)
                                                                                  (Go.E.CallsD Go.Proofs.Tryd.prog 24 #[.slice ya_88_0 yn_88_0 yc_88_0, .int .i64 x2] u153 fun yv155 u156 =>
                                                                                    ∃ yb_157 : Bool, yv155 = .bool yb_157 ∧
                                                                                      (Go.E.CallsD Go.Proofs.Tryd.prog 24 #[.slice a0 n0 c0, .int .i64 x2] u156 fun yv158 u159 =>
                                                                                        ∃ yb_160 : Bool, yv158 = .bool yb_160 ∧
                                                                                          (Go.E.CallsD Go.Proofs.Tryd.prog 24 #[.slice a1 n1 c1, .int .i64 x2] u159 fun yv161 u162 =>
                                                                                            ∃ yb_163 : Bool, yv161 = .bool yb_163 ∧
                                                                                              (onBool (!(yb_157 == (!(yb_160 == yb_163))))
                                                                                                (R (.bool false) u162)
                                                                                                (e46 a0 n0 c0 0 0 u162))))))
                                                                                (Go.E.CallsD Go.Proofs.Tryd.prog 24 #[.slice a1 n1 c1, .int .i64 x2] u153 fun yv164 u165 =>
                                                                                  ∃ yb_166 : Bool, yv164 = .bool yb_166 ∧
                                                                                    (onBool (!(yb_151 == yb_166))
                                                                                      (R (.bool false) u165)
                                                                                      (Go.E.CallsD Go.Proofs.Tryd.prog 24 #[.slice ya_88_0 yn_88_0 yc_88_0, .int .i64 x2] u165 fun yv167 u168 =>
                                                                                        ∃ yb_169 : Bool, yv167 = .bool yb_169 ∧
                                                                                          (Go.E.CallsD Go.Proofs.Tryd.prog 24 #[.slice a0 n0 c0, .int .i64 x2] u168 fun yv170 u171 =>
                                                                                            ∃ yb_172 : Bool, yv170 = .bool yb_172 ∧
                                                                                              (Go.E.CallsD Go.Proofs.Tryd.prog 24 #[.slice a1 n1 c1, .int .i64 x2] u171 fun yv173 u174 =>
                                                                                                ∃ yb_175 : Bool, yv173 = .bool yb_175 ∧
                                                                                                  (onBool (!(yb_169 == (!(yb_172 == yb_175))))
                                                                                                    (R (.bool false) u174)
                                                                                                    (e46 a0 n0 c0 0 0 u174))))))))))))))))))))))))))))))
def thicketlaw05_BitsLaws.g46 (R : Value → World → Prop) (b46 : (Option Addr) → Nat → Nat → Int → Int → World → Prop) (e75 : (Option Addr) → Nat → Nat → Int → Int → Int → (Option Addr) → Nat → Nat → Int → Int → World → Prop) (a0 : Option Addr) (n0 : Nat) (c0 : Nat) (x13 : Int) (x14 : Int) (w : World) : Prop :=
  Go.E.CallsD Go.Proofs.Tryd.prog 25 #[.slice a0 n0 c0] w fun yv176 u177 =>
    ∃ yx_178 : Int, yv176 = .int .i64 yx_178 ∧
      (onBool (decide (x14 < yx_178))
        (Go.E.CallsD Go.Proofs.Tryd.prog 50 #[.slice a0 n0 c0, .int .i64 x14] u177 fun yv179 u180 =>
          ∃ yx_181 : Int, yv179 = .int .i64 yx_181 ∧
            (Go.E.CallsD Go.Proofs.Tryd.prog 24 #[.slice a0 n0 c0, .int .i64 yx_181] u180 fun yv182 u183 =>
              ∃ yb_184 : Bool, yv182 = .bool yb_184 ∧
                (onBool (!yb_184)
                  (R (.bool false) u183)
                  (Go.E.CallsD Go.Proofs.Tryd.prog 48 #[.slice a0 n0 c0, .int .i64 yx_181] u183 fun yv185 u186 =>
                    ∃ yx_187 : Int, yv185 = .int .i64 yx_187 ∧
                      (onBool (yx_187 != x14)
                        (R (.bool false) u186)
                        (onBool (x14 == 0)
                          (Go.E.CallsD Go.Proofs.Tryd.prog 43 #[.slice a0 n0 c0] u186 fun yv188 u189 =>
                            ∃ yx_190 : Int, yv188 = .int .i64 yx_190 ∧
                              (onBool (yx_181 != yx_190)
                                (R (.bool false) u189)
                                (Go.E.CallsD Go.Proofs.Tryd.prog 25 #[.slice a0 n0 c0] u189 fun yv191 u192 =>
                                  ∃ yx_193 : Int, yv191 = .int .i64 yx_193 ∧
                                    (nv (IntKind.i64.wrap (yx_193 - 1)) fun t194 =>
                                    onBool (x14 == t194)
                                      (Go.E.CallsD Go.Proofs.Tryd.prog 45 #[.slice a0 n0 c0] u192 fun yv195 u196 =>
                                        ∃ yx_197 : Int, yv195 = .int .i64 yx_197 ∧
                                          (onBool (yx_181 != yx_197)
                                            (R (.bool false) u196)
                                            (nv (IntKind.i64.wrap (x13 + 1)) fun t198 =>
                                            nv (IntKind.i64.wrap (x14 + 1)) fun t199 =>
                                            b46 a0 n0 c0 t198 t199 u196)))
                                      (nv (IntKind.i64.wrap (x13 + 1)) fun t200 =>
                                      nv (IntKind.i64.wrap (x14 + 1)) fun t201 =>
                                      b46 a0 n0 c0 t200 t201 u192)))))
                          (Go.E.CallsD Go.Proofs.Tryd.prog 25 #[.slice a0 n0 c0] u186 fun yv202 u203 =>
                            ∃ yx_204 : Int, yv202 = .int .i64 yx_204 ∧
                              (nv (IntKind.i64.wrap (yx_204 - 1)) fun t205 =>
                              onBool (x14 == t205)
                                (Go.E.CallsD Go.Proofs.Tryd.prog 45 #[.slice a0 n0 c0] u203 fun yv206 u207 =>
                                  ∃ yx_208 : Int, yv206 = .int .i64 yx_208 ∧
                                    (onBool (yx_181 != yx_208)
                                      (R (.bool false) u207)
                                      (nv (IntKind.i64.wrap (x13 + 1)) fun t209 =>
                                      nv (IntKind.i64.wrap (x14 + 1)) fun t210 =>
                                      b46 a0 n0 c0 t209 t210 u207)))
                                (nv (IntKind.i64.wrap (x13 + 1)) fun t211 =>
                                nv (IntKind.i64.wrap (x14 + 1)) fun t212 =>
                                b46 a0 n0 c0 t211 t212 u203)))))))))
        (Go.E.CallsD Go.Proofs.Tryd.prog 37 #[.slice a0 n0 c0] u177 fun yv213 u214 =>
          ∃ ya_215 : Option Addr, ∃ yn_215 : Nat, ∃ yc_215 : Nat, yv213 = .slice ya_215 yn_215 yc_215 ∧
            (e75 a0 n0 c0 x13 0 (-1) ya_215 yn_215 yc_215 (yn_215 : Int) 0 u214)))
def thicketlaw05_BitsLaws.g75 (R : Value → World → Prop) (b75 : (Option Addr) → Nat → Nat → Int → Int → Int → (Option Addr) → Nat → Nat → Int → Int → World → Prop) (a0 : Option Addr) (n0 : Nat) (c0 : Nat) (x13 : Int) (x16 : Int) (x17 : Int) (a161 : Option Addr) (n161 : Nat) (c161 : Nat) (x162 : Int) (x163 : Int) (w : World) : Prop :=
  onBool (decide (x163 < x162))
    (optN a161 fun q216 =>
    chk ((0 : Int) ≤ x163 ∧ x163 < (n161 : Int))
      (∃ yx_217 : Int, w.cell? ((q216.add (x163.toNat * 2)).add 0) = some (.int .i64 yx_217) ∧
        (∃ yx_218 : Int, w.cell? ((q216.add (x163.toNat * 2)).add 1) = some (.int .i64 yx_218) ∧
          (nw (w.alloc (.cells #[.int .i64 0, .int .i64 0] 58)) fun w219 =>
          okSt w219 ((na w).add 0) ∧
            (nw (w219.setCell ((na w).add 0) (.int .i64 yx_217)) fun w220 =>
            okSt w220 ((na w).add 1) ∧
              (nw (w220.setCell ((na w).add 1) (.int .i64 yx_218)) fun w221 =>
              ∃ yx_222 : Int, w221.cell? ((na w).add 0) = some (.int .i64 yx_222) ∧
                (onBool (decide (yx_222 ≤ x17))
                  (∀ u223 : World, Below w221.heap.size w221 u223 →
                    R (.bool false) u223)
                  (∃ yx_224 : Int, w221.cell? ((na w).add 0) = some (.int .i64 yx_224) ∧
                    (∃ yx_225 : Int, w221.cell? ((na w).add 1) = some (.int .i64 yx_225) ∧
                      (onBool (decide (yx_224 ≥ yx_225))
                        (∀ u226 : World, Below w221.heap.size w221 u226 →
                          R (.bool false) u226)
                        (∃ yx_227 : Int, w221.cell? ((na w).add 1) = some (.int .i64 yx_227) ∧
                          (∃ yx_228 : Int, (∀ u229 : World, Below w221.heap.size w221 u229 → Go.E.CallsD Go.Proofs.Tryd.prog 48 #[.slice a0 n0 c0, .int .i64 yx_227] u229 fun yv230 u231 => yv230 = .int .i64 yx_228 ∧ Below w221.heap.size w221 u231) ∧
                            (∃ yx_232 : Int, w221.cell? ((na w).add 0) = some (.int .i64 yx_232) ∧
                              (∃ yx_233 : Int, (∀ u234 : World, Below w221.heap.size w221 u234 → Go.E.CallsD Go.Proofs.Tryd.prog 48 #[.slice a0 n0 c0, .int .i64 yx_232] u234 fun yv235 u236 => yv235 = .int .i64 yx_233 ∧ Below w221.heap.size w221 u236) ∧
                                (nv (IntKind.i64.wrap (yx_228 - yx_233)) fun t237 =>
                                ∃ yx_238 : Int, w221.cell? ((na w).add 1) = some (.int .i64 yx_238) ∧
                                  (∃ yx_239 : Int, w221.cell? ((na w).add 0) = some (.int .i64 yx_239) ∧
                                    (nv (IntKind.i64.wrap (yx_238 - yx_239)) fun t240 =>
                                    ∀ u241 : World, Below w221.heap.size w221 u241 →
                                      onBool (t237 != t240)
                                        (R (.bool false) u241)
                                        (∃ yx_242 : Int, u241.cell? ((na w).add 1) = some (.int .i64 yx_242) ∧
                                          (∃ yx_243 : Int, u241.cell? ((na w).add 1) = some (.int .i64 yx_243) ∧
                                            (∃ yx_244 : Int, u241.cell? ((na w).add 0) = some (.int .i64 yx_244) ∧
                                              (nv (IntKind.i64.wrap (yx_243 - yx_244)) fun t245 =>
                                              nv (IntKind.i64.wrap (x16 + t245)) fun t246 =>
                                              nv (IntKind.i64.wrap (x163 + 1)) fun t247 =>
                                              b75 a0 n0 c0 x13 t246 yx_242 a161 n161 c161 x162 t247 u241)))))))))))))))))))))
    (Go.E.CallsD Go.Proofs.Tryd.prog 25 #[.slice a0 n0 c0] w fun yv248 u249 =>
      ∃ yx_250 : Int, yv248 = .int .i64 yx_250 ∧
        (onBool (x13 == yx_250)
          (onBool (x16 == x13)
            (Go.E.CallsD Go.Proofs.Tryd.prog 50 #[.slice a0 n0 c0, .int .i64 x13] u249 fun yv251 u252 =>
              ∃ yx_253 : Int, yv251 = .int .i64 yx_253 ∧
                (R (.bool (yx_253 == (-1))) u252))
            (R (.bool false) u249))
          (R (.bool false) u249)))
def thicketlaw05_BitsLaws.q2 (R : Value → World → Prop) : Exit → Act → World → Prop := (fin Go.Proofs.Tryd.prog Go.Proofs.Tryd.f11 R)
def thicketlaw05_BitsLaws.q10 (R : Value → World → Prop) : Exit → Act → World → Prop := (thicketlaw05_BitsLaws.q2 R)
def thicketlaw05_BitsLaws.q12 (R : Value → World → Prop) : Exit → Act → World → Prop := (thicketlaw05_BitsLaws.q10 R)
def thicketlaw05_BitsLaws.q14 (R : Value → World → Prop) : Exit → Act → World → Prop := (thicketlaw05_BitsLaws.q12 R)
def thicketlaw05_BitsLaws.q16 (R : Value → World → Prop) : Exit → Act → World → Prop := (thicketlaw05_BitsLaws.q14 R)
def thicketlaw05_BitsLaws.q24 (R : Value → World → Prop) : Exit → Act → World → Prop := (thicketlaw05_BitsLaws.q16 R)
def thicketlaw05_BitsLaws.q32 (R : Value → World → Prop) : Exit → Act → World → Prop := (thicketlaw05_BitsLaws.q24 R)
def thicketlaw05_BitsLaws.q40 (R : Value → World → Prop) : Exit → Act → World → Prop := (thicketlaw05_BitsLaws.q32 R)
def thicketlaw05_BitsLaws.q42 (R : Value → World → Prop) : Exit → Act → World → Prop := (thicketlaw05_BitsLaws.q40 R)
def thicketlaw05_BitsLaws.q43 (R : Value → World → Prop) : Exit → Act → World → Prop := Exit.then (startN none (codeN Go.Proofs.Tryd.prog (sub (codeOf Go.Proofs.Tryd.f11) [1, 1, 1, 1, 1, 1, 1, 1, 1, 1]) (nsub thicketlaw05_BitsLaws.an [1, 1, 1, 1, 1, 1, 1, 1, 1, 1]) (thicketlaw05_BitsLaws.q42 R))) (thicketlaw05_BitsLaws.q42 R)
def thicketlaw05_BitsLaws.q45 (R : Value → World → Prop) : Exit → Act → World → Prop := (thicketlaw05_BitsLaws.q43 R)
def thicketlaw05_BitsLaws.q46 (R : Value → World → Prop) : Exit → Act → World → Prop := Exit.inBlock 0 (thicketlaw05_BitsLaws.q45 R)
def thicketlaw05_BitsLaws.rl46 (R : Value → World → Prop) (k : Nat) (a0 : Option Addr) (n0 : Nat) (c0 : Nat) (x13 : Int) (x14 : Int) (w : World) : Prop := loopN [0, 13, 14] (codeN Go.Proofs.Tryd.prog (sub (codeOf Go.Proofs.Tryd.f11) [1, 1, 1, 1, 1, 1, 1, 1, 1, 0, 1, 0, 0]) (nsub thicketlaw05_BitsLaws.an [1, 1, 1, 1, 1, 1, 1, 1, 1, 0, 1, 0, 0])) (thicketlaw05_BitsLaws.q46 R) k ⟨#[.slice a0 n0 c0, undef, undef, undef, undef, undef, undef, undef, undef, undef, undef, undef, undef, .int .i64 x13, .int .i64 x14, undef, undef, undef, undef, undef, undef, undef, undef, undef, undef, undef, undef, undef, undef, undef, undef, undef, undef, undef, undef, undef, undef, undef, undef, undef, undef, undef, undef, undef, undef, undef, undef, undef, undef, undef, undef, undef, undef, undef, undef, undef, undef, undef, undef, undef, undef, undef, undef, undef, undef, undef, undef, undef, undef, undef, undef, undef, undef, undef, undef, undef, undef, undef, undef, undef, undef, undef, undef, undef, undef, undef, undef, undef, undef, undef, undef, undef, undef, undef, undef, undef, undef, undef, undef, undef, undef, undef, undef, undef, undef, undef, undef, undef, undef, undef, undef, undef, undef, undef, undef, undef, undef, undef, undef, undef, undef, undef, undef, undef, undef, undef, undef, undef, undef, undef, undef, undef, undef, undef, undef, undef, undef, undef, undef, undef, undef, undef, undef, undef, undef, undef, undef, undef, undef, undef, undef, undef, undef, undef, undef, undef, undef, undef, undef, undef, undef, undef, undef, undef, undef, undef, undef, undef, undef, undef, undef, undef, undef, undef, undef, undef, undef, undef, undef, undef, undef, undef, undef, undef, undef, undef, undef, undef, undef, undef, undef, undef, undef, undef, undef, undef, undef, undef, undef, undef, undef, undef, undef, undef, undef, undef, undef, undef, undef, undef, undef, undef, undef, undef, undef, undef, undef, undef, undef, undef], []⟩ w
def thicketlaw05_BitsLaws.re46 (R : Value → World → Prop) (a0 : Option Addr) (n0 : Nat) (c0 : Nat) (x13 : Int) (x14 : Int) (w : World) : Prop := ∃ k, thicketlaw05_BitsLaws.rl46 R k a0 n0 c0 x13 x14 w
def thicketlaw05_BitsLaws.q67 (R : Value → World → Prop) : Exit → Act → World → Prop := (thicketlaw05_BitsLaws.q42 R)
def thicketlaw05_BitsLaws.q69 (R : Value → World → Prop) : Exit → Act → World → Prop := (thicketlaw05_BitsLaws.q67 R)
def thicketlaw05_BitsLaws.q71 (R : Value → World → Prop) : Exit → Act → World → Prop := (thicketlaw05_BitsLaws.q69 R)
def thicketlaw05_BitsLaws.q72 (R : Value → World → Prop) : Exit → Act → World → Prop := Exit.then (startN none (codeN Go.Proofs.Tryd.prog (sub (codeOf Go.Proofs.Tryd.f11) [1, 1, 1, 1, 1, 1, 1, 1, 1, 1, 1, 1, 1]) (nsub thicketlaw05_BitsLaws.an [1, 1, 1, 1, 1, 1, 1, 1, 1, 1, 1, 1, 1]) (thicketlaw05_BitsLaws.q71 R))) (thicketlaw05_BitsLaws.q71 R)
def thicketlaw05_BitsLaws.q74 (R : Value → World → Prop) : Exit → Act → World → Prop := (thicketlaw05_BitsLaws.q72 R)
def thicketlaw05_BitsLaws.q75 (R : Value → World → Prop) : Exit → Act → World → Prop := Exit.inBlock 2 (thicketlaw05_BitsLaws.q74 R)
def thicketlaw05_BitsLaws.rl75 (R : Value → World → Prop) (k : Nat) (a0 : Option Addr) (n0 : Nat) (c0 : Nat) (x13 : Int) (x16 : Int) (x17 : Int) (a161 : Option Addr) (n161 : Nat) (c161 : Nat) (x162 : Int) (x163 : Int) (w : World) : Prop := loopN [0, 13, 16, 17, 161, 162, 163] (codeN Go.Proofs.Tryd.prog (sub (codeOf Go.Proofs.Tryd.f11) [1, 1, 1, 1, 1, 1, 1, 1, 1, 1, 1, 1, 0, 1, 0, 0]) (nsub thicketlaw05_BitsLaws.an [1, 1, 1, 1, 1, 1, 1, 1, 1, 1, 1, 1, 0, 1, 0, 0])) (thicketlaw05_BitsLaws.q75 R) k ⟨#[.slice a0 n0 c0, undef, undef, undef, undef, undef, undef, undef, undef, undef, undef, undef, undef, .int .i64 x13, undef, undef, .int .i64 x16, .int .i64 x17, undef, undef, undef, undef, undef, undef, undef, undef, undef, undef, undef, undef, undef, undef, undef, undef, undef, undef, undef, undef, undef, undef, undef, undef, undef, undef, undef, undef, undef, undef, undef, undef, undef, undef, undef, undef, undef, undef, undef, undef, undef, undef, undef, undef, undef, undef, undef, undef, undef, undef, undef, undef, undef, undef, undef, undef, undef, undef, undef, undef, undef, undef, undef, undef, undef, undef, undef, undef, undef, undef, undef, undef, undef, undef, undef, undef, undef, undef, undef, undef, undef, undef, undef, undef, undef, undef, undef, undef, undef, undef, undef, undef, undef, undef, undef, undef, undef, undef, undef, undef, undef, undef, undef, undef, undef, undef, undef, undef, undef, undef, undef, undef, undef, undef, undef, undef, undef, undef, undef, undef, undef, undef, undef, undef, undef, undef, undef, undef, undef, undef, undef, undef, undef, undef, undef, undef, undef, undef, undef, undef, undef, undef, undef, .slice a161 n161 c161, .int .i64 x162, .int .i64 x163, undef, undef, undef, undef, undef, undef, undef, undef, undef, undef, undef, undef, undef, undef, undef, undef, undef, undef, undef, undef, undef, undef, undef, undef, undef, undef, undef, undef, undef, undef, undef, undef, undef, undef, undef, undef, undef, undef, undef, undef, undef, undef, undef, undef, undef, undef, undef, undef, undef, undef, undef, undef, undef, undef, undef, undef], []⟩ w
def thicketlaw05_BitsLaws.re75 (R : Value → World → Prop) (a0 : Option Addr) (n0 : Nat) (c0 : Nat) (x13 : Int) (x16 : Int) (x17 : Int) (a161 : Option Addr) (n161 : Nat) (c161 : Nat) (x162 : Int) (x163 : Int) (w : World) : Prop := ∃ k, thicketlaw05_BitsLaws.rl75 R k a0 n0 c0 x13 x16 x17 a161 n161 c161 x162 x163 w
def thicketlaw05_BitsLaws.l75 (R : Value → World → Prop) : Nat → (Option Addr) → Nat → Nat → Int → Int → Int → (Option Addr) → Nat → Nat → Int → Int → World → Prop
  | 0, _, _, _, _, _, _, _, _, _, _, _, _ => False
  | k + 1, a0, n0, c0, x13, x16, x17, a161, n161, c161, x162, x163, w => thicketlaw05_BitsLaws.g75 R (thicketlaw05_BitsLaws.l75 R k) a0 n0 c0 x13 x16 x17 a161 n161 c161 x162 x163 w
def thicketlaw05_BitsLaws.e75 (R : Value → World → Prop) (a0 : Option Addr) (n0 : Nat) (c0 : Nat) (x13 : Int) (x16 : Int) (x17 : Int) (a161 : Option Addr) (n161 : Nat) (c161 : Nat) (x162 : Int) (x163 : Int) (w : World) : Prop := ∃ k, thicketlaw05_BitsLaws.l75 R k a0 n0 c0 x13 x16 x17 a161 n161 c161 x162 x163 w
theorem thicketlaw05_BitsLaws.s75 (R : Value → World → Prop) (k : Nat) (a0 : Option Addr) (n0 : Nat) (c0 : Nat) (x13 : Int) (x16 : Int) (x17 : Int) (a161 : Option Addr) (n161 : Nat) (c161 : Nat) (x162 : Int) (x163 : Int) (w : World) : thicketlaw05_BitsLaws.rl75 R (k + 1) a0 n0 c0 x13 x16 x17 a161 n161 c161 x162 x163 w = ∀ _ : Nat → Value, thicketlaw05_BitsLaws.g75 R (thicketlaw05_BitsLaws.rl75 R k) a0 n0 c0 x13 x16 x17 a161 n161 c161 x162 x163 w := by kernel_rfl
theorem thicketlaw05_BitsLaws.lq75 (R : Value → World → Prop) : ∀ k, thicketlaw05_BitsLaws.l75 R k = thicketlaw05_BitsLaws.rl75 R k
  | 0 => by funext a0 n0 c0 x13 x16 x17 a161 n161 c161 x162 x163 w; rfl
  | k + 1 => by
    funext a0 n0 c0 x13 x16 x17 a161 n161 c161 x162 x163 w
    rw [thicketlaw05_BitsLaws.s75, forall_const]
    unfold thicketlaw05_BitsLaws.l75
    have ih := thicketlaw05_BitsLaws.lq75 R k
    rw [ih]
    all_goals rfl
theorem thicketlaw05_BitsLaws.eq75 (R : Value → World → Prop) : thicketlaw05_BitsLaws.e75 R = thicketlaw05_BitsLaws.re75 R := by
  funext a0 n0 c0 x13 x16 x17 a161 n161 c161 x162 x163 w
  unfold thicketlaw05_BitsLaws.e75 thicketlaw05_BitsLaws.re75
  simp only [thicketlaw05_BitsLaws.lq75 R]
def thicketlaw05_BitsLaws.l46 (R : Value → World → Prop) : Nat → (Option Addr) → Nat → Nat → Int → Int → World → Prop
  | 0, _, _, _, _, _, _ => False
  | k + 1, a0, n0, c0, x13, x14, w => thicketlaw05_BitsLaws.g46 R (thicketlaw05_BitsLaws.l46 R k) (thicketlaw05_BitsLaws.e75 R) a0 n0 c0 x13 x14 w
def thicketlaw05_BitsLaws.e46 (R : Value → World → Prop) (a0 : Option Addr) (n0 : Nat) (c0 : Nat) (x13 : Int) (x14 : Int) (w : World) : Prop := ∃ k, thicketlaw05_BitsLaws.l46 R k a0 n0 c0 x13 x14 w
theorem thicketlaw05_BitsLaws.s46 (R : Value → World → Prop) (k : Nat) (a0 : Option Addr) (n0 : Nat) (c0 : Nat) (x13 : Int) (x14 : Int) (w : World) : thicketlaw05_BitsLaws.rl46 R (k + 1) a0 n0 c0 x13 x14 w = ∀ _ : Nat → Value, thicketlaw05_BitsLaws.g46 R (thicketlaw05_BitsLaws.rl46 R k) (thicketlaw05_BitsLaws.re75 R) a0 n0 c0 x13 x14 w := by kernel_rfl
theorem thicketlaw05_BitsLaws.lq46 (R : Value → World → Prop) : ∀ k, thicketlaw05_BitsLaws.l46 R k = thicketlaw05_BitsLaws.rl46 R k
  | 0 => by funext a0 n0 c0 x13 x14 w; rfl
  | k + 1 => by
    funext a0 n0 c0 x13 x14 w
    rw [thicketlaw05_BitsLaws.s46, forall_const]
    unfold thicketlaw05_BitsLaws.l46
    have ih := thicketlaw05_BitsLaws.lq46 R k
    rw [thicketlaw05_BitsLaws.eq75 R]
    rw [ih]
    all_goals rfl
theorem thicketlaw05_BitsLaws.eq46 (R : Value → World → Prop) : thicketlaw05_BitsLaws.e46 R = thicketlaw05_BitsLaws.re46 R := by
  funext a0 n0 c0 x13 x14 w
  unfold thicketlaw05_BitsLaws.e46 thicketlaw05_BitsLaws.re46
  simp only [thicketlaw05_BitsLaws.lq46 R]
def thicketlaw05_BitsLaws (R : Value → World → Prop) (a0 : Option Addr) (n0 : Nat) (c0 : Nat) (a1 : Option Addr) (n1 : Nat) (c1 : Nat) (x2 : Int) (w : World) : Prop := thicketlaw05_BitsLaws.g0 R (thicketlaw05_BitsLaws.e46 R) a0 n0 c0 a1 n1 c1 x2 w
theorem thicketlaw05_BitsLaws.root0 (R : Value → World → Prop) (a0 : Option Addr) (n0 : Nat) (c0 : Nat) (a1 : Option Addr) (n1 : Nat) (c1 : Nat) (x2 : Int) (w : World) : fnN Go.Proofs.Tryd.prog Go.Proofs.Tryd.f11 thicketlaw05_BitsLaws.an #[.slice a0 n0 c0, .slice a1 n1 c1, .int .i64 x2] w R = thicketlaw05_BitsLaws.g0 R (thicketlaw05_BitsLaws.re46 R) a0 n0 c0 a1 n1 c1 x2 w := by kernel_rfl
theorem thicketlaw05_BitsLaws.calls {R : Value → World → Prop} {a0 : Option Addr} {n0 : Nat} {c0 : Nat} {a1 : Option Addr} {n1 : Nat} {c1 : Nat} {x2 : Int} {w : World} (h : thicketlaw05_BitsLaws R a0 n0 c0 a1 n1 c1 x2 w) : Go.E.CallsD Go.Proofs.Tryd.prog 11 #[.slice a0 n0 c0, .slice a1 n1 c1, .int .i64 x2] w R := by
  refine callsD_of (n := thicketlaw05_BitsLaws.an) M_follows M_sizes Go.Proofs.Tryd.func11 (by rfl) ?_
  rw [thicketlaw05_BitsLaws.root0]
  unfold thicketlaw05_BitsLaws at h
  rw [thicketlaw05_BitsLaws.eq46 R] at h
  exact h
end Go.Mir
