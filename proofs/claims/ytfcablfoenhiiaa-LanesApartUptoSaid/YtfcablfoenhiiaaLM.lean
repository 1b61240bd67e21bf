/- Part of a proof of laws of the seat Ytfcablfoenhiiaa: functions' weakest preconditions, each checked by the kernel, and contracts out of them; no conditions. -/
import Derived.Test.YtfcablfoenhiiaaE4
import Derived.Test.YtfcablfoenhiiaaProg
import Derived.KernelRfl
set_option linter.unusedVariables false
set_option linter.unusedSimpArgs false
namespace Go.Mir
open Go Go.E Go.RowKit
theorem M_follows : Go.Proofs.Try.prog.follows .mixedOrders = true := by kernel_rfl
theorem M_sizes : Go.Proofs.Try.prog.types.size + Made.depth ≠ 0 := by decide
-- thicket/thicketref18.Above
def thicketref18_Above.an : An := (.mk none .nil (.mk none .nil (.mk none (.mk none .nil (.mk none (.mk (some [1, 2, 5, 6]) .nil .nil) .nil)) .nil)))
def thicketref18_Above.g0 (R : Value → World → Prop) (e8 : Nat → (Option Addr) → Int → Int → World → Prop) (f0_0 : Nat) (f0_1 : Nat) (f0_2 : Nat) (f0_3 : Nat) (f0_4 : Nat) (f0_5 : Nat) (f0_6 : Nat) (f0_7 : Nat) (f1 : Nat) (w : World) : Prop :=
  nw (w.alloc (.cells #[.float .f64 f0_0, .float .f64 f0_1, .float .f64 f0_2, .float .f64 f0_3, .float .f64 f0_4, .float .f64 f0_5, .float .f64 f0_6, .float .f64 f0_7] 24)) fun w4 =>
  e8 f1 (some (na w)) 0 0 w4
def thicketref18_Above.g8 (R : Value → World → Prop) (b8 : Nat → (Option Addr) → Int → Int → World → Prop) (f1 : Nat) (p2 : Option Addr) (x5 : Int) (x6 : Int) (w : World) : Prop :=
  onBool (decide (x6 < 8))
    (optN p2 fun p5 =>
    if (0 : Int) ≤ x6 ∧ x6 < (8 : Int) then
      ∃ yf_6 : Nat, w.cell? (p5.add (x6.toNat * 1)) = some (.float .f64 yf_6) ∧
        (onBool (FloatKind.f64.format.order yf_6 f1 == some .gt)
          (if IntKind.u64.wrap x6 < 0 then False else
            b8 f1 p2 (bitsI .or .u8 x5 (IntKind.u8.wrap (1 * 2 ^ (min (IntKind.u64.wrap x6).toNat 8)))) (IntKind.i64.wrap (x6 + 1)) w)
          (b8 f1 p2 x5 (IntKind.i64.wrap (x6 + 1)) w)) else False)
    (R (.int .u8 x5) w)
def thicketref18_Above.q2 (R : Value → World → Prop) : Exit → Act → World → Prop := (fin Go.Proofs.Try.prog Go.Proofs.Try.f8 R)
def thicketref18_Above.q4 (R : Value → World → Prop) : Exit → Act → World → Prop := (thicketref18_Above.q2 R)
def thicketref18_Above.q5 (R : Value → World → Prop) : Exit → Act → World → Prop := Exit.then (startN none (codeN Go.Proofs.Try.prog (sub (codeOf Go.Proofs.Try.f8) [1, 1, 1]) (nsub thicketref18_Above.an [1, 1, 1]) (thicketref18_Above.q4 R))) (thicketref18_Above.q4 R)
def thicketref18_Above.q7 (R : Value → World → Prop) : Exit → Act → World → Prop := (thicketref18_Above.q5 R)
def thicketref18_Above.q8 (R : Value → World → Prop) : Exit → Act → World → Prop := Exit.inBlock 0 (thicketref18_Above.q7 R)
def thicketref18_Above.rl8 (R : Value → World → Prop) (k : Nat) (f1 : Nat) (p2 : Option Addr) (x5 : Int) (x6 : Int) (w : World) : Prop := loopN [1, 2, 5, 6] (codeN Go.Proofs.Try.prog (sub (codeOf Go.Proofs.Try.f8) [1, 1, 0, 1, 0, 0]) (nsub thicketref18_Above.an [1, 1, 0, 1, 0, 0])) (thicketref18_Above.q8 R) k ⟨#[undef, .float .f64 f1, .pointer p2, undef, undef, .int .u8 x5, .int .i64 x6, undef, undef, undef, undef, undef, undef, undef, undef, undef, undef, undef, undef, undef, undef, undef], []⟩ w
def thicketref18_Above.re8 (R : Value → World → Prop) (f1 : Nat) (p2 : Option Addr) (x5 : Int) (x6 : Int) (w : World) : Prop := ∃ k, thicketref18_Above.rl8 R k f1 p2 x5 x6 w
def thicketref18_Above.l8 (R : Value → World → Prop) : Nat → Nat → (Option Addr) → Int → Int → World → Prop
  | 0, _, _, _, _, _ => False
  | k + 1, f1, p2, x5, x6, w => thicketref18_Above.g8 R (thicketref18_Above.l8 R k) f1 p2 x5 x6 w
def thicketref18_Above.e8 (R : Value → World → Prop) (f1 : Nat) (p2 : Option Addr) (x5 : Int) (x6 : Int) (w : World) : Prop := ∃ k, thicketref18_Above.l8 R k f1 p2 x5 x6 w
theorem thicketref18_Above.s8 (R : Value → World → Prop) (k : Nat) (f1 : Nat) (p2 : Option Addr) (x5 : Int) (x6 : Int) (w : World) : thicketref18_Above.rl8 R (k + 1) f1 p2 x5 x6 w = ∀ _ : Nat → Value, thicketref18_Above.g8 R (thicketref18_Above.rl8 R k) f1 p2 x5 x6 w := by kernel_rfl
theorem thicketref18_Above.lq8 (R : Value → World → Prop) : ∀ k, thicketref18_Above.l8 R k = thicketref18_Above.rl8 R k
  | 0 => by funext f1 p2 x5 x6 w; rfl
  | k + 1 => by
    funext f1 p2 x5 x6 w
    rw [thicketref18_Above.s8, forall_const]
    unfold thicketref18_Above.l8
    have ih := thicketref18_Above.lq8 R k
    rw [ih]
    all_goals rfl
theorem thicketref18_Above.eq8 (R : Value → World → Prop) : thicketref18_Above.e8 R = thicketref18_Above.re8 R := by
  funext f1 p2 x5 x6 w
  unfold thicketref18_Above.e8 thicketref18_Above.re8
  simp only [thicketref18_Above.lq8 R]
def thicketref18_Above (R : Value → World → Prop) (f0_0 : Nat) (f0_1 : Nat) (f0_2 : Nat) (f0_3 : Nat) (f0_4 : Nat) (f0_5 : Nat) (f0_6 : Nat) (f0_7 : Nat) (f1 : Nat) (w : World) : Prop := thicketref18_Above.g0 R (thicketref18_Above.e8 R) f0_0 f0_1 f0_2 f0_3 f0_4 f0_5 f0_6 f0_7 f1 w
theorem thicketref18_Above.root0 (R : Value → World → Prop) (f0_0 : Nat) (f0_1 : Nat) (f0_2 : Nat) (f0_3 : Nat) (f0_4 : Nat) (f0_5 : Nat) (f0_6 : Nat) (f0_7 : Nat) (f1 : Nat) (w : World) : fnN Go.Proofs.Try.prog Go.Proofs.Try.f8 thicketref18_Above.an #[.agg #[.float .f64 f0_0, .float .f64 f0_1, .float .f64 f0_2, .float .f64 f0_3, .float .f64 f0_4, .float .f64 f0_5, .float .f64 f0_6, .float .f64 f0_7], .float .f64 f1] w R = thicketref18_Above.g0 R (thicketref18_Above.re8 R) f0_0 f0_1 f0_2 f0_3 f0_4 f0_5 f0_6 f0_7 f1 w := by kernel_rfl
theorem thicketref18_Above.calls {R : Value → World → Prop} {f0_0 : Nat} {f0_1 : Nat} {f0_2 : Nat} {f0_3 : Nat} {f0_4 : Nat} {f0_5 : Nat} {f0_6 : Nat} {f0_7 : Nat} {f1 : Nat} {w : World} (h : thicketref18_Above R f0_0 f0_1 f0_2 f0_3 f0_4 f0_5 f0_6 f0_7 f1 w) : Go.E.CallsD Go.Proofs.Try.prog 8 #[.agg #[.float .f64 f0_0, .float .f64 f0_1, .float .f64 f0_2, .float .f64 f0_3, .float .f64 f0_4, .float .f64 f0_5, .float .f64 f0_6, .float .f64 f0_7], .float .f64 f1] w R := by
  refine callsD_of (n := thicketref18_Above.an) M_follows M_sizes Go.Proofs.Try.func8 (by rfl) ?_
  rw [thicketref18_Above.root0]
  unfold thicketref18_Above at h
  rw [thicketref18_Above.eq8 R] at h
  exact h
-- thicket/thicketref18.Lost
def thicketref18_Lost.an : An := (.mk none .nil (.mk none .nil (.mk none (.mk none .nil (.mk none (.mk (some [1, 3, 4]) .nil .nil) .nil)) .nil)))
def thicketref18_Lost.g0 (R : Value → World → Prop) (e8 : (Option Addr) → Int → Int → World → Prop) (f0_0 : Nat) (f0_1 : Nat) (f0_2 : Nat) (f0_3 : Nat) (f0_4 : Nat) (f0_5 : Nat) (f0_6 : Nat) (f0_7 : Nat) (w : World) : Prop :=
  nw (w.alloc (.cells #[.float .f64 f0_0, .float .f64 f0_1, .float .f64 f0_2, .float .f64 f0_3, .float .f64 f0_4, .float .f64 f0_5, .float .f64 f0_6, .float .f64 f0_7] 24)) fun w6 =>
  e8 (some (na w)) 0 0 w6
def thicketref18_Lost.g8 (R : Value → World → Prop) (b8 : (Option Addr) → Int → Int → World → Prop) (p1 : Option Addr) (x3 : Int) (x4 : Int) (w : World) : Prop :=
  onBool (decide (x4 < 8))
    (optN p1 fun p7 =>
    if (0 : Int) ≤ x4 ∧ x4 < (8 : Int) then
      ∃ yf_8 : Nat, w.cell? (p7.add (x4.toNat * 1)) = some (.float .f64 yf_8) ∧
        (optN p1 fun p9 =>
        if (0 : Int) ≤ x4 ∧ x4 < (8 : Int) then
          ∃ yf_10 : Nat, w.cell? (p9.add (x4.toNat * 1)) = some (.float .f64 yf_10) ∧
            (onBool (FloatKind.f64.format.order yf_8 yf_10 != some .eq)
              (if IntKind.u64.wrap x4 < 0 then False else
                b8 p1 (bitsI .or .u8 x3 (IntKind.u8.wrap (1 * 2 ^ (min (IntKind.u64.wrap x4).toNat 8)))) (IntKind.i64.wrap (x4 + 1)) w)
              (b8 p1 x3 (IntKind.i64.wrap (x4 + 1)) w)) else False) else False)
    (R (.int .u8 x3) w)
def thicketref18_Lost.q2 (R : Value → World → Prop) : Exit → Act → World → Prop := (fin Go.Proofs.Try.prog Go.Proofs.Try.f12 R)
def thicketref18_Lost.q4 (R : Value → World → Prop) : Exit → Act → World → Prop := (thicketref18_Lost.q2 R)
def thicketref18_Lost.q5 (R : Value → World → Prop) : Exit → Act → World → Prop := Exit.then (startN none (codeN Go.Proofs.Try.prog (sub (codeOf Go.Proofs.Try.f12) [1, 1, 1]) (nsub thicketref18_Lost.an [1, 1, 1]) (thicketref18_Lost.q4 R))) (thicketref18_Lost.q4 R)
def thicketref18_Lost.q7 (R : Value → World → Prop) : Exit → Act → World → Prop := (thicketref18_Lost.q5 R)
def thicketref18_Lost.q8 (R : Value → World → Prop) : Exit → Act → World → Prop := Exit.inBlock 0 (thicketref18_Lost.q7 R)
def thicketref18_Lost.rl8 (R : Value → World → Prop) (k : Nat) (p1 : Option Addr) (x3 : Int) (x4 : Int) (w : World) : Prop := loopN [1, 3, 4] (codeN Go.Proofs.Try.prog (sub (codeOf Go.Proofs.Try.f12) [1, 1, 0, 1, 0, 0]) (nsub thicketref18_Lost.an [1, 1, 0, 1, 0, 0])) (thicketref18_Lost.q8 R) k ⟨#[undef, .pointer p1, undef, .int .u8 x3, .int .i64 x4, undef, undef, undef, undef, undef, undef, undef, undef, undef, undef, undef, undef, undef, undef, undef, undef, undef], []⟩ w
def thicketref18_Lost.re8 (R : Value → World → Prop) (p1 : Option Addr) (x3 : Int) (x4 : Int) (w : World) : Prop := ∃ k, thicketref18_Lost.rl8 R k p1 x3 x4 w
def thicketref18_Lost.l8 (R : Value → World → Prop) : Nat → (Option Addr) → Int → Int → World → Prop
  | 0, _, _, _, _ => False
  | k + 1, p1, x3, x4, w => thicketref18_Lost.g8 R (thicketref18_Lost.l8 R k) p1 x3 x4 w
def thicketref18_Lost.e8 (R : Value → World → Prop) (p1 : Option Addr) (x3 : Int) (x4 : Int) (w : World) : Prop := ∃ k, thicketref18_Lost.l8 R k p1 x3 x4 w
theorem thicketref18_Lost.s8 (R : Value → World → Prop) (k : Nat) (p1 : Option Addr) (x3 : Int) (x4 : Int) (w : World) : thicketref18_Lost.rl8 R (k + 1) p1 x3 x4 w = ∀ _ : Nat → Value, thicketref18_Lost.g8 R (thicketref18_Lost.rl8 R k) p1 x3 x4 w := by kernel_rfl
theorem thicketref18_Lost.lq8 (R : Value → World → Prop) : ∀ k, thicketref18_Lost.l8 R k = thicketref18_Lost.rl8 R k
  | 0 => by funext p1 x3 x4 w; rfl
  | k + 1 => by
    funext p1 x3 x4 w
    rw [thicketref18_Lost.s8, forall_const]
    unfold thicketref18_Lost.l8
    have ih := thicketref18_Lost.lq8 R k
    rw [ih]
    all_goals rfl
theorem thicketref18_Lost.eq8 (R : Value → World → Prop) : thicketref18_Lost.e8 R = thicketref18_Lost.re8 R := by
  funext p1 x3 x4 w
  unfold thicketref18_Lost.e8 thicketref18_Lost.re8
  simp only [thicketref18_Lost.lq8 R]
def thicketref18_Lost (R : Value → World → Prop) (f0_0 : Nat) (f0_1 : Nat) (f0_2 : Nat) (f0_3 : Nat) (f0_4 : Nat) (f0_5 : Nat) (f0_6 : Nat) (f0_7 : Nat) (w : World) : Prop := thicketref18_Lost.g0 R (thicketref18_Lost.e8 R) f0_0 f0_1 f0_2 f0_3 f0_4 f0_5 f0_6 f0_7 w
theorem thicketref18_Lost.root0 (R : Value → World → Prop) (f0_0 : Nat) (f0_1 : Nat) (f0_2 : Nat) (f0_3 : Nat) (f0_4 : Nat) (f0_5 : Nat) (f0_6 : Nat) (f0_7 : Nat) (w : World) : fnN Go.Proofs.Try.prog Go.Proofs.Try.f12 thicketref18_Lost.an #[.agg #[.float .f64 f0_0, .float .f64 f0_1, .float .f64 f0_2, .float .f64 f0_3, .float .f64 f0_4, .float .f64 f0_5, .float .f64 f0_6, .float .f64 f0_7]] w R = thicketref18_Lost.g0 R (thicketref18_Lost.re8 R) f0_0 f0_1 f0_2 f0_3 f0_4 f0_5 f0_6 f0_7 w := by kernel_rfl
theorem thicketref18_Lost.calls {R : Value → World → Prop} {f0_0 : Nat} {f0_1 : Nat} {f0_2 : Nat} {f0_3 : Nat} {f0_4 : Nat} {f0_5 : Nat} {f0_6 : Nat} {f0_7 : Nat} {w : World} (h : thicketref18_Lost R f0_0 f0_1 f0_2 f0_3 f0_4 f0_5 f0_6 f0_7 w) : Go.E.CallsD Go.Proofs.Try.prog 12 #[.agg #[.float .f64 f0_0, .float .f64 f0_1, .float .f64 f0_2, .float .f64 f0_3, .float .f64 f0_4, .float .f64 f0_5, .float .f64 f0_6, .float .f64 f0_7]] w R := by
  refine callsD_of (n := thicketref18_Lost.an) M_follows M_sizes Go.Proofs.Try.func12 (by rfl) ?_
  rw [thicketref18_Lost.root0]
  unfold thicketref18_Lost at h
  rw [thicketref18_Lost.eq8 R] at h
  exact h
-- thicket/thicketref18.Outside
def thicketref18_Outside.an : An := (.mk none .nil (.mk none .nil (.mk none (.mk none .nil (.mk none (.mk (some [1, 2, 5, 6]) (.mk none .nil (.mk none (.mk none (.mk none .nil (.mk none (.mk (some [1, 2, 5, 6, 7]) .nil .nil) .nil)) .nil) .nil)) .nil) .nil)) .nil)))
def thicketref18_Outside.g0 (R : Value → World → Prop) (e8 : (Option Addr) → Nat → Nat → (Option Addr) → Int → Int → World → Prop) (f0_0 : Nat) (f0_1 : Nat) (f0_2 : Nat) (f0_3 : Nat) (f0_4 : Nat) (f0_5 : Nat) (f0_6 : Nat) (f0_7 : Nat) (a1 : Option Addr) (n1 : Nat) (c1 : Nat) (w : World) : Prop :=
  nw (w.alloc (.cells #[.float .f64 f0_0, .float .f64 f0_1, .float .f64 f0_2, .float .f64 f0_3, .float .f64 f0_4, .float .f64 f0_5, .float .f64 f0_6, .float .f64 f0_7] 24)) fun w17 =>
  ∃ yf_18 : Nat, w17.cell? ((na w).add 0) = some (.float .f64 yf_18) ∧
    (∃ yf_19 : Nat, w17.cell? ((na w).add 1) = some (.float .f64 yf_19) ∧
      (∃ yf_20 : Nat, w17.cell? ((na w).add 2) = some (.float .f64 yf_20) ∧
        (∃ yf_21 : Nat, w17.cell? ((na w).add 3) = some (.float .f64 yf_21) ∧
          (∃ yf_22 : Nat, w17.cell? ((na w).add 4) = some (.float .f64 yf_22) ∧
            (∃ yf_23 : Nat, w17.cell? ((na w).add 5) = some (.float .f64 yf_23) ∧
              (∃ yf_24 : Nat, w17.cell? ((na w).add 6) = some (.float .f64 yf_24) ∧
                (∃ yf_25 : Nat, w17.cell? ((na w).add 7) = some (.float .f64 yf_25) ∧
                  (Go.E.CallsD Go.Proofs.Try.prog 12 #[.agg #[.float .f64 yf_18, .float .f64 yf_19, .float .f64 yf_20, .float .f64 yf_21, .float .f64 yf_22, .float .f64 yf_23, .float .f64 yf_24, .float .f64 yf_25]] w17 fun v26 u27 =>
                    ∃ yx_28 : Int, v26 = .int .u8 yx_28 ∧
                      (e8 a1 n1 c1 (some (na w)) (bitsI .andNot .u8 255 yx_28) 0 u27)))))))))
def thicketref18_Outside.g8 (R : Value → World → Prop) (e20 : (Option Addr) → Nat → Nat → (Option Addr) → Int → Int → Int → World → Prop) (a1 : Option Addr) (n1 : Nat) (c1 : Nat) (p2 : Option Addr) (x5 : Int) (x6 : Int) (w : World) : Prop :=
  onBool (decide (x6 < 8))
    (e20 a1 n1 c1 p2 x5 x6 0 w)
    (R (.int .u8 x5) w)
def thicketref18_Outside.g20 (R : Value → World → Prop) (b8 : (Option Addr) → Nat → Nat → (Option Addr) → Int → Int → World → Prop) (b20 : (Option Addr) → Nat → Nat → (Option Addr) → Int → Int → Int → World → Prop) (a1 : Option Addr) (n1 : Nat) (c1 : Nat) (p2 : Option Addr) (x5 : Int) (x6 : Int) (x7 : Int) (w : World) : Prop :=
  onBool (decide (x7 < (n1 : Int)))
    (optN p2 fun p29 =>
    if (0 : Int) ≤ x6 ∧ x6 < (8 : Int) then
      ∃ yf_30 : Nat, w.cell? (p29.add (x6.toNat * 1)) = some (.float .f64 yf_30) ∧
        (optN a1 fun p31 =>
        if (0 : Int) ≤ x7 ∧ x7 < (n1 : Int) then
          ∃ yx_32 : Int, w.cell? (p31.add (x7.toNat * 1)) = some (.int .i64 yx_32) ∧
            (onBool (FloatKind.f64.format.order yf_30 (FloatKind.f64.nearest yx_32) == some .eq)
              (if IntKind.u64.wrap x6 < 0 then False else
                b20 a1 n1 c1 p2 (bitsI .andNot .u8 x5 (IntKind.u8.wrap (1 * 2 ^ (min (IntKind.u64.wrap x6).toNat 8)))) x6 (IntKind.i64.wrap (x7 + 1)) w)
              (b20 a1 n1 c1 p2 x5 x6 (IntKind.i64.wrap (x7 + 1)) w)) else False) else False)
    (b8 a1 n1 c1 p2 x5 (IntKind.i64.wrap (x6 + 1)) w)
def thicketref18_Outside.q2 (R : Value → World → Prop) : Exit → Act → World → Prop := (fin Go.Proofs.Try.prog Go.Proofs.Try.f10 R)
def thicketref18_Outside.q4 (R : Value → World → Prop) : Exit → Act → World → Prop := (thicketref18_Outside.q2 R)
def thicketref18_Outside.q5 (R : Value → World → Prop) : Exit → Act → World → Prop := Exit.then (startN none (codeN Go.Proofs.Try.prog (sub (codeOf Go.Proofs.Try.f10) [1, 1, 1]) (nsub thicketref18_Outside.an [1, 1, 1]) (thicketref18_Outside.q4 R))) (thicketref18_Outside.q4 R)
def thicketref18_Outside.q7 (R : Value → World → Prop) : Exit → Act → World → Prop := (thicketref18_Outside.q5 R)
def thicketref18_Outside.q8 (R : Value → World → Prop) : Exit → Act → World → Prop := Exit.inBlock 0 (thicketref18_Outside.q7 R)
def thicketref18_Outside.rl8 (R : Value → World → Prop) (k : Nat) (a1 : Option Addr) (n1 : Nat) (c1 : Nat) (p2 : Option Addr) (x5 : Int) (x6 : Int) (w : World) : Prop := loopN [1, 2, 5, 6] (codeN Go.Proofs.Try.prog (sub (codeOf Go.Proofs.Try.f10) [1, 1, 0, 1, 0, 0]) (nsub thicketref18_Outside.an [1, 1, 0, 1, 0, 0])) (thicketref18_Outside.q8 R) k ⟨#[undef, .slice a1 n1 c1, .pointer p2, undef, undef, .int .u8 x5, .int .i64 x6, undef, undef, undef, undef, undef, undef, undef, undef, undef, undef, undef, undef, undef, undef, undef, undef, undef, undef, undef, undef, undef, undef, undef, undef, undef, undef, undef, undef, undef], []⟩ w
def thicketref18_Outside.re8 (R : Value → World → Prop) (a1 : Option Addr) (n1 : Nat) (c1 : Nat) (p2 : Option Addr) (x5 : Int) (x6 : Int) (w : World) : Prop := ∃ k, thicketref18_Outside.rl8 R k a1 n1 c1 p2 x5 x6 w
def thicketref18_Outside.q9 (R : Value → World → Prop) (k8 : Nat) : Exit → Act → World → Prop := Exit.then (fun a w => loopN [1, 2, 5, 6] (codeN Go.Proofs.Try.prog (sub (codeOf Go.Proofs.Try.f10) [1, 1, 0, 1, 0, 0]) (nsub thicketref18_Outside.an [1, 1, 0, 1, 0, 0])) (thicketref18_Outside.q8 R) k8 (clr [1, 2, 5, 6] a) w) (thicketref18_Outside.q8 R)
def thicketref18_Outside.q15 (R : Value → World → Prop) (k8 : Nat) : Exit → Act → World → Prop := (thicketref18_Outside.q9 R k8)
def thicketref18_Outside.q16 (R : Value → World → Prop) (k8 : Nat) : Exit → Act → World → Prop := Exit.then (startN none (codeN Go.Proofs.Try.prog (sub (codeOf Go.Proofs.Try.f10) [1, 1, 0, 1, 0, 0, 1, 1]) (nsub thicketref18_Outside.an [1, 1, 0, 1, 0, 0, 1, 1]) (thicketref18_Outside.q15 R k8))) (thicketref18_Outside.q15 R k8)
def thicketref18_Outside.q17 (R : Value → World → Prop) (k8 : Nat) : Exit → Act → World → Prop := Exit.inBlock 1 (thicketref18_Outside.q16 R k8)
def thicketref18_Outside.q19 (R : Value → World → Prop) (k8 : Nat) : Exit → Act → World → Prop := (thicketref18_Outside.q17 R k8)
def thicketref18_Outside.q20 (R : Value → World → Prop) (k8 : Nat) : Exit → Act → World → Prop := Exit.inBlock 2 (thicketref18_Outside.q19 R k8)
def thicketref18_Outside.rl20 (R : Value → World → Prop) (k8 : Nat) (k : Nat) (a1 : Option Addr) (n1 : Nat) (c1 : Nat) (p2 : Option Addr) (x5 : Int) (x6 : Int) (x7 : Int) (w : World) : Prop := loopN [1, 2, 5, 6, 7] (codeN Go.Proofs.Try.prog (sub (codeOf Go.Proofs.Try.f10) [1, 1, 0, 1, 0, 0, 1, 0, 0, 1, 0, 0]) (nsub thicketref18_Outside.an [1, 1, 0, 1, 0, 0, 1, 0, 0, 1, 0, 0])) (thicketref18_Outside.q20 R k8) k ⟨#[undef, .slice a1 n1 c1, .pointer p2, undef, undef, .int .u8 x5, .int .i64 x6, .int .i64 x7, undef, undef, undef, undef, undef, undef, undef, undef, undef, undef, undef, undef, undef, undef, undef, undef, undef, undef, undef, undef, undef, undef, undef, undef, undef, undef, undef, undef], []⟩ w
def thicketref18_Outside.re20 (R : Value → World → Prop) (k8 : Nat) (a1 : Option Addr) (n1 : Nat) (c1 : Nat) (p2 : Option Addr) (x5 : Int) (x6 : Int) (x7 : Int) (w : World) : Prop := ∃ k, thicketref18_Outside.rl20 R k8 k a1 n1 c1 p2 x5 x6 x7 w
def thicketref18_Outside.l20 (R : Value → World → Prop) (b8 : (Option Addr) → Nat → Nat → (Option Addr) → Int → Int → World → Prop) : Nat → (Option Addr) → Nat → Nat → (Option Addr) → Int → Int → Int → World → Prop
  | 0, _, _, _, _, _, _, _, _ => False
  | k + 1, a1, n1, c1, p2, x5, x6, x7, w => thicketref18_Outside.g20 R b8 (thicketref18_Outside.l20 R b8 k) a1 n1 c1 p2 x5 x6 x7 w
def thicketref18_Outside.e20 (R : Value → World → Prop) (b8 : (Option Addr) → Nat → Nat → (Option Addr) → Int → Int → World → Prop) (a1 : Option Addr) (n1 : Nat) (c1 : Nat) (p2 : Option Addr) (x5 : Int) (x6 : Int) (x7 : Int) (w : World) : Prop := ∃ k, thicketref18_Outside.l20 R b8 k a1 n1 c1 p2 x5 x6 x7 w
theorem thicketref18_Outside.s20 (R : Value → World → Prop) (k8 : Nat) (k : Nat) (a1 : Option Addr) (n1 : Nat) (c1 : Nat) (p2 : Option Addr) (x5 : Int) (x6 : Int) (x7 : Int) (w : World) : thicketref18_Outside.rl20 R k8 (k + 1) a1 n1 c1 p2 x5 x6 x7 w = ∀ _ : Nat → Value, thicketref18_Outside.g20 R (thicketref18_Outside.rl8 R k8) (thicketref18_Outside.rl20 R k8 k) a1 n1 c1 p2 x5 x6 x7 w := by kernel_rfl
theorem thicketref18_Outside.lq20 (R : Value → World → Prop) (k8 : Nat) (b8 : (Option Addr) → Nat → Nat → (Option Addr) → Int → Int → World → Prop) (hb8 : b8 = thicketref18_Outside.rl8 R k8) : ∀ k, thicketref18_Outside.l20 R b8 k = thicketref18_Outside.rl20 R k8 k
  | 0 => by funext a1 n1 c1 p2 x5 x6 x7 w; rfl
  | k + 1 => by
    funext a1 n1 c1 p2 x5 x6 x7 w
    rw [thicketref18_Outside.s20, forall_const]
    unfold thicketref18_Outside.l20
    have ih := thicketref18_Outside.lq20 R k8 b8 hb8 k
    subst hb8
    rw [ih]
    all_goals rfl
theorem thicketref18_Outside.eq20 (R : Value → World → Prop) (k8 : Nat) (b8 : (Option Addr) → Nat → Nat → (Option Addr) → Int → Int → World → Prop) (hb8 : b8 = thicketref18_Outside.rl8 R k8) : thicketref18_Outside.e20 R b8 = thicketref18_Outside.re20 R k8 := by
  funext a1 n1 c1 p2 x5 x6 x7 w
  unfold thicketref18_Outside.e20 thicketref18_Outside.re20
  simp only [thicketref18_Outside.lq20 R k8 b8 hb8]
def thicketref18_Outside.l8 (R : Value → World → Prop) : Nat → (Option Addr) → Nat → Nat → (Option Addr) → Int → Int → World → Prop
  | 0, _, _, _, _, _, _, _ => False
  | k + 1, a1, n1, c1, p2, x5, x6, w => thicketref18_Outside.g8 R (thicketref18_Outside.e20 R (thicketref18_Outside.l8 R k)) a1 n1 c1 p2 x5 x6 w
def thicketref18_Outside.e8 (R : Value → World → Prop) (a1 : Option Addr) (n1 : Nat) (c1 : Nat) (p2 : Option Addr) (x5 : Int) (x6 : Int) (w : World) : Prop := ∃ k, thicketref18_Outside.l8 R k a1 n1 c1 p2 x5 x6 w
theorem thicketref18_Outside.s8 (R : Value → World → Prop) (k : Nat) (a1 : Option Addr) (n1 : Nat) (c1 : Nat) (p2 : Option Addr) (x5 : Int) (x6 : Int) (w : World) : thicketref18_Outside.rl8 R (k + 1) a1 n1 c1 p2 x5 x6 w = ∀ _ : Nat → Value, thicketref18_Outside.g8 R (thicketref18_Outside.re20 R k) a1 n1 c1 p2 x5 x6 w := by kernel_rfl
theorem thicketref18_Outside.lq8 (R : Value → World → Prop) : ∀ k, thicketref18_Outside.l8 R k = thicketref18_Outside.rl8 R k
  | 0 => by funext a1 n1 c1 p2 x5 x6 w; rfl
  | k + 1 => by
    funext a1 n1 c1 p2 x5 x6 w
    rw [thicketref18_Outside.s8, forall_const]
    unfold thicketref18_Outside.l8
    have ih := thicketref18_Outside.lq8 R k
    rw [thicketref18_Outside.eq20 R k _ ih]
    all_goals rfl
theorem thicketref18_Outside.eq8 (R : Value → World → Prop) : thicketref18_Outside.e8 R = thicketref18_Outside.re8 R := by
  funext a1 n1 c1 p2 x5 x6 w
  unfold thicketref18_Outside.e8 thicketref18_Outside.re8
  simp only [thicketref18_Outside.lq8 R]
def thicketref18_Outside (R : Value → World → Prop) (f0_0 : Nat) (f0_1 : Nat) (f0_2 : Nat) (f0_3 : Nat) (f0_4 : Nat) (f0_5 : Nat) (f0_6 : Nat) (f0_7 : Nat) (a1 : Option Addr) (n1 : Nat) (c1 : Nat) (w : World) : Prop := thicketref18_Outside.g0 R (thicketref18_Outside.e8 R) f0_0 f0_1 f0_2 f0_3 f0_4 f0_5 f0_6 f0_7 a1 n1 c1 w
theorem thicketref18_Outside.root0 (R : Value → World → Prop) (f0_0 : Nat) (f0_1 : Nat) (f0_2 : Nat) (f0_3 : Nat) (f0_4 : Nat) (f0_5 : Nat) (f0_6 : Nat) (f0_7 : Nat) (a1 : Option Addr) (n1 : Nat) (c1 : Nat) (w : World) : fnN Go.Proofs.Try.prog Go.Proofs.Try.f10 thicketref18_Outside.an #[.agg #[.float .f64 f0_0, .float .f64 f0_1, .float .f64 f0_2, .float .f64 f0_3, .float .f64 f0_4, .float .f64 f0_5, .float .f64 f0_6, .float .f64 f0_7], .slice a1 n1 c1] w R = thicketref18_Outside.g0 R (thicketref18_Outside.re8 R) f0_0 f0_1 f0_2 f0_3 f0_4 f0_5 f0_6 f0_7 a1 n1 c1 w := by kernel_rfl
theorem thicketref18_Outside.calls {R : Value → World → Prop} {f0_0 : Nat} {f0_1 : Nat} {f0_2 : Nat} {f0_3 : Nat} {f0_4 : Nat} {f0_5 : Nat} {f0_6 : Nat} {f0_7 : Nat} {a1 : Option Addr} {n1 : Nat} {c1 : Nat} {w : World} (h : thicketref18_Outside R f0_0 f0_1 f0_2 f0_3 f0_4 f0_5 f0_6 f0_7 a1 n1 c1 w) : Go.E.CallsD Go.Proofs.Try.prog 10 #[.agg #[.float .f64 f0_0, .float .f64 f0_1, .float .f64 f0_2, .float .f64 f0_3, .float .f64 f0_4, .float .f64 f0_5, .float .f64 f0_6, .float .f64 f0_7], .slice a1 n1 c1] w R := by
  refine callsD_of (n := thicketref18_Outside.an) M_follows M_sizes Go.Proofs.Try.func10 (by rfl) ?_
  rw [thicketref18_Outside.root0]
  unfold thicketref18_Outside at h
  rw [thicketref18_Outside.eq8 R] at h
  exact h
-- thicket/lanes.Above$1
def lanes_Above_1.an : An := An.nil
def lanes_Above_1.g0 (R : Value → World → Prop) (f0 : Nat) (p1 : Addr) (w : World) : Prop :=
  ∃ yf_2 : Nat, w.cell? p1 = some (.float .f64 yf_2) ∧
    (R (.bool (FloatKind.f64.format.order f0 yf_2 == some .gt)) w)
def lanes_Above_1 (R : Value → World → Prop) (f0 : Nat) (p1 : Addr) (w : World) : Prop := lanes_Above_1.g0 R f0 p1 w
theorem lanes_Above_1.root0 (R : Value → World → Prop) (f0 : Nat) (p1 : Addr) (w : World) : fnN Go.Proofs.Try.prog Go.Proofs.Try.f23 lanes_Above_1.an #[.float .f64 f0, .pointer (some p1)] w R = lanes_Above_1.g0 R f0 p1 w := by kernel_rfl
theorem lanes_Above_1.calls {R : Value → World → Prop} {f0 : Nat} {p1 : Addr} {w : World} (h : lanes_Above_1 R f0 p1 w) : Go.E.CallsD Go.Proofs.Try.prog 23 #[.float .f64 f0, .pointer (some p1)] w R := by
  refine callsD_of (n := lanes_Above_1.an) M_follows M_sizes Go.Proofs.Try.func23 (by rfl) ?_
  rw [lanes_Above_1.root0]
  unfold lanes_Above_1 at h
  exact h
-- thicket/lanes.Outside$1
def lanes_Outside_1.an : An := (.mk none .nil (.mk none .nil (.mk none (.mk none .nil (.mk none (.mk (some [0, 9, 10, 11]) .nil .nil) .nil)) .nil)))
def lanes_Outside_1.g0 (R : Value → World → Prop) (e14 : Nat → (Option Addr) → Nat → Nat → Int → Int → World → Prop) (f0 : Nat) (p1 : Addr) (w : World) : Prop :=
  onBool (FloatKind.f64.format.order f0 f0 != some .eq)
    (R (.bool false) w)
    (∃ ya_4 : Option Addr, ∃ yn_4 : Nat, ∃ yc_4 : Nat, w.cell? p1 = some (.slice ya_4 yn_4 yc_4) ∧
      (e14 f0 ya_4 yn_4 yc_4 (yn_4 : Int) 0 w))
def lanes_Outside_1.g14 (R : Value → World → Prop) (b14 : Nat → (Option Addr) → Nat → Nat → Int → Int → World → Prop) (f0 : Nat) (a9 : Option Addr) (n9 : Nat) (c9 : Nat) (x10 : Int) (x11 : Int) (w : World) : Prop :=
  onBool (decide (x11 < x10))
    (optN a9 fun p5 =>
    if (0 : Int) ≤ x11 ∧ x11 < (n9 : Int) then
      ∃ yx_6 : Int, w.cell? (p5.add (x11.toNat * 1)) = some (.int .i64 yx_6) ∧
        (onBool (FloatKind.f64.format.order (FloatKind.f64.nearest yx_6) f0 == some .eq)
          (R (.bool false) w)
          (b14 f0 a9 n9 c9 x10 (IntKind.i64.wrap (x11 + 1)) w)) else False)
    (R (.bool true) w)
def lanes_Outside_1.q2 (R : Value → World → Prop) : Exit → Act → World → Prop := (fin Go.Proofs.Try.prog Go.Proofs.Try.f24 R)
def lanes_Outside_1.q10 (R : Value → World → Prop) : Exit → Act → World → Prop := (lanes_Outside_1.q2 R)
def lanes_Outside_1.q11 (R : Value → World → Prop) : Exit → Act → World → Prop := Exit.then (startN none (codeN Go.Proofs.Try.prog (sub (codeOf Go.Proofs.Try.f24) [1, 1, 1]) (nsub lanes_Outside_1.an [1, 1, 1]) (lanes_Outside_1.q10 R))) (lanes_Outside_1.q10 R)
def lanes_Outside_1.q13 (R : Value → World → Prop) : Exit → Act → World → Prop := (lanes_Outside_1.q11 R)
def lanes_Outside_1.q14 (R : Value → World → Prop) : Exit → Act → World → Prop := Exit.inBlock 0 (lanes_Outside_1.q13 R)
def lanes_Outside_1.rl14 (R : Value → World → Prop) (k : Nat) (f0 : Nat) (a9 : Option Addr) (n9 : Nat) (c9 : Nat) (x10 : Int) (x11 : Int) (w : World) : Prop := loopN [0, 9, 10, 11] (codeN Go.Proofs.Try.prog (sub (codeOf Go.Proofs.Try.f24) [1, 1, 0, 1, 0, 0]) (nsub lanes_Outside_1.an [1, 1, 0, 1, 0, 0])) (lanes_Outside_1.q14 R) k ⟨#[.float .f64 f0, undef, undef, undef, undef, undef, undef, undef, undef, .slice a9 n9 c9, .int .i64 x10, .int .i64 x11, undef, undef, undef, undef, undef, undef, undef, undef], []⟩ w
def lanes_Outside_1.re14 (R : Value → World → Prop) (f0 : Nat) (a9 : Option Addr) (n9 : Nat) (c9 : Nat) (x10 : Int) (x11 : Int) (w : World) : Prop := ∃ k, lanes_Outside_1.rl14 R k f0 a9 n9 c9 x10 x11 w
def lanes_Outside_1.l14 (R : Value → World → Prop) : Nat → Nat → (Option Addr) → Nat → Nat → Int → Int → World → Prop
  | 0, _, _, _, _, _, _, _ => False
  | k + 1, f0, a9, n9, c9, x10, x11, w => lanes_Outside_1.g14 R (lanes_Outside_1.l14 R k) f0 a9 n9 c9 x10 x11 w
def lanes_Outside_1.e14 (R : Value → World → Prop) (f0 : Nat) (a9 : Option Addr) (n9 : Nat) (c9 : Nat) (x10 : Int) (x11 : Int) (w : World) : Prop := ∃ k, lanes_Outside_1.l14 R k f0 a9 n9 c9 x10 x11 w
theorem lanes_Outside_1.s14 (R : Value → World → Prop) (k : Nat) (f0 : Nat) (a9 : Option Addr) (n9 : Nat) (c9 : Nat) (x10 : Int) (x11 : Int) (w : World) : lanes_Outside_1.rl14 R (k + 1) f0 a9 n9 c9 x10 x11 w = ∀ _ : Nat → Value, lanes_Outside_1.g14 R (lanes_Outside_1.rl14 R k) f0 a9 n9 c9 x10 x11 w := by kernel_rfl
theorem lanes_Outside_1.lq14 (R : Value → World → Prop) : ∀ k, lanes_Outside_1.l14 R k = lanes_Outside_1.rl14 R k
  | 0 => by funext f0 a9 n9 c9 x10 x11 w; rfl
  | k + 1 => by
    funext f0 a9 n9 c9 x10 x11 w
    rw [lanes_Outside_1.s14, forall_const]
    unfold lanes_Outside_1.l14
    have ih := lanes_Outside_1.lq14 R k
    rw [ih]
    all_goals rfl
theorem lanes_Outside_1.eq14 (R : Value → World → Prop) : lanes_Outside_1.e14 R = lanes_Outside_1.re14 R := by
  funext f0 a9 n9 c9 x10 x11 w
  unfold lanes_Outside_1.e14 lanes_Outside_1.re14
  simp only [lanes_Outside_1.lq14 R]
def lanes_Outside_1 (R : Value → World → Prop) (f0 : Nat) (p1 : Addr) (w : World) : Prop := lanes_Outside_1.g0 R (lanes_Outside_1.e14 R) f0 p1 w
theorem lanes_Outside_1.root0 (R : Value → World → Prop) (f0 : Nat) (p1 : Addr) (w : World) : fnN Go.Proofs.Try.prog Go.Proofs.Try.f24 lanes_Outside_1.an #[.float .f64 f0, .pointer (some p1)] w R = lanes_Outside_1.g0 R (lanes_Outside_1.re14 R) f0 p1 w := by kernel_rfl
theorem lanes_Outside_1.calls {R : Value → World → Prop} {f0 : Nat} {p1 : Addr} {w : World} (h : lanes_Outside_1 R f0 p1 w) : Go.E.CallsD Go.Proofs.Try.prog 24 #[.float .f64 f0, .pointer (some p1)] w R := by
  refine callsD_of (n := lanes_Outside_1.an) M_follows M_sizes Go.Proofs.Try.func24 (by rfl) ?_
  rw [lanes_Outside_1.root0]
  unfold lanes_Outside_1 at h
  rw [lanes_Outside_1.eq14 R] at h
  exact h
-- thicket/lanes.Lost$1
def lanes_Lost_1.an : An := An.nil
def lanes_Lost_1.g0 (R : Value → World → Prop) (f0 : Nat) (w : World) : Prop :=
  R (.bool (FloatKind.f64.format.order f0 f0 != some .eq)) w
def lanes_Lost_1 (R : Value → World → Prop) (f0 : Nat) (w : World) : Prop := lanes_Lost_1.g0 R f0 w
theorem lanes_Lost_1.root0 (R : Value → World → Prop) (f0 : Nat) (w : World) : fnN Go.Proofs.Try.prog Go.Proofs.Try.f25 lanes_Lost_1.an #[.float .f64 f0] w R = lanes_Lost_1.g0 R f0 w := by kernel_rfl
theorem lanes_Lost_1.calls {R : Value → World → Prop} {f0 : Nat} {w : World} (h : lanes_Lost_1 R f0 w) : Go.E.CallsD Go.Proofs.Try.prog 25 #[.float .f64 f0] w R := by
  refine callsD_of (n := lanes_Lost_1.an) M_follows M_sizes Go.Proofs.Try.func25 (by rfl) ?_
  rw [lanes_Lost_1.root0]
  unfold lanes_Lost_1 at h
  exact h
-- thicket/lanes.Above
def lanes_Above.an : An := An.nil
def lanes_Above.g0 (R : Value → World → Prop) (f0_0 : Nat) (f0_1 : Nat) (f0_2 : Nat) (f0_3 : Nat) (f0_4 : Nat) (f0_5 : Nat) (f0_6 : Nat) (f0_7 : Nat) (f1 : Nat) (w : World) : Prop :=
  nw (w.alloc (.cells #[.float .f64 f0_0, .float .f64 f0_1, .float .f64 f0_2, .float .f64 f0_3, .float .f64 f0_4, .float .f64 f0_5, .float .f64 f0_6, .float .f64 f0_7] 24)) fun w14 =>
  nw (w14.alloc (.cells #[.float .f64 f1] 22)) fun w15 =>
  ∃ yf_16 : Nat, w15.cell? ((na w).add 0) = some (.float .f64 yf_16) ∧
    (∃ yf_17 : Nat, w15.cell? ((na w).add 1) = some (.float .f64 yf_17) ∧
      (∃ yf_18 : Nat, w15.cell? ((na w).add 2) = some (.float .f64 yf_18) ∧
        (∃ yf_19 : Nat, w15.cell? ((na w).add 3) = some (.float .f64 yf_19) ∧
          (∃ yf_20 : Nat, w15.cell? ((na w).add 4) = some (.float .f64 yf_20) ∧
            (∃ yf_21 : Nat, w15.cell? ((na w).add 5) = some (.float .f64 yf_21) ∧
              (∃ yf_22 : Nat, w15.cell? ((na w).add 6) = some (.float .f64 yf_22) ∧
                (∃ yf_23 : Nat, w15.cell? ((na w).add 7) = some (.float .f64 yf_23) ∧
                  (Go.E.CallsD Go.Proofs.Try.prog 22 #[.agg #[.float .f64 yf_16, .float .f64 yf_17, .float .f64 yf_18, .float .f64 yf_19, .float .f64 yf_20, .float .f64 yf_21, .float .f64 yf_22, .float .f64 yf_23], .func (.func 23) #[] #[.pointer (some (na w14))]] w15 fun v24 u25 =>
                    ∃ yx_26 : Int, v24 = .int .u8 yx_26 ∧
                      (R (.int .u8 yx_26) u25)))))))))
def lanes_Above (R : Value → World → Prop) (f0_0 : Nat) (f0_1 : Nat) (f0_2 : Nat) (f0_3 : Nat) (f0_4 : Nat) (f0_5 : Nat) (f0_6 : Nat) (f0_7 : Nat) (f1 : Nat) (w : World) : Prop := lanes_Above.g0 R f0_0 f0_1 f0_2 f0_3 f0_4 f0_5 f0_6 f0_7 f1 w
theorem lanes_Above.root0 (R : Value → World → Prop) (f0_0 : Nat) (f0_1 : Nat) (f0_2 : Nat) (f0_3 : Nat) (f0_4 : Nat) (f0_5 : Nat) (f0_6 : Nat) (f0_7 : Nat) (f1 : Nat) (w : World) : fnN Go.Proofs.Try.prog Go.Proofs.Try.f7 lanes_Above.an #[.agg #[.float .f64 f0_0, .float .f64 f0_1, .float .f64 f0_2, .float .f64 f0_3, .float .f64 f0_4, .float .f64 f0_5, .float .f64 f0_6, .float .f64 f0_7], .float .f64 f1] w R = lanes_Above.g0 R f0_0 f0_1 f0_2 f0_3 f0_4 f0_5 f0_6 f0_7 f1 w := by kernel_rfl
theorem lanes_Above.calls {R : Value → World → Prop} {f0_0 : Nat} {f0_1 : Nat} {f0_2 : Nat} {f0_3 : Nat} {f0_4 : Nat} {f0_5 : Nat} {f0_6 : Nat} {f0_7 : Nat} {f1 : Nat} {w : World} (h : lanes_Above R f0_0 f0_1 f0_2 f0_3 f0_4 f0_5 f0_6 f0_7 f1 w) : Go.E.CallsD Go.Proofs.Try.prog 7 #[.agg #[.float .f64 f0_0, .float .f64 f0_1, .float .f64 f0_2, .float .f64 f0_3, .float .f64 f0_4, .float .f64 f0_5, .float .f64 f0_6, .float .f64 f0_7], .float .f64 f1] w R := by
  refine callsD_of (n := lanes_Above.an) M_follows M_sizes Go.Proofs.Try.func7 (by rfl) ?_
  rw [lanes_Above.root0]
  unfold lanes_Above at h
  exact h
-- thicket/lanes.Outside
def lanes_Outside.an : An := An.nil
def lanes_Outside.g0 (R : Value → World → Prop) (f0_0 : Nat) (f0_1 : Nat) (f0_2 : Nat) (f0_3 : Nat) (f0_4 : Nat) (f0_5 : Nat) (f0_6 : Nat) (f0_7 : Nat) (a1 : Option Addr) (n1 : Nat) (c1 : Nat) (w : World) : Prop :=
  nw (w.alloc (.cells #[.float .f64 f0_0, .float .f64 f0_1, .float .f64 f0_2, .float .f64 f0_3, .float .f64 f0_4, .float .f64 f0_5, .float .f64 f0_6, .float .f64 f0_7] 24)) fun w14 =>
  nw (w14.alloc (.cells #[.slice a1 n1 c1] 25)) fun w15 =>
  ∃ yf_16 : Nat, w15.cell? ((na w).add 0) = some (.float .f64 yf_16) ∧
    (∃ yf_17 : Nat, w15.cell? ((na w).add 1) = some (.float .f64 yf_17) ∧
      (∃ yf_18 : Nat, w15.cell? ((na w).add 2) = some (.float .f64 yf_18) ∧
        (∃ yf_19 : Nat, w15.cell? ((na w).add 3) = some (.float .f64 yf_19) ∧
          (∃ yf_20 : Nat, w15.cell? ((na w).add 4) = some (.float .f64 yf_20) ∧
            (∃ yf_21 : Nat, w15.cell? ((na w).add 5) = some (.float .f64 yf_21) ∧
              (∃ yf_22 : Nat, w15.cell? ((na w).add 6) = some (.float .f64 yf_22) ∧
                (∃ yf_23 : Nat, w15.cell? ((na w).add 7) = some (.float .f64 yf_23) ∧
                  (Go.E.CallsD Go.Proofs.Try.prog 22 #[.agg #[.float .f64 yf_16, .float .f64 yf_17, .float .f64 yf_18, .float .f64 yf_19, .float .f64 yf_20, .float .f64 yf_21, .float .f64 yf_22, .float .f64 yf_23], .func (.func 24) #[] #[.pointer (some (na w14))]] w15 fun v24 u25 =>
                    ∃ yx_26 : Int, v24 = .int .u8 yx_26 ∧
                      (R (.int .u8 yx_26) u25)))))))))
def lanes_Outside (R : Value → World → Prop) (f0_0 : Nat) (f0_1 : Nat) (f0_2 : Nat) (f0_3 : Nat) (f0_4 : Nat) (f0_5 : Nat) (f0_6 : Nat) (f0_7 : Nat) (a1 : Option Addr) (n1 : Nat) (c1 : Nat) (w : World) : Prop := lanes_Outside.g0 R f0_0 f0_1 f0_2 f0_3 f0_4 f0_5 f0_6 f0_7 a1 n1 c1 w
theorem lanes_Outside.root0 (R : Value → World → Prop) (f0_0 : Nat) (f0_1 : Nat) (f0_2 : Nat) (f0_3 : Nat) (f0_4 : Nat) (f0_5 : Nat) (f0_6 : Nat) (f0_7 : Nat) (a1 : Option Addr) (n1 : Nat) (c1 : Nat) (w : World) : fnN Go.Proofs.Try.prog Go.Proofs.Try.f9 lanes_Outside.an #[.agg #[.float .f64 f0_0, .float .f64 f0_1, .float .f64 f0_2, .float .f64 f0_3, .float .f64 f0_4, .float .f64 f0_5, .float .f64 f0_6, .float .f64 f0_7], .slice a1 n1 c1] w R = lanes_Outside.g0 R f0_0 f0_1 f0_2 f0_3 f0_4 f0_5 f0_6 f0_7 a1 n1 c1 w := by kernel_rfl
theorem lanes_Outside.calls {R : Value → World → Prop} {f0_0 : Nat} {f0_1 : Nat} {f0_2 : Nat} {f0_3 : Nat} {f0_4 : Nat} {f0_5 : Nat} {f0_6 : Nat} {f0_7 : Nat} {a1 : Option Addr} {n1 : Nat} {c1 : Nat} {w : World} (h : lanes_Outside R f0_0 f0_1 f0_2 f0_3 f0_4 f0_5 f0_6 f0_7 a1 n1 c1 w) : Go.E.CallsD Go.Proofs.Try.prog 9 #[.agg #[.float .f64 f0_0, .float .f64 f0_1, .float .f64 f0_2, .float .f64 f0_3, .float .f64 f0_4, .float .f64 f0_5, .float .f64 f0_6, .float .f64 f0_7], .slice a1 n1 c1] w R := by
  refine callsD_of (n := lanes_Outside.an) M_follows M_sizes Go.Proofs.Try.func9 (by rfl) ?_
  rw [lanes_Outside.root0]
  unfold lanes_Outside at h
  exact h
-- thicket/lanes.Lost
def lanes_Lost.an : An := An.nil
def lanes_Lost.g0 (R : Value → World → Prop) (f0_0 : Nat) (f0_1 : Nat) (f0_2 : Nat) (f0_3 : Nat) (f0_4 : Nat) (f0_5 : Nat) (f0_6 : Nat) (f0_7 : Nat) (w : World) : Prop :=
  nw (w.alloc (.cells #[.float .f64 f0_0, .float .f64 f0_1, .float .f64 f0_2, .float .f64 f0_3, .float .f64 f0_4, .float .f64 f0_5, .float .f64 f0_6, .float .f64 f0_7] 24)) fun w13 =>
  ∃ yf_14 : Nat, w13.cell? ((na w).add 0) = some (.float .f64 yf_14) ∧
    (∃ yf_15 : Nat, w13.cell? ((na w).add 1) = some (.float .f64 yf_15) ∧
      (∃ yf_16 : Nat, w13.cell? ((na w).add 2) = some (.float .f64 yf_16) ∧
        (∃ yf_17 : Nat, w13.cell? ((na w).add 3) = some (.float .f64 yf_17) ∧
          (∃ yf_18 : Nat, w13.cell? ((na w).add 4) = some (.float .f64 yf_18) ∧
            (∃ yf_19 : Nat, w13.cell? ((na w).add 5) = some (.float .f64 yf_19) ∧
              (∃ yf_20 : Nat, w13.cell? ((na w).add 6) = some (.float .f64 yf_20) ∧
                (∃ yf_21 : Nat, w13.cell? ((na w).add 7) = some (.float .f64 yf_21) ∧
                  (Go.E.CallsD Go.Proofs.Try.prog 22 #[.agg #[.float .f64 yf_14, .float .f64 yf_15, .float .f64 yf_16, .float .f64 yf_17, .float .f64 yf_18, .float .f64 yf_19, .float .f64 yf_20, .float .f64 yf_21], .func (.func 25) #[] #[]] w13 fun v22 u23 =>
                    ∃ yx_24 : Int, v22 = .int .u8 yx_24 ∧
                      (R (.int .u8 yx_24) u23)))))))))
def lanes_Lost (R : Value → World → Prop) (f0_0 : Nat) (f0_1 : Nat) (f0_2 : Nat) (f0_3 : Nat) (f0_4 : Nat) (f0_5 : Nat) (f0_6 : Nat) (f0_7 : Nat) (w : World) : Prop := lanes_Lost.g0 R f0_0 f0_1 f0_2 f0_3 f0_4 f0_5 f0_6 f0_7 w
theorem lanes_Lost.root0 (R : Value → World → Prop) (f0_0 : Nat) (f0_1 : Nat) (f0_2 : Nat) (f0_3 : Nat) (f0_4 : Nat) (f0_5 : Nat) (f0_6 : Nat) (f0_7 : Nat) (w : World) : fnN Go.Proofs.Try.prog Go.Proofs.Try.f11 lanes_Lost.an #[.agg #[.float .f64 f0_0, .float .f64 f0_1, .float .f64 f0_2, .float .f64 f0_3, .float .f64 f0_4, .float .f64 f0_5, .float .f64 f0_6, .float .f64 f0_7]] w R = lanes_Lost.g0 R f0_0 f0_1 f0_2 f0_3 f0_4 f0_5 f0_6 f0_7 w := by kernel_rfl
theorem lanes_Lost.calls {R : Value → World → Prop} {f0_0 : Nat} {f0_1 : Nat} {f0_2 : Nat} {f0_3 : Nat} {f0_4 : Nat} {f0_5 : Nat} {f0_6 : Nat} {f0_7 : Nat} {w : World} (h : lanes_Lost R f0_0 f0_1 f0_2 f0_3 f0_4 f0_5 f0_6 f0_7 w) : Go.E.CallsD Go.Proofs.Try.prog 11 #[.agg #[.float .f64 f0_0, .float .f64 f0_1, .float .f64 f0_2, .float .f64 f0_3, .float .f64 f0_4, .float .f64 f0_5, .float .f64 f0_6, .float .f64 f0_7]] w R := by
  refine callsD_of (n := lanes_Lost.an) M_follows M_sizes Go.Proofs.Try.func11 (by rfl) ?_
  rw [lanes_Lost.root0]
  unfold lanes_Lost at h
  exact h
-- thicket/lanes.gathered
def lanes_gathered_a.an : An := (.mk none .nil (.mk none .nil (.mk none (.mk none .nil (.mk none (.mk (some [1, 5, 8, 9]) .nil .nil) .nil)) .nil)))
def lanes_gathered_a.g0 (R : Value → World → Prop) (e8 : Addr → Int → Nat → Nat → Nat → Nat → Nat → Nat → Nat → Nat → Int → World → Prop) (f0_0 : Nat) (f0_1 : Nat) (f0_2 : Nat) (f0_3 : Nat) (f0_4 : Nat) (f0_5 : Nat) (f0_6 : Nat) (f0_7 : Nat) (p1_0 : Addr) (w : World) : Prop :=
  nw (w.alloc (.cells #[.float .f64 f0_0, .float .f64 f0_1, .float .f64 f0_2, .float .f64 f0_3, .float .f64 f0_4, .float .f64 f0_5, .float .f64 f0_6, .float .f64 f0_7] 24)) fun w14 =>
  ∃ yf_15 : Nat, w14.cell? ((na w).add 0) = some (.float .f64 yf_15) ∧
    (∃ yf_16 : Nat, w14.cell? ((na w).add 1) = some (.float .f64 yf_16) ∧
      (∃ yf_17 : Nat, w14.cell? ((na w).add 2) = some (.float .f64 yf_17) ∧
        (∃ yf_18 : Nat, w14.cell? ((na w).add 3) = some (.float .f64 yf_18) ∧
          (∃ yf_19 : Nat, w14.cell? ((na w).add 4) = some (.float .f64 yf_19) ∧
            (∃ yf_20 : Nat, w14.cell? ((na w).add 5) = some (.float .f64 yf_20) ∧
              (∃ yf_21 : Nat, w14.cell? ((na w).add 6) = some (.float .f64 yf_21) ∧
                (∃ yf_22 : Nat, w14.cell? ((na w).add 7) = some (.float .f64 yf_22) ∧
                  (e8 p1_0 0 yf_15 yf_16 yf_17 yf_18 yf_19 yf_20 yf_21 yf_22 0 w14))))))))
def lanes_gathered_a.g8 (R : Value → World → Prop) (b8 : Addr → Int → Nat → Nat → Nat → Nat → Nat → Nat → Nat → Nat → Int → World → Prop) (p1_0 : Addr) (x5 : Int) (f8_0 : Nat) (f8_1 : Nat) (f8_2 : Nat) (f8_3 : Nat) (f8_4 : Nat) (f8_5 : Nat) (f8_6 : Nat) (f8_7 : Nat) (x9 : Int) (w : World) : Prop :=
  onBool (decide (x9 < 8))
    (if (0 : Int) ≤ x9 ∧ x9 < (8 : Int) then
      ∃ yf_23 : Nat, (#[.float .f64 f8_0, .float .f64 f8_1, .float .f64 f8_2, .float .f64 f8_3, .float .f64 f8_4, .float .f64 f8_5, .float .f64 f8_6, .float .f64 f8_7] : Array Value)[x9.toNat * 1]? = some (.float .f64 yf_23) ∧
        (Go.E.CallsD Go.Proofs.Try.prog 23 #[.float .f64 yf_23, .pointer (some p1_0)] w fun v24 u25 =>
          ∃ yb_26 : Bool, v24 = .bool yb_26 ∧
            (onBool yb_26
              (if IntKind.u64.wrap x9 < 0 then False else
                b8 p1_0 (bitsI .or .u8 x5 (IntKind.u8.wrap (1 * 2 ^ (min (IntKind.u64.wrap x9).toNat 8)))) f8_0 f8_1 f8_2 f8_3 f8_4 f8_5 f8_6 f8_7 (IntKind.i64.wrap (x9 + 1)) u25)
              (b8 p1_0 x5 f8_0 f8_1 f8_2 f8_3 f8_4 f8_5 f8_6 f8_7 (IntKind.i64.wrap (x9 + 1)) u25))) else False)
    (R (.int .u8 x5) w)
def lanes_gathered_a.q2 (R : Value → World → Prop) : Exit → Act → World → Prop := (fin Go.Proofs.Try.prog Go.Proofs.Try.f22 R)
def lanes_gathered_a.q4 (R : Value → World → Prop) : Exit → Act → World → Prop := (lanes_gathered_a.q2 R)
def lanes_gathered_a.q5 (R : Value → World → Prop) : Exit → Act → World → Prop := Exit.then (startN none (codeN Go.Proofs.Try.prog (sub (codeOf Go.Proofs.Try.f22) [1, 1, 1]) (nsub lanes_gathered_a.an [1, 1, 1]) (lanes_gathered_a.q4 R))) (lanes_gathered_a.q4 R)
def lanes_gathered_a.q7 (R : Value → World → Prop) : Exit → Act → World → Prop := (lanes_gathered_a.q5 R)
def lanes_gathered_a.q8 (R : Value → World → Prop) : Exit → Act → World → Prop := Exit.inBlock 0 (lanes_gathered_a.q7 R)
def lanes_gathered_a.rl8 (R : Value → World → Prop) (k : Nat) (p1_0 : Addr) (x5 : Int) (f8_0 : Nat) (f8_1 : Nat) (f8_2 : Nat) (f8_3 : Nat) (f8_4 : Nat) (f8_5 : Nat) (f8_6 : Nat) (f8_7 : Nat) (x9 : Int) (w : World) : Prop := loopN [1, 5, 8, 9] (codeN Go.Proofs.Try.prog (sub (codeOf Go.Proofs.Try.f22) [1, 1, 0, 1, 0, 0]) (nsub lanes_gathered_a.an [1, 1, 0, 1, 0, 0])) (lanes_gathered_a.q8 R) k ⟨#[undef, .func (.func 23) #[] #[.pointer (some p1_0)], undef, undef, undef, .int .u8 x5, undef, undef, .agg #[.float .f64 f8_0, .float .f64 f8_1, .float .f64 f8_2, .float .f64 f8_3, .float .f64 f8_4, .float .f64 f8_5, .float .f64 f8_6, .float .f64 f8_7], .int .i64 x9, undef, undef, undef, undef, undef, undef, undef, undef, undef, undef, undef, undef, undef], []⟩ w
def lanes_gathered_a.re8 (R : Value → World → Prop) (p1_0 : Addr) (x5 : Int) (f8_0 : Nat) (f8_1 : Nat) (f8_2 : Nat) (f8_3 : Nat) (f8_4 : Nat) (f8_5 : Nat) (f8_6 : Nat) (f8_7 : Nat) (x9 : Int) (w : World) : Prop := ∃ k, lanes_gathered_a.rl8 R k p1_0 x5 f8_0 f8_1 f8_2 f8_3 f8_4 f8_5 f8_6 f8_7 x9 w
def lanes_gathered_a.l8 (R : Value → World → Prop) : Nat → Addr → Int → Nat → Nat → Nat → Nat → Nat → Nat → Nat → Nat → Int → World → Prop
  | 0, _, _, _, _, _, _, _, _, _, _, _, _ => False
  | k + 1, p1_0, x5, f8_0, f8_1, f8_2, f8_3, f8_4, f8_5, f8_6, f8_7, x9, w => lanes_gathered_a.g8 R (lanes_gathered_a.l8 R k) p1_0 x5 f8_0 f8_1 f8_2 f8_3 f8_4 f8_5 f8_6 f8_7 x9 w
def lanes_gathered_a.e8 (R : Value → World → Prop) (p1_0 : Addr) (x5 : Int) (f8_0 : Nat) (f8_1 : Nat) (f8_2 : Nat) (f8_3 : Nat) (f8_4 : Nat) (f8_5 : Nat) (f8_6 : Nat) (f8_7 : Nat) (x9 : Int) (w : World) : Prop := ∃ k, lanes_gathered_a.l8 R k p1_0 x5 f8_0 f8_1 f8_2 f8_3 f8_4 f8_5 f8_6 f8_7 x9 w
theorem lanes_gathered_a.s8 (R : Value → World → Prop) (k : Nat) (p1_0 : Addr) (x5 : Int) (f8_0 : Nat) (f8_1 : Nat) (f8_2 : Nat) (f8_3 : Nat) (f8_4 : Nat) (f8_5 : Nat) (f8_6 : Nat) (f8_7 : Nat) (x9 : Int) (w : World) : lanes_gathered_a.rl8 R (k + 1) p1_0 x5 f8_0 f8_1 f8_2 f8_3 f8_4 f8_5 f8_6 f8_7 x9 w = ∀ _ : Nat → Value, lanes_gathered_a.g8 R (lanes_gathered_a.rl8 R k) p1_0 x5 f8_0 f8_1 f8_2 f8_3 f8_4 f8_5 f8_6 f8_7 x9 w := by kernel_rfl
theorem lanes_gathered_a.lq8 (R : Value → World → Prop) : ∀ k, lanes_gathered_a.l8 R k = lanes_gathered_a.rl8 R k
  | 0 => by funext p1_0 x5 f8_0 f8_1 f8_2 f8_3 f8_4 f8_5 f8_6 f8_7 x9 w; rfl
  | k + 1 => by
    funext p1_0 x5 f8_0 f8_1 f8_2 f8_3 f8_4 f8_5 f8_6 f8_7 x9 w
    rw [lanes_gathered_a.s8, forall_const]
    unfold lanes_gathered_a.l8
    have ih := lanes_gathered_a.lq8 R k
    rw [ih]
    all_goals rfl
theorem lanes_gathered_a.eq8 (R : Value → World → Prop) : lanes_gathered_a.e8 R = lanes_gathered_a.re8 R := by
  funext p1_0 x5 f8_0 f8_1 f8_2 f8_3 f8_4 f8_5 f8_6 f8_7 x9 w
  unfold lanes_gathered_a.e8 lanes_gathered_a.re8
  simp only [lanes_gathered_a.lq8 R]
def lanes_gathered_a (R : Value → World → Prop) (f0_0 : Nat) (f0_1 : Nat) (f0_2 : Nat) (f0_3 : Nat) (f0_4 : Nat) (f0_5 : Nat) (f0_6 : Nat) (f0_7 : Nat) (p1_0 : Addr) (w : World) : Prop := lanes_gathered_a.g0 R (lanes_gathered_a.e8 R) f0_0 f0_1 f0_2 f0_3 f0_4 f0_5 f0_6 f0_7 p1_0 w
theorem lanes_gathered_a.root0 (R : Value → World → Prop) (f0_0 : Nat) (f0_1 : Nat) (f0_2 : Nat) (f0_3 : Nat) (f0_4 : Nat) (f0_5 : Nat) (f0_6 : Nat) (f0_7 : Nat) (p1_0 : Addr) (w : World) : fnN Go.Proofs.Try.prog Go.Proofs.Try.f22 lanes_gathered_a.an #[.agg #[.float .f64 f0_0, .float .f64 f0_1, .float .f64 f0_2, .float .f64 f0_3, .float .f64 f0_4, .float .f64 f0_5, .float .f64 f0_6, .float .f64 f0_7], .func (.func 23) #[] #[.pointer (some p1_0)]] w R = lanes_gathered_a.g0 R (lanes_gathered_a.re8 R) f0_0 f0_1 f0_2 f0_3 f0_4 f0_5 f0_6 f0_7 p1_0 w := by kernel_rfl
theorem lanes_gathered_a.calls {R : Value → World → Prop} {f0_0 : Nat} {f0_1 : Nat} {f0_2 : Nat} {f0_3 : Nat} {f0_4 : Nat} {f0_5 : Nat} {f0_6 : Nat} {f0_7 : Nat} {p1_0 : Addr} {w : World} (h : lanes_gathered_a R f0_0 f0_1 f0_2 f0_3 f0_4 f0_5 f0_6 f0_7 p1_0 w) : Go.E.CallsD Go.Proofs.Try.prog 22 #[.agg #[.float .f64 f0_0, .float .f64 f0_1, .float .f64 f0_2, .float .f64 f0_3, .float .f64 f0_4, .float .f64 f0_5, .float .f64 f0_6, .float .f64 f0_7], .func (.func 23) #[] #[.pointer (some p1_0)]] w R := by
  refine callsD_of (n := lanes_gathered_a.an) M_follows M_sizes Go.Proofs.Try.func22 (by rfl) ?_
  rw [lanes_gathered_a.root0]
  unfold lanes_gathered_a at h
  rw [lanes_gathered_a.eq8 R] at h
  exact h
-- thicket/lanes.gathered
def lanes_gathered_o.an : An := (.mk none .nil (.mk none .nil (.mk none (.mk none .nil (.mk none (.mk (some [1, 5, 8, 9]) .nil .nil) .nil)) .nil)))
def lanes_gathered_o.g0 (R : Value → World → Prop) (e8 : Addr → Int → Nat → Nat → Nat → Nat → Nat → Nat → Nat → Nat → Int → World → Prop) (f0_0 : Nat) (f0_1 : Nat) (f0_2 : Nat) (f0_3 : Nat) (f0_4 : Nat) (f0_5 : Nat) (f0_6 : Nat) (f0_7 : Nat) (p1_0 : Addr) (w : World) : Prop :=
  nw (w.alloc (.cells #[.float .f64 f0_0, .float .f64 f0_1, .float .f64 f0_2, .float .f64 f0_3, .float .f64 f0_4, .float .f64 f0_5, .float .f64 f0_6, .float .f64 f0_7] 24)) fun w14 =>
  ∃ yf_15 : Nat, w14.cell? ((na w).add 0) = some (.float .f64 yf_15) ∧
    (∃ yf_16 : Nat, w14.cell? ((na w).add 1) = some (.float .f64 yf_16) ∧
      (∃ yf_17 : Nat, w14.cell? ((na w).add 2) = some (.float .f64 yf_17) ∧
        (∃ yf_18 : Nat, w14.cell? ((na w).add 3) = some (.float .f64 yf_18) ∧
          (∃ yf_19 : Nat, w14.cell? ((na w).add 4) = some (.float .f64 yf_19) ∧
            (∃ yf_20 : Nat, w14.cell? ((na w).add 5) = some (.float .f64 yf_20) ∧
              (∃ yf_21 : Nat, w14.cell? ((na w).add 6) = some (.float .f64 yf_21) ∧
                (∃ yf_22 : Nat, w14.cell? ((na w).add 7) = some (.float .f64 yf_22) ∧
                  (e8 p1_0 0 yf_15 yf_16 yf_17 yf_18 yf_19 yf_20 yf_21 yf_22 0 w14))))))))
def lanes_gathered_o.g8 (R : Value → World → Prop) (b8 : Addr → Int → Nat → Nat → Nat → Nat → Nat → Nat → Nat → Nat → Int → World → Prop) (p1_0 : Addr) (x5 : Int) (f8_0 : Nat) (f8_1 : Nat) (f8_2 : Nat) (f8_3 : Nat) (f8_4 : Nat) (f8_5 : Nat) (f8_6 : Nat) (f8_7 : Nat) (x9 : Int) (w : World) : Prop :=
  onBool (decide (x9 < 8))
    (if (0 : Int) ≤ x9 ∧ x9 < (8 : Int) then
      ∃ yf_23 : Nat, (#[.float .f64 f8_0, .float .f64 f8_1, .float .f64 f8_2, .float .f64 f8_3, .float .f64 f8_4, .float .f64 f8_5, .float .f64 f8_6, .float .f64 f8_7] : Array Value)[x9.toNat * 1]? = some (.float .f64 yf_23) ∧
        (Go.E.CallsD Go.Proofs.Try.prog 24 #[.float .f64 yf_23, .pointer (some p1_0)] w fun v24 u25 =>
          ∃ yb_26 : Bool, v24 = .bool yb_26 ∧
            (onBool yb_26
              (if IntKind.u64.wrap x9 < 0 then False else
                b8 p1_0 (bitsI .or .u8 x5 (IntKind.u8.wrap (1 * 2 ^ (min (IntKind.u64.wrap x9).toNat 8)))) f8_0 f8_1 f8_2 f8_3 f8_4 f8_5 f8_6 f8_7 (IntKind.i64.wrap (x9 + 1)) u25)
              (b8 p1_0 x5 f8_0 f8_1 f8_2 f8_3 f8_4 f8_5 f8_6 f8_7 (IntKind.i64.wrap (x9 + 1)) u25))) else False)
    (R (.int .u8 x5) w)
def lanes_gathered_o.q2 (R : Value → World → Prop) : Exit → Act → World → Prop := (fin Go.Proofs.Try.prog Go.Proofs.Try.f22 R)
def lanes_gathered_o.q4 (R : Value → World → Prop) : Exit → Act → World → Prop := (lanes_gathered_o.q2 R)
def lanes_gathered_o.q5 (R : Value → World → Prop) : Exit → Act → World → Prop := Exit.then (startN none (codeN Go.Proofs.Try.prog (sub (codeOf Go.Proofs.Try.f22) [1, 1, 1]) (nsub lanes_gathered_o.an [1, 1, 1]) (lanes_gathered_o.q4 R))) (lanes_gathered_o.q4 R)
def lanes_gathered_o.q7 (R : Value → World → Prop) : Exit → Act → World → Prop := (lanes_gathered_o.q5 R)
def lanes_gathered_o.q8 (R : Value → World → Prop) : Exit → Act → World → Prop := Exit.inBlock 0 (lanes_gathered_o.q7 R)
def lanes_gathered_o.rl8 (R : Value → World → Prop) (k : Nat) (p1_0 : Addr) (x5 : Int) (f8_0 : Nat) (f8_1 : Nat) (f8_2 : Nat) (f8_3 : Nat) (f8_4 : Nat) (f8_5 : Nat) (f8_6 : Nat) (f8_7 : Nat) (x9 : Int) (w : World) : Prop := loopN [1, 5, 8, 9] (codeN Go.Proofs.Try.prog (sub (codeOf Go.Proofs.Try.f22) [1, 1, 0, 1, 0, 0]) (nsub lanes_gathered_o.an [1, 1, 0, 1, 0, 0])) (lanes_gathered_o.q8 R) k ⟨#[undef, .func (.func 24) #[] #[.pointer (some p1_0)], undef, undef, undef, .int .u8 x5, undef, undef, .agg #[.float .f64 f8_0, .float .f64 f8_1, .float .f64 f8_2, .float .f64 f8_3, .float .f64 f8_4, .float .f64 f8_5, .float .f64 f8_6, .float .f64 f8_7], .int .i64 x9, undef, undef, undef, undef, undef, undef, undef, undef, undef, undef, undef, undef, undef], []⟩ w
def lanes_gathered_o.re8 (R : Value → World → Prop) (p1_0 : Addr) (x5 : Int) (f8_0 : Nat) (f8_1 : Nat) (f8_2 : Nat) (f8_3 : Nat) (f8_4 : Nat) (f8_5 : Nat) (f8_6 : Nat) (f8_7 : Nat) (x9 : Int) (w : World) : Prop := ∃ k, lanes_gathered_o.rl8 R k p1_0 x5 f8_0 f8_1 f8_2 f8_3 f8_4 f8_5 f8_6 f8_7 x9 w
def lanes_gathered_o.l8 (R : Value → World → Prop) : Nat → Addr → Int → Nat → Nat → Nat → Nat → Nat → Nat → Nat → Nat → Int → World → Prop
  | 0, _, _, _, _, _, _, _, _, _, _, _, _ => False
  | k + 1, p1_0, x5, f8_0, f8_1, f8_2, f8_3, f8_4, f8_5, f8_6, f8_7, x9, w => lanes_gathered_o.g8 R (lanes_gathered_o.l8 R k) p1_0 x5 f8_0 f8_1 f8_2 f8_3 f8_4 f8_5 f8_6 f8_7 x9 w
def lanes_gathered_o.e8 (R : Value → World → Prop) (p1_0 : Addr) (x5 : Int) (f8_0 : Nat) (f8_1 : Nat) (f8_2 : Nat) (f8_3 : Nat) (f8_4 : Nat) (f8_5 : Nat) (f8_6 : Nat) (f8_7 : Nat) (x9 : Int) (w : World) : Prop := ∃ k, lanes_gathered_o.l8 R k p1_0 x5 f8_0 f8_1 f8_2 f8_3 f8_4 f8_5 f8_6 f8_7 x9 w
theorem lanes_gathered_o.s8 (R : Value → World → Prop) (k : Nat) (p1_0 : Addr) (x5 : Int) (f8_0 : Nat) (f8_1 : Nat) (f8_2 : Nat) (f8_3 : Nat) (f8_4 : Nat) (f8_5 : Nat) (f8_6 : Nat) (f8_7 : Nat) (x9 : Int) (w : World) : lanes_gathered_o.rl8 R (k + 1) p1_0 x5 f8_0 f8_1 f8_2 f8_3 f8_4 f8_5 f8_6 f8_7 x9 w = ∀ _ : Nat → Value, lanes_gathered_o.g8 R (lanes_gathered_o.rl8 R k) p1_0 x5 f8_0 f8_1 f8_2 f8_3 f8_4 f8_5 f8_6 f8_7 x9 w := by kernel_rfl
theorem lanes_gathered_o.lq8 (R : Value → World → Prop) : ∀ k, lanes_gathered_o.l8 R k = lanes_gathered_o.rl8 R k
  | 0 => by funext p1_0 x5 f8_0 f8_1 f8_2 f8_3 f8_4 f8_5 f8_6 f8_7 x9 w; rfl
  | k + 1 => by
    funext p1_0 x5 f8_0 f8_1 f8_2 f8_3 f8_4 f8_5 f8_6 f8_7 x9 w
    rw [lanes_gathered_o.s8, forall_const]
    unfold lanes_gathered_o.l8
    have ih := lanes_gathered_o.lq8 R k
    rw [ih]
    all_goals rfl
theorem lanes_gathered_o.eq8 (R : Value → World → Prop) : lanes_gathered_o.e8 R = lanes_gathered_o.re8 R := by
  funext p1_0 x5 f8_0 f8_1 f8_2 f8_3 f8_4 f8_5 f8_6 f8_7 x9 w
  unfold lanes_gathered_o.e8 lanes_gathered_o.re8
  simp only [lanes_gathered_o.lq8 R]
def lanes_gathered_o (R : Value → World → Prop) (f0_0 : Nat) (f0_1 : Nat) (f0_2 : Nat) (f0_3 : Nat) (f0_4 : Nat) (f0_5 : Nat) (f0_6 : Nat) (f0_7 : Nat) (p1_0 : Addr) (w : World) : Prop := lanes_gathered_o.g0 R (lanes_gathered_o.e8 R) f0_0 f0_1 f0_2 f0_3 f0_4 f0_5 f0_6 f0_7 p1_0 w
theorem lanes_gathered_o.root0 (R : Value → World → Prop) (f0_0 : Nat) (f0_1 : Nat) (f0_2 : Nat) (f0_3 : Nat) (f0_4 : Nat) (f0_5 : Nat) (f0_6 : Nat) (f0_7 : Nat) (p1_0 : Addr) (w : World) : fnN Go.Proofs.Try.prog Go.Proofs.Try.f22 lanes_gathered_o.an #[.agg #[.float .f64 f0_0, .float .f64 f0_1, .float .f64 f0_2, .float .f64 f0_3, .float .f64 f0_4, .float .f64 f0_5, .float .f64 f0_6, .float .f64 f0_7], .func (.func 24) #[] #[.pointer (some p1_0)]] w R = lanes_gathered_o.g0 R (lanes_gathered_o.re8 R) f0_0 f0_1 f0_2 f0_3 f0_4 f0_5 f0_6 f0_7 p1_0 w := by kernel_rfl
theorem lanes_gathered_o.calls {R : Value → World → Prop} {f0_0 : Nat} {f0_1 : Nat} {f0_2 : Nat} {f0_3 : Nat} {f0_4 : Nat} {f0_5 : Nat} {f0_6 : Nat} {f0_7 : Nat} {p1_0 : Addr} {w : World} (h : lanes_gathered_o R f0_0 f0_1 f0_2 f0_3 f0_4 f0_5 f0_6 f0_7 p1_0 w) : Go.E.CallsD Go.Proofs.Try.prog 22 #[.agg #[.float .f64 f0_0, .float .f64 f0_1, .float .f64 f0_2, .float .f64 f0_3, .float .f64 f0_4, .float .f64 f0_5, .float .f64 f0_6, .float .f64 f0_7], .func (.func 24) #[] #[.pointer (some p1_0)]] w R := by
  refine callsD_of (n := lanes_gathered_o.an) M_follows M_sizes Go.Proofs.Try.func22 (by rfl) ?_
  rw [lanes_gathered_o.root0]
  unfold lanes_gathered_o at h
  rw [lanes_gathered_o.eq8 R] at h
  exact h
-- thicket/lanes.gathered
def lanes_gathered_l.an : An := (.mk none .nil (.mk none .nil (.mk none (.mk none .nil (.mk none (.mk (some [1, 5, 8, 9]) .nil .nil) .nil)) .nil)))
def lanes_gathered_l.g0 (R : Value → World → Prop) (e8 : Int → Nat → Nat → Nat → Nat → Nat → Nat → Nat → Nat → Int → World → Prop) (f0_0 : Nat) (f0_1 : Nat) (f0_2 : Nat) (f0_3 : Nat) (f0_4 : Nat) (f0_5 : Nat) (f0_6 : Nat) (f0_7 : Nat) (w : World) : Prop :=
  nw (w.alloc (.cells #[.float .f64 f0_0, .float .f64 f0_1, .float .f64 f0_2, .float .f64 f0_3, .float .f64 f0_4, .float .f64 f0_5, .float .f64 f0_6, .float .f64 f0_7] 24)) fun w14 =>
  ∃ yf_15 : Nat, w14.cell? ((na w).add 0) = some (.float .f64 yf_15) ∧
    (∃ yf_16 : Nat, w14.cell? ((na w).add 1) = some (.float .f64 yf_16) ∧
      (∃ yf_17 : Nat, w14.cell? ((na w).add 2) = some (.float .f64 yf_17) ∧
        (∃ yf_18 : Nat, w14.cell? ((na w).add 3) = some (.float .f64 yf_18) ∧
          (∃ yf_19 : Nat, w14.cell? ((na w).add 4) = some (.float .f64 yf_19) ∧
            (∃ yf_20 : Nat, w14.cell? ((na w).add 5) = some (.float .f64 yf_20) ∧
              (∃ yf_21 : Nat, w14.cell? ((na w).add 6) = some (.float .f64 yf_21) ∧
                (∃ yf_22 : Nat, w14.cell? ((na w).add 7) = some (.float .f64 yf_22) ∧
                  (e8 0 yf_15 yf_16 yf_17 yf_18 yf_19 yf_20 yf_21 yf_22 0 w14))))))))
def lanes_gathered_l.g8 (R : Value → World → Prop) (b8 : Int → Nat → Nat → Nat → Nat → Nat → Nat → Nat → Nat → Int → World → Prop) (x5 : Int) (f8_0 : Nat) (f8_1 : Nat) (f8_2 : Nat) (f8_3 : Nat) (f8_4 : Nat) (f8_5 : Nat) (f8_6 : Nat) (f8_7 : Nat) (x9 : Int) (w : World) : Prop :=
  onBool (decide (x9 < 8))
    (if (0 : Int) ≤ x9 ∧ x9 < (8 : Int) then
      ∃ yf_23 : Nat, (#[.float .f64 f8_0, .float .f64 f8_1, .float .f64 f8_2, .float .f64 f8_3, .float .f64 f8_4, .float .f64 f8_5, .float .f64 f8_6, .float .f64 f8_7] : Array Value)[x9.toNat * 1]? = some (.float .f64 yf_23) ∧
        (Go.E.CallsD Go.Proofs.Try.prog 25 #[.float .f64 yf_23] w fun v24 u25 =>
          ∃ yb_26 : Bool, v24 = .bool yb_26 ∧
            (onBool yb_26
              (if IntKind.u64.wrap x9 < 0 then False else
                b8 (bitsI .or .u8 x5 (IntKind.u8.wrap (1 * 2 ^ (min (IntKind.u64.wrap x9).toNat 8)))) f8_0 f8_1 f8_2 f8_3 f8_4 f8_5 f8_6 f8_7 (IntKind.i64.wrap (x9 + 1)) u25)
              (b8 x5 f8_0 f8_1 f8_2 f8_3 f8_4 f8_5 f8_6 f8_7 (IntKind.i64.wrap (x9 + 1)) u25))) else False)
    (R (.int .u8 x5) w)
def lanes_gathered_l.q2 (R : Value → World → Prop) : Exit → Act → World → Prop := (fin Go.Proofs.Try.prog Go.Proofs.Try.f22 R)
def lanes_gathered_l.q4 (R : Value → World → Prop) : Exit → Act → World → Prop := (lanes_gathered_l.q2 R)
def lanes_gathered_l.q5 (R : Value → World → Prop) : Exit → Act → World → Prop := Exit.then (startN none (codeN Go.Proofs.Try.prog (sub (codeOf Go.Proofs.Try.f22) [1, 1, 1]) (nsub lanes_gathered_l.an [1, 1, 1]) (lanes_gathered_l.q4 R))) (lanes_gathered_l.q4 R)
def lanes_gathered_l.q7 (R : Value → World → Prop) : Exit → Act → World → Prop := (lanes_gathered_l.q5 R)
def lanes_gathered_l.q8 (R : Value → World → Prop) : Exit → Act → World → Prop := Exit.inBlock 0 (lanes_gathered_l.q7 R)
def lanes_gathered_l.rl8 (R : Value → World → Prop) (k : Nat) (x5 : Int) (f8_0 : Nat) (f8_1 : Nat) (f8_2 : Nat) (f8_3 : Nat) (f8_4 : Nat) (f8_5 : Nat) (f8_6 : Nat) (f8_7 : Nat) (x9 : Int) (w : World) : Prop := loopN [1, 5, 8, 9] (codeN Go.Proofs.Try.prog (sub (codeOf Go.Proofs.Try.f22) [1, 1, 0, 1, 0, 0]) (nsub lanes_gathered_l.an [1, 1, 0, 1, 0, 0])) (lanes_gathered_l.q8 R) k ⟨#[undef, .func (.func 25) #[] #[], undef, undef, undef, .int .u8 x5, undef, undef, .agg #[.float .f64 f8_0, .float .f64 f8_1, .float .f64 f8_2, .float .f64 f8_3, .float .f64 f8_4, .float .f64 f8_5, .float .f64 f8_6, .float .f64 f8_7], .int .i64 x9, undef, undef, undef, undef, undef, undef, undef, undef, undef, undef, undef, undef, undef], []⟩ w
def lanes_gathered_l.re8 (R : Value → World → Prop) (x5 : Int) (f8_0 : Nat) (f8_1 : Nat) (f8_2 : Nat) (f8_3 : Nat) (f8_4 : Nat) (f8_5 : Nat) (f8_6 : Nat) (f8_7 : Nat) (x9 : Int) (w : World) : Prop := ∃ k, lanes_gathered_l.rl8 R k x5 f8_0 f8_1 f8_2 f8_3 f8_4 f8_5 f8_6 f8_7 x9 w
def lanes_gathered_l.l8 (R : Value → World → Prop) : Nat → Int → Nat → Nat → Nat → Nat → Nat → Nat → Nat → Nat → Int → World → Prop
  | 0, _, _, _, _, _, _, _, _, _, _, _ => False
  | k + 1, x5, f8_0, f8_1, f8_2, f8_3, f8_4, f8_5, f8_6, f8_7, x9, w => lanes_gathered_l.g8 R (lanes_gathered_l.l8 R k) x5 f8_0 f8_1 f8_2 f8_3 f8_4 f8_5 f8_6 f8_7 x9 w
def lanes_gathered_l.e8 (R : Value → World → Prop) (x5 : Int) (f8_0 : Nat) (f8_1 : Nat) (f8_2 : Nat) (f8_3 : Nat) (f8_4 : Nat) (f8_5 : Nat) (f8_6 : Nat) (f8_7 : Nat) (x9 : Int) (w : World) : Prop := ∃ k, lanes_gathered_l.l8 R k x5 f8_0 f8_1 f8_2 f8_3 f8_4 f8_5 f8_6 f8_7 x9 w
theorem lanes_gathered_l.s8 (R : Value → World → Prop) (k : Nat) (x5 : Int) (f8_0 : Nat) (f8_1 : Nat) (f8_2 : Nat) (f8_3 : Nat) (f8_4 : Nat) (f8_5 : Nat) (f8_6 : Nat) (f8_7 : Nat) (x9 : Int) (w : World) : lanes_gathered_l.rl8 R (k + 1) x5 f8_0 f8_1 f8_2 f8_3 f8_4 f8_5 f8_6 f8_7 x9 w = ∀ _ : Nat → Value, lanes_gathered_l.g8 R (lanes_gathered_l.rl8 R k) x5 f8_0 f8_1 f8_2 f8_3 f8_4 f8_5 f8_6 f8_7 x9 w := by kernel_rfl
theorem lanes_gathered_l.lq8 (R : Value → World → Prop) : ∀ k, lanes_gathered_l.l8 R k = lanes_gathered_l.rl8 R k
  | 0 => by funext x5 f8_0 f8_1 f8_2 f8_3 f8_4 f8_5 f8_6 f8_7 x9 w; rfl
  | k + 1 => by
    funext x5 f8_0 f8_1 f8_2 f8_3 f8_4 f8_5 f8_6 f8_7 x9 w
    rw [lanes_gathered_l.s8, forall_const]
    unfold lanes_gathered_l.l8
    have ih := lanes_gathered_l.lq8 R k
    rw [ih]
    all_goals rfl
theorem lanes_gathered_l.eq8 (R : Value → World → Prop) : lanes_gathered_l.e8 R = lanes_gathered_l.re8 R := by
  funext x5 f8_0 f8_1 f8_2 f8_3 f8_4 f8_5 f8_6 f8_7 x9 w
  unfold lanes_gathered_l.e8 lanes_gathered_l.re8
  simp only [lanes_gathered_l.lq8 R]
def lanes_gathered_l (R : Value → World → Prop) (f0_0 : Nat) (f0_1 : Nat) (f0_2 : Nat) (f0_3 : Nat) (f0_4 : Nat) (f0_5 : Nat) (f0_6 : Nat) (f0_7 : Nat) (w : World) : Prop := lanes_gathered_l.g0 R (lanes_gathered_l.e8 R) f0_0 f0_1 f0_2 f0_3 f0_4 f0_5 f0_6 f0_7 w
theorem lanes_gathered_l.root0 (R : Value → World → Prop) (f0_0 : Nat) (f0_1 : Nat) (f0_2 : Nat) (f0_3 : Nat) (f0_4 : Nat) (f0_5 : Nat) (f0_6 : Nat) (f0_7 : Nat) (w : World) : fnN Go.Proofs.Try.prog Go.Proofs.Try.f22 lanes_gathered_l.an #[.agg #[.float .f64 f0_0, .float .f64 f0_1, .float .f64 f0_2, .float .f64 f0_3, .float .f64 f0_4, .float .f64 f0_5, .float .f64 f0_6, .float .f64 f0_7], .func (.func 25) #[] #[]] w R = lanes_gathered_l.g0 R (lanes_gathered_l.re8 R) f0_0 f0_1 f0_2 f0_3 f0_4 f0_5 f0_6 f0_7 w := by kernel_rfl
theorem lanes_gathered_l.calls {R : Value → World → Prop} {f0_0 : Nat} {f0_1 : Nat} {f0_2 : Nat} {f0_3 : Nat} {f0_4 : Nat} {f0_5 : Nat} {f0_6 : Nat} {f0_7 : Nat} {w : World} (h : lanes_gathered_l R f0_0 f0_1 f0_2 f0_3 f0_4 f0_5 f0_6 f0_7 w) : Go.E.CallsD Go.Proofs.Try.prog 22 #[.agg #[.float .f64 f0_0, .float .f64 f0_1, .float .f64 f0_2, .float .f64 f0_3, .float .f64 f0_4, .float .f64 f0_5, .float .f64 f0_6, .float .f64 f0_7], .func (.func 25) #[] #[]] w R := by
  refine callsD_of (n := lanes_gathered_l.an) M_follows M_sizes Go.Proofs.Try.func22 (by rfl) ?_
  rw [lanes_gathered_l.root0]
  unfold lanes_gathered_l at h
  rw [lanes_gathered_l.eq8 R] at h
  exact h
-- thicket/thicketref07.Ints
def thicketref07_Ints.an : An := (.mk none .nil (.mk none .nil (.mk none (.mk none .nil (.mk none (.mk (some [0, 1, 12, 13]) .nil .nil) .nil)) .nil)))
def thicketref07_Ints.g0 (R : Value → World → Prop) (e14 : (Option Addr) → Nat → Nat → (Option Addr) → Nat → Nat → Int → Int → World → Prop) (a0 : Option Addr) (n0 : Nat) (c0 : Nat) (a1 : Option Addr) (n1 : Nat) (c1 : Nat) (w : World) : Prop :=
  onBool ((n0 : Int) != (n1 : Int))
    (R (.bool false) w)
    (e14 a0 n0 c0 a1 n1 c1 (n0 : Int) 0 w)
def thicketref07_Ints.g14 (R : Value → World → Prop) (b14 : (Option Addr) → Nat → Nat → (Option Addr) → Nat → Nat → Int → Int → World → Prop) (a0 : Option Addr) (n0 : Nat) (c0 : Nat) (a1 : Option Addr) (n1 : Nat) (c1 : Nat) (x12 : Int) (x13 : Int) (w : World) : Prop :=
  onBool (decide (x13 < x12))
    (optN a0 fun p5 =>
    if (0 : Int) ≤ x13 ∧ x13 < (n0 : Int) then
      ∃ yx_6 : Int, w.cell? (p5.add (x13.toNat * 1)) = some (.int .i64 yx_6) ∧
        (optN a1 fun p7 =>
        if (0 : Int) ≤ x13 ∧ x13 < (n1 : Int) then
          ∃ yx_8 : Int, w.cell? (p7.add (x13.toNat * 1)) = some (.int .i64 yx_8) ∧
            (onBool (yx_6 != yx_8)
              (R (.bool false) w)
              (b14 a0 n0 c0 a1 n1 c1 x12 (IntKind.i64.wrap (x13 + 1)) w)) else False) else False)
    (R (.bool true) w)
def thicketref07_Ints.q2 (R : Value → World → Prop) : Exit → Act → World → Prop := (fin Go.Proofs.Try.prog Go.Proofs.Try.f13 R)
def thicketref07_Ints.q10 (R : Value → World → Prop) : Exit → Act → World → Prop := (thicketref07_Ints.q2 R)
def thicketref07_Ints.q11 (R : Value → World → Prop) : Exit → Act → World → Prop := Exit.then (startN none (codeN Go.Proofs.Try.prog (sub (codeOf Go.Proofs.Try.f13) [1, 1, 1]) (nsub thicketref07_Ints.an [1, 1, 1]) (thicketref07_Ints.q10 R))) (thicketref07_Ints.q10 R)
def thicketref07_Ints.q13 (R : Value → World → Prop) : Exit → Act → World → Prop := (thicketref07_Ints.q11 R)
def thicketref07_Ints.q14 (R : Value → World → Prop) : Exit → Act → World → Prop := Exit.inBlock 0 (thicketref07_Ints.q13 R)
def thicketref07_Ints.rl14 (R : Value → World → Prop) (k : Nat) (a0 : Option Addr) (n0 : Nat) (c0 : Nat) (a1 : Option Addr) (n1 : Nat) (c1 : Nat) (x12 : Int) (x13 : Int) (w : World) : Prop := loopN [0, 1, 12, 13] (codeN Go.Proofs.Try.prog (sub (codeOf Go.Proofs.Try.f13) [1, 1, 0, 1, 0, 0]) (nsub thicketref07_Ints.an [1, 1, 0, 1, 0, 0])) (thicketref07_Ints.q14 R) k ⟨#[.slice a0 n0 c0, .slice a1 n1 c1, undef, undef, undef, undef, undef, undef, undef, undef, undef, undef, .int .i64 x12, .int .i64 x13, undef, undef, undef, undef, undef, undef, undef, undef, undef, undef, undef, undef], []⟩ w
def thicketref07_Ints.re14 (R : Value → World → Prop) (a0 : Option Addr) (n0 : Nat) (c0 : Nat) (a1 : Option Addr) (n1 : Nat) (c1 : Nat) (x12 : Int) (x13 : Int) (w : World) : Prop := ∃ k, thicketref07_Ints.rl14 R k a0 n0 c0 a1 n1 c1 x12 x13 w
def thicketref07_Ints.l14 (R : Value → World → Prop) : Nat → (Option Addr) → Nat → Nat → (Option Addr) → Nat → Nat → Int → Int → World → Prop
  | 0, _, _, _, _, _, _, _, _, _ => False
  | k + 1, a0, n0, c0, a1, n1, c1, x12, x13, w => thicketref07_Ints.g14 R (thicketref07_Ints.l14 R k) a0 n0 c0 a1 n1 c1 x12 x13 w
def thicketref07_Ints.e14 (R : Value → World → Prop) (a0 : Option Addr) (n0 : Nat) (c0 : Nat) (a1 : Option Addr) (n1 : Nat) (c1 : Nat) (x12 : Int) (x13 : Int) (w : World) : Prop := ∃ k, thicketref07_Ints.l14 R k a0 n0 c0 a1 n1 c1 x12 x13 w
theorem thicketref07_Ints.s14 (R : Value → World → Prop) (k : Nat) (a0 : Option Addr) (n0 : Nat) (c0 : Nat) (a1 : Option Addr) (n1 : Nat) (c1 : Nat) (x12 : Int) (x13 : Int) (w : World) : thicketref07_Ints.rl14 R (k + 1) a0 n0 c0 a1 n1 c1 x12 x13 w = ∀ _ : Nat → Value, thicketref07_Ints.g14 R (thicketref07_Ints.rl14 R k) a0 n0 c0 a1 n1 c1 x12 x13 w := by kernel_rfl
theorem thicketref07_Ints.lq14 (R : Value → World → Prop) : ∀ k, thicketref07_Ints.l14 R k = thicketref07_Ints.rl14 R k
  | 0 => by funext a0 n0 c0 a1 n1 c1 x12 x13 w; rfl
  | k + 1 => by
    funext a0 n0 c0 a1 n1 c1 x12 x13 w
    rw [thicketref07_Ints.s14, forall_const]
    unfold thicketref07_Ints.l14
    have ih := thicketref07_Ints.lq14 R k
    rw [ih]
    all_goals rfl
theorem thicketref07_Ints.eq14 (R : Value → World → Prop) : thicketref07_Ints.e14 R = thicketref07_Ints.re14 R := by
  funext a0 n0 c0 a1 n1 c1 x12 x13 w
  unfold thicketref07_Ints.e14 thicketref07_Ints.re14
  simp only [thicketref07_Ints.lq14 R]
def thicketref07_Ints (R : Value → World → Prop) (a0 : Option Addr) (n0 : Nat) (c0 : Nat) (a1 : Option Addr) (n1 : Nat) (c1 : Nat) (w : World) : Prop := thicketref07_Ints.g0 R (thicketref07_Ints.e14 R) a0 n0 c0 a1 n1 c1 w
theorem thicketref07_Ints.root0 (R : Value → World → Prop) (a0 : Option Addr) (n0 : Nat) (c0 : Nat) (a1 : Option Addr) (n1 : Nat) (c1 : Nat) (w : World) : fnN Go.Proofs.Try.prog Go.Proofs.Try.f13 thicketref07_Ints.an #[.slice a0 n0 c0, .slice a1 n1 c1] w R = thicketref07_Ints.g0 R (thicketref07_Ints.re14 R) a0 n0 c0 a1 n1 c1 w := by kernel_rfl
theorem thicketref07_Ints.calls {R : Value → World → Prop} {a0 : Option Addr} {n0 : Nat} {c0 : Nat} {a1 : Option Addr} {n1 : Nat} {c1 : Nat} {w : World} (h : thicketref07_Ints R a0 n0 c0 a1 n1 c1 w) : Go.E.CallsD Go.Proofs.Try.prog 13 #[.slice a0 n0 c0, .slice a1 n1 c1] w R := by
  refine callsD_of (n := thicketref07_Ints.an) M_follows M_sizes Go.Proofs.Try.func13 (by rfl) ?_
  rw [thicketref07_Ints.root0]
  unfold thicketref07_Ints at h
  rw [thicketref07_Ints.eq14 R] at h
  exact h
-- thicket/thicketlaw18.LanesBits
def thicketlaw18_LanesBits.an : An := An.nil
def thicketlaw18_LanesBits.g0 (R : Value → World → Prop) (f0_0 : Nat) (f0_1 : Nat) (f0_2 : Nat) (f0_3 : Nat) (f0_4 : Nat) (f0_5 : Nat) (f0_6 : Nat) (f0_7 : Nat) (f1 : Nat) (a2 : Option Addr) (n2 : Nat) (c2 : Nat) (w : World) : Prop :=
  nw (w.alloc (.cells #[.float .f64 f0_0, .float .f64 f0_1, .float .f64 f0_2, .float .f64 f0_3, .float .f64 f0_4, .float .f64 f0_5, .float .f64 f0_6, .float .f64 f0_7] 24)) fun w86 =>
  nw (w86.alloc (.cells #[] 3)) fun w87 =>
  rawN Go.Proofs.Try.prog (Builtin.append_ #[25, 25] 25 #[.slice (some (na w86)) 0 0, .slice a2 n2 c2]) w87 fun v88 u89 =>
    ∃ ya_90 : Option Addr, ∃ yn_90 : Nat, ∃ yc_90 : Nat, v88 = .slice ya_90 yn_90 yc_90 ∧
      (∃ yf_91 : Nat, u89.cell? ((na w).add 0) = some (.float .f64 yf_91) ∧
        (∃ yf_92 : Nat, u89.cell? ((na w).add 1) = some (.float .f64 yf_92) ∧
          (∃ yf_93 : Nat, u89.cell? ((na w).add 2) = some (.float .f64 yf_93) ∧
            (∃ yf_94 : Nat, u89.cell? ((na w).add 3) = some (.float .f64 yf_94) ∧
              (∃ yf_95 : Nat, u89.cell? ((na w).add 4) = some (.float .f64 yf_95) ∧
                (∃ yf_96 : Nat, u89.cell? ((na w).add 5) = some (.float .f64 yf_96) ∧
                  (∃ yf_97 : Nat, u89.cell? ((na w).add 6) = some (.float .f64 yf_97) ∧
                    (∃ yf_98 : Nat, u89.cell? ((na w).add 7) = some (.float .f64 yf_98) ∧
                      (∃ yx_99 : Int, (∀ u100 : World, Below u89.heap.size u89 u100 → Go.E.CallsD Go.Proofs.Try.prog 7 #[.agg #[.float .f64 yf_91, .float .f64 yf_92, .float .f64 yf_93, .float .f64 yf_94, .float .f64 yf_95, .float .f64 yf_96, .float .f64 yf_97, .float .f64 yf_98], .float .f64 f1] u100 fun v101 u102 => v101 = .int .u8 yx_99 ∧ Below u89.heap.size u89 u102) ∧
                        (∃ yf_103 : Nat, u89.cell? ((na w).add 0) = some (.float .f64 yf_103) ∧
                          (∃ yf_104 : Nat, u89.cell? ((na w).add 1) = some (.float .f64 yf_104) ∧
                            (∃ yf_105 : Nat, u89.cell? ((na w).add 2) = some (.float .f64 yf_105) ∧
                              (∃ yf_106 : Nat, u89.cell? ((na w).add 3) = some (.float .f64 yf_106) ∧
                                (∃ yf_107 : Nat, u89.cell? ((na w).add 4) = some (.float .f64 yf_107) ∧
                                  (∃ yf_108 : Nat, u89.cell? ((na w).add 5) = some (.float .f64 yf_108) ∧
                                    (∃ yf_109 : Nat, u89.cell? ((na w).add 6) = some (.float .f64 yf_109) ∧
                                      (∃ yf_110 : Nat, u89.cell? ((na w).add 7) = some (.float .f64 yf_110) ∧
                                        (∃ yx_111 : Int, (∀ u112 : World, Below u89.heap.size u89 u112 → Go.E.CallsD Go.Proofs.Try.prog 8 #[.agg #[.float .f64 yf_103, .float .f64 yf_104, .float .f64 yf_105, .float .f64 yf_106, .float .f64 yf_107, .float .f64 yf_108, .float .f64 yf_109, .float .f64 yf_110], .float .f64 f1] u112 fun v113 u114 => v113 = .int .u8 yx_111 ∧ Below u89.heap.size u89 u114) ∧
                                          (onBool (yx_99 == yx_111)
                                            (∃ yf_115 : Nat, u89.cell? ((na w).add 0) = some (.float .f64 yf_115) ∧
                                              (∃ yf_116 : Nat, u89.cell? ((na w).add 1) = some (.float .f64 yf_116) ∧
                                                (∃ yf_117 : Nat, u89.cell? ((na w).add 2) = some (.float .f64 yf_117) ∧
                                                  (∃ yf_118 : Nat, u89.cell? ((na w).add 3) = some (.float .f64 yf_118) ∧
                                                    (∃ yf_119 : Nat, u89.cell? ((na w).add 4) = some (.float .f64 yf_119) ∧
                                                      (∃ yf_120 : Nat, u89.cell? ((na w).add 5) = some (.float .f64 yf_120) ∧
                                                        (∃ yf_121 : Nat, u89.cell? ((na w).add 6) = some (.float .f64 yf_121) ∧
                                                          (∃ yf_122 : Nat, u89.cell? ((na w).add 7) = some (.float .f64 yf_122) ∧
                                                            (∃ yx_123 : Int, (∀ u124 : World, Below u89.heap.size u89 u124 → Go.E.CallsD Go.Proofs.Try.prog 9 #[.agg #[.float .f64 yf_115, .float .f64 yf_116, .float .f64 yf_117, .float .f64 yf_118, .float .f64 yf_119, .float .f64 yf_120, .float .f64 yf_121, .float .f64 yf_122], .slice ya_90 yn_90 yc_90] u124 fun v125 u126 => v125 = .int .u8 yx_123 ∧ Below u89.heap.size u89 u126) ∧
                                                              (∃ yf_127 : Nat, u89.cell? ((na w).add 0) = some (.float .f64 yf_127) ∧
                                                                (∃ yf_128 : Nat, u89.cell? ((na w).add 1) = some (.float .f64 yf_128) ∧
                                                                  (∃ yf_129 : Nat, u89.cell? ((na w).add 2) = some (.float .f64 yf_129) ∧
                                                                    (∃ yf_130 : Nat, u89.cell? ((na w).add 3) = some (.float .f64 yf_130) ∧
                                                                      (∃ yf_131 : Nat, u89.cell? ((na w).add 4) = some (.float .f64 yf_131) ∧
                                                                        (∃ yf_132 : Nat, u89.cell? ((na w).add 5) = some (.float .f64 yf_132) ∧
                                                                          (∃ yf_133 : Nat, u89.cell? ((na w).add 6) = some (.float .f64 yf_133) ∧
                                                                            (∃ yf_134 : Nat, u89.cell? ((na w).add 7) = some (.float .f64 yf_134) ∧
                                                                              (∃ yx_135 : Int, (∀ u136 : World, Below u89.heap.size u89 u136 → Go.E.CallsD Go.Proofs.Try.prog 10 #[.agg #[.float .f64 yf_127, .float .f64 yf_128, .float .f64 yf_129, .float .f64 yf_130, .float .f64 yf_131, .float .f64 yf_132, .float .f64 yf_133, .float .f64 yf_134], .slice a2 n2 c2] u136 fun v137 u138 => v137 = .int .u8 yx_135 ∧ Below u89.heap.size u89 u138) ∧
                                                                                (onBool (yx_123 == yx_135)
                                                                                  (∃ yf_139 : Nat, u89.cell? ((na w).add 0) = some (.float .f64 yf_139) ∧
                                                                                    (∃ yf_140 : Nat, u89.cell? ((na w).add 1) = some (.float .f64 yf_140) ∧
                                                                                      (∃ yf_141 : Nat, u89.cell? ((na w).add 2) = some (.float .f64 yf_141) ∧
                                                                                        (∃ yf_142 : Nat, u89.cell? ((na w).add 3) = some (.float .f64 yf_142) ∧
                                                                                          (∃ yf_143 : Nat, u89.cell? ((na w).add 4) = some (.float .f64 yf_143) ∧
                                                                                            (∃ yf_144 : Nat, u89.cell? ((na w).add 5) = some (.float .f64 yf_144) ∧
                                                                                              (∃ yf_145 : Nat, u89.cell? ((na w).add 6) = some (.float .f64 yf_145) ∧
                                                                                                (∃ yf_146 : Nat, u89.cell? ((na w).add 7) = some (.float .f64 yf_146) ∧
                                                                                                  (∃ yx_147 : Int, (∀ u148 : World, Below u89.heap.size u89 u148 → Go.E.CallsD Go.Proofs.Try.prog 11 #[.agg #[.float .f64 yf_139, .float .f64 yf_140, .float .f64 yf_141, .float .f64 yf_142, .float .f64 yf_143, .float .f64 yf_144, .float .f64 yf_145, .float .f64 yf_146]] u148 fun v149 u150 => v149 = .int .u8 yx_147 ∧ Below u89.heap.size u89 u150) ∧
                                                                                                    (∃ yf_151 : Nat, u89.cell? ((na w).add 0) = some (.float .f64 yf_151) ∧
                                                                                                      (∃ yf_152 : Nat, u89.cell? ((na w).add 1) = some (.float .f64 yf_152) ∧
                                                                                                        (∃ yf_153 : Nat, u89.cell? ((na w).add 2) = some (.float .f64 yf_153) ∧
                                                                                                          (∃ yf_154 : Nat, u89.cell? ((na w).add 3) = some (.float .f64 yf_154) ∧
                                                                                                            (∃ yf_155 : Nat, u89.cell? ((na w).add 4) = some (.float .f64 yf_155) ∧
                                                                                                              (∃ yf_156 : Nat, u89.cell? ((na w).add 5) = some (.float .f64 yf_156) ∧
                                                                                                                (∃ yf_157 : Nat, u89.cell? ((na w).add 6) = some (.float .f64 yf_157) ∧
                                                                                                                  (∃ yf_158 : Nat, u89.cell? ((na w).add 7) = some (.float .f64 yf_158) ∧
                                                                                                                    (∃ yx_159 : Int, (∀ u160 : World, Below u89.heap.size u89 u160 → Go.E.CallsD Go.Proofs.Try.prog 12 #[.agg #[.float .f64 yf_151, .float .f64 yf_152, .float .f64 yf_153, .float .f64 yf_154, .float .f64 yf_155, .float .f64 yf_156, .float .f64 yf_157, .float .f64 yf_158]] u160 fun v161 u162 => v161 = .int .u8 yx_159 ∧ Below u89.heap.size u89 u162) ∧
                                                                                                                      (onBool (yx_147 == yx_159)
                                                                                                                        (∃ yb_163 : Bool, (∀ u164 : World, Below u89.heap.size u89 u164 → Go.E.CallsD Go.Proofs.Try.prog 13 #[.slice ya_90 yn_90 yc_90, .slice a2 n2 c2] u164 fun v165 u166 => v165 = .bool yb_163 ∧ Below u89.heap.size u89 u166) ∧
                                                                                                                          (∀ u167 : World, Below u89.heap.size u89 u167 →
                                                                                                                            R (.bool yb_163) u167))
                                                                                                                        (∀ u168 : World, Below u89.heap.size u89 u168 →
                                                                                                                          R (.bool false) u168))))))))))))))))))))
                                                                                  (∀ u169 : World, Below u89.heap.size u89 u169 →
                                                                                    R (.bool false) u169))))))))))))))))))))
                                            (∀ u170 : World, Below u89.heap.size u89 u170 →
                                              R (.bool false) u170))))))))))))))))))))
def thicketlaw18_LanesBits (R : Value → World → Prop) (f0_0 : Nat) (f0_1 : Nat) (f0_2 : Nat) (f0_3 : Nat) (f0_4 : Nat) (f0_5 : Nat) (f0_6 : Nat) (f0_7 : Nat) (f1 : Nat) (a2 : Option Addr) (n2 : Nat) (c2 : Nat) (w : World) : Prop := thicketlaw18_LanesBits.g0 R f0_0 f0_1 f0_2 f0_3 f0_4 f0_5 f0_6 f0_7 f1 a2 n2 c2 w
theorem thicketlaw18_LanesBits.root0 (R : Value → World → Prop) (f0_0 : Nat) (f0_1 : Nat) (f0_2 : Nat) (f0_3 : Nat) (f0_4 : Nat) (f0_5 : Nat) (f0_6 : Nat) (f0_7 : Nat) (f1 : Nat) (a2 : Option Addr) (n2 : Nat) (c2 : Nat) (w : World) : fnN Go.Proofs.Try.prog Go.Proofs.Try.f3 thicketlaw18_LanesBits.an #[.agg #[.float .f64 f0_0, .float .f64 f0_1, .float .f64 f0_2, .float .f64 f0_3, .float .f64 f0_4, .float .f64 f0_5, .float .f64 f0_6, .float .f64 f0_7], .float .f64 f1, .slice a2 n2 c2] w R = thicketlaw18_LanesBits.g0 R f0_0 f0_1 f0_2 f0_3 f0_4 f0_5 f0_6 f0_7 f1 a2 n2 c2 w := by kernel_rfl
theorem thicketlaw18_LanesBits.calls {R : Value → World → Prop} {f0_0 : Nat} {f0_1 : Nat} {f0_2 : Nat} {f0_3 : Nat} {f0_4 : Nat} {f0_5 : Nat} {f0_6 : Nat} {f0_7 : Nat} {f1 : Nat} {a2 : Option Addr} {n2 : Nat} {c2 : Nat} {w : World} (h : thicketlaw18_LanesBits R f0_0 f0_1 f0_2 f0_3 f0_4 f0_5 f0_6 f0_7 f1 a2 n2 c2 w) : Go.E.CallsD Go.Proofs.Try.prog 3 #[.agg #[.float .f64 f0_0, .float .f64 f0_1, .float .f64 f0_2, .float .f64 f0_3, .float .f64 f0_4, .float .f64 f0_5, .float .f64 f0_6, .float .f64 f0_7], .float .f64 f1, .slice a2 n2 c2] w R := by
  refine callsD_of (n := thicketlaw18_LanesBits.an) M_follows M_sizes Go.Proofs.Try.func3 (by rfl) ?_
  rw [thicketlaw18_LanesBits.root0]
  unfold thicketlaw18_LanesBits at h
  exact h
end Go.Mir
