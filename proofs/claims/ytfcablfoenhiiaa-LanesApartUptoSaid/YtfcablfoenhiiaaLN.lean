/- Part of a proof of laws of the seat Ytfcablfoenhiiaa: functions' weakest preconditions, each checked by the kernel, and contracts out of them; no conditions. -/
import Derived.Test.YtfcablfoenhiiaaLM
import Derived.Test.YtfcablfoenhiiaaProg
import Derived.KernelRfl
set_option linter.unusedVariables false
set_option linter.unusedSimpArgs false
namespace Go.Mir
open Go Go.E Go.RowKit
-- thicket/thicketlaw18.copied
def thicketlaw18_copied.an : An := (.mk none .nil (.mk none .nil (.mk none (.mk none .nil (.mk none (.mk (some [0, 3, 4]) .nil .nil) .nil)) .nil)))
def thicketlaw18_copied.g0 (R : Value → World → Prop) (e8 : (Option Addr) → Nat → Nat → (Option Addr) → Nat → Nat → Int → World → Prop) (a0 : Option Addr) (n0 : Nat) (c0 : Nat) (w : World) : Prop :=
  e8 a0 n0 c0 none 0 0 0 w
def thicketlaw18_copied.g8 (R : Value → World → Prop) (b8 : (Option Addr) → Nat → Nat → (Option Addr) → Nat → Nat → Int → World → Prop) (a0 : Option Addr) (n0 : Nat) (c0 : Nat) (a3 : Option Addr) (n3 : Nat) (c3 : Nat) (x4 : Int) (w : World) : Prop :=
  onBool (decide (x4 < (n0 : Int)))
    (nw (w.alloc (.cells #[] 22)) fun w11 =>
    optN a0 fun p12 =>
    if (0 : Int) ≤ x4 ∧ x4 < (n0 : Int) then
      ∃ ya_13 : Option Addr, ∃ yn_13 : Nat, ∃ yc_13 : Nat, w11.cell? (p12.add (x4.toNat * 1)) = some (.slice ya_13 yn_13 yc_13) ∧
        (rawN Go.Proofs.Try.prog (Builtin.append_ #[48, 48] 48 #[.slice (some (na w)) 0 0, .slice ya_13 yn_13 yc_13]) w11 fun v14 u15 =>
          ∃ ya_16 : Option Addr, ∃ yn_16 : Nat, ∃ yc_16 : Nat, v14 = .slice ya_16 yn_16 yc_16 ∧
            (nw (u15.alloc (.cells #[.slice ya_16 yn_16 yc_16] 48)) fun w17 =>
            rawN Go.Proofs.Try.prog (Builtin.append_ #[31, 31] 31 #[.slice a3 n3 c3, .slice (some (na u15)) 1 1]) w17 fun v18 u19 =>
              ∃ ya_20 : Option Addr, ∃ yn_20 : Nat, ∃ yc_20 : Nat, v18 = .slice ya_20 yn_20 yc_20 ∧
                (b8 a0 n0 c0 ya_20 yn_20 yc_20 (IntKind.i64.wrap (x4 + 1)) u19))) else False)
    (R (.slice a3 n3 c3) w)
def thicketlaw18_copied.q2 (R : Value → World → Prop) : Exit → Act → World → Prop := (fin Go.Proofs.Try.prog Go.Proofs.Try.f14 R)
def thicketlaw18_copied.q4 (R : Value → World → Prop) : Exit → Act → World → Prop := (thicketlaw18_copied.q2 R)
def thicketlaw18_copied.q5 (R : Value → World → Prop) : Exit → Act → World → Prop := Exit.then (startN none (codeN Go.Proofs.Try.prog (sub (codeOf Go.Proofs.Try.f14) [1, 1, 1]) (nsub thicketlaw18_copied.an [1, 1, 1]) (thicketlaw18_copied.q4 R))) (thicketlaw18_copied.q4 R)
def thicketlaw18_copied.q7 (R : Value → World → Prop) : Exit → Act → World → Prop := (thicketlaw18_copied.q5 R)
def thicketlaw18_copied.q8 (R : Value → World → Prop) : Exit → Act → World → Prop := Exit.inBlock 0 (thicketlaw18_copied.q7 R)
def thicketlaw18_copied.rl8 (R : Value → World → Prop) (k : Nat) (a0 : Option Addr) (n0 : Nat) (c0 : Nat) (a3 : Option Addr) (n3 : Nat) (c3 : Nat) (x4 : Int) (w : World) : Prop := loopN [0, 3, 4] (codeN Go.Proofs.Try.prog (sub (codeOf Go.Proofs.Try.f14) [1, 1, 0, 1, 0, 0]) (nsub thicketlaw18_copied.an [1, 1, 0, 1, 0, 0])) (thicketlaw18_copied.q8 R) k ⟨#[.slice a0 n0 c0, undef, undef, .slice a3 n3 c3, .int .i64 x4, undef, undef, undef, undef, undef, undef, undef, undef, undef, undef, undef, undef, undef, undef, undef, undef], []⟩ w
def thicketlaw18_copied.re8 (R : Value → World → Prop) (a0 : Option Addr) (n0 : Nat) (c0 : Nat) (a3 : Option Addr) (n3 : Nat) (c3 : Nat) (x4 : Int) (w : World) : Prop := ∃ k, thicketlaw18_copied.rl8 R k a0 n0 c0 a3 n3 c3 x4 w
def thicketlaw18_copied.l8 (R : Value → World → Prop) : Nat → (Option Addr) → Nat → Nat → (Option Addr) → Nat → Nat → Int → World → Prop
  | 0, _, _, _, _, _, _, _, _ => False
  | k + 1, a0, n0, c0, a3, n3, c3, x4, w => thicketlaw18_copied.g8 R (thicketlaw18_copied.l8 R k) a0 n0 c0 a3 n3 c3 x4 w
def thicketlaw18_copied.e8 (R : Value → World → Prop) (a0 : Option Addr) (n0 : Nat) (c0 : Nat) (a3 : Option Addr) (n3 : Nat) (c3 : Nat) (x4 : Int) (w : World) : Prop := ∃ k, thicketlaw18_copied.l8 R k a0 n0 c0 a3 n3 c3 x4 w
theorem thicketlaw18_copied.s8 (R : Value → World → Prop) (k : Nat) (a0 : Option Addr) (n0 : Nat) (c0 : Nat) (a3 : Option Addr) (n3 : Nat) (c3 : Nat) (x4 : Int) (w : World) : thicketlaw18_copied.rl8 R (k + 1) a0 n0 c0 a3 n3 c3 x4 w = ∀ _ : Nat → Value, thicketlaw18_copied.g8 R (thicketlaw18_copied.rl8 R k) a0 n0 c0 a3 n3 c3 x4 w := by kernel_rfl
theorem thicketlaw18_copied.lq8 (R : Value → World → Prop) : ∀ k, thicketlaw18_copied.l8 R k = thicketlaw18_copied.rl8 R k
  | 0 => by funext a0 n0 c0 a3 n3 c3 x4 w; rfl
  | k + 1 => by
    funext a0 n0 c0 a3 n3 c3 x4 w
    rw [thicketlaw18_copied.s8, forall_const]
    unfold thicketlaw18_copied.l8
    have ih := thicketlaw18_copied.lq8 R k
    rw [ih]
    all_goals rfl
theorem thicketlaw18_copied.eq8 (R : Value → World → Prop) : thicketlaw18_copied.e8 R = thicketlaw18_copied.re8 R := by
  funext a0 n0 c0 a3 n3 c3 x4 w
  unfold thicketlaw18_copied.e8 thicketlaw18_copied.re8
  simp only [thicketlaw18_copied.lq8 R]
def thicketlaw18_copied (R : Value → World → Prop) (a0 : Option Addr) (n0 : Nat) (c0 : Nat) (w : World) : Prop := thicketlaw18_copied.g0 R (thicketlaw18_copied.e8 R) a0 n0 c0 w
theorem thicketlaw18_copied.root0 (R : Value → World → Prop) (a0 : Option Addr) (n0 : Nat) (c0 : Nat) (w : World) : fnN Go.Proofs.Try.prog Go.Proofs.Try.f14 thicketlaw18_copied.an #[.slice a0 n0 c0] w R = thicketlaw18_copied.g0 R (thicketlaw18_copied.re8 R) a0 n0 c0 w := by kernel_rfl
theorem thicketlaw18_copied.calls {R : Value → World → Prop} {a0 : Option Addr} {n0 : Nat} {c0 : Nat} {w : World} (h : thicketlaw18_copied R a0 n0 c0 w) : Go.E.CallsD Go.Proofs.Try.prog 14 #[.slice a0 n0 c0] w R := by
  refine callsD_of (n := thicketlaw18_copied.an) M_follows M_sizes Go.Proofs.Try.func14 (by rfl) ?_
  rw [thicketlaw18_copied.root0]
  unfold thicketlaw18_copied at h
  rw [thicketlaw18_copied.eq8 R] at h
  exact h
-- thicket/lanes.Pack
def lanes_Pack.an : An := (.mk none .nil (.mk none .nil (.mk none (.mk none .nil (.mk none (.mk (some [0, 1, 21, 22, 23]) .nil .nil) .nil)) (.mk none .nil (.mk none (.mk none .nil (.mk none (.mk (some [0, 1, 8, 34, 35]) (.mk none .nil (.mk none .nil (.mk none (.mk none (.mk none .nil (.mk none .nil (.mk none (.mk none .nil (.mk none (.mk (some [0, 1, 8, 9, 10, 34, 35, 40]) (.mk none .nil (.mk none .nil (.mk none (.mk none (.mk none .nil (.mk none .nil (.mk none .nil (.mk none (.mk (some [0, 1, 8, 9, 10, 11, 34, 35, 40, 54, 55, 56]) .nil .nil) .nil)))) .nil) .nil))) .nil) .nil)) .nil))) .nil) .nil))) .nil) .nil)) .nil)))))
def lanes_Pack.g0 (R : Value → World → Prop) (e14 : (Option Addr) → Nat → Nat → Int → (Option Addr) → Nat → Nat → Int → Int → World → Prop) (a0 : Option Addr) (n0 : Nat) (c0 : Nat) (x1 : Int) (w : World) : Prop :=
  onBool (decide (x1 < 0))
    (R (.tuple #[.slice none 0 0, .int .i64 2]) w)
    (onBool (decide (x1 > 65536))
      (R (.tuple #[.slice none 0 0, .int .i64 2]) w)
      (e14 a0 n0 c0 x1 a0 n0 c0 (n0 : Int) 0 w))
def lanes_Pack.g14 (R : Value → World → Prop) (b14 : (Option Addr) → Nat → Nat → Int → (Option Addr) → Nat → Nat → Int → Int → World → Prop) (e39 : (Option Addr) → Nat → Nat → Int → (Option Addr) → Nat → Nat → Int → Int → World → Prop) (a0 : Option Addr) (n0 : Nat) (c0 : Nat) (x1 : Int) (a21 : Option Addr) (n21 : Nat) (c21 : Nat) (x22 : Int) (x23 : Int) (w : World) : Prop :=
  onBool (decide (x23 < x22))
    (optN a21 fun p17 =>
    if (0 : Int) ≤ x23 ∧ x23 < (n21 : Int) then
      ∃ ya_18 : Option Addr, ∃ yn_18 : Nat, ∃ yc_18 : Nat, w.cell? (p17.add (x23.toNat * 1)) = some (.slice ya_18 yn_18 yc_18) ∧
        (onBool ((yn_18 : Int) != x1)
          (R (.tuple #[.slice none 0 0, .int .i64 72]) w)
          (b14 a0 n0 c0 x1 a21 n21 c21 x22 (IntKind.i64.wrap (x23 + 1)) w)) else False)
    (Go.E.CallsD Go.Proofs.Try.prog 26 #[.int .i64 (n0 : Int)] w fun v19 u20 =>
      ∃ yx_21 : Int, v19 = .int .i64 yx_21 ∧
        (e39 a0 n0 c0 x1 none 0 0 yx_21 0 u20))
def lanes_Pack.g39 (R : Value → World → Prop) (e56 : (Option Addr) → Nat → Nat → Int → (Option Addr) → Nat → Nat → Int → (Option Addr) → Nat → Nat → Int → Int → Int → World → Prop) (a0 : Option Addr) (n0 : Nat) (c0 : Nat) (x1 : Int) (a8 : Option Addr) (n8 : Nat) (c8 : Nat) (x34 : Int) (x35 : Int) (w : World) : Prop :=
  onBool (decide (x35 < x34))
    (if (0 : Int) ≤ x1 ∧ x1 ≤ x1 ∧ ((64 : Nat) : Int) * x1 ≤ 281474976710656 ∧ x1 ≤ 9223372036854775807 then
      nw (w.alloc (.cells (madeCells #[.float .f64 0, .float .f64 0, .float .f64 0, .float .f64 0, .float .f64 0, .float .f64 0, .float .f64 0, .float .f64 0] ((x1).toNat * 8)) 24)) fun w22 =>
      e56 a0 n0 c0 x1 a8 n8 c8 x35 (some (na w)) ((x1).toNat) ((x1).toNat) x34 x35 0 w22 else False)
    (R (.tuple #[.slice a8 n8 c8, .int .i64 0]) w)
def lanes_Pack.g56 (R : Value → World → Prop) (b39 : (Option Addr) → Nat → Nat → Int → (Option Addr) → Nat → Nat → Int → Int → World → Prop) (e72 : (Option Addr) → Nat → Nat → Int → (Option Addr) → Nat → Nat → Int → (Option Addr) → Nat → Nat → Int → Int → Int → Int → (Option Addr) → Nat → Nat → Int → Int → World → Prop) (a0 : Option Addr) (n0 : Nat) (c0 : Nat) (x1 : Int) (a8 : Option Addr) (n8 : Nat) (c8 : Nat) (x9 : Int) (a10 : Option Addr) (n10 : Nat) (c10 : Nat) (x34 : Int) (x35 : Int) (x40 : Int) (w : World) : Prop :=
  onBool (decide (x40 < 8))
    (optN a0 fun p23 =>
    if (0 : Int) ≤ (if IntKind.i64.wrap ((n0 : Int) - 1) < IntKind.i64.wrap ((IntKind.i64.wrap (x9 * 8)) + x40) then IntKind.i64.wrap ((n0 : Int) - 1) else IntKind.i64.wrap ((IntKind.i64.wrap (x9 * 8)) + x40)) ∧ (if IntKind.i64.wrap ((n0 : Int) - 1) < IntKind.i64.wrap ((IntKind.i64.wrap (x9 * 8)) + x40) then IntKind.i64.wrap ((n0 : Int) - 1) else IntKind.i64.wrap ((IntKind.i64.wrap (x9 * 8)) + x40)) < (n0 : Int) then
      ∃ ya_24 : Option Addr, ∃ yn_24 : Nat, ∃ yc_24 : Nat, w.cell? (p23.add ((if IntKind.i64.wrap ((n0 : Int) - 1) < IntKind.i64.wrap ((IntKind.i64.wrap (x9 * 8)) + x40) then IntKind.i64.wrap ((n0 : Int) - 1) else IntKind.i64.wrap ((IntKind.i64.wrap (x9 * 8)) + x40)).toNat * 1)) = some (.slice ya_24 yn_24 yc_24) ∧
        (e72 a0 n0 c0 x1 a8 n8 c8 x9 a10 n10 c10 x40 x34 x35 x40 ya_24 yn_24 yc_24 (yn_24 : Int) 0 w) else False)
    (nw (w.alloc (.cells #[.slice a10 n10 c10] 50)) fun w25 =>
    rawN Go.Proofs.Try.prog (Builtin.append_ #[32, 32] 32 #[.slice a8 n8 c8, .slice (some (na w)) 1 1]) w25 fun v26 u27 =>
      ∃ ya_28 : Option Addr, ∃ yn_28 : Nat, ∃ yc_28 : Nat, v26 = .slice ya_28 yn_28 yc_28 ∧
        (b39 a0 n0 c0 x1 ya_28 yn_28 yc_28 x34 (IntKind.i64.wrap (x35 + 1)) u27))
def lanes_Pack.g72 (R : Value → World → Prop) (b56 : (Option Addr) → Nat → Nat → Int → (Option Addr) → Nat → Nat → Int → (Option Addr) → Nat → Nat → Int → Int → Int → World → Prop) (b72 : (Option Addr) → Nat → Nat → Int → (Option Addr) → Nat → Nat → Int → (Option Addr) → Nat → Nat → Int → Int → Int → Int → (Option Addr) → Nat → Nat → Int → Int → World → Prop) (a0 : Option Addr) (n0 : Nat) (c0 : Nat) (x1 : Int) (a8 : Option Addr) (n8 : Nat) (c8 : Nat) (x9 : Int) (a10 : Option Addr) (n10 : Nat) (c10 : Nat) (x11 : Int) (x34 : Int) (x35 : Int) (x40 : Int) (a54 : Option Addr) (n54 : Nat) (c54 : Nat) (x55 : Int) (x56 : Int) (w : World) : Prop :=
  onBool (decide (x56 < x55))
    (optN a54 fun p29 =>
    if (0 : Int) ≤ x56 ∧ x56 < (n54 : Int) then
      ∃ yf_30 : Nat, w.cell? (p29.add (x56.toNat * 1)) = some (.float .f64 yf_30) ∧
        (optN a10 fun p31 =>
        if (0 : Int) ≤ x56 ∧ x56 < (n10 : Int) then
          if (0 : Int) ≤ x11 ∧ x11 < (8 : Int) then
            okSt w (((p31.add (x56.toNat * 8)).add (x11.toNat * 1)).add 0) ∧
              (nw (w.setCell (((p31.add (x56.toNat * 8)).add (x11.toNat * 1)).add 0) (.float .f64 yf_30)) fun w32 =>
              b72 a0 n0 c0 x1 a8 n8 c8 x9 a10 n10 c10 x11 x34 x35 x40 a54 n54 c54 x55 (IntKind.i64.wrap (x56 + 1)) w32) else False else False) else False)
    (b56 a0 n0 c0 x1 a8 n8 c8 x9 a10 n10 c10 x34 x35 (IntKind.i64.wrap (x40 + 1)) w)
def lanes_Pack.q2 (R : Value → World → Prop) : Exit → Act → World → Prop := (fin Go.Proofs.Try.prog Go.Proofs.Try.f15 R)
def lanes_Pack.q10 (R : Value → World → Prop) : Exit → Act → World → Prop := (lanes_Pack.q2 R)
def lanes_Pack.q11 (R : Value → World → Prop) : Exit → Act → World → Prop := Exit.then (startN none (codeN Go.Proofs.Try.prog (sub (codeOf Go.Proofs.Try.f15) [1, 1, 1]) (nsub lanes_Pack.an [1, 1, 1]) (lanes_Pack.q10 R))) (lanes_Pack.q10 R)
def lanes_Pack.q13 (R : Value → World → Prop) : Exit → Act → World → Prop := (lanes_Pack.q11 R)
def lanes_Pack.q14 (R : Value → World → Prop) : Exit → Act → World → Prop := Exit.inBlock 0 (lanes_Pack.q13 R)
def lanes_Pack.rl14 (R : Value → World → Prop) (k : Nat) (a0 : Option Addr) (n0 : Nat) (c0 : Nat) (x1 : Int) (a21 : Option Addr) (n21 : Nat) (c21 : Nat) (x22 : Int) (x23 : Int) (w : World) : Prop := loopN [0, 1, 21, 22, 23] (codeN Go.Proofs.Try.prog (sub (codeOf Go.Proofs.Try.f15) [1, 1, 0, 1, 0, 0]) (nsub lanes_Pack.an [1, 1, 0, 1, 0, 0])) (lanes_Pack.q14 R) k ⟨#[.slice a0 n0 c0, .int .i64 x1, undef, undef, undef, undef, undef, undef, undef, undef, undef, undef, undef, undef, undef, undef, undef, undef, undef, undef, undef, .slice a21 n21 c21, .int .i64 x22, .int .i64 x23, undef, undef, undef, undef, undef, undef, undef, undef, undef, undef, undef, undef, undef, undef, undef, undef, undef, undef, undef, undef, undef, undef, undef, undef, undef, undef, undef, undef, undef, undef, undef, undef, undef, undef, undef, undef, undef, undef, undef, undef, undef, undef, undef, undef, undef, undef, undef, undef, undef, undef, undef], []⟩ w
def lanes_Pack.re14 (R : Value → World → Prop) (a0 : Option Addr) (n0 : Nat) (c0 : Nat) (x1 : Int) (a21 : Option Addr) (n21 : Nat) (c21 : Nat) (x22 : Int) (x23 : Int) (w : World) : Prop := ∃ k, lanes_Pack.rl14 R k a0 n0 c0 x1 a21 n21 c21 x22 x23 w
def lanes_Pack.q33 (R : Value → World → Prop) : Exit → Act → World → Prop := (lanes_Pack.q10 R)
def lanes_Pack.q35 (R : Value → World → Prop) : Exit → Act → World → Prop := (lanes_Pack.q33 R)
def lanes_Pack.q36 (R : Value → World → Prop) : Exit → Act → World → Prop := Exit.then (startN none (codeN Go.Proofs.Try.prog (sub (codeOf Go.Proofs.Try.f15) [1, 1, 1, 1, 1]) (nsub lanes_Pack.an [1, 1, 1, 1, 1]) (lanes_Pack.q35 R))) (lanes_Pack.q35 R)
def lanes_Pack.q38 (R : Value → World → Prop) : Exit → Act → World → Prop := (lanes_Pack.q36 R)
def lanes_Pack.q39 (R : Value → World → Prop) : Exit → Act → World → Prop := Exit.inBlock 2 (lanes_Pack.q38 R)
def lanes_Pack.rl39 (R : Value → World → Prop) (k : Nat) (a0 : Option Addr) (n0 : Nat) (c0 : Nat) (x1 : Int) (a8 : Option Addr) (n8 : Nat) (c8 : Nat) (x34 : Int) (x35 : Int) (w : World) : Prop := loopN [0, 1, 8, 34, 35] (codeN Go.Proofs.Try.prog (sub (codeOf Go.Proofs.Try.f15) [1, 1, 1, 1, 0, 1, 0, 0]) (nsub lanes_Pack.an [1, 1, 1, 1, 0, 1, 0, 0])) (lanes_Pack.q39 R) k ⟨#[.slice a0 n0 c0, .int .i64 x1, undef, undef, undef, undef, undef, undef, .slice a8 n8 c8, undef, undef, undef, undef, undef, undef, undef, undef, undef, undef, undef, undef, undef, undef, undef, undef, undef, undef, undef, undef, undef, undef, undef, undef, undef, .int .i64 x34, .int .i64 x35, undef, undef, undef, undef, undef, undef, undef, undef, undef, undef, undef, undef, undef, undef, undef, undef, undef, undef, undef, undef, undef, undef, undef, undef, undef, undef, undef, undef, undef, undef, undef, undef, undef, undef, undef, undef, undef, undef, undef], []⟩ w
def lanes_Pack.re39 (R : Value → World → Prop) (a0 : Option Addr) (n0 : Nat) (c0 : Nat) (x1 : Int) (a8 : Option Addr) (n8 : Nat) (c8 : Nat) (x34 : Int) (x35 : Int) (w : World) : Prop := ∃ k, lanes_Pack.rl39 R k a0 n0 c0 x1 a8 n8 c8 x34 x35 w
def lanes_Pack.q40 (R : Value → World → Prop) (k39 : Nat) : Exit → Act → World → Prop := Exit.then (fun a w => loopN [0, 1, 8, 34, 35] (codeN Go.Proofs.Try.prog (sub (codeOf Go.Proofs.Try.f15) [1, 1, 1, 1, 0, 1, 0, 0]) (nsub lanes_Pack.an [1, 1, 1, 1, 0, 1, 0, 0])) (lanes_Pack.q39 R) k39 (clr [0, 1, 8, 34, 35] a) w) (lanes_Pack.q39 R)
def lanes_Pack.q42 (R : Value → World → Prop) (k39 : Nat) : Exit → Act → World → Prop := (lanes_Pack.q40 R k39)
def lanes_Pack.q46 (R : Value → World → Prop) (k39 : Nat) : Exit → Act → World → Prop := (lanes_Pack.q42 R k39)
def lanes_Pack.q47 (R : Value → World → Prop) (k39 : Nat) : Exit → Act → World → Prop := Exit.then (startN none (codeN Go.Proofs.Try.prog (sub (codeOf Go.Proofs.Try.f15) [1, 1, 1, 1, 0, 1, 0, 0, 1, 1, 1]) (nsub lanes_Pack.an [1, 1, 1, 1, 0, 1, 0, 0, 1, 1, 1]) (lanes_Pack.q46 R k39))) (lanes_Pack.q46 R k39)
def lanes_Pack.q48 (R : Value → World → Prop) (k39 : Nat) : Exit → Act → World → Prop := Exit.inBlock 3 (lanes_Pack.q47 R k39)
def lanes_Pack.q50 (R : Value → World → Prop) (k39 : Nat) : Exit → Act → World → Prop := (lanes_Pack.q48 R k39)
def lanes_Pack.q52 (R : Value → World → Prop) (k39 : Nat) : Exit → Act → World → Prop := (lanes_Pack.q50 R k39)
def lanes_Pack.q53 (R : Value → World → Prop) (k39 : Nat) : Exit → Act → World → Prop := Exit.then (startN none (codeN Go.Proofs.Try.prog (sub (codeOf Go.Proofs.Try.f15) [1, 1, 1, 1, 0, 1, 0, 0, 1, 1, 0, 0, 1, 1, 1]) (nsub lanes_Pack.an [1, 1, 1, 1, 0, 1, 0, 0, 1, 1, 0, 0, 1, 1, 1]) (lanes_Pack.q52 R k39))) (lanes_Pack.q52 R k39)
def lanes_Pack.q55 (R : Value → World → Prop) (k39 : Nat) : Exit → Act → World → Prop := (lanes_Pack.q53 R k39)
def lanes_Pack.q56 (R : Value → World → Prop) (k39 : Nat) : Exit → Act → World → Prop := Exit.inBlock 4 (lanes_Pack.q55 R k39)
def lanes_Pack.rl56 (R : Value → World → Prop) (k39 : Nat) (k : Nat) (a0 : Option Addr) (n0 : Nat) (c0 : Nat) (x1 : Int) (a8 : Option Addr) (n8 : Nat) (c8 : Nat) (x9 : Int) (a10 : Option Addr) (n10 : Nat) (c10 : Nat) (x34 : Int) (x35 : Int) (x40 : Int) (w : World) : Prop := loopN [0, 1, 8, 9, 10, 34, 35, 40] (codeN Go.Proofs.Try.prog (sub (codeOf Go.Proofs.Try.f15) [1, 1, 1, 1, 0, 1, 0, 0, 1, 1, 0, 0, 1, 1, 0, 1, 0, 0]) (nsub lanes_Pack.an [1, 1, 1, 1, 0, 1, 0, 0, 1, 1, 0, 0, 1, 1, 0, 1, 0, 0])) (lanes_Pack.q56 R k39) k ⟨#[.slice a0 n0 c0, .int .i64 x1, undef, undef, undef, undef, undef, undef, .slice a8 n8 c8, .int .i64 x9, .slice a10 n10 c10, undef, undef, undef, undef, undef, undef, undef, undef, undef, undef, undef, undef, undef, undef, undef, undef, undef, undef, undef, undef, undef, undef, undef, .int .i64 x34, .int .i64 x35, undef, undef, undef, undef, .int .i64 x40, undef, undef, undef, undef, undef, undef, undef, undef, undef, undef, undef, undef, undef, undef, undef, undef, undef, undef, undef, undef, undef, undef, undef, undef, undef, undef, undef, undef, undef, undef, undef, undef, undef, undef], []⟩ w
def lanes_Pack.re56 (R : Value → World → Prop) (k39 : Nat) (a0 : Option Addr) (n0 : Nat) (c0 : Nat) (x1 : Int) (a8 : Option Addr) (n8 : Nat) (c8 : Nat) (x9 : Int) (a10 : Option Addr) (n10 : Nat) (c10 : Nat) (x34 : Int) (x35 : Int) (x40 : Int) (w : World) : Prop := ∃ k, lanes_Pack.rl56 R k39 k a0 n0 c0 x1 a8 n8 c8 x9 a10 n10 c10 x34 x35 x40 w
def lanes_Pack.q57 (R : Value → World → Prop) (k39 : Nat) (k56 : Nat) : Exit → Act → World → Prop := Exit.then (fun a w => loopN [0, 1, 8, 9, 10, 34, 35, 40] (codeN Go.Proofs.Try.prog (sub (codeOf Go.Proofs.Try.f15) [1, 1, 1, 1, 0, 1, 0, 0, 1, 1, 0, 0, 1, 1, 0, 1, 0, 0]) (nsub lanes_Pack.an [1, 1, 1, 1, 0, 1, 0, 0, 1, 1, 0, 0, 1, 1, 0, 1, 0, 0])) (lanes_Pack.q56 R k39) k56 (clr [0, 1, 8, 9, 10, 34, 35, 40] a) w) (lanes_Pack.q56 R k39)
def lanes_Pack.q59 (R : Value → World → Prop) (k39 : Nat) (k56 : Nat) : Exit → Act → World → Prop := (lanes_Pack.q57 R k39 k56)
def lanes_Pack.q63 (R : Value → World → Prop) (k39 : Nat) (k56 : Nat) : Exit → Act → World → Prop := (lanes_Pack.q59 R k39 k56)
def lanes_Pack.q64 (R : Value → World → Prop) (k39 : Nat) (k56 : Nat) : Exit → Act → World → Prop := Exit.then (startN none (codeN Go.Proofs.Try.prog (sub (codeOf Go.Proofs.Try.f15) [1, 1, 1, 1, 0, 1, 0, 0, 1, 1, 0, 0, 1, 1, 0, 1, 0, 0, 1, 1, 1]) (nsub lanes_Pack.an [1, 1, 1, 1, 0, 1, 0, 0, 1, 1, 0, 0, 1, 1, 0, 1, 0, 0, 1, 1, 1]) (lanes_Pack.q63 R k39 k56))) (lanes_Pack.q63 R k39 k56)
def lanes_Pack.q65 (R : Value → World → Prop) (k39 : Nat) (k56 : Nat) : Exit → Act → World → Prop := Exit.inBlock 5 (lanes_Pack.q64 R k39 k56)
def lanes_Pack.q67 (R : Value → World → Prop) (k39 : Nat) (k56 : Nat) : Exit → Act → World → Prop := (lanes_Pack.q65 R k39 k56)
def lanes_Pack.q69 (R : Value → World → Prop) (k39 : Nat) (k56 : Nat) : Exit → Act → World → Prop := (lanes_Pack.q67 R k39 k56)
def lanes_Pack.q71 (R : Value → World → Prop) (k39 : Nat) (k56 : Nat) : Exit → Act → World → Prop := (lanes_Pack.q69 R k39 k56)
def lanes_Pack.q72 (R : Value → World → Prop) (k39 : Nat) (k56 : Nat) : Exit → Act → World → Prop := Exit.inBlock 6 (lanes_Pack.q71 R k39 k56)
def lanes_Pack.rl72 (R : Value → World → Prop) (k39 : Nat) (k56 : Nat) (k : Nat) (a0 : Option Addr) (n0 : Nat) (c0 : Nat) (x1 : Int) (a8 : Option Addr) (n8 : Nat) (c8 : Nat) (x9 : Int) (a10 : Option Addr) (n10 : Nat) (c10 : Nat) (x11 : Int) (x34 : Int) (x35 : Int) (x40 : Int) (a54 : Option Addr) (n54 : Nat) (c54 : Nat) (x55 : Int) (x56 : Int) (w : World) : Prop := loopN [0, 1, 8, 9, 10, 11, 34, 35, 40, 54, 55, 56] (codeN Go.Proofs.Try.prog (sub (codeOf Go.Proofs.Try.f15) [1, 1, 1, 1, 0, 1, 0, 0, 1, 1, 0, 0, 1, 1, 0, 1, 0, 0, 1, 1, 0, 0, 1, 1, 1, 0, 0]) (nsub lanes_Pack.an [1, 1, 1, 1, 0, 1, 0, 0, 1, 1, 0, 0, 1, 1, 0, 1, 0, 0, 1, 1, 0, 0, 1, 1, 1, 0, 0])) (lanes_Pack.q72 R k39 k56) k ⟨#[.slice a0 n0 c0, .int .i64 x1, undef, undef, undef, undef, undef, undef, .slice a8 n8 c8, .int .i64 x9, .slice a10 n10 c10, .int .i64 x11, undef, undef, undef, undef, undef, undef, undef, undef, undef, undef, undef, undef, undef, undef, undef, undef, undef, undef, undef, undef, undef, undef, .int .i64 x34, .int .i64 x35, undef, undef, undef, undef, .int .i64 x40, undef, undef, undef, undef, undef, undef, undef, undef, undef, undef, undef, undef, undef, .slice a54 n54 c54, .int .i64 x55, .int .i64 x56, undef, undef, undef, undef, undef, undef, undef, undef, undef, undef, undef, undef, undef, undef, undef, undef, undef, undef], []⟩ w
def lanes_Pack.re72 (R : Value → World → Prop) (k39 : Nat) (k56 : Nat) (a0 : Option Addr) (n0 : Nat) (c0 : Nat) (x1 : Int) (a8 : Option Addr) (n8 : Nat) (c8 : Nat) (x9 : Int) (a10 : Option Addr) (n10 : Nat) (c10 : Nat) (x11 : Int) (x34 : Int) (x35 : Int) (x40 : Int) (a54 : Option Addr) (n54 : Nat) (c54 : Nat) (x55 : Int) (x56 : Int) (w : World) : Prop := ∃ k, lanes_Pack.rl72 R k39 k56 k a0 n0 c0 x1 a8 n8 c8 x9 a10 n10 c10 x11 x34 x35 x40 a54 n54 c54 x55 x56 w
def lanes_Pack.l72 (R : Value → World → Prop) (b39 : (Option Addr) → Nat → Nat → Int → (Option Addr) → Nat → Nat → Int → Int → World → Prop) (b56 : (Option Addr) → Nat → Nat → Int → (Option Addr) → Nat → Nat → Int → (Option Addr) → Nat → Nat → Int → Int → Int → World → Prop) : Nat → (Option Addr) → Nat → Nat → Int → (Option Addr) → Nat → Nat → Int → (Option Addr) → Nat → Nat → Int → Int → Int → Int → (Option Addr) → Nat → Nat → Int → Int → World → Prop
  | 0, _, _, _, _, _, _, _, _, _, _, _, _, _, _, _, _, _, _, _, _, _ => False
  | k + 1, a0, n0, c0, x1, a8, n8, c8, x9, a10, n10, c10, x11, x34, x35, x40, a54, n54, c54, x55, x56, w => lanes_Pack.g72 R b56 (lanes_Pack.l72 R b39 b56 k) a0 n0 c0 x1 a8 n8 c8 x9 a10 n10 c10 x11 x34 x35 x40 a54 n54 c54 x55 x56 w
def lanes_Pack.e72 (R : Value → World → Prop) (b39 : (Option Addr) → Nat → Nat → Int → (Option Addr) → Nat → Nat → Int → Int → World → Prop) (b56 : (Option Addr) → Nat → Nat → Int → (Option Addr) → Nat → Nat → Int → (Option Addr) → Nat → Nat → Int → Int → Int → World → Prop) (a0 : Option Addr) (n0 : Nat) (c0 : Nat) (x1 : Int) (a8 : Option Addr) (n8 : Nat) (c8 : Nat) (x9 : Int) (a10 : Option Addr) (n10 : Nat) (c10 : Nat) (x11 : Int) (x34 : Int) (x35 : Int) (x40 : Int) (a54 : Option Addr) (n54 : Nat) (c54 : Nat) (x55 : Int) (x56 : Int) (w : World) : Prop := ∃ k, lanes_Pack.l72 R b39 b56 k a0 n0 c0 x1 a8 n8 c8 x9 a10 n10 c10 x11 x34 x35 x40 a54 n54 c54 x55 x56 w
theorem lanes_Pack.s72 (R : Value → World → Prop) (k39 : Nat) (k56 : Nat) (k : Nat) (a0 : Option Addr) (n0 : Nat) (c0 : Nat) (x1 : Int) (a8 : Option Addr) (n8 : Nat) (c8 : Nat) (x9 : Int) (a10 : Option Addr) (n10 : Nat) (c10 : Nat) (x11 : Int) (x34 : Int) (x35 : Int) (x40 : Int) (a54 : Option Addr) (n54 : Nat) (c54 : Nat) (x55 : Int) (x56 : Int) (w : World) : lanes_Pack.rl72 R k39 k56 (k + 1) a0 n0 c0 x1 a8 n8 c8 x9 a10 n10 c10 x11 x34 x35 x40 a54 n54 c54 x55 x56 w = ∀ _ : Nat → Value, lanes_Pack.g72 R (lanes_Pack.rl56 R k39 k56) (lanes_Pack.rl72 R k39 k56 k) a0 n0 c0 x1 a8 n8 c8 x9 a10 n10 c10 x11 x34 x35 x40 a54 n54 c54 x55 x56 w := by kernel_rfl
theorem lanes_Pack.lq72 (R : Value → World → Prop) (k39 : Nat) (k56 : Nat) (b39 : (Option Addr) → Nat → Nat → Int → (Option Addr) → Nat → Nat → Int → Int → World → Prop) (b56 : (Option Addr) → Nat → Nat → Int → (Option Addr) → Nat → Nat → Int → (Option Addr) → Nat → Nat → Int → Int → Int → World → Prop) (hb39 : b39 = lanes_Pack.rl39 R k39) (hb56 : b56 = lanes_Pack.rl56 R k39 k56) : ∀ k, lanes_Pack.l72 R b39 b56 k = lanes_Pack.rl72 R k39 k56 k
  | 0 => by funext a0 n0 c0 x1 a8 n8 c8 x9 a10 n10 c10 x11 x34 x35 x40 a54 n54 c54 x55 x56 w; rfl
  | k + 1 => by
    funext a0 n0 c0 x1 a8 n8 c8 x9 a10 n10 c10 x11 x34 x35 x40 a54 n54 c54 x55 x56 w
    rw [lanes_Pack.s72, forall_const]
    unfold lanes_Pack.l72
    have ih := lanes_Pack.lq72 R k39 k56 b39 b56 hb39 hb56 k
    subst hb39
    subst hb56
    rw [ih]
    all_goals rfl
theorem lanes_Pack.eq72 (R : Value → World → Prop) (k39 : Nat) (k56 : Nat) (b39 : (Option Addr) → Nat → Nat → Int → (Option Addr) → Nat → Nat → Int → Int → World → Prop) (b56 : (Option Addr) → Nat → Nat → Int → (Option Addr) → Nat → Nat → Int → (Option Addr) → Nat → Nat → Int → Int → Int → World → Prop) (hb39 : b39 = lanes_Pack.rl39 R k39) (hb56 : b56 = lanes_Pack.rl56 R k39 k56) : lanes_Pack.e72 R b39 b56 = lanes_Pack.re72 R k39 k56 := by
  funext a0 n0 c0 x1 a8 n8 c8 x9 a10 n10 c10 x11 x34 x35 x40 a54 n54 c54 x55 x56 w
  unfold lanes_Pack.e72 lanes_Pack.re72
  simp only [lanes_Pack.lq72 R k39 k56 b39 b56 hb39 hb56]
def lanes_Pack.l56 (R : Value → World → Prop) (b39 : (Option Addr) → Nat → Nat → Int → (Option Addr) → Nat → Nat → Int → Int → World → Prop) : Nat → (Option Addr) → Nat → Nat → Int → (Option Addr) → Nat → Nat → Int → (Option Addr) → Nat → Nat → Int → Int → Int → World → Prop
  | 0, _, _, _, _, _, _, _, _, _, _, _, _, _, _, _ => False
  | k + 1, a0, n0, c0, x1, a8, n8, c8, x9, a10, n10, c10, x34, x35, x40, w => lanes_Pack.g56 R b39 (lanes_Pack.e72 R b39 (lanes_Pack.l56 R b39 k)) a0 n0 c0 x1 a8 n8 c8 x9 a10 n10 c10 x34 x35 x40 w
def lanes_Pack.e56 (R : Value → World → Prop) (b39 : (Option Addr) → Nat → Nat → Int → (Option Addr) → Nat → Nat → Int → Int → World → Prop) (a0 : Option Addr) (n0 : Nat) (c0 : Nat) (x1 : Int) (a8 : Option Addr) (n8 : Nat) (c8 : Nat) (x9 : Int) (a10 : Option Addr) (n10 : Nat) (c10 : Nat) (x34 : Int) (x35 : Int) (x40 : Int) (w : World) : Prop := ∃ k, lanes_Pack.l56 R b39 k a0 n0 c0 x1 a8 n8 c8 x9 a10 n10 c10 x34 x35 x40 w
theorem lanes_Pack.s56 (R : Value → World → Prop) (k39 : Nat) (k : Nat) (a0 : Option Addr) (n0 : Nat) (c0 : Nat) (x1 : Int) (a8 : Option Addr) (n8 : Nat) (c8 : Nat) (x9 : Int) (a10 : Option Addr) (n10 : Nat) (c10 : Nat) (x34 : Int) (x35 : Int) (x40 : Int) (w : World) : lanes_Pack.rl56 R k39 (k + 1) a0 n0 c0 x1 a8 n8 c8 x9 a10 n10 c10 x34 x35 x40 w = ∀ _ : Nat → Value, lanes_Pack.g56 R (lanes_Pack.rl39 R k39) (lanes_Pack.re72 R k39 k) a0 n0 c0 x1 a8 n8 c8 x9 a10 n10 c10 x34 x35 x40 w := by kernel_rfl
theorem lanes_Pack.lq56 (R : Value → World → Prop) (k39 : Nat) (b39 : (Option Addr) → Nat → Nat → Int → (Option Addr) → Nat → Nat → Int → Int → World → Prop) (hb39 : b39 = lanes_Pack.rl39 R k39) : ∀ k, lanes_Pack.l56 R b39 k = lanes_Pack.rl56 R k39 k
  | 0 => by funext a0 n0 c0 x1 a8 n8 c8 x9 a10 n10 c10 x34 x35 x40 w; rfl
  | k + 1 => by
    funext a0 n0 c0 x1 a8 n8 c8 x9 a10 n10 c10 x34 x35 x40 w
    rw [lanes_Pack.s56, forall_const]
    unfold lanes_Pack.l56
    have ih := lanes_Pack.lq56 R k39 b39 hb39 k
    subst hb39
    rw [lanes_Pack.eq72 R k39 k _ _ rfl ih]
    all_goals rfl
theorem lanes_Pack.eq56 (R : Value → World → Prop) (k39 : Nat) (b39 : (Option Addr) → Nat → Nat → Int → (Option Addr) → Nat → Nat → Int → Int → World → Prop) (hb39 : b39 = lanes_Pack.rl39 R k39) : lanes_Pack.e56 R b39 = lanes_Pack.re56 R k39 := by
  funext a0 n0 c0 x1 a8 n8 c8 x9 a10 n10 c10 x34 x35 x40 w
  unfold lanes_Pack.e56 lanes_Pack.re56
  simp only [lanes_Pack.lq56 R k39 b39 hb39]
def lanes_Pack.l39 (R : Value → World → Prop) : Nat → (Option Addr) → Nat → Nat → Int → (Option Addr) → Nat → Nat → Int → Int → World → Prop
  | 0, _, _, _, _, _, _, _, _, _, _ => False
  | k + 1, a0, n0, c0, x1, a8, n8, c8, x34, x35, w => lanes_Pack.g39 R (lanes_Pack.e56 R (lanes_Pack.l39 R k)) a0 n0 c0 x1 a8 n8 c8 x34 x35 w
def lanes_Pack.e39 (R : Value → World → Prop) (a0 : Option Addr) (n0 : Nat) (c0 : Nat) (x1 : Int) (a8 : Option Addr) (n8 : Nat) (c8 : Nat) (x34 : Int) (x35 : Int) (w : World) : Prop := ∃ k, lanes_Pack.l39 R k a0 n0 c0 x1 a8 n8 c8 x34 x35 w
theorem lanes_Pack.s39 (R : Value → World → Prop) (k : Nat) (a0 : Option Addr) (n0 : Nat) (c0 : Nat) (x1 : Int) (a8 : Option Addr) (n8 : Nat) (c8 : Nat) (x34 : Int) (x35 : Int) (w : World) : lanes_Pack.rl39 R (k + 1) a0 n0 c0 x1 a8 n8 c8 x34 x35 w = ∀ _ : Nat → Value, lanes_Pack.g39 R (lanes_Pack.re56 R k) a0 n0 c0 x1 a8 n8 c8 x34 x35 w := by kernel_rfl
theorem lanes_Pack.lq39 (R : Value → World → Prop) : ∀ k, lanes_Pack.l39 R k = lanes_Pack.rl39 R k
  | 0 => by funext a0 n0 c0 x1 a8 n8 c8 x34 x35 w; rfl
  | k + 1 => by
    funext a0 n0 c0 x1 a8 n8 c8 x34 x35 w
    rw [lanes_Pack.s39, forall_const]
    unfold lanes_Pack.l39
    have ih := lanes_Pack.lq39 R k
    rw [lanes_Pack.eq56 R k _ ih]
    all_goals rfl
theorem lanes_Pack.eq39 (R : Value → World → Prop) : lanes_Pack.e39 R = lanes_Pack.re39 R := by
  funext a0 n0 c0 x1 a8 n8 c8 x34 x35 w
  unfold lanes_Pack.e39 lanes_Pack.re39
  simp only [lanes_Pack.lq39 R]
def lanes_Pack.l14 (R : Value → World → Prop) : Nat → (Option Addr) → Nat → Nat → Int → (Option Addr) → Nat → Nat → Int → Int → World → Prop
  | 0, _, _, _, _, _, _, _, _, _, _ => False
  | k + 1, a0, n0, c0, x1, a21, n21, c21, x22, x23, w => lanes_Pack.g14 R (lanes_Pack.l14 R k) (lanes_Pack.e39 R) a0 n0 c0 x1 a21 n21 c21 x22 x23 w
def lanes_Pack.e14 (R : Value → World → Prop) (a0 : Option Addr) (n0 : Nat) (c0 : Nat) (x1 : Int) (a21 : Option Addr) (n21 : Nat) (c21 : Nat) (x22 : Int) (x23 : Int) (w : World) : Prop := ∃ k, lanes_Pack.l14 R k a0 n0 c0 x1 a21 n21 c21 x22 x23 w
theorem lanes_Pack.s14 (R : Value → World → Prop) (k : Nat) (a0 : Option Addr) (n0 : Nat) (c0 : Nat) (x1 : Int) (a21 : Option Addr) (n21 : Nat) (c21 : Nat) (x22 : Int) (x23 : Int) (w : World) : lanes_Pack.rl14 R (k + 1) a0 n0 c0 x1 a21 n21 c21 x22 x23 w = ∀ _ : Nat → Value, lanes_Pack.g14 R (lanes_Pack.rl14 R k) (lanes_Pack.re39 R) a0 n0 c0 x1 a21 n21 c21 x22 x23 w := by kernel_rfl
theorem lanes_Pack.lq14 (R : Value → World → Prop) : ∀ k, lanes_Pack.l14 R k = lanes_Pack.rl14 R k
  | 0 => by funext a0 n0 c0 x1 a21 n21 c21 x22 x23 w; rfl
  | k + 1 => by
    funext a0 n0 c0 x1 a21 n21 c21 x22 x23 w
    rw [lanes_Pack.s14, forall_const]
    unfold lanes_Pack.l14
    have ih := lanes_Pack.lq14 R k
    rw [ih]
    rw [lanes_Pack.eq39 R]
    all_goals rfl
theorem lanes_Pack.eq14 (R : Value → World → Prop) : lanes_Pack.e14 R = lanes_Pack.re14 R := by
  funext a0 n0 c0 x1 a21 n21 c21 x22 x23 w
  unfold lanes_Pack.e14 lanes_Pack.re14
  simp only [lanes_Pack.lq14 R]
def lanes_Pack (R : Value → World → Prop) (a0 : Option Addr) (n0 : Nat) (c0 : Nat) (x1 : Int) (w : World) : Prop := lanes_Pack.g0 R (lanes_Pack.e14 R) a0 n0 c0 x1 w
theorem lanes_Pack.root0 (R : Value → World → Prop) (a0 : Option Addr) (n0 : Nat) (c0 : Nat) (x1 : Int) (w : World) : fnN Go.Proofs.Try.prog Go.Proofs.Try.f15 lanes_Pack.an #[.slice a0 n0 c0, .int .i64 x1] w R = lanes_Pack.g0 R (lanes_Pack.re14 R) a0 n0 c0 x1 w := by kernel_rfl
theorem lanes_Pack.calls {R : Value → World → Prop} {a0 : Option Addr} {n0 : Nat} {c0 : Nat} {x1 : Int} {w : World} (h : lanes_Pack R a0 n0 c0 x1 w) : Go.E.CallsD Go.Proofs.Try.prog 15 #[.slice a0 n0 c0, .int .i64 x1] w R := by
  refine callsD_of (n := lanes_Pack.an) M_follows M_sizes Go.Proofs.Try.func15 (by rfl) ?_
  rw [lanes_Pack.root0]
  unfold lanes_Pack at h
  rw [lanes_Pack.eq14 R] at h
  exact h
-- thicket/thicketref18.Pack
def thicketref18_Pack.an : An := (.mk none .nil (.mk none .nil (.mk none (.mk none .nil (.mk none (.mk (some [0, 1, 6]) .nil .nil) .nil)) (.mk none .nil (.mk none (.mk none .nil (.mk none (.mk (some [0, 1, 7, 8]) (.mk none .nil (.mk none (.mk none (.mk none .nil (.mk none (.mk none .nil (.mk none (.mk (some [0, 1, 7, 8, 9, 10]) (.mk none .nil (.mk none (.mk none (.mk none .nil (.mk none (.mk none .nil (.mk none (.mk (some [0, 1, 7, 8, 9, 10, 11, 12]) (.mk none .nil (.mk none (.mk none (.mk none .nil (.mk (some [0, 1, 7, 8, 9, 10, 11, 12, 13]) .nil .nil)) .nil) .nil)) .nil) .nil)) .nil)) .nil) .nil)) .nil) .nil)) .nil)) .nil) .nil)) .nil) .nil)) .nil)))))
def thicketref18_Pack.g0 (R : Value → World → Prop) (e14 : (Option Addr) → Nat → Nat → Int → Int → World → Prop) (a0 : Option Addr) (n0 : Nat) (c0 : Nat) (x1 : Int) (w : World) : Prop :=
  onBool (decide (x1 < 0))
    (R (.tuple #[.slice none 0 0, .int .i64 2]) w)
    (onBool (decide (x1 > 65536))
      (R (.tuple #[.slice none 0 0, .int .i64 2]) w)
      (e14 a0 n0 c0 x1 0 w))
def thicketref18_Pack.g14 (R : Value → World → Prop) (b14 : (Option Addr) → Nat → Nat → Int → Int → World → Prop) (e37 : (Option Addr) → Nat → Nat → Int → (Option Addr) → Nat → Nat → Int → World → Prop) (a0 : Option Addr) (n0 : Nat) (c0 : Nat) (x1 : Int) (x6 : Int) (w : World) : Prop :=
  onBool (decide (x6 < (n0 : Int)))
    (optN a0 fun p27 =>
    if (0 : Int) ≤ x6 ∧ x6 < (n0 : Int) then
      ∃ ya_28 : Option Addr, ∃ yn_28 : Nat, ∃ yc_28 : Nat, w.cell? (p27.add (x6.toNat * 1)) = some (.slice ya_28 yn_28 yc_28) ∧
        (onBool ((yn_28 : Int) != x1)
          (R (.tuple #[.slice none 0 0, .int .i64 72]) w)
          (b14 a0 n0 c0 x1 (IntKind.i64.wrap (x6 + 1)) w)) else False)
    (e37 a0 n0 c0 x1 none 0 0 0 w)
def thicketref18_Pack.g37 (R : Value → World → Prop) (e52 : (Option Addr) → Nat → Nat → Int → (Option Addr) → Nat → Nat → Int → (Option Addr) → Nat → Nat → Int → World → Prop) (a0 : Option Addr) (n0 : Nat) (c0 : Nat) (x1 : Int) (a7 : Option Addr) (n7 : Nat) (c7 : Nat) (x8 : Int) (w : World) : Prop :=
  onBool (decide (x8 < (n0 : Int)))
    (e52 a0 n0 c0 x1 a7 n7 c7 x8 none 0 0 0 w)
    (R (.tuple #[.slice a7 n7 c7, .int .i64 0]) w)
def thicketref18_Pack.g52 (R : Value → World → Prop) (b37 : (Option Addr) → Nat → Nat → Int → (Option Addr) → Nat → Nat → Int → World → Prop) (e67 : (Option Addr) → Nat → Nat → Int → (Option Addr) → Nat → Nat → Int → (Option Addr) → Nat → Nat → Int → (Option Addr) → Int → World → Prop) (a0 : Option Addr) (n0 : Nat) (c0 : Nat) (x1 : Int) (a7 : Option Addr) (n7 : Nat) (c7 : Nat) (x8 : Int) (a9 : Option Addr) (n9 : Nat) (c9 : Nat) (x10 : Int) (w : World) : Prop :=
  onBool (decide (x10 < x1))
    (nw (w.alloc (.cells #[.float .f64 0, .float .f64 0, .float .f64 0, .float .f64 0, .float .f64 0, .float .f64 0, .float .f64 0, .float .f64 0] 24)) fun w29 =>
    e67 a0 n0 c0 x1 a7 n7 c7 x8 a9 n9 c9 x10 (some (na w)) 0 w29)
    (nw (w.alloc (.cells #[.slice a9 n9 c9] 50)) fun w30 =>
    rawN Go.Proofs.Try.prog (Builtin.append_ #[32, 32] 32 #[.slice a7 n7 c7, .slice (some (na w)) 1 1]) w30 fun v31 u32 =>
      ∃ ya_33 : Option Addr, ∃ yn_33 : Nat, ∃ yc_33 : Nat, v31 = .slice ya_33 yn_33 yc_33 ∧
        (b37 a0 n0 c0 x1 ya_33 yn_33 yc_33 (IntKind.i64.wrap (x8 + 8)) u32))
def thicketref18_Pack.g67 (R : Value → World → Prop) (b52 : (Option Addr) → Nat → Nat → Int → (Option Addr) → Nat → Nat → Int → (Option Addr) → Nat → Nat → Int → World → Prop) (j84 : (Option Addr) → Nat → Nat → Int → (Option Addr) → Nat → Nat → Int → (Option Addr) → Nat → Nat → Int → (Option Addr) → Int → Int → World → Prop) (a0 : Option Addr) (n0 : Nat) (c0 : Nat) (x1 : Int) (a7 : Option Addr) (n7 : Nat) (c7 : Nat) (x8 : Int) (a9 : Option Addr) (n9 : Nat) (c9 : Nat) (x10 : Int) (p11 : Option Addr) (x12 : Int) (w : World) : Prop :=
  onBool (decide (x12 < 8))
    (onBool (decide ((IntKind.i64.wrap (x8 + x12)) ≥ (n0 : Int)))
      (j84 a0 n0 c0 x1 a7 n7 c7 x8 a9 n9 c9 x10 p11 x12 (IntKind.i64.wrap ((n0 : Int) - 1)) w)
      (j84 a0 n0 c0 x1 a7 n7 c7 x8 a9 n9 c9 x10 p11 x12 (IntKind.i64.wrap (x8 + x12)) w))
    (optN p11 fun p34 =>
    ∃ yf_35 : Nat, w.cell? (p34.add 0) = some (.float .f64 yf_35) ∧
      (∃ yf_36 : Nat, w.cell? (p34.add 1) = some (.float .f64 yf_36) ∧
        (∃ yf_37 : Nat, w.cell? (p34.add 2) = some (.float .f64 yf_37) ∧
          (∃ yf_38 : Nat, w.cell? (p34.add 3) = some (.float .f64 yf_38) ∧
            (∃ yf_39 : Nat, w.cell? (p34.add 4) = some (.float .f64 yf_39) ∧
              (∃ yf_40 : Nat, w.cell? (p34.add 5) = some (.float .f64 yf_40) ∧
                (∃ yf_41 : Nat, w.cell? (p34.add 6) = some (.float .f64 yf_41) ∧
                  (∃ yf_42 : Nat, w.cell? (p34.add 7) = some (.float .f64 yf_42) ∧
                    (nw (w.alloc (.cells #[.float .f64 yf_35, .float .f64 yf_36, .float .f64 yf_37, .float .f64 yf_38, .float .f64 yf_39, .float .f64 yf_40, .float .f64 yf_41, .float .f64 yf_42] 24)) fun w43 =>
                    rawN Go.Proofs.Try.prog (Builtin.append_ #[50, 50] 50 #[.slice a9 n9 c9, .slice (some (na w)) 1 1]) w43 fun v44 u45 =>
                      ∃ ya_46 : Option Addr, ∃ yn_46 : Nat, ∃ yc_46 : Nat, v44 = .slice ya_46 yn_46 yc_46 ∧
                        (b52 a0 n0 c0 x1 a7 n7 c7 x8 ya_46 yn_46 yc_46 (IntKind.i64.wrap (x10 + 1)) u45))))))))))
def thicketref18_Pack.g84 (R : Value → World → Prop) (b67 : (Option Addr) → Nat → Nat → Int → (Option Addr) → Nat → Nat → Int → (Option Addr) → Nat → Nat → Int → (Option Addr) → Int → World → Prop) (a0 : Option Addr) (n0 : Nat) (c0 : Nat) (x1 : Int) (a7 : Option Addr) (n7 : Nat) (c7 : Nat) (x8 : Int) (a9 : Option Addr) (n9 : Nat) (c9 : Nat) (x10 : Int) (p11 : Option Addr) (x12 : Int) (x13 : Int) (w : World) : Prop :=
  optN a0 fun p47 =>
  if (0 : Int) ≤ x13 ∧ x13 < (n0 : Int) then
    ∃ ya_48 : Option Addr, ∃ yn_48 : Nat, ∃ yc_48 : Nat, w.cell? (p47.add (x13.toNat * 1)) = some (.slice ya_48 yn_48 yc_48) ∧
      (optN ya_48 fun p49 =>
      if (0 : Int) ≤ x10 ∧ x10 < (yn_48 : Int) then
        ∃ yf_50 : Nat, w.cell? (p49.add (x10.toNat * 1)) = some (.float .f64 yf_50) ∧
          (optN p11 fun p51 =>
          if (0 : Int) ≤ x12 ∧ x12 < (8 : Int) then
            okSt w ((p51.add (x12.toNat * 1)).add 0) ∧
              (nw (w.setCell ((p51.add (x12.toNat * 1)).add 0) (.float .f64 yf_50)) fun w52 =>
              b67 a0 n0 c0 x1 a7 n7 c7 x8 a9 n9 c9 x10 p11 (IntKind.i64.wrap (x12 + 1)) w52) else False) else False) else False
def thicketref18_Pack.q2 (R : Value → World → Prop) : Exit → Act → World → Prop := (fin Go.Proofs.Try.prog Go.Proofs.Try.f16 R)
def thicketref18_Pack.q10 (R : Value → World → Prop) : Exit → Act → World → Prop := (thicketref18_Pack.q2 R)
def thicketref18_Pack.q11 (R : Value → World → Prop) : Exit → Act → World → Prop := Exit.then (startN none (codeN Go.Proofs.Try.prog (sub (codeOf Go.Proofs.Try.f16) [1, 1, 1]) (nsub thicketref18_Pack.an [1, 1, 1]) (thicketref18_Pack.q10 R))) (thicketref18_Pack.q10 R)
def thicketref18_Pack.q13 (R : Value → World → Prop) : Exit → Act → World → Prop := (thicketref18_Pack.q11 R)
def thicketref18_Pack.q14 (R : Value → World → Prop) : Exit → Act → World → Prop := Exit.inBlock 0 (thicketref18_Pack.q13 R)
def thicketref18_Pack.rl14 (R : Value → World → Prop) (k : Nat) (a0 : Option Addr) (n0 : Nat) (c0 : Nat) (x1 : Int) (x6 : Int) (w : World) : Prop := loopN [0, 1, 6] (codeN Go.Proofs.Try.prog (sub (codeOf Go.Proofs.Try.f16) [1, 1, 0, 1, 0, 0]) (nsub thicketref18_Pack.an [1, 1, 0, 1, 0, 0])) (thicketref18_Pack.q14 R) k ⟨#[.slice a0 n0 c0, .int .i64 x1, undef, undef, undef, undef, .int .i64 x6, undef, undef, undef, undef, undef, undef, undef, undef, undef, undef, undef, undef, undef, undef, undef, undef, undef, undef, undef, undef, undef, undef, undef, undef, undef, undef, undef, undef, undef, undef, undef, undef, undef, undef, undef, undef, undef, undef, undef, undef, undef, undef, undef, undef, undef, undef, undef, undef, undef, undef, undef, undef, undef, undef, undef, undef, undef, undef, undef, undef, undef, undef, undef, undef, undef, undef, undef, undef, undef], []⟩ w
def thicketref18_Pack.re14 (R : Value → World → Prop) (a0 : Option Addr) (n0 : Nat) (c0 : Nat) (x1 : Int) (x6 : Int) (w : World) : Prop := ∃ k, thicketref18_Pack.rl14 R k a0 n0 c0 x1 x6 w
def thicketref18_Pack.q31 (R : Value → World → Prop) : Exit → Act → World → Prop := (thicketref18_Pack.q10 R)
def thicketref18_Pack.q33 (R : Value → World → Prop) : Exit → Act → World → Prop := (thicketref18_Pack.q31 R)
def thicketref18_Pack.q34 (R : Value → World → Prop) : Exit → Act → World → Prop := Exit.then (startN none (codeN Go.Proofs.Try.prog (sub (codeOf Go.Proofs.Try.f16) [1, 1, 1, 1, 1]) (nsub thicketref18_Pack.an [1, 1, 1, 1, 1]) (thicketref18_Pack.q33 R))) (thicketref18_Pack.q33 R)
def thicketref18_Pack.q36 (R : Value → World → Prop) : Exit → Act → World → Prop := (thicketref18_Pack.q34 R)
def thicketref18_Pack.q37 (R : Value → World → Prop) : Exit → Act → World → Prop := Exit.inBlock 2 (thicketref18_Pack.q36 R)
def thicketref18_Pack.rl37 (R : Value → World → Prop) (k : Nat) (a0 : Option Addr) (n0 : Nat) (c0 : Nat) (x1 : Int) (a7 : Option Addr) (n7 : Nat) (c7 : Nat) (x8 : Int) (w : World) : Prop := loopN [0, 1, 7, 8] (codeN Go.Proofs.Try.prog (sub (codeOf Go.Proofs.Try.f16) [1, 1, 1, 1, 0, 1, 0, 0]) (nsub thicketref18_Pack.an [1, 1, 1, 1, 0, 1, 0, 0])) (thicketref18_Pack.q37 R) k ⟨#[.slice a0 n0 c0, .int .i64 x1, undef, undef, undef, undef, undef, .slice a7 n7 c7, .int .i64 x8, undef, undef, undef, undef, undef, undef, undef, undef, undef, undef, undef, undef, undef, undef, undef, undef, undef, undef, undef, undef, undef, undef, undef, undef, undef, undef, undef, undef, undef, undef, undef, undef, undef, undef, undef, undef, undef, undef, undef, undef, undef, undef, undef, undef, undef, undef, undef, undef, undef, undef, undef, undef, undef, undef, undef, undef, undef, undef, undef, undef, undef, undef, undef, undef, undef, undef, undef], []⟩ w
def thicketref18_Pack.re37 (R : Value → World → Prop) (a0 : Option Addr) (n0 : Nat) (c0 : Nat) (x1 : Int) (a7 : Option Addr) (n7 : Nat) (c7 : Nat) (x8 : Int) (w : World) : Prop := ∃ k, thicketref18_Pack.rl37 R k a0 n0 c0 x1 a7 n7 c7 x8 w
def thicketref18_Pack.q38 (R : Value → World → Prop) (k37 : Nat) : Exit → Act → World → Prop := Exit.then (fun a w => loopN [0, 1, 7, 8] (codeN Go.Proofs.Try.prog (sub (codeOf Go.Proofs.Try.f16) [1, 1, 1, 1, 0, 1, 0, 0]) (nsub thicketref18_Pack.an [1, 1, 1, 1, 0, 1, 0, 0])) (thicketref18_Pack.q37 R) k37 (clr [0, 1, 7, 8] a) w) (thicketref18_Pack.q37 R)
def thicketref18_Pack.q44 (R : Value → World → Prop) (k37 : Nat) : Exit → Act → World → Prop := (thicketref18_Pack.q38 R k37)
def thicketref18_Pack.q45 (R : Value → World → Prop) (k37 : Nat) : Exit → Act → World → Prop := Exit.then (startN none (codeN Go.Proofs.Try.prog (sub (codeOf Go.Proofs.Try.f16) [1, 1, 1, 1, 0, 1, 0, 0, 1, 1]) (nsub thicketref18_Pack.an [1, 1, 1, 1, 0, 1, 0, 0, 1, 1]) (thicketref18_Pack.q44 R k37))) (thicketref18_Pack.q44 R k37)
def thicketref18_Pack.q46 (R : Value → World → Prop) (k37 : Nat) : Exit → Act → World → Prop := Exit.inBlock 3 (thicketref18_Pack.q45 R k37)
def thicketref18_Pack.q48 (R : Value → World → Prop) (k37 : Nat) : Exit → Act → World → Prop := (thicketref18_Pack.q46 R k37)
def thicketref18_Pack.q49 (R : Value → World → Prop) (k37 : Nat) : Exit → Act → World → Prop := Exit.then (startN none (codeN Go.Proofs.Try.prog (sub (codeOf Go.Proofs.Try.f16) [1, 1, 1, 1, 0, 1, 0, 0, 1, 0, 0, 1, 1]) (nsub thicketref18_Pack.an [1, 1, 1, 1, 0, 1, 0, 0, 1, 0, 0, 1, 1]) (thicketref18_Pack.q48 R k37))) (thicketref18_Pack.q48 R k37)
def thicketref18_Pack.q51 (R : Value → World → Prop) (k37 : Nat) : Exit → Act → World → Prop := (thicketref18_Pack.q49 R k37)
def thicketref18_Pack.q52 (R : Value → World → Prop) (k37 : Nat) : Exit → Act → World → Prop := Exit.inBlock 4 (thicketref18_Pack.q51 R k37)
def thicketref18_Pack.rl52 (R : Value → World → Prop) (k37 : Nat) (k : Nat) (a0 : Option Addr) (n0 : Nat) (c0 : Nat) (x1 : Int) (a7 : Option Addr) (n7 : Nat) (c7 : Nat) (x8 : Int) (a9 : Option Addr) (n9 : Nat) (c9 : Nat) (x10 : Int) (w : World) : Prop := loopN [0, 1, 7, 8, 9, 10] (codeN Go.Proofs.Try.prog (sub (codeOf Go.Proofs.Try.f16) [1, 1, 1, 1, 0, 1, 0, 0, 1, 0, 0, 1, 0, 1, 0, 0]) (nsub thicketref18_Pack.an [1, 1, 1, 1, 0, 1, 0, 0, 1, 0, 0, 1, 0, 1, 0, 0])) (thicketref18_Pack.q52 R k37) k ⟨#[.slice a0 n0 c0, .int .i64 x1, undef, undef, undef, undef, undef, .slice a7 n7 c7, .int .i64 x8, .slice a9 n9 c9, .int .i64 x10, undef, undef, undef, undef, undef, undef, undef, undef, undef, undef, undef, undef, undef, undef, undef, undef, undef, undef, undef, undef, undef, undef, undef, undef, undef, undef, undef, undef, undef, undef, undef, undef, undef, undef, undef, undef, undef, undef, undef, undef, undef, undef, undef, undef, undef, undef, undef, undef, undef, undef, undef, undef, undef, undef, undef, undef, undef, undef, undef, undef, undef, undef, undef, undef, undef], []⟩ w
def thicketref18_Pack.re52 (R : Value → World → Prop) (k37 : Nat) (a0 : Option Addr) (n0 : Nat) (c0 : Nat) (x1 : Int) (a7 : Option Addr) (n7 : Nat) (c7 : Nat) (x8 : Int) (a9 : Option Addr) (n9 : Nat) (c9 : Nat) (x10 : Int) (w : World) : Prop := ∃ k, thicketref18_Pack.rl52 R k37 k a0 n0 c0 x1 a7 n7 c7 x8 a9 n9 c9 x10 w
def thicketref18_Pack.q53 (R : Value → World → Prop) (k37 : Nat) (k52 : Nat) : Exit → Act → World → Prop := Exit.then (fun a w => loopN [0, 1, 7, 8, 9, 10] (codeN Go.Proofs.Try.prog (sub (codeOf Go.Proofs.Try.f16) [1, 1, 1, 1, 0, 1, 0, 0, 1, 0, 0, 1, 0, 1, 0, 0]) (nsub thicketref18_Pack.an [1, 1, 1, 1, 0, 1, 0, 0, 1, 0, 0, 1, 0, 1, 0, 0])) (thicketref18_Pack.q52 R k37) k52 (clr [0, 1, 7, 8, 9, 10] a) w) (thicketref18_Pack.q52 R k37)
def thicketref18_Pack.q59 (R : Value → World → Prop) (k37 : Nat) (k52 : Nat) : Exit → Act → World → Prop := (thicketref18_Pack.q53 R k37 k52)
def thicketref18_Pack.q60 (R : Value → World → Prop) (k37 : Nat) (k52 : Nat) : Exit → Act → World → Prop := Exit.then (startN none (codeN Go.Proofs.Try.prog (sub (codeOf Go.Proofs.Try.f16) [1, 1, 1, 1, 0, 1, 0, 0, 1, 0, 0, 1, 0, 1, 0, 0, 1, 1]) (nsub thicketref18_Pack.an [1, 1, 1, 1, 0, 1, 0, 0, 1, 0, 0, 1, 0, 1, 0, 0, 1, 1]) (thicketref18_Pack.q59 R k37 k52))) (thicketref18_Pack.q59 R k37 k52)
def thicketref18_Pack.q61 (R : Value → World → Prop) (k37 : Nat) (k52 : Nat) : Exit → Act → World → Prop := Exit.inBlock 5 (thicketref18_Pack.q60 R k37 k52)
def thicketref18_Pack.q63 (R : Value → World → Prop) (k37 : Nat) (k52 : Nat) : Exit → Act → World → Prop := (thicketref18_Pack.q61 R k37 k52)
def thicketref18_Pack.q64 (R : Value → World → Prop) (k37 : Nat) (k52 : Nat) : Exit → Act → World → Prop := Exit.then (startN none (codeN Go.Proofs.Try.prog (sub (codeOf Go.Proofs.Try.f16) [1, 1, 1, 1, 0, 1, 0, 0, 1, 0, 0, 1, 0, 1, 0, 0, 1, 0, 0, 1, 1]) (nsub thicketref18_Pack.an [1, 1, 1, 1, 0, 1, 0, 0, 1, 0, 0, 1, 0, 1, 0, 0, 1, 0, 0, 1, 1]) (thicketref18_Pack.q63 R k37 k52))) (thicketref18_Pack.q63 R k37 k52)
def thicketref18_Pack.q66 (R : Value → World → Prop) (k37 : Nat) (k52 : Nat) : Exit → Act → World → Prop := (thicketref18_Pack.q64 R k37 k52)
def thicketref18_Pack.q67 (R : Value → World → Prop) (k37 : Nat) (k52 : Nat) : Exit → Act → World → Prop := Exit.inBlock 6 (thicketref18_Pack.q66 R k37 k52)
def thicketref18_Pack.rl67 (R : Value → World → Prop) (k37 : Nat) (k52 : Nat) (k : Nat) (a0 : Option Addr) (n0 : Nat) (c0 : Nat) (x1 : Int) (a7 : Option Addr) (n7 : Nat) (c7 : Nat) (x8 : Int) (a9 : Option Addr) (n9 : Nat) (c9 : Nat) (x10 : Int) (p11 : Option Addr) (x12 : Int) (w : World) : Prop := loopN [0, 1, 7, 8, 9, 10, 11, 12] (codeN Go.Proofs.Try.prog (sub (codeOf Go.Proofs.Try.f16) [1, 1, 1, 1, 0, 1, 0, 0, 1, 0, 0, 1, 0, 1, 0, 0, 1, 0, 0, 1, 0, 1, 0, 0]) (nsub thicketref18_Pack.an [1, 1, 1, 1, 0, 1, 0, 0, 1, 0, 0, 1, 0, 1, 0, 0, 1, 0, 0, 1, 0, 1, 0, 0])) (thicketref18_Pack.q67 R k37 k52) k ⟨#[.slice a0 n0 c0, .int .i64 x1, undef, undef, undef, undef, undef, .slice a7 n7 c7, .int .i64 x8, .slice a9 n9 c9, .int .i64 x10, .pointer p11, .int .i64 x12, undef, undef, undef, undef, undef, undef, undef, undef, undef, undef, undef, undef, undef, undef, undef, undef, undef, undef, undef, undef, undef, undef, undef, undef, undef, undef, undef, undef, undef, undef, undef, undef, undef, undef, undef, undef, undef, undef, undef, undef, undef, undef, undef, undef, undef, undef, undef, undef, undef, undef, undef, undef, undef, undef, undef, undef, undef, undef, undef, undef, undef, undef, undef], []⟩ w
def thicketref18_Pack.re67 (R : Value → World → Prop) (k37 : Nat) (k52 : Nat) (a0 : Option Addr) (n0 : Nat) (c0 : Nat) (x1 : Int) (a7 : Option Addr) (n7 : Nat) (c7 : Nat) (x8 : Int) (a9 : Option Addr) (n9 : Nat) (c9 : Nat) (x10 : Int) (p11 : Option Addr) (x12 : Int) (w : World) : Prop := ∃ k, thicketref18_Pack.rl67 R k37 k52 k a0 n0 c0 x1 a7 n7 c7 x8 a9 n9 c9 x10 p11 x12 w
def thicketref18_Pack.q68 (R : Value → World → Prop) (k37 : Nat) (k52 : Nat) (k67 : Nat) : Exit → Act → World → Prop := Exit.then (fun a w => loopN [0, 1, 7, 8, 9, 10, 11, 12] (codeN Go.Proofs.Try.prog (sub (codeOf Go.Proofs.Try.f16) [1, 1, 1, 1, 0, 1, 0, 0, 1, 0, 0, 1, 0, 1, 0, 0, 1, 0, 0, 1, 0, 1, 0, 0]) (nsub thicketref18_Pack.an [1, 1, 1, 1, 0, 1, 0, 0, 1, 0, 0, 1, 0, 1, 0, 0, 1, 0, 0, 1, 0, 1, 0, 0])) (thicketref18_Pack.q67 R k37 k52) k67 (clr [0, 1, 7, 8, 9, 10, 11, 12] a) w) (thicketref18_Pack.q67 R k37 k52)
def thicketref18_Pack.q74 (R : Value → World → Prop) (k37 : Nat) (k52 : Nat) (k67 : Nat) : Exit → Act → World → Prop := (thicketref18_Pack.q68 R k37 k52 k67)
def thicketref18_Pack.q75 (R : Value → World → Prop) (k37 : Nat) (k52 : Nat) (k67 : Nat) : Exit → Act → World → Prop := Exit.then (startN none (codeN Go.Proofs.Try.prog (sub (codeOf Go.Proofs.Try.f16) [1, 1, 1, 1, 0, 1, 0, 0, 1, 0, 0, 1, 0, 1, 0, 0, 1, 0, 0, 1, 0, 1, 0, 0, 1, 1]) (nsub thicketref18_Pack.an [1, 1, 1, 1, 0, 1, 0, 0, 1, 0, 0, 1, 0, 1, 0, 0, 1, 0, 0, 1, 0, 1, 0, 0, 1, 1]) (thicketref18_Pack.q74 R k37 k52 k67))) (thicketref18_Pack.q74 R k37 k52 k67)
def thicketref18_Pack.q76 (R : Value → World → Prop) (k37 : Nat) (k52 : Nat) (k67 : Nat) : Exit → Act → World → Prop := Exit.inBlock 7 (thicketref18_Pack.q75 R k37 k52 k67)
def thicketref18_Pack.q78 (R : Value → World → Prop) (k37 : Nat) (k52 : Nat) (k67 : Nat) : Exit → Act → World → Prop := (thicketref18_Pack.q76 R k37 k52 k67)
def thicketref18_Pack.q84 (R : Value → World → Prop) (k37 : Nat) (k52 : Nat) (k67 : Nat) : Exit → Act → World → Prop := (thicketref18_Pack.q78 R k37 k52 k67)
def thicketref18_Pack.rj84 (R : Value → World → Prop) (k37 : Nat) (k52 : Nat) (k67 : Nat) (a0 : Option Addr) (n0 : Nat) (c0 : Nat) (x1 : Int) (a7 : Option Addr) (n7 : Nat) (c7 : Nat) (x8 : Int) (a9 : Option Addr) (n9 : Nat) (c9 : Nat) (x10 : Int) (p11 : Option Addr) (x12 : Int) (x13 : Int) (w : World) : Prop := startN (some [0, 1, 7, 8, 9, 10, 11, 12, 13]) (codeN Go.Proofs.Try.prog (sub (codeOf Go.Proofs.Try.f16) [1, 1, 1, 1, 0, 1, 0, 0, 1, 0, 0, 1, 0, 1, 0, 0, 1, 0, 0, 1, 0, 1, 0, 0, 1, 0, 0, 1, 1]) (nsub thicketref18_Pack.an [1, 1, 1, 1, 0, 1, 0, 0, 1, 0, 0, 1, 0, 1, 0, 0, 1, 0, 0, 1, 0, 1, 0, 0, 1, 0, 0, 1, 1]) (thicketref18_Pack.q84 R k37 k52 k67)) ⟨#[.slice a0 n0 c0, .int .i64 x1, undef, undef, undef, undef, undef, .slice a7 n7 c7, .int .i64 x8, .slice a9 n9 c9, .int .i64 x10, .pointer p11, .int .i64 x12, .int .i64 x13, undef, undef, undef, undef, undef, undef, undef, undef, undef, undef, undef, undef, undef, undef, undef, undef, undef, undef, undef, undef, undef, undef, undef, undef, undef, undef, undef, undef, undef, undef, undef, undef, undef, undef, undef, undef, undef, undef, undef, undef, undef, undef, undef, undef, undef, undef, undef, undef, undef, undef, undef, undef, undef, undef, undef, undef, undef, undef, undef, undef, undef, undef], []⟩ w
def thicketref18_Pack.j84 (R : Value → World → Prop) (b37 : (Option Addr) → Nat → Nat → Int → (Option Addr) → Nat → Nat → Int → World → Prop) (b52 : (Option Addr) → Nat → Nat → Int → (Option Addr) → Nat → Nat → Int → (Option Addr) → Nat → Nat → Int → World → Prop) (b67 : (Option Addr) → Nat → Nat → Int → (Option Addr) → Nat → Nat → Int → (Option Addr) → Nat → Nat → Int → (Option Addr) → Int → World → Prop) (a0 : Option Addr) (n0 : Nat) (c0 : Nat) (x1 : Int) (a7 : Option Addr) (n7 : Nat) (c7 : Nat) (x8 : Int) (a9 : Option Addr) (n9 : Nat) (c9 : Nat) (x10 : Int) (p11 : Option Addr) (x12 : Int) (x13 : Int) (w : World) : Prop := thicketref18_Pack.g84 R b67 a0 n0 c0 x1 a7 n7 c7 x8 a9 n9 c9 x10 p11 x12 x13 w
theorem thicketref18_Pack.s84 (R : Value → World → Prop) (k37 : Nat) (k52 : Nat) (k67 : Nat) (a0 : Option Addr) (n0 : Nat) (c0 : Nat) (x1 : Int) (a7 : Option Addr) (n7 : Nat) (c7 : Nat) (x8 : Int) (a9 : Option Addr) (n9 : Nat) (c9 : Nat) (x10 : Int) (p11 : Option Addr) (x12 : Int) (x13 : Int) (w : World) : thicketref18_Pack.rj84 R k37 k52 k67 a0 n0 c0 x1 a7 n7 c7 x8 a9 n9 c9 x10 p11 x12 x13 w = ∀ _ : Nat → Value, thicketref18_Pack.g84 R (thicketref18_Pack.rl67 R k37 k52 k67) a0 n0 c0 x1 a7 n7 c7 x8 a9 n9 c9 x10 p11 x12 x13 w := by kernel_rfl
theorem thicketref18_Pack.jq84 (R : Value → World → Prop) (k37 : Nat) (k52 : Nat) (k67 : Nat) (b37 : (Option Addr) → Nat → Nat → Int → (Option Addr) → Nat → Nat → Int → World → Prop) (b52 : (Option Addr) → Nat → Nat → Int → (Option Addr) → Nat → Nat → Int → (Option Addr) → Nat → Nat → Int → World → Prop) (b67 : (Option Addr) → Nat → Nat → Int → (Option Addr) → Nat → Nat → Int → (Option Addr) → Nat → Nat → Int → (Option Addr) → Int → World → Prop) (hb37 : b37 = thicketref18_Pack.rl37 R k37) (hb52 : b52 = thicketref18_Pack.rl52 R k37 k52) (hb67 : b67 = thicketref18_Pack.rl67 R k37 k52 k67) : thicketref18_Pack.j84 R b37 b52 b67 = thicketref18_Pack.rj84 R k37 k52 k67 := by
    funext a0 n0 c0 x1 a7 n7 c7 x8 a9 n9 c9 x10 p11 x12 x13 w
    rw [thicketref18_Pack.s84, forall_const]
    unfold thicketref18_Pack.j84
    subst hb37
    subst hb52
    subst hb67
    all_goals rfl
def thicketref18_Pack.l67 (R : Value → World → Prop) (b37 : (Option Addr) → Nat → Nat → Int → (Option Addr) → Nat → Nat → Int → World → Prop) (b52 : (Option Addr) → Nat → Nat → Int → (Option Addr) → Nat → Nat → Int → (Option Addr) → Nat → Nat → Int → World → Prop) : Nat → (Option Addr) → Nat → Nat → Int → (Option Addr) → Nat → Nat → Int → (Option Addr) → Nat → Nat → Int → (Option Addr) → Int → World → Prop
  | 0, _, _, _, _, _, _, _, _, _, _, _, _, _, _, _ => False
  | k + 1, a0, n0, c0, x1, a7, n7, c7, x8, a9, n9, c9, x10, p11, x12, w => thicketref18_Pack.g67 R b52 (thicketref18_Pack.j84 R b37 b52 (thicketref18_Pack.l67 R b37 b52 k)) a0 n0 c0 x1 a7 n7 c7 x8 a9 n9 c9 x10 p11 x12 w
def thicketref18_Pack.e67 (R : Value → World → Prop) (b37 : (Option Addr) → Nat → Nat → Int → (Option Addr) → Nat → Nat → Int → World → Prop) (b52 : (Option Addr) → Nat → Nat → Int → (Option Addr) → Nat → Nat → Int → (Option Addr) → Nat → Nat → Int → World → Prop) (a0 : Option Addr) (n0 : Nat) (c0 : Nat) (x1 : Int) (a7 : Option Addr) (n7 : Nat) (c7 : Nat) (x8 : Int) (a9 : Option Addr) (n9 : Nat) (c9 : Nat) (x10 : Int) (p11 : Option Addr) (x12 : Int) (w : World) : Prop := ∃ k, thicketref18_Pack.l67 R b37 b52 k a0 n0 c0 x1 a7 n7 c7 x8 a9 n9 c9 x10 p11 x12 w
theorem thicketref18_Pack.s67 (R : Value → World → Prop) (k37 : Nat) (k52 : Nat) (k : Nat) (a0 : Option Addr) (n0 : Nat) (c0 : Nat) (x1 : Int) (a7 : Option Addr) (n7 : Nat) (c7 : Nat) (x8 : Int) (a9 : Option Addr) (n9 : Nat) (c9 : Nat) (x10 : Int) (p11 : Option Addr) (x12 : Int) (w : World) : thicketref18_Pack.rl67 R k37 k52 (k + 1) a0 n0 c0 x1 a7 n7 c7 x8 a9 n9 c9 x10 p11 x12 w = ∀ _ : Nat → Value, thicketref18_Pack.g67 R (thicketref18_Pack.rl52 R k37 k52) (thicketref18_Pack.rj84 R k37 k52 k) a0 n0 c0 x1 a7 n7 c7 x8 a9 n9 c9 x10 p11 x12 w := by kernel_rfl
theorem thicketref18_Pack.lq67 (R : Value → World → Prop) (k37 : Nat) (k52 : Nat) (b37 : (Option Addr) → Nat → Nat → Int → (Option Addr) → Nat → Nat → Int → World → Prop) (b52 : (Option Addr) → Nat → Nat → Int → (Option Addr) → Nat → Nat → Int → (Option Addr) → Nat → Nat → Int → World → Prop) (hb37 : b37 = thicketref18_Pack.rl37 R k37) (hb52 : b52 = thicketref18_Pack.rl52 R k37 k52) : ∀ k, thicketref18_Pack.l67 R b37 b52 k = thicketref18_Pack.rl67 R k37 k52 k
  | 0 => by funext a0 n0 c0 x1 a7 n7 c7 x8 a9 n9 c9 x10 p11 x12 w; rfl
  | k + 1 => by
    funext a0 n0 c0 x1 a7 n7 c7 x8 a9 n9 c9 x10 p11 x12 w
    rw [thicketref18_Pack.s67, forall_const]
    unfold thicketref18_Pack.l67
    have ih := thicketref18_Pack.lq67 R k37 k52 b37 b52 hb37 hb52 k
    subst hb37
    subst hb52
    rw [thicketref18_Pack.jq84 R k37 k52 k _ _ _ rfl rfl ih]
    all_goals rfl
theorem thicketref18_Pack.eq67 (R : Value → World → Prop) (k37 : Nat) (k52 : Nat) (b37 : (Option Addr) → Nat → Nat → Int → (Option Addr) → Nat → Nat → Int → World → Prop) (b52 : (Option Addr) → Nat → Nat → Int → (Option Addr) → Nat → Nat → Int → (Option Addr) → Nat → Nat → Int → World → Prop) (hb37 : b37 = thicketref18_Pack.rl37 R k37) (hb52 : b52 = thicketref18_Pack.rl52 R k37 k52) : thicketref18_Pack.e67 R b37 b52 = thicketref18_Pack.re67 R k37 k52 := by
  funext a0 n0 c0 x1 a7 n7 c7 x8 a9 n9 c9 x10 p11 x12 w
  unfold thicketref18_Pack.e67 thicketref18_Pack.re67
  simp only [thicketref18_Pack.lq67 R k37 k52 b37 b52 hb37 hb52]
def thicketref18_Pack.l52 (R : Value → World → Prop) (b37 : (Option Addr) → Nat → Nat → Int → (Option Addr) → Nat → Nat → Int → World → Prop) : Nat → (Option Addr) → Nat → Nat → Int → (Option Addr) → Nat → Nat → Int → (Option Addr) → Nat → Nat → Int → World → Prop
  | 0, _, _, _, _, _, _, _, _, _, _, _, _, _ => False
  | k + 1, a0, n0, c0, x1, a7, n7, c7, x8, a9, n9, c9, x10, w => thicketref18_Pack.g52 R b37 (thicketref18_Pack.e67 R b37 (thicketref18_Pack.l52 R b37 k)) a0 n0 c0 x1 a7 n7 c7 x8 a9 n9 c9 x10 w
def thicketref18_Pack.e52 (R : Value → World → Prop) (b37 : (Option Addr) → Nat → Nat → Int → (Option Addr) → Nat → Nat → Int → World → Prop) (a0 : Option Addr) (n0 : Nat) (c0 : Nat) (x1 : Int) (a7 : Option Addr) (n7 : Nat) (c7 : Nat) (x8 : Int) (a9 : Option Addr) (n9 : Nat) (c9 : Nat) (x10 : Int) (w : World) : Prop := ∃ k, thicketref18_Pack.l52 R b37 k a0 n0 c0 x1 a7 n7 c7 x8 a9 n9 c9 x10 w
theorem thicketref18_Pack.s52 (R : Value → World → Prop) (k37 : Nat) (k : Nat) (a0 : Option Addr) (n0 : Nat) (c0 : Nat) (x1 : Int) (a7 : Option Addr) (n7 : Nat) (c7 : Nat) (x8 : Int) (a9 : Option Addr) (n9 : Nat) (c9 : Nat) (x10 : Int) (w : World) : thicketref18_Pack.rl52 R k37 (k + 1) a0 n0 c0 x1 a7 n7 c7 x8 a9 n9 c9 x10 w = ∀ _ : Nat → Value, thicketref18_Pack.g52 R (thicketref18_Pack.rl37 R k37) (thicketref18_Pack.re67 R k37 k) a0 n0 c0 x1 a7 n7 c7 x8 a9 n9 c9 x10 w := by kernel_rfl
theorem thicketref18_Pack.lq52 (R : Value → World → Prop) (k37 : Nat) (b37 : (Option Addr) → Nat → Nat → Int → (Option Addr) → Nat → Nat → Int → World → Prop) (hb37 : b37 = thicketref18_Pack.rl37 R k37) : ∀ k, thicketref18_Pack.l52 R b37 k = thicketref18_Pack.rl52 R k37 k
  | 0 => by funext a0 n0 c0 x1 a7 n7 c7 x8 a9 n9 c9 x10 w; rfl
  | k + 1 => by
    funext a0 n0 c0 x1 a7 n7 c7 x8 a9 n9 c9 x10 w
    rw [thicketref18_Pack.s52, forall_const]
    unfold thicketref18_Pack.l52
    have ih := thicketref18_Pack.lq52 R k37 b37 hb37 k
    subst hb37
    rw [thicketref18_Pack.eq67 R k37 k _ _ rfl ih]
    all_goals rfl
theorem thicketref18_Pack.eq52 (R : Value → World → Prop) (k37 : Nat) (b37 : (Option Addr) → Nat → Nat → Int → (Option Addr) → Nat → Nat → Int → World → Prop) (hb37 : b37 = thicketref18_Pack.rl37 R k37) : thicketref18_Pack.e52 R b37 = thicketref18_Pack.re52 R k37 := by
  funext a0 n0 c0 x1 a7 n7 c7 x8 a9 n9 c9 x10 w
  unfold thicketref18_Pack.e52 thicketref18_Pack.re52
  simp only [thicketref18_Pack.lq52 R k37 b37 hb37]
def thicketref18_Pack.l37 (R : Value → World → Prop) : Nat → (Option Addr) → Nat → Nat → Int → (Option Addr) → Nat → Nat → Int → World → Prop
  | 0, _, _, _, _, _, _, _, _, _ => False
  | k + 1, a0, n0, c0, x1, a7, n7, c7, x8, w => thicketref18_Pack.g37 R (thicketref18_Pack.e52 R (thicketref18_Pack.l37 R k)) a0 n0 c0 x1 a7 n7 c7 x8 w
def thicketref18_Pack.e37 (R : Value → World → Prop) (a0 : Option Addr) (n0 : Nat) (c0 : Nat) (x1 : Int) (a7 : Option Addr) (n7 : Nat) (c7 : Nat) (x8 : Int) (w : World) : Prop := ∃ k, thicketref18_Pack.l37 R k a0 n0 c0 x1 a7 n7 c7 x8 w
theorem thicketref18_Pack.s37 (R : Value → World → Prop) (k : Nat) (a0 : Option Addr) (n0 : Nat) (c0 : Nat) (x1 : Int) (a7 : Option Addr) (n7 : Nat) (c7 : Nat) (x8 : Int) (w : World) : thicketref18_Pack.rl37 R (k + 1) a0 n0 c0 x1 a7 n7 c7 x8 w = ∀ _ : Nat → Value, thicketref18_Pack.g37 R (thicketref18_Pack.re52 R k) a0 n0 c0 x1 a7 n7 c7 x8 w := by kernel_rfl
theorem thicketref18_Pack.lq37 (R : Value → World → Prop) : ∀ k, thicketref18_Pack.l37 R k = thicketref18_Pack.rl37 R k
  | 0 => by funext a0 n0 c0 x1 a7 n7 c7 x8 w; rfl
  | k + 1 => by
    funext a0 n0 c0 x1 a7 n7 c7 x8 w
    rw [thicketref18_Pack.s37, forall_const]
    unfold thicketref18_Pack.l37
    have ih := thicketref18_Pack.lq37 R k
    rw [thicketref18_Pack.eq52 R k _ ih]
    all_goals rfl
theorem thicketref18_Pack.eq37 (R : Value → World → Prop) : thicketref18_Pack.e37 R = thicketref18_Pack.re37 R := by
  funext a0 n0 c0 x1 a7 n7 c7 x8 w
  unfold thicketref18_Pack.e37 thicketref18_Pack.re37
  simp only [thicketref18_Pack.lq37 R]
def thicketref18_Pack.l14 (R : Value → World → Prop) : Nat → (Option Addr) → Nat → Nat → Int → Int → World → Prop
  | 0, _, _, _, _, _, _ => False
  | k + 1, a0, n0, c0, x1, x6, w => thicketref18_Pack.g14 R (thicketref18_Pack.l14 R k) (thicketref18_Pack.e37 R) a0 n0 c0 x1 x6 w
def thicketref18_Pack.e14 (R : Value → World → Prop) (a0 : Option Addr) (n0 : Nat) (c0 : Nat) (x1 : Int) (x6 : Int) (w : World) : Prop := ∃ k, thicketref18_Pack.l14 R k a0 n0 c0 x1 x6 w
theorem thicketref18_Pack.s14 (R : Value → World → Prop) (k : Nat) (a0 : Option Addr) (n0 : Nat) (c0 : Nat) (x1 : Int) (x6 : Int) (w : World) : thicketref18_Pack.rl14 R (k + 1) a0 n0 c0 x1 x6 w = ∀ _ : Nat → Value, thicketref18_Pack.g14 R (thicketref18_Pack.rl14 R k) (thicketref18_Pack.re37 R) a0 n0 c0 x1 x6 w := by kernel_rfl
theorem thicketref18_Pack.lq14 (R : Value → World → Prop) : ∀ k, thicketref18_Pack.l14 R k = thicketref18_Pack.rl14 R k
  | 0 => by funext a0 n0 c0 x1 x6 w; rfl
  | k + 1 => by
    funext a0 n0 c0 x1 x6 w
    rw [thicketref18_Pack.s14, forall_const]
    unfold thicketref18_Pack.l14
    have ih := thicketref18_Pack.lq14 R k
    rw [ih]
    rw [thicketref18_Pack.eq37 R]
    all_goals rfl
theorem thicketref18_Pack.eq14 (R : Value → World → Prop) : thicketref18_Pack.e14 R = thicketref18_Pack.re14 R := by
  funext a0 n0 c0 x1 x6 w
  unfold thicketref18_Pack.e14 thicketref18_Pack.re14
  simp only [thicketref18_Pack.lq14 R]
def thicketref18_Pack (R : Value → World → Prop) (a0 : Option Addr) (n0 : Nat) (c0 : Nat) (x1 : Int) (w : World) : Prop := thicketref18_Pack.g0 R (thicketref18_Pack.e14 R) a0 n0 c0 x1 w
theorem thicketref18_Pack.root0 (R : Value → World → Prop) (a0 : Option Addr) (n0 : Nat) (c0 : Nat) (x1 : Int) (w : World) : fnN Go.Proofs.Try.prog Go.Proofs.Try.f16 thicketref18_Pack.an #[.slice a0 n0 c0, .int .i64 x1] w R = thicketref18_Pack.g0 R (thicketref18_Pack.re14 R) a0 n0 c0 x1 w := by kernel_rfl
theorem thicketref18_Pack.calls {R : Value → World → Prop} {a0 : Option Addr} {n0 : Nat} {c0 : Nat} {x1 : Int} {w : World} (h : thicketref18_Pack R a0 n0 c0 x1 w) : Go.E.CallsD Go.Proofs.Try.prog 16 #[.slice a0 n0 c0, .int .i64 x1] w R := by
  refine callsD_of (n := thicketref18_Pack.an) M_follows M_sizes Go.Proofs.Try.func16 (by rfl) ?_
  rw [thicketref18_Pack.root0]
  unfold thicketref18_Pack at h
  rw [thicketref18_Pack.eq14 R] at h
  exact h
-- thicket/lanes.Unpack
def lanes_Unpack.an : An := (.mk none .nil (.mk none .nil (.mk none .nil (.mk none (.mk none .nil (.mk none (.mk (some [0, 1, 2, 29, 30, 31]) .nil .nil) .nil)) (.mk none .nil (.mk none (.mk none .nil (.mk none (.mk (some [0, 2, 10, 40, 41]) (.mk none .nil (.mk none .nil (.mk none (.mk none (.mk none .nil (.mk none .nil (.mk none (.mk none .nil (.mk none (.mk (some [0, 2, 10, 11, 12, 40, 41, 47, 48]) .nil .nil) .nil)) .nil))) .nil) .nil))) .nil) .nil)) .nil))))))
def lanes_Unpack.g0 (R : Value → World → Prop) (e22 : (Option Addr) → Nat → Nat → Int → Int → (Option Addr) → Nat → Nat → Int → Int → World → Prop) (a0 : Option Addr) (n0 : Nat) (c0 : Nat) (x1 : Int) (x2 : Int) (w : World) : Prop :=
  onBool (decide (x2 < 0))
    (R (.tuple #[.slice none 0 0, .int .i64 2]) w)
    (onBool (decide (x2 > 65536))
      (R (.tuple #[.slice none 0 0, .int .i64 2]) w)
      (onBool (decide (x1 < 0))
        (R (.tuple #[.slice none 0 0, .int .i64 2]) w)
        (Go.E.CallsD Go.Proofs.Try.prog 26 #[.int .i64 x1] w fun v14 u15 =>
          ∃ yx_16 : Int, v14 = .int .i64 yx_16 ∧
            (onBool ((n0 : Int) != yx_16)
              (R (.tuple #[.slice none 0 0, .int .i64 6]) u15)
              (e22 a0 n0 c0 x1 x2 a0 n0 c0 (n0 : Int) 0 u15)))))
def lanes_Unpack.g22 (R : Value → World → Prop) (b22 : (Option Addr) → Nat → Nat → Int → Int → (Option Addr) → Nat → Nat → Int → Int → World → Prop) (e47 : (Option Addr) → Nat → Nat → Int → (Option Addr) → Nat → Nat → Int → Int → World → Prop) (a0 : Option Addr) (n0 : Nat) (c0 : Nat) (x1 : Int) (x2 : Int) (a29 : Option Addr) (n29 : Nat) (c29 : Nat) (x30 : Int) (x31 : Int) (w : World) : Prop :=
  onBool (decide (x31 < x30))
    (optN a29 fun p17 =>
    if (0 : Int) ≤ x31 ∧ x31 < (n29 : Int) then
      ∃ ya_18 : Option Addr, ∃ yn_18 : Nat, ∃ yc_18 : Nat, w.cell? (p17.add (x31.toNat * 1)) = some (.slice ya_18 yn_18 yc_18) ∧
        (onBool ((yn_18 : Int) != x2)
          (R (.tuple #[.slice none 0 0, .int .i64 6]) w)
          (b22 a0 n0 c0 x1 x2 a29 n29 c29 x30 (IntKind.i64.wrap (x31 + 1)) w)) else False)
    (e47 a0 n0 c0 x2 none 0 0 x1 0 w)
def lanes_Unpack.g47 (R : Value → World → Prop) (e64 : (Option Addr) → Nat → Nat → Int → (Option Addr) → Nat → Nat → Int → (Option Addr) → Nat → Nat → Int → Int → Int → Int → World → Prop) (a0 : Option Addr) (n0 : Nat) (c0 : Nat) (x2 : Int) (a10 : Option Addr) (n10 : Nat) (c10 : Nat) (x40 : Int) (x41 : Int) (w : World) : Prop :=
  onBool (decide (x41 < x40))
    (if (0 : Int) ≤ x2 ∧ x2 ≤ x2 ∧ ((8 : Nat) : Int) * x2 ≤ 281474976710656 ∧ x2 ≤ 9223372036854775807 then
      nw (w.alloc (.cells (madeCells #[.float .f64 0] ((x2).toNat * 1)) 22)) fun w19 =>
      e64 a0 n0 c0 x2 a10 n10 c10 x41 (some (na w)) ((x2).toNat) ((x2).toNat) x40 x41 ((x2).toNat : Int) 0 w19 else False)
    (R (.tuple #[.slice a10 n10 c10, .int .i64 0]) w)
def lanes_Unpack.g64 (R : Value → World → Prop) (b47 : (Option Addr) → Nat → Nat → Int → (Option Addr) → Nat → Nat → Int → Int → World → Prop) (b64 : (Option Addr) → Nat → Nat → Int → (Option Addr) → Nat → Nat → Int → (Option Addr) → Nat → Nat → Int → Int → Int → Int → World → Prop) (a0 : Option Addr) (n0 : Nat) (c0 : Nat) (x2 : Int) (a10 : Option Addr) (n10 : Nat) (c10 : Nat) (x11 : Int) (a12 : Option Addr) (n12 : Nat) (c12 : Nat) (x40 : Int) (x41 : Int) (x47 : Int) (x48 : Int) (w : World) : Prop :=
  onBool (decide (x48 < x47))
    (optN a0 fun p20 =>
    if (0 : Int) ≤ IntKind.i64.wrap (Int.tdiv x11 8) ∧ IntKind.i64.wrap (Int.tdiv x11 8) < (n0 : Int) then
      ∃ ya_21 : Option Addr, ∃ yn_21 : Nat, ∃ yc_21 : Nat, w.cell? (p20.add ((IntKind.i64.wrap (Int.tdiv x11 8)).toNat * 1)) = some (.slice ya_21 yn_21 yc_21) ∧
        (optN ya_21 fun p22 =>
        if (0 : Int) ≤ x48 ∧ x48 < (yn_21 : Int) then
          if (0 : Int) ≤ Int.tmod x11 8 ∧ Int.tmod x11 8 < (8 : Int) then
            ∃ yf_23 : Nat, w.cell? ((p22.add (x48.toNat * 8)).add ((Int.tmod x11 8).toNat * 1)) = some (.float .f64 yf_23) ∧
              (optN a12 fun p24 =>
              if (0 : Int) ≤ x48 ∧ x48 < (n12 : Int) then
                okSt w ((p24.add (x48.toNat * 1)).add 0) ∧
                  (nw (w.setCell ((p24.add (x48.toNat * 1)).add 0) (.float .f64 yf_23)) fun w25 =>
                  b64 a0 n0 c0 x2 a10 n10 c10 x11 a12 n12 c12 x40 x41 x47 (IntKind.i64.wrap (x48 + 1)) w25) else False) else False else False) else False)
    (nw (w.alloc (.cells #[.slice a12 n12 c12] 48)) fun w26 =>
    rawN Go.Proofs.Try.prog (Builtin.append_ #[31, 31] 31 #[.slice a10 n10 c10, .slice (some (na w)) 1 1]) w26 fun v27 u28 =>
      ∃ ya_29 : Option Addr, ∃ yn_29 : Nat, ∃ yc_29 : Nat, v27 = .slice ya_29 yn_29 yc_29 ∧
        (b47 a0 n0 c0 x2 ya_29 yn_29 yc_29 x40 (IntKind.i64.wrap (x41 + 1)) u28))
def lanes_Unpack.q2 (R : Value → World → Prop) : Exit → Act → World → Prop := (fin Go.Proofs.Try.prog Go.Proofs.Try.f17 R)
def lanes_Unpack.q10 (R : Value → World → Prop) : Exit → Act → World → Prop := (lanes_Unpack.q2 R)
def lanes_Unpack.q18 (R : Value → World → Prop) : Exit → Act → World → Prop := (lanes_Unpack.q10 R)
def lanes_Unpack.q19 (R : Value → World → Prop) : Exit → Act → World → Prop := Exit.then (startN none (codeN Go.Proofs.Try.prog (sub (codeOf Go.Proofs.Try.f17) [1, 1, 1, 1]) (nsub lanes_Unpack.an [1, 1, 1, 1]) (lanes_Unpack.q18 R))) (lanes_Unpack.q18 R)
def lanes_Unpack.q21 (R : Value → World → Prop) : Exit → Act → World → Prop := (lanes_Unpack.q19 R)
def lanes_Unpack.q22 (R : Value → World → Prop) : Exit → Act → World → Prop := Exit.inBlock 0 (lanes_Unpack.q21 R)
def lanes_Unpack.rl22 (R : Value → World → Prop) (k : Nat) (a0 : Option Addr) (n0 : Nat) (c0 : Nat) (x1 : Int) (x2 : Int) (a29 : Option Addr) (n29 : Nat) (c29 : Nat) (x30 : Int) (x31 : Int) (w : World) : Prop := loopN [0, 1, 2, 29, 30, 31] (codeN Go.Proofs.Try.prog (sub (codeOf Go.Proofs.Try.f17) [1, 1, 1, 0, 1, 0, 0]) (nsub lanes_Unpack.an [1, 1, 1, 0, 1, 0, 0])) (lanes_Unpack.q22 R) k ⟨#[.slice a0 n0 c0, .int .i64 x1, .int .i64 x2, undef, undef, undef, undef, undef, undef, undef, undef, undef, undef, undef, undef, undef, undef, undef, undef, undef, undef, undef, undef, undef, undef, undef, undef, undef, undef, .slice a29 n29 c29, .int .i64 x30, .int .i64 x31, undef, undef, undef, undef, undef, undef, undef, undef, undef, undef, undef, undef, undef, undef, undef, undef, undef, undef, undef, undef, undef, undef, undef, undef, undef, undef, undef, undef, undef, undef, undef, undef, undef, undef, undef, undef, undef, undef, undef, undef], []⟩ w
def lanes_Unpack.re22 (R : Value → World → Prop) (a0 : Option Addr) (n0 : Nat) (c0 : Nat) (x1 : Int) (x2 : Int) (a29 : Option Addr) (n29 : Nat) (c29 : Nat) (x30 : Int) (x31 : Int) (w : World) : Prop := ∃ k, lanes_Unpack.rl22 R k a0 n0 c0 x1 x2 a29 n29 c29 x30 x31 w
def lanes_Unpack.q41 (R : Value → World → Prop) : Exit → Act → World → Prop := (lanes_Unpack.q18 R)
def lanes_Unpack.q43 (R : Value → World → Prop) : Exit → Act → World → Prop := (lanes_Unpack.q41 R)
def lanes_Unpack.q44 (R : Value → World → Prop) : Exit → Act → World → Prop := Exit.then (startN none (codeN Go.Proofs.Try.prog (sub (codeOf Go.Proofs.Try.f17) [1, 1, 1, 1, 1, 1]) (nsub lanes_Unpack.an [1, 1, 1, 1, 1, 1]) (lanes_Unpack.q43 R))) (lanes_Unpack.q43 R)
def lanes_Unpack.q46 (R : Value → World → Prop) : Exit → Act → World → Prop := (lanes_Unpack.q44 R)
def lanes_Unpack.q47 (R : Value → World → Prop) : Exit → Act → World → Prop := Exit.inBlock 2 (lanes_Unpack.q46 R)
def lanes_Unpack.rl47 (R : Value → World → Prop) (k : Nat) (a0 : Option Addr) (n0 : Nat) (c0 : Nat) (x2 : Int) (a10 : Option Addr) (n10 : Nat) (c10 : Nat) (x40 : Int) (x41 : Int) (w : World) : Prop := loopN [0, 2, 10, 40, 41] (codeN Go.Proofs.Try.prog (sub (codeOf Go.Proofs.Try.f17) [1, 1, 1, 1, 1, 0, 1, 0, 0]) (nsub lanes_Unpack.an [1, 1, 1, 1, 1, 0, 1, 0, 0])) (lanes_Unpack.q47 R) k ⟨#[.slice a0 n0 c0, undef, .int .i64 x2, undef, undef, undef, undef, undef, undef, undef, .slice a10 n10 c10, undef, undef, undef, undef, undef, undef, undef, undef, undef, undef, undef, undef, undef, undef, undef, undef, undef, undef, undef, undef, undef, undef, undef, undef, undef, undef, undef, undef, undef, .int .i64 x40, .int .i64 x41, undef, undef, undef, undef, undef, undef, undef, undef, undef, undef, undef, undef, undef, undef, undef, undef, undef, undef, undef, undef, undef, undef, undef, undef, undef, undef, undef, undef, undef, undef], []⟩ w
def lanes_Unpack.re47 (R : Value → World → Prop) (a0 : Option Addr) (n0 : Nat) (c0 : Nat) (x2 : Int) (a10 : Option Addr) (n10 : Nat) (c10 : Nat) (x40 : Int) (x41 : Int) (w : World) : Prop := ∃ k, lanes_Unpack.rl47 R k a0 n0 c0 x2 a10 n10 c10 x40 x41 w
def lanes_Unpack.q48 (R : Value → World → Prop) (k47 : Nat) : Exit → Act → World → Prop := Exit.then (fun a w => loopN [0, 2, 10, 40, 41] (codeN Go.Proofs.Try.prog (sub (codeOf Go.Proofs.Try.f17) [1, 1, 1, 1, 1, 0, 1, 0, 0]) (nsub lanes_Unpack.an [1, 1, 1, 1, 1, 0, 1, 0, 0])) (lanes_Unpack.q47 R) k47 (clr [0, 2, 10, 40, 41] a) w) (lanes_Unpack.q47 R)
def lanes_Unpack.q50 (R : Value → World → Prop) (k47 : Nat) : Exit → Act → World → Prop := (lanes_Unpack.q48 R k47)
def lanes_Unpack.q54 (R : Value → World → Prop) (k47 : Nat) : Exit → Act → World → Prop := (lanes_Unpack.q50 R k47)
def lanes_Unpack.q55 (R : Value → World → Prop) (k47 : Nat) : Exit → Act → World → Prop := Exit.then (startN none (codeN Go.Proofs.Try.prog (sub (codeOf Go.Proofs.Try.f17) [1, 1, 1, 1, 1, 0, 1, 0, 0, 1, 1, 1]) (nsub lanes_Unpack.an [1, 1, 1, 1, 1, 0, 1, 0, 0, 1, 1, 1]) (lanes_Unpack.q54 R k47))) (lanes_Unpack.q54 R k47)
def lanes_Unpack.q56 (R : Value → World → Prop) (k47 : Nat) : Exit → Act → World → Prop := Exit.inBlock 3 (lanes_Unpack.q55 R k47)
def lanes_Unpack.q58 (R : Value → World → Prop) (k47 : Nat) : Exit → Act → World → Prop := (lanes_Unpack.q56 R k47)
def lanes_Unpack.q60 (R : Value → World → Prop) (k47 : Nat) : Exit → Act → World → Prop := (lanes_Unpack.q58 R k47)
def lanes_Unpack.q61 (R : Value → World → Prop) (k47 : Nat) : Exit → Act → World → Prop := Exit.then (startN none (codeN Go.Proofs.Try.prog (sub (codeOf Go.Proofs.Try.f17) [1, 1, 1, 1, 1, 0, 1, 0, 0, 1, 1, 0, 0, 1, 1, 1]) (nsub lanes_Unpack.an [1, 1, 1, 1, 1, 0, 1, 0, 0, 1, 1, 0, 0, 1, 1, 1]) (lanes_Unpack.q60 R k47))) (lanes_Unpack.q60 R k47)
def lanes_Unpack.q63 (R : Value → World → Prop) (k47 : Nat) : Exit → Act → World → Prop := (lanes_Unpack.q61 R k47)
def lanes_Unpack.q64 (R : Value → World → Prop) (k47 : Nat) : Exit → Act → World → Prop := Exit.inBlock 4 (lanes_Unpack.q63 R k47)
def lanes_Unpack.rl64 (R : Value → World → Prop) (k47 : Nat) (k : Nat) (a0 : Option Addr) (n0 : Nat) (c0 : Nat) (x2 : Int) (a10 : Option Addr) (n10 : Nat) (c10 : Nat) (x11 : Int) (a12 : Option Addr) (n12 : Nat) (c12 : Nat) (x40 : Int) (x41 : Int) (x47 : Int) (x48 : Int) (w : World) : Prop := loopN [0, 2, 10, 11, 12, 40, 41, 47, 48] (codeN Go.Proofs.Try.prog (sub (codeOf Go.Proofs.Try.f17) [1, 1, 1, 1, 1, 0, 1, 0, 0, 1, 1, 0, 0, 1, 1, 0, 1, 0, 0]) (nsub lanes_Unpack.an [1, 1, 1, 1, 1, 0, 1, 0, 0, 1, 1, 0, 0, 1, 1, 0, 1, 0, 0])) (lanes_Unpack.q64 R k47) k ⟨#[.slice a0 n0 c0, undef, .int .i64 x2, undef, undef, undef, undef, undef, undef, undef, .slice a10 n10 c10, .int .i64 x11, .slice a12 n12 c12, undef, undef, undef, undef, undef, undef, undef, undef, undef, undef, undef, undef, undef, undef, undef, undef, undef, undef, undef, undef, undef, undef, undef, undef, undef, undef, undef, .int .i64 x40, .int .i64 x41, undef, undef, undef, undef, undef, .int .i64 x47, .int .i64 x48, undef, undef, undef, undef, undef, undef, undef, undef, undef, undef, undef, undef, undef, undef, undef, undef, undef, undef, undef, undef, undef, undef, undef], []⟩ w
def lanes_Unpack.re64 (R : Value → World → Prop) (k47 : Nat) (a0 : Option Addr) (n0 : Nat) (c0 : Nat) (x2 : Int) (a10 : Option Addr) (n10 : Nat) (c10 : Nat) (x11 : Int) (a12 : Option Addr) (n12 : Nat) (c12 : Nat) (x40 : Int) (x41 : Int) (x47 : Int) (x48 : Int) (w : World) : Prop := ∃ k, lanes_Unpack.rl64 R k47 k a0 n0 c0 x2 a10 n10 c10 x11 a12 n12 c12 x40 x41 x47 x48 w
def lanes_Unpack.l64 (R : Value → World → Prop) (b47 : (Option Addr) → Nat → Nat → Int → (Option Addr) → Nat → Nat → Int → Int → World → Prop) : Nat → (Option Addr) → Nat → Nat → Int → (Option Addr) → Nat → Nat → Int → (Option Addr) → Nat → Nat → Int → Int → Int → Int → World → Prop
  | 0, _, _, _, _, _, _, _, _, _, _, _, _, _, _, _, _ => False
  | k + 1, a0, n0, c0, x2, a10, n10, c10, x11, a12, n12, c12, x40, x41, x47, x48, w => lanes_Unpack.g64 R b47 (lanes_Unpack.l64 R b47 k) a0 n0 c0 x2 a10 n10 c10 x11 a12 n12 c12 x40 x41 x47 x48 w
def lanes_Unpack.e64 (R : Value → World → Prop) (b47 : (Option Addr) → Nat → Nat → Int → (Option Addr) → Nat → Nat → Int → Int → World → Prop) (a0 : Option Addr) (n0 : Nat) (c0 : Nat) (x2 : Int) (a10 : Option Addr) (n10 : Nat) (c10 : Nat) (x11 : Int) (a12 : Option Addr) (n12 : Nat) (c12 : Nat) (x40 : Int) (x41 : Int) (x47 : Int) (x48 : Int) (w : World) : Prop := ∃ k, lanes_Unpack.l64 R b47 k a0 n0 c0 x2 a10 n10 c10 x11 a12 n12 c12 x40 x41 x47 x48 w
theorem lanes_Unpack.s64 (R : Value → World → Prop) (k47 : Nat) (k : Nat) (a0 : Option Addr) (n0 : Nat) (c0 : Nat) (x2 : Int) (a10 : Option Addr) (n10 : Nat) (c10 : Nat) (x11 : Int) (a12 : Option Addr) (n12 : Nat) (c12 : Nat) (x40 : Int) (x41 : Int) (x47 : Int) (x48 : Int) (w : World) : lanes_Unpack.rl64 R k47 (k + 1) a0 n0 c0 x2 a10 n10 c10 x11 a12 n12 c12 x40 x41 x47 x48 w = ∀ _ : Nat → Value, lanes_Unpack.g64 R (lanes_Unpack.rl47 R k47) (lanes_Unpack.rl64 R k47 k) a0 n0 c0 x2 a10 n10 c10 x11 a12 n12 c12 x40 x41 x47 x48 w := by kernel_rfl
theorem lanes_Unpack.lq64 (R : Value → World → Prop) (k47 : Nat) (b47 : (Option Addr) → Nat → Nat → Int → (Option Addr) → Nat → Nat → Int → Int → World → Prop) (hb47 : b47 = lanes_Unpack.rl47 R k47) : ∀ k, lanes_Unpack.l64 R b47 k = lanes_Unpack.rl64 R k47 k
  | 0 => by funext a0 n0 c0 x2 a10 n10 c10 x11 a12 n12 c12 x40 x41 x47 x48 w; rfl
  | k + 1 => by
    funext a0 n0 c0 x2 a10 n10 c10 x11 a12 n12 c12 x40 x41 x47 x48 w
    rw [lanes_Unpack.s64, forall_const]
    unfold lanes_Unpack.l64
    have ih := lanes_Unpack.lq64 R k47 b47 hb47 k
    subst hb47
    rw [ih]
    all_goals rfl
theorem lanes_Unpack.eq64 (R : Value → World → Prop) (k47 : Nat) (b47 : (Option Addr) → Nat → Nat → Int → (Option Addr) → Nat → Nat → Int → Int → World → Prop) (hb47 : b47 = lanes_Unpack.rl47 R k47) : lanes_Unpack.e64 R b47 = lanes_Unpack.re64 R k47 := by
  funext a0 n0 c0 x2 a10 n10 c10 x11 a12 n12 c12 x40 x41 x47 x48 w
  unfold lanes_Unpack.e64 lanes_Unpack.re64
  simp only [lanes_Unpack.lq64 R k47 b47 hb47]
def lanes_Unpack.l47 (R : Value → World → Prop) : Nat → (Option Addr) → Nat → Nat → Int → (Option Addr) → Nat → Nat → Int → Int → World → Prop
  | 0, _, _, _, _, _, _, _, _, _, _ => False
  | k + 1, a0, n0, c0, x2, a10, n10, c10, x40, x41, w => lanes_Unpack.g47 R (lanes_Unpack.e64 R (lanes_Unpack.l47 R k)) a0 n0 c0 x2 a10 n10 c10 x40 x41 w
def lanes_Unpack.e47 (R : Value → World → Prop) (a0 : Option Addr) (n0 : Nat) (c0 : Nat) (x2 : Int) (a10 : Option Addr) (n10 : Nat) (c10 : Nat) (x40 : Int) (x41 : Int) (w : World) : Prop := ∃ k, lanes_Unpack.l47 R k a0 n0 c0 x2 a10 n10 c10 x40 x41 w
theorem lanes_Unpack.s47 (R : Value → World → Prop) (k : Nat) (a0 : Option Addr) (n0 : Nat) (c0 : Nat) (x2 : Int) (a10 : Option Addr) (n10 : Nat) (c10 : Nat) (x40 : Int) (x41 : Int) (w : World) : lanes_Unpack.rl47 R (k + 1) a0 n0 c0 x2 a10 n10 c10 x40 x41 w = ∀ _ : Nat → Value, lanes_Unpack.g47 R (lanes_Unpack.re64 R k) a0 n0 c0 x2 a10 n10 c10 x40 x41 w := by kernel_rfl
theorem lanes_Unpack.lq47 (R : Value → World → Prop) : ∀ k, lanes_Unpack.l47 R k = lanes_Unpack.rl47 R k
  | 0 => by funext a0 n0 c0 x2 a10 n10 c10 x40 x41 w; rfl
  | k + 1 => by
    funext a0 n0 c0 x2 a10 n10 c10 x40 x41 w
    rw [lanes_Unpack.s47, forall_const]
    unfold lanes_Unpack.l47
    have ih := lanes_Unpack.lq47 R k
    rw [lanes_Unpack.eq64 R k _ ih]
    all_goals rfl
theorem lanes_Unpack.eq47 (R : Value → World → Prop) : lanes_Unpack.e47 R = lanes_Unpack.re47 R := by
  funext a0 n0 c0 x2 a10 n10 c10 x40 x41 w
  unfold lanes_Unpack.e47 lanes_Unpack.re47
  simp only [lanes_Unpack.lq47 R]
def lanes_Unpack.l22 (R : Value → World → Prop) : Nat → (Option Addr) → Nat → Nat → Int → Int → (Option Addr) → Nat → Nat → Int → Int → World → Prop
  | 0, _, _, _, _, _, _, _, _, _, _, _ => False
  | k + 1, a0, n0, c0, x1, x2, a29, n29, c29, x30, x31, w => lanes_Unpack.g22 R (lanes_Unpack.l22 R k) (lanes_Unpack.e47 R) a0 n0 c0 x1 x2 a29 n29 c29 x30 x31 w
def lanes_Unpack.e22 (R : Value → World → Prop) (a0 : Option Addr) (n0 : Nat) (c0 : Nat) (x1 : Int) (x2 : Int) (a29 : Option Addr) (n29 : Nat) (c29 : Nat) (x30 : Int) (x31 : Int) (w : World) : Prop := ∃ k, lanes_Unpack.l22 R k a0 n0 c0 x1 x2 a29 n29 c29 x30 x31 w
theorem lanes_Unpack.s22 (R : Value → World → Prop) (k : Nat) (a0 : Option Addr) (n0 : Nat) (c0 : Nat) (x1 : Int) (x2 : Int) (a29 : Option Addr) (n29 : Nat) (c29 : Nat) (x30 : Int) (x31 : Int) (w : World) : lanes_Unpack.rl22 R (k + 1) a0 n0 c0 x1 x2 a29 n29 c29 x30 x31 w = ∀ _ : Nat → Value, lanes_Unpack.g22 R (lanes_Unpack.rl22 R k) (lanes_Unpack.re47 R) a0 n0 c0 x1 x2 a29 n29 c29 x30 x31 w := by kernel_rfl
theorem lanes_Unpack.lq22 (R : Value → World → Prop) : ∀ k, lanes_Unpack.l22 R k = lanes_Unpack.rl22 R k
  | 0 => by funext a0 n0 c0 x1 x2 a29 n29 c29 x30 x31 w; rfl
  | k + 1 => by
    funext a0 n0 c0 x1 x2 a29 n29 c29 x30 x31 w
    rw [lanes_Unpack.s22, forall_const]
    unfold lanes_Unpack.l22
    have ih := lanes_Unpack.lq22 R k
    rw [ih]
    rw [lanes_Unpack.eq47 R]
    all_goals rfl
theorem lanes_Unpack.eq22 (R : Value → World → Prop) : lanes_Unpack.e22 R = lanes_Unpack.re22 R := by
  funext a0 n0 c0 x1 x2 a29 n29 c29 x30 x31 w
  unfold lanes_Unpack.e22 lanes_Unpack.re22
  simp only [lanes_Unpack.lq22 R]
def lanes_Unpack (R : Value → World → Prop) (a0 : Option Addr) (n0 : Nat) (c0 : Nat) (x1 : Int) (x2 : Int) (w : World) : Prop := lanes_Unpack.g0 R (lanes_Unpack.e22 R) a0 n0 c0 x1 x2 w
theorem lanes_Unpack.root0 (R : Value → World → Prop) (a0 : Option Addr) (n0 : Nat) (c0 : Nat) (x1 : Int) (x2 : Int) (w : World) : fnN Go.Proofs.Try.prog Go.Proofs.Try.f17 lanes_Unpack.an #[.slice a0 n0 c0, .int .i64 x1, .int .i64 x2] w R = lanes_Unpack.g0 R (lanes_Unpack.re22 R) a0 n0 c0 x1 x2 w := by kernel_rfl
theorem lanes_Unpack.calls {R : Value → World → Prop} {a0 : Option Addr} {n0 : Nat} {c0 : Nat} {x1 : Int} {x2 : Int} {w : World} (h : lanes_Unpack R a0 n0 c0 x1 x2 w) : Go.E.CallsD Go.Proofs.Try.prog 17 #[.slice a0 n0 c0, .int .i64 x1, .int .i64 x2] w R := by
  refine callsD_of (n := lanes_Unpack.an) M_follows M_sizes Go.Proofs.Try.func17 (by rfl) ?_
  rw [lanes_Unpack.root0]
  unfold lanes_Unpack at h
  rw [lanes_Unpack.eq22 R] at h
  exact h
-- thicket/thicketref18.Unpack
def thicketref18_Unpack.an : An := (.mk none .nil (.mk none .nil (.mk none .nil (.mk none .nil (.mk none .nil (.mk none (.mk none .nil (.mk none (.mk (some [0, 1, 2, 9]) .nil .nil) .nil)) (.mk none .nil (.mk none (.mk none .nil (.mk none (.mk (some [0, 1, 2, 10, 11]) (.mk none .nil (.mk none (.mk none (.mk none .nil (.mk none (.mk none .nil (.mk none (.mk (some [0, 1, 2, 10, 11, 12, 13]) .nil .nil) .nil)) .nil)) .nil) .nil)) .nil) .nil)) .nil))))))))
def thicketref18_Unpack.g0 (R : Value → World → Prop) (e30 : (Option Addr) → Nat → Nat → Int → Int → Int → World → Prop) (a0 : Option Addr) (n0 : Nat) (c0 : Nat) (x1 : Int) (x2 : Int) (w : World) : Prop :=
  onBool (decide (x2 < 0))
    (R (.tuple #[.slice none 0 0, .int .i64 2]) w)
    (onBool (decide (x2 > 65536))
      (R (.tuple #[.slice none 0 0, .int .i64 2]) w)
      (onBool (decide (x1 < 0))
        (R (.tuple #[.slice none 0 0, .int .i64 2]) w)
        (onBool (decide ((Int.tmod x1 8) > 0))
          (onBool ((n0 : Int) != (IntKind.i64.wrap ((IntKind.i64.wrap (Int.tdiv x1 8)) + 1)))
            (R (.tuple #[.slice none 0 0, .int .i64 6]) w)
            (e30 a0 n0 c0 x1 x2 0 w))
          (onBool ((n0 : Int) != (IntKind.i64.wrap (Int.tdiv x1 8)))
            (R (.tuple #[.slice none 0 0, .int .i64 6]) w)
            (e30 a0 n0 c0 x1 x2 0 w)))))
def thicketref18_Unpack.g30 (R : Value → World → Prop) (b30 : (Option Addr) → Nat → Nat → Int → Int → Int → World → Prop) (e53 : (Option Addr) → Nat → Nat → Int → Int → (Option Addr) → Nat → Nat → Int → World → Prop) (a0 : Option Addr) (n0 : Nat) (c0 : Nat) (x1 : Int) (x2 : Int) (x9 : Int) (w : World) : Prop :=
  onBool (decide (x9 < (n0 : Int)))
    (optN a0 fun p15 =>
    if (0 : Int) ≤ x9 ∧ x9 < (n0 : Int) then
      ∃ ya_16 : Option Addr, ∃ yn_16 : Nat, ∃ yc_16 : Nat, w.cell? (p15.add (x9.toNat * 1)) = some (.slice ya_16 yn_16 yc_16) ∧
        (onBool ((yn_16 : Int) != x2)
          (R (.tuple #[.slice none 0 0, .int .i64 6]) w)
          (b30 a0 n0 c0 x1 x2 (IntKind.i64.wrap (x9 + 1)) w)) else False)
    (e53 a0 n0 c0 x1 x2 none 0 0 0 w)
def thicketref18_Unpack.g53 (R : Value → World → Prop) (e68 : (Option Addr) → Nat → Nat → Int → Int → (Option Addr) → Nat → Nat → Int → (Option Addr) → Nat → Nat → Int → World → Prop) (a0 : Option Addr) (n0 : Nat) (c0 : Nat) (x1 : Int) (x2 : Int) (a10 : Option Addr) (n10 : Nat) (c10 : Nat) (x11 : Int) (w : World) : Prop :=
  onBool (decide (x11 < x1))
    (e68 a0 n0 c0 x1 x2 a10 n10 c10 x11 none 0 0 0 w)
    (R (.tuple #[.slice a10 n10 c10, .int .i64 0]) w)
def thicketref18_Unpack.g68 (R : Value → World → Prop) (b53 : (Option Addr) → Nat → Nat → Int → Int → (Option Addr) → Nat → Nat → Int → World → Prop) (b68 : (Option Addr) → Nat → Nat → Int → Int → (Option Addr) → Nat → Nat → Int → (Option Addr) → Nat → Nat → Int → World → Prop) (a0 : Option Addr) (n0 : Nat) (c0 : Nat) (x1 : Int) (x2 : Int) (a10 : Option Addr) (n10 : Nat) (c10 : Nat) (x11 : Int) (a12 : Option Addr) (n12 : Nat) (c12 : Nat) (x13 : Int) (w : World) : Prop :=
  onBool (decide (x13 < x2))
    (optN a0 fun p17 =>
    if (0 : Int) ≤ IntKind.i64.wrap (Int.tdiv x11 8) ∧ IntKind.i64.wrap (Int.tdiv x11 8) < (n0 : Int) then
      ∃ ya_18 : Option Addr, ∃ yn_18 : Nat, ∃ yc_18 : Nat, w.cell? (p17.add ((IntKind.i64.wrap (Int.tdiv x11 8)).toNat * 1)) = some (.slice ya_18 yn_18 yc_18) ∧
        (optN ya_18 fun p19 =>
        if (0 : Int) ≤ x13 ∧ x13 < (yn_18 : Int) then
          if (0 : Int) ≤ Int.tmod x11 8 ∧ Int.tmod x11 8 < (8 : Int) then
            ∃ yf_20 : Nat, w.cell? ((p19.add (x13.toNat * 8)).add ((Int.tmod x11 8).toNat * 1)) = some (.float .f64 yf_20) ∧
              (nw (w.alloc (.cells #[.float .f64 yf_20] 22)) fun w21 =>
              rawN Go.Proofs.Try.prog (Builtin.append_ #[48, 48] 48 #[.slice a12 n12 c12, .slice (some (na w)) 1 1]) w21 fun v22 u23 =>
                ∃ ya_24 : Option Addr, ∃ yn_24 : Nat, ∃ yc_24 : Nat, v22 = .slice ya_24 yn_24 yc_24 ∧
                  (b68 a0 n0 c0 x1 x2 a10 n10 c10 x11 ya_24 yn_24 yc_24 (IntKind.i64.wrap (x13 + 1)) u23)) else False else False) else False)
    (nw (w.alloc (.cells #[.slice a12 n12 c12] 48)) fun w25 =>
    rawN Go.Proofs.Try.prog (Builtin.append_ #[31, 31] 31 #[.slice a10 n10 c10, .slice (some (na w)) 1 1]) w25 fun v26 u27 =>
      ∃ ya_28 : Option Addr, ∃ yn_28 : Nat, ∃ yc_28 : Nat, v26 = .slice ya_28 yn_28 yc_28 ∧
        (b53 a0 n0 c0 x1 x2 ya_28 yn_28 yc_28 (IntKind.i64.wrap (x11 + 1)) u27))
def thicketref18_Unpack.q2 (R : Value → World → Prop) : Exit → Act → World → Prop := (fin Go.Proofs.Try.prog Go.Proofs.Try.f18 R)
def thicketref18_Unpack.q10 (R : Value → World → Prop) : Exit → Act → World → Prop := (thicketref18_Unpack.q2 R)
def thicketref18_Unpack.q12 (R : Value → World → Prop) : Exit → Act → World → Prop := (thicketref18_Unpack.q10 R)
def thicketref18_Unpack.q18 (R : Value → World → Prop) : Exit → Act → World → Prop := (thicketref18_Unpack.q12 R)
def thicketref18_Unpack.q26 (R : Value → World → Prop) : Exit → Act → World → Prop := (thicketref18_Unpack.q18 R)
def thicketref18_Unpack.q27 (R : Value → World → Prop) : Exit → Act → World → Prop := Exit.then (startN none (codeN Go.Proofs.Try.prog (sub (codeOf Go.Proofs.Try.f18) [1, 1, 1, 1, 1, 1]) (nsub thicketref18_Unpack.an [1, 1, 1, 1, 1, 1]) (thicketref18_Unpack.q26 R))) (thicketref18_Unpack.q26 R)
def thicketref18_Unpack.q29 (R : Value → World → Prop) : Exit → Act → World → Prop := (thicketref18_Unpack.q27 R)
def thicketref18_Unpack.q30 (R : Value → World → Prop) : Exit → Act → World → Prop := Exit.inBlock 0 (thicketref18_Unpack.q29 R)
def thicketref18_Unpack.rl30 (R : Value → World → Prop) (k : Nat) (a0 : Option Addr) (n0 : Nat) (c0 : Nat) (x1 : Int) (x2 : Int) (x9 : Int) (w : World) : Prop := loopN [0, 1, 2, 9] (codeN Go.Proofs.Try.prog (sub (codeOf Go.Proofs.Try.f18) [1, 1, 1, 1, 1, 0, 1, 0, 0]) (nsub thicketref18_Unpack.an [1, 1, 1, 1, 1, 0, 1, 0, 0])) (thicketref18_Unpack.q30 R) k ⟨#[.slice a0 n0 c0, .int .i64 x1, .int .i64 x2, undef, undef, undef, undef, undef, undef, .int .i64 x9, undef, undef, undef, undef, undef, undef, undef, undef, undef, undef, undef, undef, undef, undef, undef, undef, undef, undef, undef, undef, undef, undef, undef, undef, undef, undef, undef, undef, undef, undef, undef, undef, undef, undef, undef, undef, undef, undef, undef, undef, undef, undef, undef, undef, undef, undef, undef, undef, undef, undef, undef, undef, undef, undef, undef, undef, undef, undef, undef, undef, undef, undef, undef, undef, undef, undef, undef], []⟩ w
def thicketref18_Unpack.re30 (R : Value → World → Prop) (a0 : Option Addr) (n0 : Nat) (c0 : Nat) (x1 : Int) (x2 : Int) (x9 : Int) (w : World) : Prop := ∃ k, thicketref18_Unpack.rl30 R k a0 n0 c0 x1 x2 x9 w
def thicketref18_Unpack.q47 (R : Value → World → Prop) : Exit → Act → World → Prop := (thicketref18_Unpack.q26 R)
def thicketref18_Unpack.q49 (R : Value → World → Prop) : Exit → Act → World → Prop := (thicketref18_Unpack.q47 R)
def thicketref18_Unpack.q50 (R : Value → World → Prop) : Exit → Act → World → Prop := Exit.then (startN none (codeN Go.Proofs.Try.prog (sub (codeOf Go.Proofs.Try.f18) [1, 1, 1, 1, 1, 1, 1, 1]) (nsub thicketref18_Unpack.an [1, 1, 1, 1, 1, 1, 1, 1]) (thicketref18_Unpack.q49 R))) (thicketref18_Unpack.q49 R)
def thicketref18_Unpack.q52 (R : Value → World → Prop) : Exit → Act → World → Prop := (thicketref18_Unpack.q50 R)
def thicketref18_Unpack.q53 (R : Value → World → Prop) : Exit → Act → World → Prop := Exit.inBlock 2 (thicketref18_Unpack.q52 R)
def thicketref18_Unpack.rl53 (R : Value → World → Prop) (k : Nat) (a0 : Option Addr) (n0 : Nat) (c0 : Nat) (x1 : Int) (x2 : Int) (a10 : Option Addr) (n10 : Nat) (c10 : Nat) (x11 : Int) (w : World) : Prop := loopN [0, 1, 2, 10, 11] (codeN Go.Proofs.Try.prog (sub (codeOf Go.Proofs.Try.f18) [1, 1, 1, 1, 1, 1, 1, 0, 1, 0, 0]) (nsub thicketref18_Unpack.an [1, 1, 1, 1, 1, 1, 1, 0, 1, 0, 0])) (thicketref18_Unpack.q53 R) k ⟨#[.slice a0 n0 c0, .int .i64 x1, .int .i64 x2, undef, undef, undef, undef, undef, undef, undef, .slice a10 n10 c10, .int .i64 x11, undef, undef, undef, undef, undef, undef, undef, undef, undef, undef, undef, undef, undef, undef, undef, undef, undef, undef, undef, undef, undef, undef, undef, undef, undef, undef, undef, undef, undef, undef, undef, undef, undef, undef, undef, undef, undef, undef, undef, undef, undef, undef, undef, undef, undef, undef, undef, undef, undef, undef, undef, undef, undef, undef, undef, undef, undef, undef, undef, undef, undef, undef, undef, undef, undef], []⟩ w
def thicketref18_Unpack.re53 (R : Value → World → Prop) (a0 : Option Addr) (n0 : Nat) (c0 : Nat) (x1 : Int) (x2 : Int) (a10 : Option Addr) (n10 : Nat) (c10 : Nat) (x11 : Int) (w : World) : Prop := ∃ k, thicketref18_Unpack.rl53 R k a0 n0 c0 x1 x2 a10 n10 c10 x11 w
def thicketref18_Unpack.q54 (R : Value → World → Prop) (k53 : Nat) : Exit → Act → World → Prop := Exit.then (fun a w => loopN [0, 1, 2, 10, 11] (codeN Go.Proofs.Try.prog (sub (codeOf Go.Proofs.Try.f18) [1, 1, 1, 1, 1, 1, 1, 0, 1, 0, 0]) (nsub thicketref18_Unpack.an [1, 1, 1, 1, 1, 1, 1, 0, 1, 0, 0])) (thicketref18_Unpack.q53 R) k53 (clr [0, 1, 2, 10, 11] a) w) (thicketref18_Unpack.q53 R)
def thicketref18_Unpack.q60 (R : Value → World → Prop) (k53 : Nat) : Exit → Act → World → Prop := (thicketref18_Unpack.q54 R k53)
def thicketref18_Unpack.q61 (R : Value → World → Prop) (k53 : Nat) : Exit → Act → World → Prop := Exit.then (startN none (codeN Go.Proofs.Try.prog (sub (codeOf Go.Proofs.Try.f18) [1, 1, 1, 1, 1, 1, 1, 0, 1, 0, 0, 1, 1]) (nsub thicketref18_Unpack.an [1, 1, 1, 1, 1, 1, 1, 0, 1, 0, 0, 1, 1]) (thicketref18_Unpack.q60 R k53))) (thicketref18_Unpack.q60 R k53)
def thicketref18_Unpack.q62 (R : Value → World → Prop) (k53 : Nat) : Exit → Act → World → Prop := Exit.inBlock 3 (thicketref18_Unpack.q61 R k53)
def thicketref18_Unpack.q64 (R : Value → World → Prop) (k53 : Nat) : Exit → Act → World → Prop := (thicketref18_Unpack.q62 R k53)
def thicketref18_Unpack.q65 (R : Value → World → Prop) (k53 : Nat) : Exit → Act → World → Prop := Exit.then (startN none (codeN Go.Proofs.Try.prog (sub (codeOf Go.Proofs.Try.f18) [1, 1, 1, 1, 1, 1, 1, 0, 1, 0, 0, 1, 0, 0, 1, 1]) (nsub thicketref18_Unpack.an [1, 1, 1, 1, 1, 1, 1, 0, 1, 0, 0, 1, 0, 0, 1, 1]) (thicketref18_Unpack.q64 R k53))) (thicketref18_Unpack.q64 R k53)
def thicketref18_Unpack.q67 (R : Value → World → Prop) (k53 : Nat) : Exit → Act → World → Prop := (thicketref18_Unpack.q65 R k53)
def thicketref18_Unpack.q68 (R : Value → World → Prop) (k53 : Nat) : Exit → Act → World → Prop := Exit.inBlock 4 (thicketref18_Unpack.q67 R k53)
def thicketref18_Unpack.rl68 (R : Value → World → Prop) (k53 : Nat) (k : Nat) (a0 : Option Addr) (n0 : Nat) (c0 : Nat) (x1 : Int) (x2 : Int) (a10 : Option Addr) (n10 : Nat) (c10 : Nat) (x11 : Int) (a12 : Option Addr) (n12 : Nat) (c12 : Nat) (x13 : Int) (w : World) : Prop := loopN [0, 1, 2, 10, 11, 12, 13] (codeN Go.Proofs.Try.prog (sub (codeOf Go.Proofs.Try.f18) [1, 1, 1, 1, 1, 1, 1, 0, 1, 0, 0, 1, 0, 0, 1, 0, 1, 0, 0]) (nsub thicketref18_Unpack.an [1, 1, 1, 1, 1, 1, 1, 0, 1, 0, 0, 1, 0, 0, 1, 0, 1, 0, 0])) (thicketref18_Unpack.q68 R k53) k ⟨#[.slice a0 n0 c0, .int .i64 x1, .int .i64 x2, undef, undef, undef, undef, undef, undef, undef, .slice a10 n10 c10, .int .i64 x11, .slice a12 n12 c12, .int .i64 x13, undef, undef, undef, undef, undef, undef, undef, undef, undef, undef, undef, undef, undef, undef, undef, undef, undef, undef, undef, undef, undef, undef, undef, undef, undef, undef, undef, undef, undef, undef, undef, undef, undef, undef, undef, undef, undef, undef, undef, undef, undef, undef, undef, undef, undef, undef, undef, undef, undef, undef, undef, undef, undef, undef, undef, undef, undef, undef, undef, undef, undef, undef, undef], []⟩ w
def thicketref18_Unpack.re68 (R : Value → World → Prop) (k53 : Nat) (a0 : Option Addr) (n0 : Nat) (c0 : Nat) (x1 : Int) (x2 : Int) (a10 : Option Addr) (n10 : Nat) (c10 : Nat) (x11 : Int) (a12 : Option Addr) (n12 : Nat) (c12 : Nat) (x13 : Int) (w : World) : Prop := ∃ k, thicketref18_Unpack.rl68 R k53 k a0 n0 c0 x1 x2 a10 n10 c10 x11 a12 n12 c12 x13 w
def thicketref18_Unpack.l68 (R : Value → World → Prop) (b53 : (Option Addr) → Nat → Nat → Int → Int → (Option Addr) → Nat → Nat → Int → World → Prop) : Nat → (Option Addr) → Nat → Nat → Int → Int → (Option Addr) → Nat → Nat → Int → (Option Addr) → Nat → Nat → Int → World → Prop
  | 0, _, _, _, _, _, _, _, _, _, _, _, _, _, _ => False
  | k + 1, a0, n0, c0, x1, x2, a10, n10, c10, x11, a12, n12, c12, x13, w => thicketref18_Unpack.g68 R b53 (thicketref18_Unpack.l68 R b53 k) a0 n0 c0 x1 x2 a10 n10 c10 x11 a12 n12 c12 x13 w
def thicketref18_Unpack.e68 (R : Value → World → Prop) (b53 : (Option Addr) → Nat → Nat → Int → Int → (Option Addr) → Nat → Nat → Int → World → Prop) (a0 : Option Addr) (n0 : Nat) (c0 : Nat) (x1 : Int) (x2 : Int) (a10 : Option Addr) (n10 : Nat) (c10 : Nat) (x11 : Int) (a12 : Option Addr) (n12 : Nat) (c12 : Nat) (x13 : Int) (w : World) : Prop := ∃ k, thicketref18_Unpack.l68 R b53 k a0 n0 c0 x1 x2 a10 n10 c10 x11 a12 n12 c12 x13 w
theorem thicketref18_Unpack.s68 (R : Value → World → Prop) (k53 : Nat) (k : Nat) (a0 : Option Addr) (n0 : Nat) (c0 : Nat) (x1 : Int) (x2 : Int) (a10 : Option Addr) (n10 : Nat) (c10 : Nat) (x11 : Int) (a12 : Option Addr) (n12 : Nat) (c12 : Nat) (x13 : Int) (w : World) : thicketref18_Unpack.rl68 R k53 (k + 1) a0 n0 c0 x1 x2 a10 n10 c10 x11 a12 n12 c12 x13 w = ∀ _ : Nat → Value, thicketref18_Unpack.g68 R (thicketref18_Unpack.rl53 R k53) (thicketref18_Unpack.rl68 R k53 k) a0 n0 c0 x1 x2 a10 n10 c10 x11 a12 n12 c12 x13 w := by kernel_rfl
theorem thicketref18_Unpack.lq68 (R : Value → World → Prop) (k53 : Nat) (b53 : (Option Addr) → Nat → Nat → Int → Int → (Option Addr) → Nat → Nat → Int → World → Prop) (hb53 : b53 = thicketref18_Unpack.rl53 R k53) : ∀ k, thicketref18_Unpack.l68 R b53 k = thicketref18_Unpack.rl68 R k53 k
  | 0 => by funext a0 n0 c0 x1 x2 a10 n10 c10 x11 a12 n12 c12 x13 w; rfl
  | k + 1 => by
    funext a0 n0 c0 x1 x2 a10 n10 c10 x11 a12 n12 c12 x13 w
    rw [thicketref18_Unpack.s68, forall_const]
    unfold thicketref18_Unpack.l68
    have ih := thicketref18_Unpack.lq68 R k53 b53 hb53 k
    subst hb53
    rw [ih]
    all_goals rfl
theorem thicketref18_Unpack.eq68 (R : Value → World → Prop) (k53 : Nat) (b53 : (Option Addr) → Nat → Nat → Int → Int → (Option Addr) → Nat → Nat → Int → World → Prop) (hb53 : b53 = thicketref18_Unpack.rl53 R k53) : thicketref18_Unpack.e68 R b53 = thicketref18_Unpack.re68 R k53 := by
  funext a0 n0 c0 x1 x2 a10 n10 c10 x11 a12 n12 c12 x13 w
  unfold thicketref18_Unpack.e68 thicketref18_Unpack.re68
  simp only [thicketref18_Unpack.lq68 R k53 b53 hb53]
def thicketref18_Unpack.l53 (R : Value → World → Prop) : Nat → (Option Addr) → Nat → Nat → Int → Int → (Option Addr) → Nat → Nat → Int → World → Prop
  | 0, _, _, _, _, _, _, _, _, _, _ => False
  | k + 1, a0, n0, c0, x1, x2, a10, n10, c10, x11, w => thicketref18_Unpack.g53 R (thicketref18_Unpack.e68 R (thicketref18_Unpack.l53 R k)) a0 n0 c0 x1 x2 a10 n10 c10 x11 w
def thicketref18_Unpack.e53 (R : Value → World → Prop) (a0 : Option Addr) (n0 : Nat) (c0 : Nat) (x1 : Int) (x2 : Int) (a10 : Option Addr) (n10 : Nat) (c10 : Nat) (x11 : Int) (w : World) : Prop := ∃ k, thicketref18_Unpack.l53 R k a0 n0 c0 x1 x2 a10 n10 c10 x11 w
theorem thicketref18_Unpack.s53 (R : Value → World → Prop) (k : Nat) (a0 : Option Addr) (n0 : Nat) (c0 : Nat) (x1 : Int) (x2 : Int) (a10 : Option Addr) (n10 : Nat) (c10 : Nat) (x11 : Int) (w : World) : thicketref18_Unpack.rl53 R (k + 1) a0 n0 c0 x1 x2 a10 n10 c10 x11 w = ∀ _ : Nat → Value, thicketref18_Unpack.g53 R (thicketref18_Unpack.re68 R k) a0 n0 c0 x1 x2 a10 n10 c10 x11 w := by kernel_rfl
theorem thicketref18_Unpack.lq53 (R : Value → World → Prop) : ∀ k, thicketref18_Unpack.l53 R k = thicketref18_Unpack.rl53 R k
  | 0 => by funext a0 n0 c0 x1 x2 a10 n10 c10 x11 w; rfl
  | k + 1 => by
    funext a0 n0 c0 x1 x2 a10 n10 c10 x11 w
    rw [thicketref18_Unpack.s53, forall_const]
    unfold thicketref18_Unpack.l53
    have ih := thicketref18_Unpack.lq53 R k
    rw [thicketref18_Unpack.eq68 R k _ ih]
    all_goals rfl
theorem thicketref18_Unpack.eq53 (R : Value → World → Prop) : thicketref18_Unpack.e53 R = thicketref18_Unpack.re53 R := by
  funext a0 n0 c0 x1 x2 a10 n10 c10 x11 w
  unfold thicketref18_Unpack.e53 thicketref18_Unpack.re53
  simp only [thicketref18_Unpack.lq53 R]
def thicketref18_Unpack.l30 (R : Value → World → Prop) : Nat → (Option Addr) → Nat → Nat → Int → Int → Int → World → Prop
  | 0, _, _, _, _, _, _, _ => False
  | k + 1, a0, n0, c0, x1, x2, x9, w => thicketref18_Unpack.g30 R (thicketref18_Unpack.l30 R k) (thicketref18_Unpack.e53 R) a0 n0 c0 x1 x2 x9 w
def thicketref18_Unpack.e30 (R : Value → World → Prop) (a0 : Option Addr) (n0 : Nat) (c0 : Nat) (x1 : Int) (x2 : Int) (x9 : Int) (w : World) : Prop := ∃ k, thicketref18_Unpack.l30 R k a0 n0 c0 x1 x2 x9 w
theorem thicketref18_Unpack.s30 (R : Value → World → Prop) (k : Nat) (a0 : Option Addr) (n0 : Nat) (c0 : Nat) (x1 : Int) (x2 : Int) (x9 : Int) (w : World) : thicketref18_Unpack.rl30 R (k + 1) a0 n0 c0 x1 x2 x9 w = ∀ _ : Nat → Value, thicketref18_Unpack.g30 R (thicketref18_Unpack.rl30 R k) (thicketref18_Unpack.re53 R) a0 n0 c0 x1 x2 x9 w := by kernel_rfl
theorem thicketref18_Unpack.lq30 (R : Value → World → Prop) : ∀ k, thicketref18_Unpack.l30 R k = thicketref18_Unpack.rl30 R k
  | 0 => by funext a0 n0 c0 x1 x2 x9 w; rfl
  | k + 1 => by
    funext a0 n0 c0 x1 x2 x9 w
    rw [thicketref18_Unpack.s30, forall_const]
    unfold thicketref18_Unpack.l30
    have ih := thicketref18_Unpack.lq30 R k
    rw [ih]
    rw [thicketref18_Unpack.eq53 R]
    all_goals rfl
theorem thicketref18_Unpack.eq30 (R : Value → World → Prop) : thicketref18_Unpack.e30 R = thicketref18_Unpack.re30 R := by
  funext a0 n0 c0 x1 x2 x9 w
  unfold thicketref18_Unpack.e30 thicketref18_Unpack.re30
  simp only [thicketref18_Unpack.lq30 R]
def thicketref18_Unpack (R : Value → World → Prop) (a0 : Option Addr) (n0 : Nat) (c0 : Nat) (x1 : Int) (x2 : Int) (w : World) : Prop := thicketref18_Unpack.g0 R (thicketref18_Unpack.e30 R) a0 n0 c0 x1 x2 w
theorem thicketref18_Unpack.root0 (R : Value → World → Prop) (a0 : Option Addr) (n0 : Nat) (c0 : Nat) (x1 : Int) (x2 : Int) (w : World) : fnN Go.Proofs.Try.prog Go.Proofs.Try.f18 thicketref18_Unpack.an #[.slice a0 n0 c0, .int .i64 x1, .int .i64 x2] w R = thicketref18_Unpack.g0 R (thicketref18_Unpack.re30 R) a0 n0 c0 x1 x2 w := by kernel_rfl
theorem thicketref18_Unpack.calls {R : Value → World → Prop} {a0 : Option Addr} {n0 : Nat} {c0 : Nat} {x1 : Int} {x2 : Int} {w : World} (h : thicketref18_Unpack R a0 n0 c0 x1 x2 w) : Go.E.CallsD Go.Proofs.Try.prog 18 #[.slice a0 n0 c0, .int .i64 x1, .int .i64 x2] w R := by
  refine callsD_of (n := thicketref18_Unpack.an) M_follows M_sizes Go.Proofs.Try.func18 (by rfl) ?_
  rw [thicketref18_Unpack.root0]
  unfold thicketref18_Unpack at h
  rw [thicketref18_Unpack.eq30 R] at h
  exact h
-- thicket/thicketlaw18.groups
def thicketlaw18_groups.an : An := (.mk none .nil (.mk none .nil (.mk none (.mk none .nil (.mk none (.mk (some [0, 1, 5]) (.mk none .nil (.mk none (.mk none (.mk none .nil (.mk none .nil (.mk none (.mk (some [0, 1, 5, 6]) (.mk none .nil (.mk none (.mk none (.mk none .nil (.mk none (.mk (some [0, 1, 5, 6, 7]) .nil .nil) .nil)) .nil) .nil)) .nil) .nil))) .nil) .nil)) .nil) .nil)) .nil)))
def thicketlaw18_groups.g0 (R : Value → World → Prop) (e14 : (Option Addr) → Nat → Nat → (Option Addr) → Nat → Nat → Int → World → Prop) (a0 : Option Addr) (n0 : Nat) (c0 : Nat) (a1 : Option Addr) (n1 : Nat) (c1 : Nat) (w : World) : Prop :=
  onBool ((n0 : Int) != (n1 : Int))
    (R (.bool false) w)
    (e14 a0 n0 c0 a1 n1 c1 0 w)
def thicketlaw18_groups.g14 (R : Value → World → Prop) (e34 : (Option Addr) → Nat → Nat → (Option Addr) → Nat → Nat → Int → Int → World → Prop) (a0 : Option Addr) (n0 : Nat) (c0 : Nat) (a1 : Option Addr) (n1 : Nat) (c1 : Nat) (x5 : Int) (w : World) : Prop :=
  onBool (decide (x5 < (n0 : Int)))
    (optN a0 fun p17 =>
    if (0 : Int) ≤ x5 ∧ x5 < (n0 : Int) then
      ∃ ya_18 : Option Addr, ∃ yn_18 : Nat, ∃ yc_18 : Nat, w.cell? (p17.add (x5.toNat * 1)) = some (.slice ya_18 yn_18 yc_18) ∧
        (optN a1 fun p19 =>
        if (0 : Int) ≤ x5 ∧ x5 < (n1 : Int) then
          ∃ ya_20 : Option Addr, ∃ yn_20 : Nat, ∃ yc_20 : Nat, w.cell? (p19.add (x5.toNat * 1)) = some (.slice ya_20 yn_20 yc_20) ∧
            (onBool ((yn_18 : Int) != (yn_20 : Int))
              (R (.bool false) w)
              (e34 a0 n0 c0 a1 n1 c1 x5 0 w)) else False) else False)
    (R (.bool true) w)
def thicketlaw18_groups.g34 (R : Value → World → Prop) (b14 : (Option Addr) → Nat → Nat → (Option Addr) → Nat → Nat → Int → World → Prop) (e46 : (Option Addr) → Nat → Nat → (Option Addr) → Nat → Nat → Int → Int → Int → World → Prop) (a0 : Option Addr) (n0 : Nat) (c0 : Nat) (a1 : Option Addr) (n1 : Nat) (c1 : Nat) (x5 : Int) (x6 : Int) (w : World) : Prop :=
  optN a0 fun p21 =>
  if (0 : Int) ≤ x5 ∧ x5 < (n0 : Int) then
    ∃ ya_22 : Option Addr, ∃ yn_22 : Nat, ∃ yc_22 : Nat, w.cell? (p21.add (x5.toNat * 1)) = some (.slice ya_22 yn_22 yc_22) ∧
      (onBool (decide (x6 < (yn_22 : Int)))
        (e46 a0 n0 c0 a1 n1 c1 x5 x6 0 w)
        (b14 a0 n0 c0 a1 n1 c1 (IntKind.i64.wrap (x5 + 1)) w)) else False
def thicketlaw18_groups.g46 (R : Value → World → Prop) (b34 : (Option Addr) → Nat → Nat → (Option Addr) → Nat → Nat → Int → Int → World → Prop) (b46 : (Option Addr) → Nat → Nat → (Option Addr) → Nat → Nat → Int → Int → Int → World → Prop) (a0 : Option Addr) (n0 : Nat) (c0 : Nat) (a1 : Option Addr) (n1 : Nat) (c1 : Nat) (x5 : Int) (x6 : Int) (x7 : Int) (w : World) : Prop :=
  onBool (decide (x7 < 8))
    (optN a0 fun p23 =>
    if (0 : Int) ≤ x5 ∧ x5 < (n0 : Int) then
      ∃ ya_24 : Option Addr, ∃ yn_24 : Nat, ∃ yc_24 : Nat, w.cell? (p23.add (x5.toNat * 1)) = some (.slice ya_24 yn_24 yc_24) ∧
        (optN ya_24 fun p25 =>
        if (0 : Int) ≤ x6 ∧ x6 < (yn_24 : Int) then
          if (0 : Int) ≤ x7 ∧ x7 < (8 : Int) then
            ∃ yf_26 : Nat, w.cell? ((p25.add (x6.toNat * 8)).add (x7.toNat * 1)) = some (.float .f64 yf_26) ∧
              (∃ yx_27 : Int, RunV Go.Proofs.Try.prog (callFunc 27 #[.float .f64 yf_26]) w (.int .u64 yx_27) ∧
                (optN a1 fun p28 =>
                if (0 : Int) ≤ x5 ∧ x5 < (n1 : Int) then
                  ∃ ya_29 : Option Addr, ∃ yn_29 : Nat, ∃ yc_29 : Nat, w.cell? (p28.add (x5.toNat * 1)) = some (.slice ya_29 yn_29 yc_29) ∧
                    (optN ya_29 fun p30 =>
                    if (0 : Int) ≤ x6 ∧ x6 < (yn_29 : Int) then
                      if (0 : Int) ≤ x7 ∧ x7 < (8 : Int) then
                        ∃ yf_31 : Nat, w.cell? ((p30.add (x6.toNat * 8)).add (x7.toNat * 1)) = some (.float .f64 yf_31) ∧
                          (∃ yx_32 : Int, RunV Go.Proofs.Try.prog (callFunc 27 #[.float .f64 yf_31]) w (.int .u64 yx_32) ∧
                            (onBool (yx_27 != yx_32)
                              (R (.bool false) w)
                              (b46 a0 n0 c0 a1 n1 c1 x5 x6 (IntKind.i64.wrap (x7 + 1)) w))) else False else False) else False)) else False else False) else False)
    (b34 a0 n0 c0 a1 n1 c1 x5 (IntKind.i64.wrap (x6 + 1)) w)
def thicketlaw18_groups.q2 (R : Value → World → Prop) : Exit → Act → World → Prop := (fin Go.Proofs.Try.prog Go.Proofs.Try.f19 R)
def thicketlaw18_groups.q10 (R : Value → World → Prop) : Exit → Act → World → Prop := (thicketlaw18_groups.q2 R)
def thicketlaw18_groups.q11 (R : Value → World → Prop) : Exit → Act → World → Prop := Exit.then (startN none (codeN Go.Proofs.Try.prog (sub (codeOf Go.Proofs.Try.f19) [1, 1, 1]) (nsub thicketlaw18_groups.an [1, 1, 1]) (thicketlaw18_groups.q10 R))) (thicketlaw18_groups.q10 R)
def thicketlaw18_groups.q13 (R : Value → World → Prop) : Exit → Act → World → Prop := (thicketlaw18_groups.q11 R)
def thicketlaw18_groups.q14 (R : Value → World → Prop) : Exit → Act → World → Prop := Exit.inBlock 0 (thicketlaw18_groups.q13 R)
def thicketlaw18_groups.rl14 (R : Value → World → Prop) (k : Nat) (a0 : Option Addr) (n0 : Nat) (c0 : Nat) (a1 : Option Addr) (n1 : Nat) (c1 : Nat) (x5 : Int) (w : World) : Prop := loopN [0, 1, 5] (codeN Go.Proofs.Try.prog (sub (codeOf Go.Proofs.Try.f19) [1, 1, 0, 1, 0, 0]) (nsub thicketlaw18_groups.an [1, 1, 0, 1, 0, 0])) (thicketlaw18_groups.q14 R) k ⟨#[.slice a0 n0 c0, .slice a1 n1 c1, undef, undef, undef, .int .i64 x5, undef, undef, undef, undef, undef, undef, undef, undef, undef, undef, undef, undef, undef, undef, undef, undef, undef, undef, undef, undef, undef, undef, undef, undef, undef, undef, undef, undef, undef, undef, undef, undef, undef, undef, undef, undef, undef, undef, undef, undef, undef, undef, undef, undef, undef, undef, undef, undef, undef, undef, undef, undef, undef, undef, undef, undef, undef, undef], []⟩ w
def thicketlaw18_groups.re14 (R : Value → World → Prop) (a0 : Option Addr) (n0 : Nat) (c0 : Nat) (a1 : Option Addr) (n1 : Nat) (c1 : Nat) (x5 : Int) (w : World) : Prop := ∃ k, thicketlaw18_groups.rl14 R k a0 n0 c0 a1 n1 c1 x5 w
def thicketlaw18_groups.q15 (R : Value → World → Prop) (k14 : Nat) : Exit → Act → World → Prop := Exit.then (fun a w => loopN [0, 1, 5] (codeN Go.Proofs.Try.prog (sub (codeOf Go.Proofs.Try.f19) [1, 1, 0, 1, 0, 0]) (nsub thicketlaw18_groups.an [1, 1, 0, 1, 0, 0])) (thicketlaw18_groups.q14 R) k14 (clr [0, 1, 5] a) w) (thicketlaw18_groups.q14 R)
def thicketlaw18_groups.q21 (R : Value → World → Prop) (k14 : Nat) : Exit → Act → World → Prop := (thicketlaw18_groups.q15 R k14)
def thicketlaw18_groups.q22 (R : Value → World → Prop) (k14 : Nat) : Exit → Act → World → Prop := Exit.then (startN none (codeN Go.Proofs.Try.prog (sub (codeOf Go.Proofs.Try.f19) [1, 1, 0, 1, 0, 0, 1, 1]) (nsub thicketlaw18_groups.an [1, 1, 0, 1, 0, 0, 1, 1]) (thicketlaw18_groups.q21 R k14))) (thicketlaw18_groups.q21 R k14)
def thicketlaw18_groups.q23 (R : Value → World → Prop) (k14 : Nat) : Exit → Act → World → Prop := Exit.inBlock 1 (thicketlaw18_groups.q22 R k14)
def thicketlaw18_groups.q31 (R : Value → World → Prop) (k14 : Nat) : Exit → Act → World → Prop := (thicketlaw18_groups.q23 R k14)
def thicketlaw18_groups.q33 (R : Value → World → Prop) (k14 : Nat) : Exit → Act → World → Prop := (thicketlaw18_groups.q31 R k14)
def thicketlaw18_groups.q34 (R : Value → World → Prop) (k14 : Nat) : Exit → Act → World → Prop := Exit.inBlock 2 (thicketlaw18_groups.q33 R k14)
def thicketlaw18_groups.rl34 (R : Value → World → Prop) (k14 : Nat) (k : Nat) (a0 : Option Addr) (n0 : Nat) (c0 : Nat) (a1 : Option Addr) (n1 : Nat) (c1 : Nat) (x5 : Int) (x6 : Int) (w : World) : Prop := loopN [0, 1, 5, 6] (codeN Go.Proofs.Try.prog (sub (codeOf Go.Proofs.Try.f19) [1, 1, 0, 1, 0, 0, 1, 0, 0, 1, 1, 0, 0]) (nsub thicketlaw18_groups.an [1, 1, 0, 1, 0, 0, 1, 0, 0, 1, 1, 0, 0])) (thicketlaw18_groups.q34 R k14) k ⟨#[.slice a0 n0 c0, .slice a1 n1 c1, undef, undef, undef, .int .i64 x5, .int .i64 x6, undef, undef, undef, undef, undef, undef, undef, undef, undef, undef, undef, undef, undef, undef, undef, undef, undef, undef, undef, undef, undef, undef, undef, undef, undef, undef, undef, undef, undef, undef, undef, undef, undef, undef, undef, undef, undef, undef, undef, undef, undef, undef, undef, undef, undef, undef, undef, undef, undef, undef, undef, undef, undef, undef, undef, undef, undef], []⟩ w
def thicketlaw18_groups.re34 (R : Value → World → Prop) (k14 : Nat) (a0 : Option Addr) (n0 : Nat) (c0 : Nat) (a1 : Option Addr) (n1 : Nat) (c1 : Nat) (x5 : Int) (x6 : Int) (w : World) : Prop := ∃ k, thicketlaw18_groups.rl34 R k14 k a0 n0 c0 a1 n1 c1 x5 x6 w
def thicketlaw18_groups.q35 (R : Value → World → Prop) (k14 : Nat) (k34 : Nat) : Exit → Act → World → Prop := Exit.then (fun a w => loopN [0, 1, 5, 6] (codeN Go.Proofs.Try.prog (sub (codeOf Go.Proofs.Try.f19) [1, 1, 0, 1, 0, 0, 1, 0, 0, 1, 1, 0, 0]) (nsub thicketlaw18_groups.an [1, 1, 0, 1, 0, 0, 1, 0, 0, 1, 1, 0, 0])) (thicketlaw18_groups.q34 R k14) k34 (clr [0, 1, 5, 6] a) w) (thicketlaw18_groups.q34 R k14)
def thicketlaw18_groups.q41 (R : Value → World → Prop) (k14 : Nat) (k34 : Nat) : Exit → Act → World → Prop := (thicketlaw18_groups.q35 R k14 k34)
def thicketlaw18_groups.q42 (R : Value → World → Prop) (k14 : Nat) (k34 : Nat) : Exit → Act → World → Prop := Exit.then (startN none (codeN Go.Proofs.Try.prog (sub (codeOf Go.Proofs.Try.f19) [1, 1, 0, 1, 0, 0, 1, 0, 0, 1, 1, 0, 0, 1, 1]) (nsub thicketlaw18_groups.an [1, 1, 0, 1, 0, 0, 1, 0, 0, 1, 1, 0, 0, 1, 1]) (thicketlaw18_groups.q41 R k14 k34))) (thicketlaw18_groups.q41 R k14 k34)
def thicketlaw18_groups.q43 (R : Value → World → Prop) (k14 : Nat) (k34 : Nat) : Exit → Act → World → Prop := Exit.inBlock 3 (thicketlaw18_groups.q42 R k14 k34)
def thicketlaw18_groups.q45 (R : Value → World → Prop) (k14 : Nat) (k34 : Nat) : Exit → Act → World → Prop := (thicketlaw18_groups.q43 R k14 k34)
def thicketlaw18_groups.q46 (R : Value → World → Prop) (k14 : Nat) (k34 : Nat) : Exit → Act → World → Prop := Exit.inBlock 4 (thicketlaw18_groups.q45 R k14 k34)
def thicketlaw18_groups.rl46 (R : Value → World → Prop) (k14 : Nat) (k34 : Nat) (k : Nat) (a0 : Option Addr) (n0 : Nat) (c0 : Nat) (a1 : Option Addr) (n1 : Nat) (c1 : Nat) (x5 : Int) (x6 : Int) (x7 : Int) (w : World) : Prop := loopN [0, 1, 5, 6, 7] (codeN Go.Proofs.Try.prog (sub (codeOf Go.Proofs.Try.f19) [1, 1, 0, 1, 0, 0, 1, 0, 0, 1, 1, 0, 0, 1, 0, 0, 1, 0, 0]) (nsub thicketlaw18_groups.an [1, 1, 0, 1, 0, 0, 1, 0, 0, 1, 1, 0, 0, 1, 0, 0, 1, 0, 0])) (thicketlaw18_groups.q46 R k14 k34) k ⟨#[.slice a0 n0 c0, .slice a1 n1 c1, undef, undef, undef, .int .i64 x5, .int .i64 x6, .int .i64 x7, undef, undef, undef, undef, undef, undef, undef, undef, undef, undef, undef, undef, undef, undef, undef, undef, undef, undef, undef, undef, undef, undef, undef, undef, undef, undef, undef, undef, undef, undef, undef, undef, undef, undef, undef, undef, undef, undef, undef, undef, undef, undef, undef, undef, undef, undef, undef, undef, undef, undef, undef, undef, undef, undef, undef, undef], []⟩ w
def thicketlaw18_groups.re46 (R : Value → World → Prop) (k14 : Nat) (k34 : Nat) (a0 : Option Addr) (n0 : Nat) (c0 : Nat) (a1 : Option Addr) (n1 : Nat) (c1 : Nat) (x5 : Int) (x6 : Int) (x7 : Int) (w : World) : Prop := ∃ k, thicketlaw18_groups.rl46 R k14 k34 k a0 n0 c0 a1 n1 c1 x5 x6 x7 w
def thicketlaw18_groups.l46 (R : Value → World → Prop) (b14 : (Option Addr) → Nat → Nat → (Option Addr) → Nat → Nat → Int → World → Prop) (b34 : (Option Addr) → Nat → Nat → (Option Addr) → Nat → Nat → Int → Int → World → Prop) : Nat → (Option Addr) → Nat → Nat → (Option Addr) → Nat → Nat → Int → Int → Int → World → Prop
  | 0, _, _, _, _, _, _, _, _, _, _ => False
  | k + 1, a0, n0, c0, a1, n1, c1, x5, x6, x7, w => thicketlaw18_groups.g46 R b34 (thicketlaw18_groups.l46 R b14 b34 k) a0 n0 c0 a1 n1 c1 x5 x6 x7 w
def thicketlaw18_groups.e46 (R : Value → World → Prop) (b14 : (Option Addr) → Nat → Nat → (Option Addr) → Nat → Nat → Int → World → Prop) (b34 : (Option Addr) → Nat → Nat → (Option Addr) → Nat → Nat → Int → Int → World → Prop) (a0 : Option Addr) (n0 : Nat) (c0 : Nat) (a1 : Option Addr) (n1 : Nat) (c1 : Nat) (x5 : Int) (x6 : Int) (x7 : Int) (w : World) : Prop := ∃ k, thicketlaw18_groups.l46 R b14 b34 k a0 n0 c0 a1 n1 c1 x5 x6 x7 w
theorem thicketlaw18_groups.s46 (R : Value → World → Prop) (k14 : Nat) (k34 : Nat) (k : Nat) (a0 : Option Addr) (n0 : Nat) (c0 : Nat) (a1 : Option Addr) (n1 : Nat) (c1 : Nat) (x5 : Int) (x6 : Int) (x7 : Int) (w : World) : thicketlaw18_groups.rl46 R k14 k34 (k + 1) a0 n0 c0 a1 n1 c1 x5 x6 x7 w = ∀ _ : Nat → Value, thicketlaw18_groups.g46 R (thicketlaw18_groups.rl34 R k14 k34) (thicketlaw18_groups.rl46 R k14 k34 k) a0 n0 c0 a1 n1 c1 x5 x6 x7 w := by kernel_rfl
theorem thicketlaw18_groups.lq46 (R : Value → World → Prop) (k14 : Nat) (k34 : Nat) (b14 : (Option Addr) → Nat → Nat → (Option Addr) → Nat → Nat → Int → World → Prop) (b34 : (Option Addr) → Nat → Nat → (Option Addr) → Nat → Nat → Int → Int → World → Prop) (hb14 : b14 = thicketlaw18_groups.rl14 R k14) (hb34 : b34 = thicketlaw18_groups.rl34 R k14 k34) : ∀ k, thicketlaw18_groups.l46 R b14 b34 k = thicketlaw18_groups.rl46 R k14 k34 k
  | 0 => by funext a0 n0 c0 a1 n1 c1 x5 x6 x7 w; rfl
  | k + 1 => by
    funext a0 n0 c0 a1 n1 c1 x5 x6 x7 w
    rw [thicketlaw18_groups.s46, forall_const]
    unfold thicketlaw18_groups.l46
    have ih := thicketlaw18_groups.lq46 R k14 k34 b14 b34 hb14 hb34 k
    subst hb14
    subst hb34
    rw [ih]
    all_goals rfl
theorem thicketlaw18_groups.eq46 (R : Value → World → Prop) (k14 : Nat) (k34 : Nat) (b14 : (Option Addr) → Nat → Nat → (Option Addr) → Nat → Nat → Int → World → Prop) (b34 : (Option Addr) → Nat → Nat → (Option Addr) → Nat → Nat → Int → Int → World → Prop) (hb14 : b14 = thicketlaw18_groups.rl14 R k14) (hb34 : b34 = thicketlaw18_groups.rl34 R k14 k34) : thicketlaw18_groups.e46 R b14 b34 = thicketlaw18_groups.re46 R k14 k34 := by
  funext a0 n0 c0 a1 n1 c1 x5 x6 x7 w
  unfold thicketlaw18_groups.e46 thicketlaw18_groups.re46
  simp only [thicketlaw18_groups.lq46 R k14 k34 b14 b34 hb14 hb34]
def thicketlaw18_groups.l34 (R : Value → World → Prop) (b14 : (Option Addr) → Nat → Nat → (Option Addr) → Nat → Nat → Int → World → Prop) : Nat → (Option Addr) → Nat → Nat → (Option Addr) → Nat → Nat → Int → Int → World → Prop
  | 0, _, _, _, _, _, _, _, _, _ => False
  | k + 1, a0, n0, c0, a1, n1, c1, x5, x6, w => thicketlaw18_groups.g34 R b14 (thicketlaw18_groups.e46 R b14 (thicketlaw18_groups.l34 R b14 k)) a0 n0 c0 a1 n1 c1 x5 x6 w
def thicketlaw18_groups.e34 (R : Value → World → Prop) (b14 : (Option Addr) → Nat → Nat → (Option Addr) → Nat → Nat → Int → World → Prop) (a0 : Option Addr) (n0 : Nat) (c0 : Nat) (a1 : Option Addr) (n1 : Nat) (c1 : Nat) (x5 : Int) (x6 : Int) (w : World) : Prop := ∃ k, thicketlaw18_groups.l34 R b14 k a0 n0 c0 a1 n1 c1 x5 x6 w
theorem thicketlaw18_groups.s34 (R : Value → World → Prop) (k14 : Nat) (k : Nat) (a0 : Option Addr) (n0 : Nat) (c0 : Nat) (a1 : Option Addr) (n1 : Nat) (c1 : Nat) (x5 : Int) (x6 : Int) (w : World) : thicketlaw18_groups.rl34 R k14 (k + 1) a0 n0 c0 a1 n1 c1 x5 x6 w = ∀ _ : Nat → Value, thicketlaw18_groups.g34 R (thicketlaw18_groups.rl14 R k14) (thicketlaw18_groups.re46 R k14 k) a0 n0 c0 a1 n1 c1 x5 x6 w := by kernel_rfl
theorem thicketlaw18_groups.lq34 (R : Value → World → Prop) (k14 : Nat) (b14 : (Option Addr) → Nat → Nat → (Option Addr) → Nat → Nat → Int → World → Prop) (hb14 : b14 = thicketlaw18_groups.rl14 R k14) : ∀ k, thicketlaw18_groups.l34 R b14 k = thicketlaw18_groups.rl34 R k14 k
  | 0 => by funext a0 n0 c0 a1 n1 c1 x5 x6 w; rfl
  | k + 1 => by
    funext a0 n0 c0 a1 n1 c1 x5 x6 w
    rw [thicketlaw18_groups.s34, forall_const]
    unfold thicketlaw18_groups.l34
    have ih := thicketlaw18_groups.lq34 R k14 b14 hb14 k
    subst hb14
    rw [thicketlaw18_groups.eq46 R k14 k _ _ rfl ih]
    all_goals rfl
theorem thicketlaw18_groups.eq34 (R : Value → World → Prop) (k14 : Nat) (b14 : (Option Addr) → Nat → Nat → (Option Addr) → Nat → Nat → Int → World → Prop) (hb14 : b14 = thicketlaw18_groups.rl14 R k14) : thicketlaw18_groups.e34 R b14 = thicketlaw18_groups.re34 R k14 := by
  funext a0 n0 c0 a1 n1 c1 x5 x6 w
  unfold thicketlaw18_groups.e34 thicketlaw18_groups.re34
  simp only [thicketlaw18_groups.lq34 R k14 b14 hb14]
def thicketlaw18_groups.l14 (R : Value → World → Prop) : Nat → (Option Addr) → Nat → Nat → (Option Addr) → Nat → Nat → Int → World → Prop
  | 0, _, _, _, _, _, _, _, _ => False
  | k + 1, a0, n0, c0, a1, n1, c1, x5, w => thicketlaw18_groups.g14 R (thicketlaw18_groups.e34 R (thicketlaw18_groups.l14 R k)) a0 n0 c0 a1 n1 c1 x5 w
def thicketlaw18_groups.e14 (R : Value → World → Prop) (a0 : Option Addr) (n0 : Nat) (c0 : Nat) (a1 : Option Addr) (n1 : Nat) (c1 : Nat) (x5 : Int) (w : World) : Prop := ∃ k, thicketlaw18_groups.l14 R k a0 n0 c0 a1 n1 c1 x5 w
theorem thicketlaw18_groups.s14 (R : Value → World → Prop) (k : Nat) (a0 : Option Addr) (n0 : Nat) (c0 : Nat) (a1 : Option Addr) (n1 : Nat) (c1 : Nat) (x5 : Int) (w : World) : thicketlaw18_groups.rl14 R (k + 1) a0 n0 c0 a1 n1 c1 x5 w = ∀ _ : Nat → Value, thicketlaw18_groups.g14 R (thicketlaw18_groups.re34 R k) a0 n0 c0 a1 n1 c1 x5 w := by kernel_rfl
theorem thicketlaw18_groups.lq14 (R : Value → World → Prop) : ∀ k, thicketlaw18_groups.l14 R k = thicketlaw18_groups.rl14 R k
  | 0 => by funext a0 n0 c0 a1 n1 c1 x5 w; rfl
  | k + 1 => by
    funext a0 n0 c0 a1 n1 c1 x5 w
    rw [thicketlaw18_groups.s14, forall_const]
    unfold thicketlaw18_groups.l14
    have ih := thicketlaw18_groups.lq14 R k
    rw [thicketlaw18_groups.eq34 R k _ ih]
    all_goals rfl
theorem thicketlaw18_groups.eq14 (R : Value → World → Prop) : thicketlaw18_groups.e14 R = thicketlaw18_groups.re14 R := by
  funext a0 n0 c0 a1 n1 c1 x5 w
  unfold thicketlaw18_groups.e14 thicketlaw18_groups.re14
  simp only [thicketlaw18_groups.lq14 R]
def thicketlaw18_groups (R : Value → World → Prop) (a0 : Option Addr) (n0 : Nat) (c0 : Nat) (a1 : Option Addr) (n1 : Nat) (c1 : Nat) (w : World) : Prop := thicketlaw18_groups.g0 R (thicketlaw18_groups.e14 R) a0 n0 c0 a1 n1 c1 w
theorem thicketlaw18_groups.root0 (R : Value → World → Prop) (a0 : Option Addr) (n0 : Nat) (c0 : Nat) (a1 : Option Addr) (n1 : Nat) (c1 : Nat) (w : World) : fnN Go.Proofs.Try.prog Go.Proofs.Try.f19 thicketlaw18_groups.an #[.slice a0 n0 c0, .slice a1 n1 c1] w R = thicketlaw18_groups.g0 R (thicketlaw18_groups.re14 R) a0 n0 c0 a1 n1 c1 w := by kernel_rfl
theorem thicketlaw18_groups.calls {R : Value → World → Prop} {a0 : Option Addr} {n0 : Nat} {c0 : Nat} {a1 : Option Addr} {n1 : Nat} {c1 : Nat} {w : World} (h : thicketlaw18_groups R a0 n0 c0 a1 n1 c1 w) : Go.E.CallsD Go.Proofs.Try.prog 19 #[.slice a0 n0 c0, .slice a1 n1 c1] w R := by
  refine callsD_of (n := thicketlaw18_groups.an) M_follows M_sizes Go.Proofs.Try.func19 (by rfl) ?_
  rw [thicketlaw18_groups.root0]
  unfold thicketlaw18_groups at h
  rw [thicketlaw18_groups.eq14 R] at h
  exact h
-- thicket/thicketlaw18.alike
def thicketlaw18_alike.an : An := (.mk none .nil (.mk none .nil (.mk none (.mk none .nil (.mk none (.mk (some [0, 1, 5]) (.mk none .nil (.mk none (.mk none (.mk none .nil (.mk none .nil (.mk none (.mk (some [0, 1, 5, 6]) .nil .nil) .nil))) .nil) .nil)) .nil) .nil)) .nil)))
def thicketlaw18_alike.g0 (R : Value → World → Prop) (e14 : (Option Addr) → Nat → Nat → (Option Addr) → Nat → Nat → Int → World → Prop) (a0 : Option Addr) (n0 : Nat) (c0 : Nat) (a1 : Option Addr) (n1 : Nat) (c1 : Nat) (w : World) : Prop :=
  onBool ((n0 : Int) != (n1 : Int))
    (R (.bool false) w)
    (e14 a0 n0 c0 a1 n1 c1 0 w)
def thicketlaw18_alike.g14 (R : Value → World → Prop) (e34 : (Option Addr) → Nat → Nat → (Option Addr) → Nat → Nat → Int → Int → World → Prop) (a0 : Option Addr) (n0 : Nat) (c0 : Nat) (a1 : Option Addr) (n1 : Nat) (c1 : Nat) (x5 : Int) (w : World) : Prop :=
  onBool (decide (x5 < (n0 : Int)))
    (optN a0 fun p17 =>
    if (0 : Int) ≤ x5 ∧ x5 < (n0 : Int) then
      ∃ ya_18 : Option Addr, ∃ yn_18 : Nat, ∃ yc_18 : Nat, w.cell? (p17.add (x5.toNat * 1)) = some (.slice ya_18 yn_18 yc_18) ∧
        (optN a1 fun p19 =>
        if (0 : Int) ≤ x5 ∧ x5 < (n1 : Int) then
          ∃ ya_20 : Option Addr, ∃ yn_20 : Nat, ∃ yc_20 : Nat, w.cell? (p19.add (x5.toNat * 1)) = some (.slice ya_20 yn_20 yc_20) ∧
            (onBool ((yn_18 : Int) != (yn_20 : Int))
              (R (.bool false) w)
              (e34 a0 n0 c0 a1 n1 c1 x5 0 w)) else False) else False)
    (R (.bool true) w)
def thicketlaw18_alike.g34 (R : Value → World → Prop) (b14 : (Option Addr) → Nat → Nat → (Option Addr) → Nat → Nat → Int → World → Prop) (b34 : (Option Addr) → Nat → Nat → (Option Addr) → Nat → Nat → Int → Int → World → Prop) (a0 : Option Addr) (n0 : Nat) (c0 : Nat) (a1 : Option Addr) (n1 : Nat) (c1 : Nat) (x5 : Int) (x6 : Int) (w : World) : Prop :=
  optN a0 fun p21 =>
  if (0 : Int) ≤ x5 ∧ x5 < (n0 : Int) then
    ∃ ya_22 : Option Addr, ∃ yn_22 : Nat, ∃ yc_22 : Nat, w.cell? (p21.add (x5.toNat * 1)) = some (.slice ya_22 yn_22 yc_22) ∧
      (onBool (decide (x6 < (yn_22 : Int)))
        (optN a0 fun p23 =>
        if (0 : Int) ≤ x5 ∧ x5 < (n0 : Int) then
          ∃ ya_24 : Option Addr, ∃ yn_24 : Nat, ∃ yc_24 : Nat, w.cell? (p23.add (x5.toNat * 1)) = some (.slice ya_24 yn_24 yc_24) ∧
            (optN ya_24 fun p25 =>
            if (0 : Int) ≤ x6 ∧ x6 < (yn_24 : Int) then
              ∃ yf_26 : Nat, w.cell? (p25.add (x6.toNat * 1)) = some (.float .f64 yf_26) ∧
                (∃ yx_27 : Int, RunV Go.Proofs.Try.prog (callFunc 27 #[.float .f64 yf_26]) w (.int .u64 yx_27) ∧
                  (optN a1 fun p28 =>
                  if (0 : Int) ≤ x5 ∧ x5 < (n1 : Int) then
                    ∃ ya_29 : Option Addr, ∃ yn_29 : Nat, ∃ yc_29 : Nat, w.cell? (p28.add (x5.toNat * 1)) = some (.slice ya_29 yn_29 yc_29) ∧
                      (optN ya_29 fun p30 =>
                      if (0 : Int) ≤ x6 ∧ x6 < (yn_29 : Int) then
                        ∃ yf_31 : Nat, w.cell? (p30.add (x6.toNat * 1)) = some (.float .f64 yf_31) ∧
                          (∃ yx_32 : Int, RunV Go.Proofs.Try.prog (callFunc 27 #[.float .f64 yf_31]) w (.int .u64 yx_32) ∧
                            (onBool (yx_27 != yx_32)
                              (R (.bool false) w)
                              (b34 a0 n0 c0 a1 n1 c1 x5 (IntKind.i64.wrap (x6 + 1)) w))) else False) else False)) else False) else False)
        (b14 a0 n0 c0 a1 n1 c1 (IntKind.i64.wrap (x5 + 1)) w)) else False
def thicketlaw18_alike.q2 (R : Value → World → Prop) : Exit → Act → World → Prop := (fin Go.Proofs.Try.prog Go.Proofs.Try.f20 R)
def thicketlaw18_alike.q10 (R : Value → World → Prop) : Exit → Act → World → Prop := (thicketlaw18_alike.q2 R)
def thicketlaw18_alike.q11 (R : Value → World → Prop) : Exit → Act → World → Prop := Exit.then (startN none (codeN Go.Proofs.Try.prog (sub (codeOf Go.Proofs.Try.f20) [1, 1, 1]) (nsub thicketlaw18_alike.an [1, 1, 1]) (thicketlaw18_alike.q10 R))) (thicketlaw18_alike.q10 R)
def thicketlaw18_alike.q13 (R : Value → World → Prop) : Exit → Act → World → Prop := (thicketlaw18_alike.q11 R)
def thicketlaw18_alike.q14 (R : Value → World → Prop) : Exit → Act → World → Prop := Exit.inBlock 0 (thicketlaw18_alike.q13 R)
def thicketlaw18_alike.rl14 (R : Value → World → Prop) (k : Nat) (a0 : Option Addr) (n0 : Nat) (c0 : Nat) (a1 : Option Addr) (n1 : Nat) (c1 : Nat) (x5 : Int) (w : World) : Prop := loopN [0, 1, 5] (codeN Go.Proofs.Try.prog (sub (codeOf Go.Proofs.Try.f20) [1, 1, 0, 1, 0, 0]) (nsub thicketlaw18_alike.an [1, 1, 0, 1, 0, 0])) (thicketlaw18_alike.q14 R) k ⟨#[.slice a0 n0 c0, .slice a1 n1 c1, undef, undef, undef, .int .i64 x5, undef, undef, undef, undef, undef, undef, undef, undef, undef, undef, undef, undef, undef, undef, undef, undef, undef, undef, undef, undef, undef, undef, undef, undef, undef, undef, undef, undef, undef, undef, undef, undef, undef, undef, undef, undef, undef, undef, undef, undef, undef, undef, undef, undef, undef, undef, undef, undef, undef], []⟩ w
def thicketlaw18_alike.re14 (R : Value → World → Prop) (a0 : Option Addr) (n0 : Nat) (c0 : Nat) (a1 : Option Addr) (n1 : Nat) (c1 : Nat) (x5 : Int) (w : World) : Prop := ∃ k, thicketlaw18_alike.rl14 R k a0 n0 c0 a1 n1 c1 x5 w
def thicketlaw18_alike.q15 (R : Value → World → Prop) (k14 : Nat) : Exit → Act → World → Prop := Exit.then (fun a w => loopN [0, 1, 5] (codeN Go.Proofs.Try.prog (sub (codeOf Go.Proofs.Try.f20) [1, 1, 0, 1, 0, 0]) (nsub thicketlaw18_alike.an [1, 1, 0, 1, 0, 0])) (thicketlaw18_alike.q14 R) k14 (clr [0, 1, 5] a) w) (thicketlaw18_alike.q14 R)
def thicketlaw18_alike.q21 (R : Value → World → Prop) (k14 : Nat) : Exit → Act → World → Prop := (thicketlaw18_alike.q15 R k14)
def thicketlaw18_alike.q22 (R : Value → World → Prop) (k14 : Nat) : Exit → Act → World → Prop := Exit.then (startN none (codeN Go.Proofs.Try.prog (sub (codeOf Go.Proofs.Try.f20) [1, 1, 0, 1, 0, 0, 1, 1]) (nsub thicketlaw18_alike.an [1, 1, 0, 1, 0, 0, 1, 1]) (thicketlaw18_alike.q21 R k14))) (thicketlaw18_alike.q21 R k14)
def thicketlaw18_alike.q23 (R : Value → World → Prop) (k14 : Nat) : Exit → Act → World → Prop := Exit.inBlock 1 (thicketlaw18_alike.q22 R k14)
def thicketlaw18_alike.q31 (R : Value → World → Prop) (k14 : Nat) : Exit → Act → World → Prop := (thicketlaw18_alike.q23 R k14)
def thicketlaw18_alike.q33 (R : Value → World → Prop) (k14 : Nat) : Exit → Act → World → Prop := (thicketlaw18_alike.q31 R k14)
def thicketlaw18_alike.q34 (R : Value → World → Prop) (k14 : Nat) : Exit → Act → World → Prop := Exit.inBlock 2 (thicketlaw18_alike.q33 R k14)
def thicketlaw18_alike.rl34 (R : Value → World → Prop) (k14 : Nat) (k : Nat) (a0 : Option Addr) (n0 : Nat) (c0 : Nat) (a1 : Option Addr) (n1 : Nat) (c1 : Nat) (x5 : Int) (x6 : Int) (w : World) : Prop := loopN [0, 1, 5, 6] (codeN Go.Proofs.Try.prog (sub (codeOf Go.Proofs.Try.f20) [1, 1, 0, 1, 0, 0, 1, 0, 0, 1, 1, 0, 0]) (nsub thicketlaw18_alike.an [1, 1, 0, 1, 0, 0, 1, 0, 0, 1, 1, 0, 0])) (thicketlaw18_alike.q34 R k14) k ⟨#[.slice a0 n0 c0, .slice a1 n1 c1, undef, undef, undef, .int .i64 x5, .int .i64 x6, undef, undef, undef, undef, undef, undef, undef, undef, undef, undef, undef, undef, undef, undef, undef, undef, undef, undef, undef, undef, undef, undef, undef, undef, undef, undef, undef, undef, undef, undef, undef, undef, undef, undef, undef, undef, undef, undef, undef, undef, undef, undef, undef, undef, undef, undef, undef, undef], []⟩ w
def thicketlaw18_alike.re34 (R : Value → World → Prop) (k14 : Nat) (a0 : Option Addr) (n0 : Nat) (c0 : Nat) (a1 : Option Addr) (n1 : Nat) (c1 : Nat) (x5 : Int) (x6 : Int) (w : World) : Prop := ∃ k, thicketlaw18_alike.rl34 R k14 k a0 n0 c0 a1 n1 c1 x5 x6 w
def thicketlaw18_alike.l34 (R : Value → World → Prop) (b14 : (Option Addr) → Nat → Nat → (Option Addr) → Nat → Nat → Int → World → Prop) : Nat → (Option Addr) → Nat → Nat → (Option Addr) → Nat → Nat → Int → Int → World → Prop
  | 0, _, _, _, _, _, _, _, _, _ => False
  | k + 1, a0, n0, c0, a1, n1, c1, x5, x6, w => thicketlaw18_alike.g34 R b14 (thicketlaw18_alike.l34 R b14 k) a0 n0 c0 a1 n1 c1 x5 x6 w
def thicketlaw18_alike.e34 (R : Value → World → Prop) (b14 : (Option Addr) → Nat → Nat → (Option Addr) → Nat → Nat → Int → World → Prop) (a0 : Option Addr) (n0 : Nat) (c0 : Nat) (a1 : Option Addr) (n1 : Nat) (c1 : Nat) (x5 : Int) (x6 : Int) (w : World) : Prop := ∃ k, thicketlaw18_alike.l34 R b14 k a0 n0 c0 a1 n1 c1 x5 x6 w
theorem thicketlaw18_alike.s34 (R : Value → World → Prop) (k14 : Nat) (k : Nat) (a0 : Option Addr) (n0 : Nat) (c0 : Nat) (a1 : Option Addr) (n1 : Nat) (c1 : Nat) (x5 : Int) (x6 : Int) (w : World) : thicketlaw18_alike.rl34 R k14 (k + 1) a0 n0 c0 a1 n1 c1 x5 x6 w = ∀ _ : Nat → Value, thicketlaw18_alike.g34 R (thicketlaw18_alike.rl14 R k14) (thicketlaw18_alike.rl34 R k14 k) a0 n0 c0 a1 n1 c1 x5 x6 w := by kernel_rfl
theorem thicketlaw18_alike.lq34 (R : Value → World → Prop) (k14 : Nat) (b14 : (Option Addr) → Nat → Nat → (Option Addr) → Nat → Nat → Int → World → Prop) (hb14 : b14 = thicketlaw18_alike.rl14 R k14) : ∀ k, thicketlaw18_alike.l34 R b14 k = thicketlaw18_alike.rl34 R k14 k
  | 0 => by funext a0 n0 c0 a1 n1 c1 x5 x6 w; rfl
  | k + 1 => by
    funext a0 n0 c0 a1 n1 c1 x5 x6 w
    rw [thicketlaw18_alike.s34, forall_const]
    unfold thicketlaw18_alike.l34
    have ih := thicketlaw18_alike.lq34 R k14 b14 hb14 k
    subst hb14
    rw [ih]
    all_goals rfl
theorem thicketlaw18_alike.eq34 (R : Value → World → Prop) (k14 : Nat) (b14 : (Option Addr) → Nat → Nat → (Option Addr) → Nat → Nat → Int → World → Prop) (hb14 : b14 = thicketlaw18_alike.rl14 R k14) : thicketlaw18_alike.e34 R b14 = thicketlaw18_alike.re34 R k14 := by
  funext a0 n0 c0 a1 n1 c1 x5 x6 w
  unfold thicketlaw18_alike.e34 thicketlaw18_alike.re34
  simp only [thicketlaw18_alike.lq34 R k14 b14 hb14]
def thicketlaw18_alike.l14 (R : Value → World → Prop) : Nat → (Option Addr) → Nat → Nat → (Option Addr) → Nat → Nat → Int → World → Prop
  | 0, _, _, _, _, _, _, _, _ => False
  | k + 1, a0, n0, c0, a1, n1, c1, x5, w => thicketlaw18_alike.g14 R (thicketlaw18_alike.e34 R (thicketlaw18_alike.l14 R k)) a0 n0 c0 a1 n1 c1 x5 w
def thicketlaw18_alike.e14 (R : Value → World → Prop) (a0 : Option Addr) (n0 : Nat) (c0 : Nat) (a1 : Option Addr) (n1 : Nat) (c1 : Nat) (x5 : Int) (w : World) : Prop := ∃ k, thicketlaw18_alike.l14 R k a0 n0 c0 a1 n1 c1 x5 w
theorem thicketlaw18_alike.s14 (R : Value → World → Prop) (k : Nat) (a0 : Option Addr) (n0 : Nat) (c0 : Nat) (a1 : Option Addr) (n1 : Nat) (c1 : Nat) (x5 : Int) (w : World) : thicketlaw18_alike.rl14 R (k + 1) a0 n0 c0 a1 n1 c1 x5 w = ∀ _ : Nat → Value, thicketlaw18_alike.g14 R (thicketlaw18_alike.re34 R k) a0 n0 c0 a1 n1 c1 x5 w := by kernel_rfl
theorem thicketlaw18_alike.lq14 (R : Value → World → Prop) : ∀ k, thicketlaw18_alike.l14 R k = thicketlaw18_alike.rl14 R k
  | 0 => by funext a0 n0 c0 a1 n1 c1 x5 w; rfl
  | k + 1 => by
    funext a0 n0 c0 a1 n1 c1 x5 w
    rw [thicketlaw18_alike.s14, forall_const]
    unfold thicketlaw18_alike.l14
    have ih := thicketlaw18_alike.lq14 R k
    rw [thicketlaw18_alike.eq34 R k _ ih]
    all_goals rfl
theorem thicketlaw18_alike.eq14 (R : Value → World → Prop) : thicketlaw18_alike.e14 R = thicketlaw18_alike.re14 R := by
  funext a0 n0 c0 a1 n1 c1 x5 w
  unfold thicketlaw18_alike.e14 thicketlaw18_alike.re14
  simp only [thicketlaw18_alike.lq14 R]
def thicketlaw18_alike (R : Value → World → Prop) (a0 : Option Addr) (n0 : Nat) (c0 : Nat) (a1 : Option Addr) (n1 : Nat) (c1 : Nat) (w : World) : Prop := thicketlaw18_alike.g0 R (thicketlaw18_alike.e14 R) a0 n0 c0 a1 n1 c1 w
theorem thicketlaw18_alike.root0 (R : Value → World → Prop) (a0 : Option Addr) (n0 : Nat) (c0 : Nat) (a1 : Option Addr) (n1 : Nat) (c1 : Nat) (w : World) : fnN Go.Proofs.Try.prog Go.Proofs.Try.f20 thicketlaw18_alike.an #[.slice a0 n0 c0, .slice a1 n1 c1] w R = thicketlaw18_alike.g0 R (thicketlaw18_alike.re14 R) a0 n0 c0 a1 n1 c1 w := by kernel_rfl
theorem thicketlaw18_alike.calls {R : Value → World → Prop} {a0 : Option Addr} {n0 : Nat} {c0 : Nat} {a1 : Option Addr} {n1 : Nat} {c1 : Nat} {w : World} (h : thicketlaw18_alike R a0 n0 c0 a1 n1 c1 w) : Go.E.CallsD Go.Proofs.Try.prog 20 #[.slice a0 n0 c0, .slice a1 n1 c1] w R := by
  refine callsD_of (n := thicketlaw18_alike.an) M_follows M_sizes Go.Proofs.Try.func20 (by rfl) ?_
  rw [thicketlaw18_alike.root0]
  unfold thicketlaw18_alike at h
  rw [thicketlaw18_alike.eq14 R] at h
  exact h
-- thicket/lanes.groups
def lanes_groups.an : An := An.nil
def lanes_groups.g0 (R : Value → World → Prop) (x0 : Int) (w : World) : Prop :=
  onBool (x0 == 0)
    (R (.int .i64 0) w)
    (R (.int .i64 (IntKind.i64.wrap ((IntKind.i64.wrap (Int.tdiv (IntKind.i64.wrap (x0 - 1)) 8)) + 1))) w)
def lanes_groups (R : Value → World → Prop) (x0 : Int) (w : World) : Prop := lanes_groups.g0 R x0 w
theorem lanes_groups.root0 (R : Value → World → Prop) (x0 : Int) (w : World) : fnN Go.Proofs.Try.prog Go.Proofs.Try.f26 lanes_groups.an #[.int .i64 x0] w R = lanes_groups.g0 R x0 w := by kernel_rfl
theorem lanes_groups.calls {R : Value → World → Prop} {x0 : Int} {w : World} (h : lanes_groups R x0 w) : Go.E.CallsD Go.Proofs.Try.prog 26 #[.int .i64 x0] w R := by
  refine callsD_of (n := lanes_groups.an) M_follows M_sizes Go.Proofs.Try.func26 (by rfl) ?_
  rw [lanes_groups.root0]
  unfold lanes_groups at h
  exact h
-- thicket/thicketlaw18.LanesPacks
def thicketlaw18_LanesPacks.an : An := An.nil
def thicketlaw18_LanesPacks.g0 (R : Value → World → Prop) (a0 : Option Addr) (n0 : Nat) (c0 : Nat) (x1 : Int) (a2 : Option Addr) (n2 : Nat) (c2 : Nat) (x3 : Int) (w : World) : Prop :=
  Go.E.CallsD Go.Proofs.Try.prog 14 #[.slice a0 n0 c0] w fun v25 u26 =>
    ∃ ya_27 : Option Addr, ∃ yn_27 : Nat, ∃ yc_27 : Nat, v25 = .slice ya_27 yn_27 yc_27 ∧
      (Go.E.CallsD Go.Proofs.Try.prog 15 #[.slice ya_27 yn_27 yc_27, .int .i64 x1] u26 fun v28 u29 =>
        ∃ ya_30_0 : Option Addr, ∃ yn_30_0 : Nat, ∃ yc_30_0 : Nat, ∃ yx_30_1 : Int, v28 = .tuple #[.slice ya_30_0 yn_30_0 yc_30_0, .int .i64 yx_30_1] ∧
          (Go.E.CallsD Go.Proofs.Try.prog 16 #[.slice a0 n0 c0, .int .i64 x1] u29 fun v31 u32 =>
            ∃ ya_33_0 : Option Addr, ∃ yn_33_0 : Nat, ∃ yc_33_0 : Nat, ∃ yx_33_1 : Int, v31 = .tuple #[.slice ya_33_0 yn_33_0 yc_33_0, .int .i64 yx_33_1] ∧
              (Go.E.CallsD Go.Proofs.Try.prog 17 #[.slice a2 n2 c2, .int .i64 x3, .int .i64 x1] u32 fun v34 u35 =>
                ∃ ya_36_0 : Option Addr, ∃ yn_36_0 : Nat, ∃ yc_36_0 : Nat, ∃ yx_36_1 : Int, v34 = .tuple #[.slice ya_36_0 yn_36_0 yc_36_0, .int .i64 yx_36_1] ∧
                  (Go.E.CallsD Go.Proofs.Try.prog 18 #[.slice a2 n2 c2, .int .i64 x3, .int .i64 x1] u35 fun v37 u38 =>
                    ∃ ya_39_0 : Option Addr, ∃ yn_39_0 : Nat, ∃ yc_39_0 : Nat, ∃ yx_39_1 : Int, v37 = .tuple #[.slice ya_39_0 yn_39_0 yc_39_0, .int .i64 yx_39_1] ∧
                      (Go.E.CallsD Go.Proofs.Try.prog 19 #[.slice ya_30_0 yn_30_0 yc_30_0, .slice ya_33_0 yn_33_0 yc_33_0] u38 fun v40 u41 =>
                        ∃ yb_42 : Bool, v40 = .bool yb_42 ∧
                          (onBool yb_42
                            (onBool (yx_30_1 == yx_33_1)
                              (Go.E.CallsD Go.Proofs.Try.prog 20 #[.slice ya_36_0 yn_36_0 yc_36_0, .slice ya_39_0 yn_39_0 yc_39_0] u41 fun v43 u44 =>
                                ∃ yb_45 : Bool, v43 = .bool yb_45 ∧
                                  (onBool yb_45
                                    (onBool (yx_36_1 == yx_39_1)
                                      (Go.E.CallsD Go.Proofs.Try.prog 20 #[.slice ya_27 yn_27 yc_27, .slice a0 n0 c0] u44 fun v46 u47 =>
                                        ∃ yb_48 : Bool, v46 = .bool yb_48 ∧
                                          (R (.bool yb_48) u47))
                                      (R (.bool false) u44))
                                    (R (.bool false) u44)))
                              (R (.bool false) u41))
                            (R (.bool false) u41)))))))
def thicketlaw18_LanesPacks (R : Value → World → Prop) (a0 : Option Addr) (n0 : Nat) (c0 : Nat) (x1 : Int) (a2 : Option Addr) (n2 : Nat) (c2 : Nat) (x3 : Int) (w : World) : Prop := thicketlaw18_LanesPacks.g0 R a0 n0 c0 x1 a2 n2 c2 x3 w
theorem thicketlaw18_LanesPacks.root0 (R : Value → World → Prop) (a0 : Option Addr) (n0 : Nat) (c0 : Nat) (x1 : Int) (a2 : Option Addr) (n2 : Nat) (c2 : Nat) (x3 : Int) (w : World) : fnN Go.Proofs.Try.prog Go.Proofs.Try.f4 thicketlaw18_LanesPacks.an #[.slice a0 n0 c0, .int .i64 x1, .slice a2 n2 c2, .int .i64 x3] w R = thicketlaw18_LanesPacks.g0 R a0 n0 c0 x1 a2 n2 c2 x3 w := by kernel_rfl
theorem thicketlaw18_LanesPacks.calls {R : Value → World → Prop} {a0 : Option Addr} {n0 : Nat} {c0 : Nat} {x1 : Int} {a2 : Option Addr} {n2 : Nat} {c2 : Nat} {x3 : Int} {w : World} (h : thicketlaw18_LanesPacks R a0 n0 c0 x1 a2 n2 c2 x3 w) : Go.E.CallsD Go.Proofs.Try.prog 4 #[.slice a0 n0 c0, .int .i64 x1, .slice a2 n2 c2, .int .i64 x3] w R := by
  refine callsD_of (n := thicketlaw18_LanesPacks.an) M_follows M_sizes Go.Proofs.Try.func4 (by rfl) ?_
  rw [thicketlaw18_LanesPacks.root0]
  unfold thicketlaw18_LanesPacks at h
  exact h
end Go.Mir
