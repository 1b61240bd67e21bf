/- Part of a proof of laws of the seat YtabmjhhjbifagaaDoor: functions' weakest preconditions, each checked by the kernel, and contracts out of them; no conditions. -/
import Derived.Test.YtabmjhhjbifagaaDoorBM0
set_option linter.unusedVariables false
set_option linter.unusedSimpArgs false
set_option linter.unusedVariables false
namespace Go.Mir
open Go Go.E Go.RowKit
-- thicket/bits.each
def bits_each_xor.an : An := (.mk none .nil (.mk none .nil (.mk none .nil (.mk none (.mk none .nil (.mk none (.mk (some [0, 1, 2, 8, 19, 20]) .nil .nil) .nil)) .nil))))
def bits_each_xor.g0 (R : Value → World → Prop) (e16 : (Option Addr) → Nat → Nat → (Option Addr) → Nat → Nat → (Option Addr) → Nat → Nat → Int → Int → World → Prop) (a0 : Option Addr) (n0 : Nat) (c0 : Nat) (a1 : Option Addr) (n1 : Nat) (c1 : Nat) (w : World) : Prop :=
  onBool ((n0 : Int) != (n1 : Int))
    (R (.tuple #[.slice none 0 0, .int .i64 6]) w)
    (chk ((0 : Int) ≤ (n0 : Int) ∧ (n0 : Int) ≤ (n0 : Int) ∧ ((8 : Nat) : Int) * (n0 : Int) ≤ 281474976710656 ∧ (n0 : Int) ≤ 9223372036854775807)
      (nw (w.alloc (.cells (madeCells #[.int .u64 0] (((n0 : Int)).toNat * 1)) 56)) fun w16 =>
      e16 a0 n0 c0 a1 n1 c1 (some (na w)) (((n0 : Int)).toNat) (((n0 : Int)).toNat) (n0 : Int) 0 w16))
def bits_each_xor.g16 (R : Value → World → Prop) (b16 : (Option Addr) → Nat → Nat → (Option Addr) → Nat → Nat → (Option Addr) → Nat → Nat → Int → Int → World → Prop) (a0 : Option Addr) (n0 : Nat) (c0 : Nat) (a1 : Option Addr) (n1 : Nat) (c1 : Nat) (a8 : Option Addr) (n8 : Nat) (c8 : Nat) (x19 : Int) (x20 : Int) (w : World) : Prop :=
  onBool (decide (x20 < x19))
    (∃ F17 : Nat → Value → World → Prop, (∀ i v u u', F17 i v u → Below u.heap.size u u' → F17 i v u') ∧
      (optN a0 fun q18 =>
      chk ((0 : Int) ≤ x20 ∧ x20 < (n0 : Int))
        (∃ yx_19 : Int, w.cell? (q18.add (x20.toNat * 1)) = some (.int .u64 yx_19) ∧
          (optN a1 fun q20 =>
          chk ((0 : Int) ≤ x20 ∧ x20 < (n1 : Int))
            (∃ yx_21 : Int, w.cell? (q20.add (x20.toNat * 1)) = some (.int .u64 yx_21) ∧
              ((∀ u22 : World, Below w.heap.size w u22 → Go.E.CallsD Go.Proofs.Tryd.prog 59 #[.int .u64 yx_19, .int .u64 yx_21] u22 fun yv24 u25 => ∃ yx_23 : Int, yv24 = .int .u64 yx_23 ∧ F17 11 (.int .u64 yx_23) u25 ∧ Below u22.heap.size u22 u25) ∧
                (∀ yx_26 : Int, (∃ u, Below w.heap.size w u ∧ F17 11 (.int .u64 yx_26) u) →
                optN a8 fun q27 =>
                chk ((0 : Int) ≤ x20 ∧ x20 < (n8 : Int))
                  (∀ u28 : World, Below w.heap.size w u28 → F17 11 (.int .u64 yx_26) u28 → 
                    okSt u28 ((q27.add (x20.toNat * 1)).add 0) ∧
                      (nw (u28.setCell ((q27.add (x20.toNat * 1)).add 0) (.int .u64 yx_26)) fun w29 =>
                      nv (IntKind.i64.wrap (x20 + 1)) fun t30 =>
                      b16 a0 n0 c0 a1 n1 c1 a8 n8 c8 x19 t30 w29)))))))))
    (R (.tuple #[.slice a8 n8 c8, .int .i64 0]) w)
def bits_each_xor.q2 (R : Value → World → Prop) : Exit → Act → World → Prop := (fin Go.Proofs.Tryd.prog Go.Proofs.Tryd.f56 R)
def bits_each_xor.q10 (R : Value → World → Prop) : Exit → Act → World → Prop := (bits_each_xor.q2 R)
def bits_each_xor.q12 (R : Value → World → Prop) : Exit → Act → World → Prop := (bits_each_xor.q10 R)
def bits_each_xor.q13 (R : Value → World → Prop) : Exit → Act → World → Prop := Exit.then (startN none (codeN Go.Proofs.Tryd.prog (sub (codeOf Go.Proofs.Tryd.f56) [1, 1, 1, 1]) (nsub bits_each_xor.an [1, 1, 1, 1]) (bits_each_xor.q12 R))) (bits_each_xor.q12 R)
def bits_each_xor.q15 (R : Value → World → Prop) : Exit → Act → World → Prop := (bits_each_xor.q13 R)
def bits_each_xor.q16 (R : Value → World → Prop) : Exit → Act → World → Prop := Exit.inBlock 0 (bits_each_xor.q15 R)
def bits_each_xor.rl16 (R : Value → World → Prop) (k : Nat) (a0 : Option Addr) (n0 : Nat) (c0 : Nat) (a1 : Option Addr) (n1 : Nat) (c1 : Nat) (a8 : Option Addr) (n8 : Nat) (c8 : Nat) (x19 : Int) (x20 : Int) (w : World) : Prop := loopN [0, 1, 2, 8, 19, 20] (codeN Go.Proofs.Tryd.prog (sub (codeOf Go.Proofs.Tryd.f56) [1, 1, 1, 0, 1, 0, 0]) (nsub bits_each_xor.an [1, 1, 1, 0, 1, 0, 0])) (bits_each_xor.q16 R) k ⟨#[.slice a0 n0 c0, .slice a1 n1 c1, .func (.func 59) #[] #[], undef, undef, undef, undef, undef, .slice a8 n8 c8, undef, undef, undef, undef, undef, undef, undef, undef, undef, undef, .int .i64 x19, .int .i64 x20, undef, undef, undef, undef, undef, undef, undef, undef, undef, undef, undef, undef, undef, undef, undef, undef, undef], []⟩ w
def bits_each_xor.re16 (R : Value → World → Prop) (a0 : Option Addr) (n0 : Nat) (c0 : Nat) (a1 : Option Addr) (n1 : Nat) (c1 : Nat) (a8 : Option Addr) (n8 : Nat) (c8 : Nat) (x19 : Int) (x20 : Int) (w : World) : Prop := ∃ k, bits_each_xor.rl16 R k a0 n0 c0 a1 n1 c1 a8 n8 c8 x19 x20 w
def bits_each_xor.l16 (R : Value → World → Prop) : Nat → (Option Addr) → Nat → Nat → (Option Addr) → Nat → Nat → (Option Addr) → Nat → Nat → Int → Int → World → Prop
  | 0, _, _, _, _, _, _, _, _, _, _, _, _ => False
  | k + 1, a0, n0, c0, a1, n1, c1, a8, n8, c8, x19, x20, w => bits_each_xor.g16 R (bits_each_xor.l16 R k) a0 n0 c0 a1 n1 c1 a8 n8 c8 x19 x20 w
def bits_each_xor.e16 (R : Value → World → Prop) (a0 : Option Addr) (n0 : Nat) (c0 : Nat) (a1 : Option Addr) (n1 : Nat) (c1 : Nat) (a8 : Option Addr) (n8 : Nat) (c8 : Nat) (x19 : Int) (x20 : Int) (w : World) : Prop := ∃ k, bits_each_xor.l16 R k a0 n0 c0 a1 n1 c1 a8 n8 c8 x19 x20 w
theorem bits_each_xor.s16 (R : Value → World → Prop) (k : Nat) (a0 : Option Addr) (n0 : Nat) (c0 : Nat) (a1 : Option Addr) (n1 : Nat) (c1 : Nat) (a8 : Option Addr) (n8 : Nat) (c8 : Nat) (x19 : Int) (x20 : Int) (w : World) : bits_each_xor.rl16 R (k + 1) a0 n0 c0 a1 n1 c1 a8 n8 c8 x19 x20 w = ∀ _ : Nat → Value, bits_each_xor.g16 R (bits_each_xor.rl16 R k) a0 n0 c0 a1 n1 c1 a8 n8 c8 x19 x20 w := by kernel_rfl
theorem bits_each_xor.lq16 (R : Value → World → Prop) : ∀ k, bits_each_xor.l16 R k = bits_each_xor.rl16 R k
  | 0 => by funext a0 n0 c0 a1 n1 c1 a8 n8 c8 x19 x20 w; rfl
  | k + 1 => by
    funext a0 n0 c0 a1 n1 c1 a8 n8 c8 x19 x20 w
    rw [bits_each_xor.s16, forall_const]
    unfold bits_each_xor.l16
    have ih := bits_each_xor.lq16 R k
    rw [ih]
    all_goals rfl
theorem bits_each_xor.eq16 (R : Value → World → Prop) : bits_each_xor.e16 R = bits_each_xor.re16 R := by
  funext a0 n0 c0 a1 n1 c1 a8 n8 c8 x19 x20 w
  unfold bits_each_xor.e16 bits_each_xor.re16
  simp only [bits_each_xor.lq16 R]
def bits_each_xor (R : Value → World → Prop) (a0 : Option Addr) (n0 : Nat) (c0 : Nat) (a1 : Option Addr) (n1 : Nat) (c1 : Nat) (w : World) : Prop := bits_each_xor.g0 R (bits_each_xor.e16 R) a0 n0 c0 a1 n1 c1 w
theorem bits_each_xor.root0 (R : Value → World → Prop) (a0 : Option Addr) (n0 : Nat) (c0 : Nat) (a1 : Option Addr) (n1 : Nat) (c1 : Nat) (w : World) : fnN Go.Proofs.Tryd.prog Go.Proofs.Tryd.f56 bits_each_xor.an #[.slice a0 n0 c0, .slice a1 n1 c1, .func (.func 59) #[] #[]] w R = bits_each_xor.g0 R (bits_each_xor.re16 R) a0 n0 c0 a1 n1 c1 w := by kernel_rfl
theorem bits_each_xor.calls {R : Value → World → Prop} {a0 : Option Addr} {n0 : Nat} {c0 : Nat} {a1 : Option Addr} {n1 : Nat} {c1 : Nat} {w : World} (h : bits_each_xor R a0 n0 c0 a1 n1 c1 w) : Go.E.CallsD Go.Proofs.Tryd.prog 56 #[.slice a0 n0 c0, .slice a1 n1 c1, .func (.func 59) #[] #[]] w R := by
  refine callsD_of (n := bits_each_xor.an) M_follows M_sizes Go.Proofs.Tryd.func56 (by rfl) ?_
  rw [bits_each_xor.root0]
  unfold bits_each_xor at h
  rw [bits_each_xor.eq16 R] at h
  exact h
-- thicket/bits.And$1
def bits_And_1.an : An := An.nil
def bits_And_1.g0 (R : Value → World → Prop) (x0 : Int) (x1 : Int) (w : World) : Prop :=
  nv (bitsI .and .u64 x0 x1) fun t2 =>
  R (.int .u64 t2) w
def bits_And_1 (R : Value → World → Prop) (x0 : Int) (x1 : Int) (w : World) : Prop := bits_And_1.g0 R x0 x1 w
theorem bits_And_1.root0 (R : Value → World → Prop) (x0 : Int) (x1 : Int) (w : World) : fnN Go.Proofs.Tryd.prog Go.Proofs.Tryd.f57 bits_And_1.an #[.int .u64 x0, .int .u64 x1] w R = bits_And_1.g0 R x0 x1 w := by kernel_rfl
theorem bits_And_1.calls {R : Value → World → Prop} {x0 : Int} {x1 : Int} {w : World} (h : bits_And_1 R x0 x1 w) : Go.E.CallsD Go.Proofs.Tryd.prog 57 #[.int .u64 x0, .int .u64 x1] w R := by
  refine callsD_of (n := bits_And_1.an) M_follows M_sizes Go.Proofs.Tryd.func57 (by rfl) ?_
  rw [bits_And_1.root0]
  unfold bits_And_1 at h
  exact h
-- thicket/bits.Or$1
def bits_Or_1.an : An := An.nil
def bits_Or_1.g0 (R : Value → World → Prop) (x0 : Int) (x1 : Int) (w : World) : Prop :=
  nv (bitsI .or .u64 x0 x1) fun t2 =>
  R (.int .u64 t2) w
def bits_Or_1 (R : Value → World → Prop) (x0 : Int) (x1 : Int) (w : World) : Prop := bits_Or_1.g0 R x0 x1 w
theorem bits_Or_1.root0 (R : Value → World → Prop) (x0 : Int) (x1 : Int) (w : World) : fnN Go.Proofs.Tryd.prog Go.Proofs.Tryd.f58 bits_Or_1.an #[.int .u64 x0, .int .u64 x1] w R = bits_Or_1.g0 R x0 x1 w := by kernel_rfl
theorem bits_Or_1.calls {R : Value → World → Prop} {x0 : Int} {x1 : Int} {w : World} (h : bits_Or_1 R x0 x1 w) : Go.E.CallsD Go.Proofs.Tryd.prog 58 #[.int .u64 x0, .int .u64 x1] w R := by
  refine callsD_of (n := bits_Or_1.an) M_follows M_sizes Go.Proofs.Tryd.func58 (by rfl) ?_
  rw [bits_Or_1.root0]
  unfold bits_Or_1 at h
  exact h
-- thicket/bits.Xor$1
def bits_Xor_1.an : An := An.nil
def bits_Xor_1.g0 (R : Value → World → Prop) (x0 : Int) (x1 : Int) (w : World) : Prop :=
  nv (bitsI .xor .u64 x0 x1) fun t2 =>
  R (.int .u64 t2) w
def bits_Xor_1 (R : Value → World → Prop) (x0 : Int) (x1 : Int) (w : World) : Prop := bits_Xor_1.g0 R x0 x1 w
theorem bits_Xor_1.root0 (R : Value → World → Prop) (x0 : Int) (x1 : Int) (w : World) : fnN Go.Proofs.Tryd.prog Go.Proofs.Tryd.f59 bits_Xor_1.an #[.int .u64 x0, .int .u64 x1] w R = bits_Xor_1.g0 R x0 x1 w := by kernel_rfl
theorem bits_Xor_1.calls {R : Value → World → Prop} {x0 : Int} {x1 : Int} {w : World} (h : bits_Xor_1 R x0 x1 w) : Go.E.CallsD Go.Proofs.Tryd.prog 59 #[.int .u64 x0, .int .u64 x1] w R := by
  refine callsD_of (n := bits_Xor_1.an) M_follows M_sizes Go.Proofs.Tryd.func59 (by rfl) ?_
  rw [bits_Xor_1.root0]
  unfold bits_Xor_1 at h
  exact h
-- thicket/bits.And
def bits_And.an : An := An.nil
def bits_And.g0 (R : Value → World → Prop) (a0 : Option Addr) (n0 : Nat) (c0 : Nat) (a1 : Option Addr) (n1 : Nat) (c1 : Nat) (w : World) : Prop :=
  Go.E.CallsD Go.Proofs.Tryd.prog 56 #[.slice a0 n0 c0, .slice a1 n1 c1, .func (.func 57) #[] #[]] w fun yv4 u5 =>
    ∃ ya_6_0 : Option Addr, ∃ yn_6_0 : Nat, ∃ yc_6_0 : Nat, ∃ yx_6_1 : Int, yv4 = .tuple #[.slice ya_6_0 yn_6_0 yc_6_0, .int .i64 yx_6_1] ∧
      (R (.tuple #[.slice ya_6_0 yn_6_0 yc_6_0, .int .i64 yx_6_1]) u5)
def bits_And (R : Value → World → Prop) (a0 : Option Addr) (n0 : Nat) (c0 : Nat) (a1 : Option Addr) (n1 : Nat) (c1 : Nat) (w : World) : Prop := bits_And.g0 R a0 n0 c0 a1 n1 c1 w
theorem bits_And.root0 (R : Value → World → Prop) (a0 : Option Addr) (n0 : Nat) (c0 : Nat) (a1 : Option Addr) (n1 : Nat) (c1 : Nat) (w : World) : fnN Go.Proofs.Tryd.prog Go.Proofs.Tryd.f30 bits_And.an #[.slice a0 n0 c0, .slice a1 n1 c1] w R = bits_And.g0 R a0 n0 c0 a1 n1 c1 w := by kernel_rfl
theorem bits_And.calls {R : Value → World → Prop} {a0 : Option Addr} {n0 : Nat} {c0 : Nat} {a1 : Option Addr} {n1 : Nat} {c1 : Nat} {w : World} (h : bits_And R a0 n0 c0 a1 n1 c1 w) : Go.E.CallsD Go.Proofs.Tryd.prog 30 #[.slice a0 n0 c0, .slice a1 n1 c1] w R := by
  refine callsD_of (n := bits_And.an) M_follows M_sizes Go.Proofs.Tryd.func30 (by rfl) ?_
  rw [bits_And.root0]
  unfold bits_And at h
  exact h
-- thicket/bits.Or
def bits_Or.an : An := An.nil
def bits_Or.g0 (R : Value → World → Prop) (a0 : Option Addr) (n0 : Nat) (c0 : Nat) (a1 : Option Addr) (n1 : Nat) (c1 : Nat) (w : World) : Prop :=
  Go.E.CallsD Go.Proofs.Tryd.prog 56 #[.slice a0 n0 c0, .slice a1 n1 c1, .func (.func 58) #[] #[]] w fun yv4 u5 =>
    ∃ ya_6_0 : Option Addr, ∃ yn_6_0 : Nat, ∃ yc_6_0 : Nat, ∃ yx_6_1 : Int, yv4 = .tuple #[.slice ya_6_0 yn_6_0 yc_6_0, .int .i64 yx_6_1] ∧
      (R (.tuple #[.slice ya_6_0 yn_6_0 yc_6_0, .int .i64 yx_6_1]) u5)
def bits_Or (R : Value → World → Prop) (a0 : Option Addr) (n0 : Nat) (c0 : Nat) (a1 : Option Addr) (n1 : Nat) (c1 : Nat) (w : World) : Prop := bits_Or.g0 R a0 n0 c0 a1 n1 c1 w
theorem bits_Or.root0 (R : Value → World → Prop) (a0 : Option Addr) (n0 : Nat) (c0 : Nat) (a1 : Option Addr) (n1 : Nat) (c1 : Nat) (w : World) : fnN Go.Proofs.Tryd.prog Go.Proofs.Tryd.f31 bits_Or.an #[.slice a0 n0 c0, .slice a1 n1 c1] w R = bits_Or.g0 R a0 n0 c0 a1 n1 c1 w := by kernel_rfl
theorem bits_Or.calls {R : Value → World → Prop} {a0 : Option Addr} {n0 : Nat} {c0 : Nat} {a1 : Option Addr} {n1 : Nat} {c1 : Nat} {w : World} (h : bits_Or R a0 n0 c0 a1 n1 c1 w) : Go.E.CallsD Go.Proofs.Tryd.prog 31 #[.slice a0 n0 c0, .slice a1 n1 c1] w R := by
  refine callsD_of (n := bits_Or.an) M_follows M_sizes Go.Proofs.Tryd.func31 (by rfl) ?_
  rw [bits_Or.root0]
  unfold bits_Or at h
  exact h
-- thicket/bits.Xor
def bits_Xor.an : An := An.nil
def bits_Xor.g0 (R : Value → World → Prop) (a0 : Option Addr) (n0 : Nat) (c0 : Nat) (a1 : Option Addr) (n1 : Nat) (c1 : Nat) (w : World) : Prop :=
  Go.E.CallsD Go.Proofs.Tryd.prog 56 #[.slice a0 n0 c0, .slice a1 n1 c1, .func (.func 59) #[] #[]] w fun yv4 u5 =>
    ∃ ya_6_0 : Option Addr, ∃ yn_6_0 : Nat, ∃ yc_6_0 : Nat, ∃ yx_6_1 : Int, yv4 = .tuple #[.slice ya_6_0 yn_6_0 yc_6_0, .int .i64 yx_6_1] ∧
      (R (.tuple #[.slice ya_6_0 yn_6_0 yc_6_0, .int .i64 yx_6_1]) u5)
def bits_Xor (R : Value → World → Prop) (a0 : Option Addr) (n0 : Nat) (c0 : Nat) (a1 : Option Addr) (n1 : Nat) (c1 : Nat) (w : World) : Prop := bits_Xor.g0 R a0 n0 c0 a1 n1 c1 w
theorem bits_Xor.root0 (R : Value → World → Prop) (a0 : Option Addr) (n0 : Nat) (c0 : Nat) (a1 : Option Addr) (n1 : Nat) (c1 : Nat) (w : World) : fnN Go.Proofs.Tryd.prog Go.Proofs.Tryd.f32 bits_Xor.an #[.slice a0 n0 c0, .slice a1 n1 c1] w R = bits_Xor.g0 R a0 n0 c0 a1 n1 c1 w := by kernel_rfl
theorem bits_Xor.calls {R : Value → World → Prop} {a0 : Option Addr} {n0 : Nat} {c0 : Nat} {a1 : Option Addr} {n1 : Nat} {c1 : Nat} {w : World} (h : bits_Xor R a0 n0 c0 a1 n1 c1 w) : Go.E.CallsD Go.Proofs.Tryd.prog 32 #[.slice a0 n0 c0, .slice a1 n1 c1] w R := by
  refine callsD_of (n := bits_Xor.an) M_follows M_sizes Go.Proofs.Tryd.func32 (by rfl) ?_
  rw [bits_Xor.root0]
  unfold bits_Xor at h
  exact h
end Go.Mir
