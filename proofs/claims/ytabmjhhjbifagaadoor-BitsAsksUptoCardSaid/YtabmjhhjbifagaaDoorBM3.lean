/- Part of a proof of laws of the seat YtabmjhhjbifagaaDoor: functions' weakest preconditions, each checked by the kernel, and contracts out of them; no conditions. -/
import Derived.Test.YtabmjhhjbifagaaDoorBM0
set_option linter.unusedVariables false
set_option linter.unusedSimpArgs false
set_option linter.unusedVariables false
namespace Go.Mir
open Go Go.E Go.RowKit
-- thicket/thicketref05.Empty
def thicketref05_Empty.an : An := An.nil
def thicketref05_Empty.g0 (R : Value → World → Prop) (x0 : Int) (w : World) : Prop :=
  onBool (decide (x0 < 0))
    (R (.tuple #[.slice none 0 0, .int .i64 2]) w)
    (onBool (decide (x0 > 1048576))
      (R (.tuple #[.slice none 0 0, .int .i64 2]) w)
      (Go.E.CallsD Go.Proofs.Tryd.prog 53 #[.int .i64 x0, .int .i64 0, .int .i64 0, .bool true] w fun yv1 u2 =>
        ∃ ya_3 : Option Addr, ∃ yn_3 : Nat, ∃ yc_3 : Nat, yv1 = .slice ya_3 yn_3 yc_3 ∧
          (R (.tuple #[.slice ya_3 yn_3 yc_3, .int .i64 0]) u2)))
def thicketref05_Empty (R : Value → World → Prop) (x0 : Int) (w : World) : Prop := thicketref05_Empty.g0 R x0 w
theorem thicketref05_Empty.root0 (R : Value → World → Prop) (x0 : Int) (w : World) : fnN Go.Proofs.Tryd.prog Go.Proofs.Tryd.f18 thicketref05_Empty.an #[.int .i64 x0] w R = thicketref05_Empty.g0 R x0 w := by kernel_rfl
theorem thicketref05_Empty.calls {R : Value → World → Prop} {x0 : Int} {w : World} (h : thicketref05_Empty R x0 w) : Go.E.CallsD Go.Proofs.Tryd.prog 18 #[.int .i64 x0] w R := by
  refine callsD_of (n := thicketref05_Empty.an) M_follows M_sizes Go.Proofs.Tryd.func18 (by rfl) ?_
  rw [thicketref05_Empty.root0]
  unfold thicketref05_Empty at h
  exact h
-- thicket/thicketref05.Mask
def thicketref05_Mask.an : An := An.nil
def thicketref05_Mask.g0 (R : Value → World → Prop) (x0 : Int) (x1 : Int) (x2 : Int) (w : World) : Prop :=
  onBool (decide (x0 < 0))
    (R (.tuple #[.slice none 0 0, .int .i64 2]) w)
    (onBool (decide (x0 > 1048576))
      (R (.tuple #[.slice none 0 0, .int .i64 2]) w)
      (onBool (decide (x1 < 0))
        (R (.tuple #[.slice none 0 0, .int .i64 2]) w)
        (onBool (decide (x1 > x2))
          (R (.tuple #[.slice none 0 0, .int .i64 2]) w)
          (onBool (decide (x2 > x0))
            (R (.tuple #[.slice none 0 0, .int .i64 2]) w)
            (Go.E.CallsD Go.Proofs.Tryd.prog 53 #[.int .i64 x0, .int .i64 x1, .int .i64 x2, .bool false] w fun yv1 u2 =>
              ∃ ya_3 : Option Addr, ∃ yn_3 : Nat, ∃ yc_3 : Nat, yv1 = .slice ya_3 yn_3 yc_3 ∧
                (R (.tuple #[.slice ya_3 yn_3 yc_3, .int .i64 0]) u2))))))
def thicketref05_Mask (R : Value → World → Prop) (x0 : Int) (x1 : Int) (x2 : Int) (w : World) : Prop := thicketref05_Mask.g0 R x0 x1 x2 w
theorem thicketref05_Mask.root0 (R : Value → World → Prop) (x0 : Int) (x1 : Int) (x2 : Int) (w : World) : fnN Go.Proofs.Tryd.prog Go.Proofs.Tryd.f19 thicketref05_Mask.an #[.int .i64 x0, .int .i64 x1, .int .i64 x2] w R = thicketref05_Mask.g0 R x0 x1 x2 w := by kernel_rfl
theorem thicketref05_Mask.calls {R : Value → World → Prop} {x0 : Int} {x1 : Int} {x2 : Int} {w : World} (h : thicketref05_Mask R x0 x1 x2 w) : Go.E.CallsD Go.Proofs.Tryd.prog 19 #[.int .i64 x0, .int .i64 x1, .int .i64 x2] w R := by
  refine callsD_of (n := thicketref05_Mask.an) M_follows M_sizes Go.Proofs.Tryd.func19 (by rfl) ?_
  rw [thicketref05_Mask.root0]
  unfold thicketref05_Mask at h
  exact h
-- thicket/thicketref05.made
def thicketref05_made.an : An := (.mk none .nil (.mk none .nil (.mk none (.mk none .nil (.mk none (.mk (some [0, 1, 2, 3, 9, 10]) (.mk none .nil (.mk none (.mk none (.mk (some [0, 1, 2, 3, 9, 10, 29]) .nil .nil) .nil) .nil)) .nil) .nil)) .nil)))
def thicketref05_made.g0 (R : Value → World → Prop) (e8 : Int → Int → Int → Bool → (Option Addr) → Nat → Nat → Int → World → Prop) (x0 : Int) (x1 : Int) (x2 : Int) (b3 : Bool) (w : World) : Prop :=
  nv (IntKind.i64.wrap (x0 + 63)) fun t15 =>
  nv (IntKind.i64.wrap (Int.tdiv t15 64)) fun t16 =>
  chk ((0 : Int) ≤ t16 ∧ t16 ≤ t16 ∧ ((8 : Nat) : Int) * t16 ≤ 281474976710656 ∧ t16 ≤ 9223372036854775807)
    (nw (w.alloc (.cells (madeCells #[.int .u64 0] ((t16).toNat * 1)) 56)) fun w17 =>
    e8 x0 x1 x2 b3 (some (na w)) ((t16).toNat) ((t16).toNat) 0 w17)
def thicketref05_made.g8 (R : Value → World → Prop) (j19 : Int → Int → Int → Bool → (Option Addr) → Nat → Nat → Int → Bool → World → Prop) (x0 : Int) (x1 : Int) (x2 : Int) (b3 : Bool) (a9 : Option Addr) (n9 : Nat) (c9 : Nat) (x10 : Int) (w : World) : Prop :=
  onBool (decide (x10 < x0))
    (onBool (decide (x10 ≥ x1))
      (j19 x0 x1 x2 b3 a9 n9 c9 x10 ((decide (x10 < x2)) == b3) w)
      (j19 x0 x1 x2 b3 a9 n9 c9 x10 (false == b3) w))
    (R (.slice a9 n9 c9) w)
def thicketref05_made.g19 (R : Value → World → Prop) (b8 : Int → Int → Int → Bool → (Option Addr) → Nat → Nat → Int → World → Prop) (x0 : Int) (x1 : Int) (x2 : Int) (b3 : Bool) (a9 : Option Addr) (n9 : Nat) (c9 : Nat) (x10 : Int) (b29 : Bool) (w : World) : Prop :=
  onBool b29
    (nv (IntKind.i64.wrap (Int.tdiv x10 64)) fun t18 =>
    nv (IntKind.i64.wrap (Int.tdiv x10 64)) fun t19 =>
    optN a9 fun q20 =>
    chk ((0 : Int) ≤ t19 ∧ t19 < (n9 : Int))
      (∃ yx_21 : Int, w.cell? (q20.add (t19.toNat * 1)) = some (.int .u64 yx_21) ∧
        (nv (Int.tmod x10 64) fun t22 =>
        nv (IntKind.u64.wrap t22) fun t23 =>
        nchk (t23 < 0)
          (nv (IntKind.u64.wrap (1 * 2 ^ (min t23.toNat 64))) fun t24 =>
          nv (bitsI .or .u64 yx_21 t24) fun t25 =>
          optN a9 fun q26 =>
          chk ((0 : Int) ≤ t18 ∧ t18 < (n9 : Int))
            (okSt w ((q26.add (t18.toNat * 1)).add 0) ∧
              (nw (w.setCell ((q26.add (t18.toNat * 1)).add 0) (.int .u64 t25)) fun w27 =>
              nv (IntKind.i64.wrap (x10 + 1)) fun t28 =>
              b8 x0 x1 x2 b3 a9 n9 c9 t28 w27))))))
    (nv (IntKind.i64.wrap (x10 + 1)) fun t29 =>
    b8 x0 x1 x2 b3 a9 n9 c9 t29 w)
def thicketref05_made.q2 (R : Value → World → Prop) : Exit → Act → World → Prop := (fin Go.Proofs.Tryd.prog Go.Proofs.Tryd.f53 R)
def thicketref05_made.q4 (R : Value → World → Prop) : Exit → Act → World → Prop := (thicketref05_made.q2 R)
def thicketref05_made.q5 (R : Value → World → Prop) : Exit → Act → World → Prop := Exit.then (startN none (codeN Go.Proofs.Tryd.prog (sub (codeOf Go.Proofs.Tryd.f53) [1, 1, 1]) (nsub thicketref05_made.an [1, 1, 1]) (thicketref05_made.q4 R))) (thicketref05_made.q4 R)
def thicketref05_made.q7 (R : Value → World → Prop) : Exit → Act → World → Prop := (thicketref05_made.q5 R)
def thicketref05_made.q8 (R : Value → World → Prop) : Exit → Act → World → Prop := Exit.inBlock 0 (thicketref05_made.q7 R)
def thicketref05_made.rl8 (R : Value → World → Prop) (k : Nat) (x0 : Int) (x1 : Int) (x2 : Int) (b3 : Bool) (a9 : Option Addr) (n9 : Nat) (c9 : Nat) (x10 : Int) (w : World) : Prop := loopN [0, 1, 2, 3, 9, 10] (codeN Go.Proofs.Tryd.prog (sub (codeOf Go.Proofs.Tryd.f53) [1, 1, 0, 1, 0, 0]) (nsub thicketref05_made.an [1, 1, 0, 1, 0, 0])) (thicketref05_made.q8 R) k ⟨#[.int .i64 x0, .int .i64 x1, .int .i64 x2, .bool b3, undef, undef, undef, undef, undef, .slice a9 n9 c9, .int .i64 x10, undef, undef, undef, undef, undef, undef, undef, undef, undef, undef, undef, undef, undef, undef, undef, undef, undef, undef, undef, undef, undef, undef, undef, undef, undef, undef, undef, undef, undef, undef, undef, undef, undef, undef], []⟩ w
def thicketref05_made.re8 (R : Value → World → Prop) (x0 : Int) (x1 : Int) (x2 : Int) (b3 : Bool) (a9 : Option Addr) (n9 : Nat) (c9 : Nat) (x10 : Int) (w : World) : Prop := ∃ k, thicketref05_made.rl8 R k x0 x1 x2 b3 a9 n9 c9 x10 w
def thicketref05_made.q9 (R : Value → World → Prop) (k8 : Nat) : Exit → Act → World → Prop := Exit.then (fun a w => loopN [0, 1, 2, 3, 9, 10] (codeN Go.Proofs.Tryd.prog (sub (codeOf Go.Proofs.Tryd.f53) [1, 1, 0, 1, 0, 0]) (nsub thicketref05_made.an [1, 1, 0, 1, 0, 0])) (thicketref05_made.q8 R) k8 (clr [0, 1, 2, 3, 9, 10] a) w) (thicketref05_made.q8 R)
def thicketref05_made.q15 (R : Value → World → Prop) (k8 : Nat) : Exit → Act → World → Prop := (thicketref05_made.q9 R k8)
def thicketref05_made.q16 (R : Value → World → Prop) (k8 : Nat) : Exit → Act → World → Prop := Exit.then (startN none (codeN Go.Proofs.Tryd.prog (sub (codeOf Go.Proofs.Tryd.f53) [1, 1, 0, 1, 0, 0, 1, 1]) (nsub thicketref05_made.an [1, 1, 0, 1, 0, 0, 1, 1]) (thicketref05_made.q15 R k8))) (thicketref05_made.q15 R k8)
def thicketref05_made.q17 (R : Value → World → Prop) (k8 : Nat) : Exit → Act → World → Prop := Exit.inBlock 1 (thicketref05_made.q16 R k8)
def thicketref05_made.q19 (R : Value → World → Prop) (k8 : Nat) : Exit → Act → World → Prop := (thicketref05_made.q17 R k8)
def thicketref05_made.rj19 (R : Value → World → Prop) (k8 : Nat) (x0 : Int) (x1 : Int) (x2 : Int) (b3 : Bool) (a9 : Option Addr) (n9 : Nat) (c9 : Nat) (x10 : Int) (b29 : Bool) (w : World) : Prop := startN (some [0, 1, 2, 3, 9, 10, 29]) (codeN Go.Proofs.Tryd.prog (sub (codeOf Go.Proofs.Tryd.f53) [1, 1, 0, 1, 0, 0, 1, 0, 0, 1]) (nsub thicketref05_made.an [1, 1, 0, 1, 0, 0, 1, 0, 0, 1]) (thicketref05_made.q19 R k8)) ⟨#[.int .i64 x0, .int .i64 x1, .int .i64 x2, .bool b3, undef, undef, undef, undef, undef, .slice a9 n9 c9, .int .i64 x10, undef, undef, undef, undef, undef, undef, undef, undef, undef, undef, undef, undef, undef, undef, undef, undef, undef, undef, .bool b29, undef, undef, undef, undef, undef, undef, undef, undef, undef, undef, undef, undef, undef, undef, undef], []⟩ w
def thicketref05_made.j19 (R : Value → World → Prop) (b8 : Int → Int → Int → Bool → (Option Addr) → Nat → Nat → Int → World → Prop) (x0 : Int) (x1 : Int) (x2 : Int) (b3 : Bool) (a9 : Option Addr) (n9 : Nat) (c9 : Nat) (x10 : Int) (b29 : Bool) (w : World) : Prop := thicketref05_made.g19 R b8 x0 x1 x2 b3 a9 n9 c9 x10 b29 w
theorem thicketref05_made.s19 (R : Value → World → Prop) (k8 : Nat) (x0 : Int) (x1 : Int) (x2 : Int) (b3 : Bool) (a9 : Option Addr) (n9 : Nat) (c9 : Nat) (x10 : Int) (b29 : Bool) (w : World) : thicketref05_made.rj19 R k8 x0 x1 x2 b3 a9 n9 c9 x10 b29 w = ∀ _ : Nat → Value, thicketref05_made.g19 R (thicketref05_made.rl8 R k8) x0 x1 x2 b3 a9 n9 c9 x10 b29 w := by kernel_rfl
theorem thicketref05_made.jq19 (R : Value → World → Prop) (k8 : Nat) (b8 : Int → Int → Int → Bool → (Option Addr) → Nat → Nat → Int → World → Prop) (hb8 : b8 = thicketref05_made.rl8 R k8) : thicketref05_made.j19 R b8 = thicketref05_made.rj19 R k8 := by
    funext x0 x1 x2 b3 a9 n9 c9 x10 b29 w
    rw [thicketref05_made.s19, forall_const]
    unfold thicketref05_made.j19
    subst hb8
    all_goals rfl
def thicketref05_made.l8 (R : Value → World → Prop) : Nat → Int → Int → Int → Bool → (Option Addr) → Nat → Nat → Int → World → Prop
  | 0, _, _, _, _, _, _, _, _, _ => False
  | k + 1, x0, x1, x2, b3, a9, n9, c9, x10, w => thicketref05_made.g8 R (thicketref05_made.j19 R (thicketref05_made.l8 R k)) x0 x1 x2 b3 a9 n9 c9 x10 w
def thicketref05_made.e8 (R : Value → World → Prop) (x0 : Int) (x1 : Int) (x2 : Int) (b3 : Bool) (a9 : Option Addr) (n9 : Nat) (c9 : Nat) (x10 : Int) (w : World) : Prop := ∃ k, thicketref05_made.l8 R k x0 x1 x2 b3 a9 n9 c9 x10 w
theorem thicketref05_made.s8 (R : Value → World → Prop) (k : Nat) (x0 : Int) (x1 : Int) (x2 : Int) (b3 : Bool) (a9 : Option Addr) (n9 : Nat) (c9 : Nat) (x10 : Int) (w : World) : thicketref05_made.rl8 R (k + 1) x0 x1 x2 b3 a9 n9 c9 x10 w = ∀ _ : Nat → Value, thicketref05_made.g8 R (thicketref05_made.rj19 R k) x0 x1 x2 b3 a9 n9 c9 x10 w := by kernel_rfl
theorem thicketref05_made.lq8 (R : Value → World → Prop) : ∀ k, thicketref05_made.l8 R k = thicketref05_made.rl8 R k
  | 0 => by funext x0 x1 x2 b3 a9 n9 c9 x10 w; rfl
  | k + 1 => by
    funext x0 x1 x2 b3 a9 n9 c9 x10 w
    rw [thicketref05_made.s8, forall_const]
    unfold thicketref05_made.l8
    have ih := thicketref05_made.lq8 R k
    rw [thicketref05_made.jq19 R k _ ih]
    all_goals rfl
theorem thicketref05_made.eq8 (R : Value → World → Prop) : thicketref05_made.e8 R = thicketref05_made.re8 R := by
  funext x0 x1 x2 b3 a9 n9 c9 x10 w
  unfold thicketref05_made.e8 thicketref05_made.re8
  simp only [thicketref05_made.lq8 R]
def thicketref05_made (R : Value → World → Prop) (x0 : Int) (x1 : Int) (x2 : Int) (b3 : Bool) (w : World) : Prop := thicketref05_made.g0 R (thicketref05_made.e8 R) x0 x1 x2 b3 w
theorem thicketref05_made.root0 (R : Value → World → Prop) (x0 : Int) (x1 : Int) (x2 : Int) (b3 : Bool) (w : World) : fnN Go.Proofs.Tryd.prog Go.Proofs.Tryd.f53 thicketref05_made.an #[.int .i64 x0, .int .i64 x1, .int .i64 x2, .bool b3] w R = thicketref05_made.g0 R (thicketref05_made.re8 R) x0 x1 x2 b3 w := by kernel_rfl
theorem thicketref05_made.calls {R : Value → World → Prop} {x0 : Int} {x1 : Int} {x2 : Int} {b3 : Bool} {w : World} (h : thicketref05_made R x0 x1 x2 b3 w) : Go.E.CallsD Go.Proofs.Tryd.prog 53 #[.int .i64 x0, .int .i64 x1, .int .i64 x2, .bool b3] w R := by
  refine callsD_of (n := thicketref05_made.an) M_follows M_sizes Go.Proofs.Tryd.func53 (by rfl) ?_
  rw [thicketref05_made.root0]
  unfold thicketref05_made at h
  rw [thicketref05_made.eq8 R] at h
  exact h
-- thicket/thicketref05.Same
def thicketref05_Same.an : An := (.mk none .nil (.mk none .nil (.mk none (.mk none .nil (.mk none (.mk (some [0, 1, 12, 13]) .nil .nil) .nil)) .nil)))
def thicketref05_Same.g0 (R : Value → World → Prop) (e14 : (Option Addr) → Nat → Nat → (Option Addr) → Nat → Nat → Int → Int → World → Prop) (a0 : Option Addr) (n0 : Nat) (c0 : Nat) (a1 : Option Addr) (n1 : Nat) (c1 : Nat) (w : World) : Prop :=
  onBool ((n0 : Int) != (n1 : Int))
    (R (.bool false) w)
    (e14 a0 n0 c0 a1 n1 c1 (n0 : Int) 0 w)
def thicketref05_Same.g14 (R : Value → World → Prop) (b14 : (Option Addr) → Nat → Nat → (Option Addr) → Nat → Nat → Int → Int → World → Prop) (a0 : Option Addr) (n0 : Nat) (c0 : Nat) (a1 : Option Addr) (n1 : Nat) (c1 : Nat) (x12 : Int) (x13 : Int) (w : World) : Prop :=
  onBool (decide (x13 < x12))
    (optN a0 fun q6 =>
    chk ((0 : Int) ≤ x13 ∧ x13 < (n0 : Int))
      (∃ yx_7 : Int, w.cell? (q6.add (x13.toNat * 1)) = some (.int .u64 yx_7) ∧
        (optN a1 fun q8 =>
        chk ((0 : Int) ≤ x13 ∧ x13 < (n1 : Int))
          (∃ yx_9 : Int, w.cell? (q8.add (x13.toNat * 1)) = some (.int .u64 yx_9) ∧
            (onBool (yx_7 != yx_9)
              (R (.bool false) w)
              (nv (IntKind.i64.wrap (x13 + 1)) fun t10 =>
              b14 a0 n0 c0 a1 n1 c1 x12 t10 w))))))
    (R (.bool true) w)
def thicketref05_Same.q2 (R : Value → World → Prop) : Exit → Act → World → Prop := (fin Go.Proofs.Tryd.prog Go.Proofs.Tryd.f21 R)
def thicketref05_Same.q10 (R : Value → World → Prop) : Exit → Act → World → Prop := (thicketref05_Same.q2 R)
def thicketref05_Same.q11 (R : Value → World → Prop) : Exit → Act → World → Prop := Exit.then (startN none (codeN Go.Proofs.Tryd.prog (sub (codeOf Go.Proofs.Tryd.f21) [1, 1, 1]) (nsub thicketref05_Same.an [1, 1, 1]) (thicketref05_Same.q10 R))) (thicketref05_Same.q10 R)
def thicketref05_Same.q13 (R : Value → World → Prop) : Exit → Act → World → Prop := (thicketref05_Same.q11 R)
def thicketref05_Same.q14 (R : Value → World → Prop) : Exit → Act → World → Prop := Exit.inBlock 0 (thicketref05_Same.q13 R)
def thicketref05_Same.rl14 (R : Value → World → Prop) (k : Nat) (a0 : Option Addr) (n0 : Nat) (c0 : Nat) (a1 : Option Addr) (n1 : Nat) (c1 : Nat) (x12 : Int) (x13 : Int) (w : World) : Prop := loopN [0, 1, 12, 13] (codeN Go.Proofs.Tryd.prog (sub (codeOf Go.Proofs.Tryd.f21) [1, 1, 0, 1, 0, 0]) (nsub thicketref05_Same.an [1, 1, 0, 1, 0, 0])) (thicketref05_Same.q14 R) k ⟨#[.slice a0 n0 c0, .slice a1 n1 c1, undef, undef, undef, undef, undef, undef, undef, undef, undef, undef, .int .i64 x12, .int .i64 x13, undef, undef, undef, undef, undef, undef, undef, undef, undef, undef, undef, undef], []⟩ w
def thicketref05_Same.re14 (R : Value → World → Prop) (a0 : Option Addr) (n0 : Nat) (c0 : Nat) (a1 : Option Addr) (n1 : Nat) (c1 : Nat) (x12 : Int) (x13 : Int) (w : World) : Prop := ∃ k, thicketref05_Same.rl14 R k a0 n0 c0 a1 n1 c1 x12 x13 w
def thicketref05_Same.l14 (R : Value → World → Prop) : Nat → (Option Addr) → Nat → Nat → (Option Addr) → Nat → Nat → Int → Int → World → Prop
  | 0, _, _, _, _, _, _, _, _, _ => False
  | k + 1, a0, n0, c0, a1, n1, c1, x12, x13, w => thicketref05_Same.g14 R (thicketref05_Same.l14 R k) a0 n0 c0 a1 n1 c1 x12 x13 w
def thicketref05_Same.e14 (R : Value → World → Prop) (a0 : Option Addr) (n0 : Nat) (c0 : Nat) (a1 : Option Addr) (n1 : Nat) (c1 : Nat) (x12 : Int) (x13 : Int) (w : World) : Prop := ∃ k, thicketref05_Same.l14 R k a0 n0 c0 a1 n1 c1 x12 x13 w
theorem thicketref05_Same.s14 (R : Value → World → Prop) (k : Nat) (a0 : Option Addr) (n0 : Nat) (c0 : Nat) (a1 : Option Addr) (n1 : Nat) (c1 : Nat) (x12 : Int) (x13 : Int) (w : World) : thicketref05_Same.rl14 R (k + 1) a0 n0 c0 a1 n1 c1 x12 x13 w = ∀ _ : Nat → Value, thicketref05_Same.g14 R (thicketref05_Same.rl14 R k) a0 n0 c0 a1 n1 c1 x12 x13 w := by kernel_rfl
theorem thicketref05_Same.lq14 (R : Value → World → Prop) : ∀ k, thicketref05_Same.l14 R k = thicketref05_Same.rl14 R k
  | 0 => by funext a0 n0 c0 a1 n1 c1 x12 x13 w; rfl
  | k + 1 => by
    funext a0 n0 c0 a1 n1 c1 x12 x13 w
    rw [thicketref05_Same.s14, forall_const]
    unfold thicketref05_Same.l14
    have ih := thicketref05_Same.lq14 R k
    rw [ih]
    all_goals rfl
theorem thicketref05_Same.eq14 (R : Value → World → Prop) : thicketref05_Same.e14 R = thicketref05_Same.re14 R := by
  funext a0 n0 c0 a1 n1 c1 x12 x13 w
  unfold thicketref05_Same.e14 thicketref05_Same.re14
  simp only [thicketref05_Same.lq14 R]
def thicketref05_Same (R : Value → World → Prop) (a0 : Option Addr) (n0 : Nat) (c0 : Nat) (a1 : Option Addr) (n1 : Nat) (c1 : Nat) (w : World) : Prop := thicketref05_Same.g0 R (thicketref05_Same.e14 R) a0 n0 c0 a1 n1 c1 w
theorem thicketref05_Same.root0 (R : Value → World → Prop) (a0 : Option Addr) (n0 : Nat) (c0 : Nat) (a1 : Option Addr) (n1 : Nat) (c1 : Nat) (w : World) : fnN Go.Proofs.Tryd.prog Go.Proofs.Tryd.f21 thicketref05_Same.an #[.slice a0 n0 c0, .slice a1 n1 c1] w R = thicketref05_Same.g0 R (thicketref05_Same.re14 R) a0 n0 c0 a1 n1 c1 w := by kernel_rfl
theorem thicketref05_Same.calls {R : Value → World → Prop} {a0 : Option Addr} {n0 : Nat} {c0 : Nat} {a1 : Option Addr} {n1 : Nat} {c1 : Nat} {w : World} (h : thicketref05_Same R a0 n0 c0 a1 n1 c1 w) : Go.E.CallsD Go.Proofs.Tryd.prog 21 #[.slice a0 n0 c0, .slice a1 n1 c1] w R := by
  refine callsD_of (n := thicketref05_Same.an) M_follows M_sizes Go.Proofs.Tryd.func21 (by rfl) ?_
  rw [thicketref05_Same.root0]
  unfold thicketref05_Same at h
  rw [thicketref05_Same.eq14 R] at h
  exact h
-- thicket/thicketlaw05.copied
def thicketlaw05_copied.an : An := An.nil
def thicketlaw05_copied.g0 (R : Value → World → Prop) (a0 : Option Addr) (n0 : Nat) (c0 : Nat) (w : World) : Prop :=
  rawN Go.Proofs.Tryd.prog (Builtin.append_ #[25, 25] 25 #[.slice none 0 0, .slice a0 n0 c0]) w fun yv4 u5 =>
    ∃ ya_6 : Option Addr, ∃ yn_6 : Nat, ∃ yc_6 : Nat, yv4 = .slice ya_6 yn_6 yc_6 ∧
      (R (.slice ya_6 yn_6 yc_6) u5)
def thicketlaw05_copied (R : Value → World → Prop) (a0 : Option Addr) (n0 : Nat) (c0 : Nat) (w : World) : Prop := thicketlaw05_copied.g0 R a0 n0 c0 w
theorem thicketlaw05_copied.root0 (R : Value → World → Prop) (a0 : Option Addr) (n0 : Nat) (c0 : Nat) (w : World) : fnN Go.Proofs.Tryd.prog Go.Proofs.Tryd.f22 thicketlaw05_copied.an #[.slice a0 n0 c0] w R = thicketlaw05_copied.g0 R a0 n0 c0 w := by kernel_rfl
theorem thicketlaw05_copied.calls {R : Value → World → Prop} {a0 : Option Addr} {n0 : Nat} {c0 : Nat} {w : World} (h : thicketlaw05_copied R a0 n0 c0 w) : Go.E.CallsD Go.Proofs.Tryd.prog 22 #[.slice a0 n0 c0] w R := by
  refine callsD_of (n := thicketlaw05_copied.an) M_follows M_sizes Go.Proofs.Tryd.func22 (by rfl) ?_
  rw [thicketlaw05_copied.root0]
  unfold thicketlaw05_copied at h
  exact h
-- thicket/thicketlaw05.lives
def thicketlaw05_lives.an : An := An.nil
def thicketlaw05_lives.g0 (R : Value → World → Prop) (w : World) : Prop :=
  Go.E.CallsD Go.Proofs.Tryd.prog 15 #[.int .i64 4, .int .i64 1, .int .i64 3] w fun yv21 u22 =>
    ∃ ya_23_0 : Option Addr, ∃ yn_23_0 : Nat, ∃ yc_23_0 : Nat, ∃ yx_23_1 : Int, yv21 = .tuple #[.slice ya_23_0 yn_23_0 yc_23_0, .int .i64 yx_23_1] ∧
      (Go.E.CallsD Go.Proofs.Tryd.prog 12 #[.int .i64 65] u22 fun yv24 u25 =>
        ∃ yx_26_0 : Int, ∃ yx_26_1 : Int, yv24 = .tuple #[.int .i64 yx_26_0, .int .i64 yx_26_1] ∧
          (nw (u25.alloc (.cells #[.int .u64 5] 56)) fun w27 =>
          Go.E.CallsD Go.Proofs.Tryd.prog 26 #[.slice (some (na u25)) 1 1, .int .i64 3] w27 fun yv28 u29 =>
            ∃ ys_30_0 : ByteArray, ∃ yx_30_1 : Int, yv28 = .tuple #[.string ys_30_0, .int .i64 yx_30_1] ∧
              (onBool (yx_23_1 == 0)
                (onBool ((yn_23_0 : Int) == 1)
                  (optN ya_23_0 fun q31 =>
                  chk ((0 : Int) ≤ 0 ∧ 0 < (yn_23_0 : Int))
                    (∃ yx_32 : Int, u29.cell? (q31.add 0) = some (.int .u64 yx_32) ∧
                      (onBool (yx_32 == 9)
                        (onBool (yx_26_1 == 0)
                          (onBool (yx_26_0 == 2)
                            (onBool (yx_30_1 == 0)
                              (onBool ((ys_30_0 : ByteArray).toList == (⟨#[49, 48, 49]⟩ : ByteArray).toList)
                                (nw (u29.alloc (.cells #[.int .u64 0, .int .u64 4] 56)) fun w33 =>
                                Go.E.CallsD Go.Proofs.Tryd.prog 43 #[.slice (some (na u29)) 2 2] w33 fun yv34 u35 =>
                                  ∃ yx_36 : Int, yv34 = .int .i64 yx_36 ∧
                                    (onBool (yx_36 == 66)
                                      (nw (u35.alloc (.cells #[.int .u64 7, .int .u64 1] 56)) fun w37 =>
                                      Go.E.CallsD Go.Proofs.Tryd.prog 25 #[.slice (some (na u35)) 2 2] w37 fun yv38 u39 =>
                                        ∃ yx_40 : Int, yv38 = .int .i64 yx_40 ∧
                                          (R (.bool (yx_40 == 4)) u39))
                                      (R (.bool false) u35)))
                                (R (.bool false) u29))
                              (R (.bool false) u29))
                            (R (.bool false) u29))
                          (R (.bool false) u29))
                        (R (.bool false) u29))))
                  (R (.bool false) u29))
                (R (.bool false) u29))))
def thicketlaw05_lives (R : Value → World → Prop) (w : World) : Prop := thicketlaw05_lives.g0 R  w
theorem thicketlaw05_lives.root0 (R : Value → World → Prop) (w : World) : fnN Go.Proofs.Tryd.prog Go.Proofs.Tryd.f20 thicketlaw05_lives.an #[] w R = thicketlaw05_lives.g0 R  w := by kernel_rfl
theorem thicketlaw05_lives.calls {R : Value → World → Prop} {w : World} (h : thicketlaw05_lives R  w) : Go.E.CallsD Go.Proofs.Tryd.prog 20 #[] w R := by
  refine callsD_of (n := thicketlaw05_lives.an) M_follows M_sizes Go.Proofs.Tryd.func20 (by rfl) ?_
  rw [thicketlaw05_lives.root0]
  unfold thicketlaw05_lives at h
  exact h
-- thicket/thicketlaw05.BitsMade
def thicketlaw05_BitsMade.an : An := An.nil
def thicketlaw05_BitsMade.g0 (R : Value → World → Prop) (x0 : Int) (x1 : Int) (x2 : Int) (w : World) : Prop :=
  Go.E.CallsD Go.Proofs.Tryd.prog 12 #[.int .i64 x0] w fun yv37 u38 =>
    ∃ yx_39_0 : Int, ∃ yx_39_1 : Int, yv37 = .tuple #[.int .i64 yx_39_0, .int .i64 yx_39_1] ∧
      (Go.E.CallsD Go.Proofs.Tryd.prog 13 #[.int .i64 x0] u38 fun yv40 u41 =>
        ∃ ya_42_0 : Option Addr, ∃ yn_42_0 : Nat, ∃ yc_42_0 : Nat, ∃ yx_42_1 : Int, yv40 = .tuple #[.slice ya_42_0 yn_42_0 yc_42_0, .int .i64 yx_42_1] ∧
          (Go.E.CallsD Go.Proofs.Tryd.prog 14 #[.int .i64 x0] u41 fun yv43 u44 =>
            ∃ ya_45_0 : Option Addr, ∃ yn_45_0 : Nat, ∃ yc_45_0 : Nat, ∃ yx_45_1 : Int, yv43 = .tuple #[.slice ya_45_0 yn_45_0 yc_45_0, .int .i64 yx_45_1] ∧
              (Go.E.CallsD Go.Proofs.Tryd.prog 15 #[.int .i64 x0, .int .i64 x1, .int .i64 x2] u44 fun yv46 u47 =>
                ∃ ya_48_0 : Option Addr, ∃ yn_48_0 : Nat, ∃ yc_48_0 : Nat, ∃ yx_48_1 : Int, yv46 = .tuple #[.slice ya_48_0 yn_48_0 yc_48_0, .int .i64 yx_48_1] ∧
                  (Go.E.CallsD Go.Proofs.Tryd.prog 16 #[.int .i64 x0] u47 fun yv49 u50 =>
                    ∃ yx_51_0 : Int, ∃ yx_51_1 : Int, yv49 = .tuple #[.int .i64 yx_51_0, .int .i64 yx_51_1] ∧
                      (Go.E.CallsD Go.Proofs.Tryd.prog 17 #[.int .i64 x0] u50 fun yv52 u53 =>
                        ∃ ya_54_0 : Option Addr, ∃ yn_54_0 : Nat, ∃ yc_54_0 : Nat, ∃ yx_54_1 : Int, yv52 = .tuple #[.slice ya_54_0 yn_54_0 yc_54_0, .int .i64 yx_54_1] ∧
                          (Go.E.CallsD Go.Proofs.Tryd.prog 18 #[.int .i64 x0] u53 fun yv55 u56 =>
                            ∃ ya_57_0 : Option Addr, ∃ yn_57_0 : Nat, ∃ yc_57_0 : Nat, ∃ yx_57_1 : Int, yv55 = .tuple #[.slice ya_57_0 yn_57_0 yc_57_0, .int .i64 yx_57_1] ∧
                              (Go.E.CallsD Go.Proofs.Tryd.prog 19 #[.int .i64 x0, .int .i64 x1, .int .i64 x2] u56 fun yv58 u59 =>
                                ∃ ya_60_0 : Option Addr, ∃ yn_60_0 : Nat, ∃ yc_60_0 : Nat, ∃ yx_60_1 : Int, yv58 = .tuple #[.slice ya_60_0 yn_60_0 yc_60_0, .int .i64 yx_60_1] ∧
                                  (Go.E.CallsD Go.Proofs.Tryd.prog 20 #[] u59 fun yv61 u62 =>
                                    ∃ yb_63 : Bool, yv61 = .bool yb_63 ∧
                                      (onBool yb_63
                                        (onBool (yx_39_0 == yx_51_0)
                                          (Go.E.CallsD Go.Proofs.Tryd.prog 21 #[.slice ya_42_0 yn_42_0 yc_42_0, .slice ya_54_0 yn_54_0 yc_54_0] u62 fun yv64 u65 =>
                                            ∃ yb_66 : Bool, yv64 = .bool yb_66 ∧
                                              (onBool yb_66
                                                (Go.E.CallsD Go.Proofs.Tryd.prog 21 #[.slice ya_45_0 yn_45_0 yc_45_0, .slice ya_57_0 yn_57_0 yc_57_0] u65 fun yv67 u68 =>
                                                  ∃ yb_69 : Bool, yv67 = .bool yb_69 ∧
                                                    (onBool yb_69
                                                      (Go.E.CallsD Go.Proofs.Tryd.prog 21 #[.slice ya_48_0 yn_48_0 yc_48_0, .slice ya_60_0 yn_60_0 yc_60_0] u68 fun yv70 u71 =>
                                                        ∃ yb_72 : Bool, yv70 = .bool yb_72 ∧
                                                          (onBool yb_72
                                                            (onBool (yx_39_1 == yx_51_1)
                                                              (onBool (yx_42_1 == yx_54_1)
                                                                (onBool (yx_45_1 == yx_57_1)
                                                                  (R (.bool (yx_48_1 == yx_60_1)) u71)
                                                                  (R (.bool false) u71))
                                                                (R (.bool false) u71))
                                                              (R (.bool false) u71))
                                                            (R (.bool false) u71)))
                                                      (R (.bool false) u68)))
                                                (R (.bool false) u65)))
                                          (R (.bool false) u62))
                                        (R (.bool false) u62))))))))))
def thicketlaw05_BitsMade (R : Value → World → Prop) (x0 : Int) (x1 : Int) (x2 : Int) (w : World) : Prop := thicketlaw05_BitsMade.g0 R x0 x1 x2 w
theorem thicketlaw05_BitsMade.root0 (R : Value → World → Prop) (x0 : Int) (x1 : Int) (x2 : Int) (w : World) : fnN Go.Proofs.Tryd.prog Go.Proofs.Tryd.f3 thicketlaw05_BitsMade.an #[.int .i64 x0, .int .i64 x1, .int .i64 x2] w R = thicketlaw05_BitsMade.g0 R x0 x1 x2 w := by kernel_rfl
theorem thicketlaw05_BitsMade.calls {R : Value → World → Prop} {x0 : Int} {x1 : Int} {x2 : Int} {w : World} (h : thicketlaw05_BitsMade R x0 x1 x2 w) : Go.E.CallsD Go.Proofs.Tryd.prog 3 #[.int .i64 x0, .int .i64 x1, .int .i64 x2] w R := by
  refine callsD_of (n := thicketlaw05_BitsMade.an) M_follows M_sizes Go.Proofs.Tryd.func3 (by rfl) ?_
  rw [thicketlaw05_BitsMade.root0]
  unfold thicketlaw05_BitsMade at h
  exact h
end Go.Mir
