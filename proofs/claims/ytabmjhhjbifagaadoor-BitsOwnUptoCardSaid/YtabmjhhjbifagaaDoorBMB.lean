/- Part of a proof of laws of the seat YtabmjhhjbifagaaDoor: functions' weakest preconditions, each checked by the kernel, contracts out of them, plain lemmas; no conditions. -/
import Derived.Test.YtabmjhhjbifagaaDoorBMA
set_option linter.unusedVariables false
set_option linter.unusedSimpArgs false
set_option linter.unusedVariables false
namespace Go.Mir
open Go Go.E Go.RowKit
-- thicket/thicketlaw05.BitsMeets
def thicketlaw05_BitsMeets.an : An := An.nil
def thicketlaw05_BitsMeets.g0 (R : Value → World → Prop) (a0 : Option Addr) (n0 : Nat) (c0 : Nat) (x1 : Int) (x2 : Int) (x3 : Int) (x4 : Int) (w : World) : Prop :=
  Go.E.CallsD Go.Proofs.Tryd.prog 20 #[] w fun yv49 u50 =>
    ∃ yb_51 : Bool, yv49 = .bool yb_51 ∧
      (onBool (!yb_51)
        (R (.bool false) u50)
        (Go.E.CallsD Go.Proofs.Tryd.prog 15 #[.int .i64 x1, .int .i64 x2, .int .i64 x3] u50 fun yv52 u53 =>
          ∃ ya_54_0 : Option Addr, ∃ yn_54_0 : Nat, ∃ yc_54_0 : Nat, ∃ yx_54_1 : Int, yv52 = .tuple #[.slice ya_54_0 yn_54_0 yc_54_0, .int .i64 yx_54_1] ∧
            (onBool (yx_54_1 != 0)
              (onBool (decide (x1 < 0))
                (R (.bool true) u53)
                (onBool (decide (x1 > 1048576))
                  (R (.bool true) u53)
                  (onBool (decide (x2 < 0))
                    (R (.bool true) u53)
                    (onBool (decide (x2 > x3))
                      (R (.bool true) u53)
                      (R (.bool (decide (x3 > x1))) u53)))))
              (Go.E.CallsD Go.Proofs.Tryd.prog 22 #[.slice a0 n0 c0] u53 fun yv55 u56 =>
                ∃ ya_57 : Option Addr, ∃ yn_57 : Nat, ∃ yc_57 : Nat, yv55 = .slice ya_57 yn_57 yc_57 ∧
                  (Go.E.CallsD Go.Proofs.Tryd.prog 23 #[.slice ya_57 yn_57 yc_57, .slice ya_54_0 yn_54_0 yc_54_0] u56 fun yv58 u59 =>
                    ∃ yx_60 : Int, yv58 = .int .i64 yx_60 ∧
                      (onBool (yx_60 != 0)
                        (onBool (yx_60 == 6)
                          (R (.bool ((n0 : Int) != (yn_54_0 : Int))) u59)
                          (R (.bool false) u59))
                        (Go.E.CallsD Go.Proofs.Tryd.prog 24 #[.slice ya_57 yn_57 yc_57, .int .i64 x4] u59 fun yv61 u62 =>
                          ∃ yb_63 : Bool, yv61 = .bool yb_63 ∧
                            (Go.E.CallsD Go.Proofs.Tryd.prog 24 #[.slice a0 n0 c0, .int .i64 x4] u62 fun yv64 u65 =>
                              ∃ yb_66 : Bool, yv64 = .bool yb_66 ∧
                                (onBool yb_66
                                  (onBool (decide (x4 ≥ 0))
                                    (onBool (decide (x4 < x1))
                                      (onBool (decide (x4 < x2))
                                        (onBool (yb_63 == true)
                                          (Go.E.CallsD Go.Proofs.Tryd.prog 25 #[.slice ya_57 yn_57 yc_57] u65 fun yv67 u68 =>
                                            ∃ yx_69 : Int, yv67 = .int .i64 yx_69 ∧
                                              (Go.E.CallsD Go.Proofs.Tryd.prog 25 #[.slice a0 n0 c0] u68 fun yv70 u71 =>
                                                ∃ yx_72 : Int, yv70 = .int .i64 yx_72 ∧
                                                  (R (.bool (decide (yx_69 ≤ yx_72))) u71)))
                                          (R (.bool false) u65))
                                        (onBool (yb_63 == (decide (x4 ≥ x3)))
                                          (Go.E.CallsD Go.Proofs.Tryd.prog 25 #[.slice ya_57 yn_57 yc_57] u65 fun yv73 u74 =>
                                            ∃ yx_75 : Int, yv73 = .int .i64 yx_75 ∧
                                              (Go.E.CallsD Go.Proofs.Tryd.prog 25 #[.slice a0 n0 c0] u74 fun yv76 u77 =>
                                                ∃ yx_78 : Int, yv76 = .int .i64 yx_78 ∧
                                                  (R (.bool (decide (yx_75 ≤ yx_78))) u77)))
                                          (R (.bool false) u65)))
                                      (onBool (yb_63 == false)
                                        (Go.E.CallsD Go.Proofs.Tryd.prog 25 #[.slice ya_57 yn_57 yc_57] u65 fun yv79 u80 =>
                                          ∃ yx_81 : Int, yv79 = .int .i64 yx_81 ∧
                                            (Go.E.CallsD Go.Proofs.Tryd.prog 25 #[.slice a0 n0 c0] u80 fun yv82 u83 =>
                                              ∃ yx_84 : Int, yv82 = .int .i64 yx_84 ∧
                                                (R (.bool (decide (yx_81 ≤ yx_84))) u83)))
                                        (R (.bool false) u65)))
                                    (onBool (yb_63 == false)
                                      (Go.E.CallsD Go.Proofs.Tryd.prog 25 #[.slice ya_57 yn_57 yc_57] u65 fun yv85 u86 =>
                                        ∃ yx_87 : Int, yv85 = .int .i64 yx_87 ∧
                                          (Go.E.CallsD Go.Proofs.Tryd.prog 25 #[.slice a0 n0 c0] u86 fun yv88 u89 =>
                                            ∃ yx_90 : Int, yv88 = .int .i64 yx_90 ∧
                                              (R (.bool (decide (yx_87 ≤ yx_90))) u89)))
                                      (R (.bool false) u65)))
                                  (onBool (yb_63 == false)
                                    (Go.E.CallsD Go.Proofs.Tryd.prog 25 #[.slice ya_57 yn_57 yc_57] u65 fun yv91 u92 =>
                                      ∃ yx_93 : Int, yv91 = .int .i64 yx_93 ∧
                                        (Go.E.CallsD Go.Proofs.Tryd.prog 25 #[.slice a0 n0 c0] u92 fun yv94 u95 =>
                                          ∃ yx_96 : Int, yv94 = .int .i64 yx_96 ∧
                                            (R (.bool (decide (yx_93 ≤ yx_96))) u95)))
                                    (R (.bool false) u65)))))))))))
def thicketlaw05_BitsMeets (R : Value → World → Prop) (a0 : Option Addr) (n0 : Nat) (c0 : Nat) (x1 : Int) (x2 : Int) (x3 : Int) (x4 : Int) (w : World) : Prop := thicketlaw05_BitsMeets.g0 R a0 n0 c0 x1 x2 x3 x4 w
theorem thicketlaw05_BitsMeets.root0 (R : Value → World → Prop) (a0 : Option Addr) (n0 : Nat) (c0 : Nat) (x1 : Int) (x2 : Int) (x3 : Int) (x4 : Int) (w : World) : fnN Go.Proofs.Tryd.prog Go.Proofs.Tryd.f4 thicketlaw05_BitsMeets.an #[.slice a0 n0 c0, .int .i64 x1, .int .i64 x2, .int .i64 x3, .int .i64 x4] w R = thicketlaw05_BitsMeets.g0 R a0 n0 c0 x1 x2 x3 x4 w := by kernel_rfl
theorem thicketlaw05_BitsMeets.calls {R : Value → World → Prop} {a0 : Option Addr} {n0 : Nat} {c0 : Nat} {x1 : Int} {x2 : Int} {x3 : Int} {x4 : Int} {w : World} (h : thicketlaw05_BitsMeets R a0 n0 c0 x1 x2 x3 x4 w) : Go.E.CallsD Go.Proofs.Tryd.prog 4 #[.slice a0 n0 c0, .int .i64 x1, .int .i64 x2, .int .i64 x3, .int .i64 x4] w R := by
  refine callsD_of (n := thicketlaw05_BitsMeets.an) M_follows M_sizes Go.Proofs.Tryd.func4 (by rfl) ?_
  rw [thicketlaw05_BitsMeets.root0]
  unfold thicketlaw05_BitsMeets at h
  exact h
-- thicket/bits.Print
def bits_Print.an : An := (.mk none .nil (.mk none .nil (.mk none .nil (.mk none .nil (.mk none (.mk none .nil (.mk none (.mk (some [0, 8, 32, 33]) .nil .nil) .nil)) .nil)))))
def bits_Print.g0 (R : Value → World → Prop) (e31 : (Option Addr) → Nat → Nat → (Option Addr) → Nat → Nat → Int → Int → World → Prop) (a0 : Option Addr) (n0 : Nat) (c0 : Nat) (x1 : Int) (w : World) : Prop :=
  Go.E.CallsD Go.Proofs.Tryd.prog 12 #[.int .i64 x1] w fun yv19 u20 =>
    ∃ yx_21_0 : Int, ∃ yx_21_1 : Int, yv19 = .tuple #[.int .i64 yx_21_0, .int .i64 yx_21_1] ∧
      (onBool (yx_21_1 != 0)
        (R (.tuple #[.string ⟨#[]⟩, .int .i64 yx_21_1]) u20)
        (onBool (yx_21_0 != (n0 : Int))
          (R (.tuple #[.string ⟨#[]⟩, .int .i64 6]) u20)
          (Go.E.CallsD Go.Proofs.Tryd.prog 45 #[.slice a0 n0 c0] u20 fun yv22 u23 =>
            ∃ yx_24 : Int, yv22 = .int .i64 yx_24 ∧
              (onBool (decide (yx_24 ≥ x1))
                (R (.tuple #[.string ⟨#[]⟩, .int .i64 50]) u23)
                (chk ((0 : Int) ≤ x1 ∧ x1 ≤ x1 ∧ ((1 : Nat) : Int) * x1 ≤ 281474976710656 ∧ x1 ≤ 9223372036854775807)
                  (nw (u23.alloc (.cells (madeCells #[.int .u8 0] ((x1).toNat * 1)) 5)) fun w25 =>
                  e31 a0 n0 c0 (some (na u23)) ((x1).toNat) ((x1).toNat) ((x1).toNat : Int) 0 w25))))))
def bits_Print.g31 (R : Value → World → Prop) (b31 : (Option Addr) → Nat → Nat → (Option Addr) → Nat → Nat → Int → Int → World → Prop) (a0 : Option Addr) (n0 : Nat) (c0 : Nat) (a8 : Option Addr) (n8 : Nat) (c8 : Nat) (x32 : Int) (x33 : Int) (w : World) : Prop :=
  onBool (decide (x33 < x32))
    (optN a8 fun q26 =>
    chk ((0 : Int) ≤ x33 ∧ x33 < (n8 : Int))
      (okSt w ((q26.add (x33.toNat * 1)).add 0) ∧
        (nw (w.setCell ((q26.add (x33.toNat * 1)).add 0) (.int .u8 48)) fun w27 =>
        Go.E.CallsD Go.Proofs.Tryd.prog 24 #[.slice a0 n0 c0, .int .i64 x33] w27 fun yv28 u29 =>
          ∃ yb_30 : Bool, yv28 = .bool yb_30 ∧
            (onBool yb_30
              (optN a8 fun q31 =>
              chk ((0 : Int) ≤ x33 ∧ x33 < (n8 : Int))
                (okSt u29 ((q31.add (x33.toNat * 1)).add 0) ∧
                  (nw (u29.setCell ((q31.add (x33.toNat * 1)).add 0) (.int .u8 49)) fun w32 =>
                  nv (IntKind.i64.wrap (x33 + 1)) fun t33 =>
                  b31 a0 n0 c0 a8 n8 c8 x32 t33 w32)))
              (nv (IntKind.i64.wrap (x33 + 1)) fun t34 =>
              b31 a0 n0 c0 a8 n8 c8 x32 t34 u29)))))
    (rawN Go.Proofs.Tryd.prog (convert 63 9 (.slice a8 n8 c8)) w fun yv35 u36 =>
      ∃ ys_37 : ByteArray, yv35 = .string ys_37 ∧
        (R (.tuple #[.string ys_37, .int .i64 0]) u36))
def bits_Print.q2 (R : Value → World → Prop) : Exit → Act → World → Prop := (fin Go.Proofs.Tryd.prog Go.Proofs.Tryd.f26 R)
def bits_Print.q4 (R : Value → World → Prop) : Exit → Act → World → Prop := (bits_Print.q2 R)
def bits_Print.q25 (R : Value → World → Prop) : Exit → Act → World → Prop := (bits_Print.q4 R)
def bits_Print.q27 (R : Value → World → Prop) : Exit → Act → World → Prop := (bits_Print.q25 R)
def bits_Print.q28 (R : Value → World → Prop) : Exit → Act → World → Prop := Exit.then (startN none (codeN Go.Proofs.Tryd.prog (sub (codeOf Go.Proofs.Tryd.f26) [1, 1, 1, 1, 1]) (nsub bits_Print.an [1, 1, 1, 1, 1]) (bits_Print.q27 R))) (bits_Print.q27 R)
def bits_Print.q30 (R : Value → World → Prop) : Exit → Act → World → Prop := (bits_Print.q28 R)
def bits_Print.q31 (R : Value → World → Prop) : Exit → Act → World → Prop := Exit.inBlock 1 (bits_Print.q30 R)
def bits_Print.rl31 (R : Value → World → Prop) (k : Nat) (a0 : Option Addr) (n0 : Nat) (c0 : Nat) (a8 : Option Addr) (n8 : Nat) (c8 : Nat) (x32 : Int) (x33 : Int) (w : World) : Prop := loopN [0, 8, 32, 33] (codeN Go.Proofs.Tryd.prog (sub (codeOf Go.Proofs.Tryd.f26) [1, 1, 1, 1, 0, 1, 0, 0]) (nsub bits_Print.an [1, 1, 1, 1, 0, 1, 0, 0])) (bits_Print.q31 R) k ⟨#[.slice a0 n0 c0, undef, undef, undef, undef, undef, undef, undef, .slice a8 n8 c8, undef, undef, undef, undef, undef, undef, undef, undef, undef, undef, undef, undef, undef, undef, undef, undef, undef, undef, undef, undef, undef, undef, undef, .int .i64 x32, .int .i64 x33, undef, undef, undef, undef, undef, undef, undef, undef, undef, undef, undef, undef, undef, undef], []⟩ w
def bits_Print.re31 (R : Value → World → Prop) (a0 : Option Addr) (n0 : Nat) (c0 : Nat) (a8 : Option Addr) (n8 : Nat) (c8 : Nat) (x32 : Int) (x33 : Int) (w : World) : Prop := ∃ k, bits_Print.rl31 R k a0 n0 c0 a8 n8 c8 x32 x33 w
def bits_Print.l31 (R : Value → World → Prop) : Nat → (Option Addr) → Nat → Nat → (Option Addr) → Nat → Nat → Int → Int → World → Prop
  | 0, _, _, _, _, _, _, _, _, _ => False
  | k + 1, a0, n0, c0, a8, n8, c8, x32, x33, w => bits_Print.g31 R (bits_Print.l31 R k) a0 n0 c0 a8 n8 c8 x32 x33 w
def bits_Print.e31 (R : Value → World → Prop) (a0 : Option Addr) (n0 : Nat) (c0 : Nat) (a8 : Option Addr) (n8 : Nat) (c8 : Nat) (x32 : Int) (x33 : Int) (w : World) : Prop := ∃ k, bits_Print.l31 R k a0 n0 c0 a8 n8 c8 x32 x33 w
theorem bits_Print.s31 (R : Value → World → Prop) (k : Nat) (a0 : Option Addr) (n0 : Nat) (c0 : Nat) (a8 : Option Addr) (n8 : Nat) (c8 : Nat) (x32 : Int) (x33 : Int) (w : World) : bits_Print.rl31 R (k + 1) a0 n0 c0 a8 n8 c8 x32 x33 w = ∀ _ : Nat → Value, bits_Print.g31 R (bits_Print.rl31 R k) a0 n0 c0 a8 n8 c8 x32 x33 w := by kernel_rfl
theorem bits_Print.lq31 (R : Value → World → Prop) : ∀ k, bits_Print.l31 R k = bits_Print.rl31 R k
  | 0 => by funext a0 n0 c0 a8 n8 c8 x32 x33 w; rfl
  | k + 1 => by
    funext a0 n0 c0 a8 n8 c8 x32 x33 w
    rw [bits_Print.s31, forall_const]
    unfold bits_Print.l31
    have ih := bits_Print.lq31 R k
    rw [ih]
    all_goals rfl
theorem bits_Print.eq31 (R : Value → World → Prop) : bits_Print.e31 R = bits_Print.re31 R := by
  funext a0 n0 c0 a8 n8 c8 x32 x33 w
  unfold bits_Print.e31 bits_Print.re31
  simp only [bits_Print.lq31 R]
def bits_Print (R : Value → World → Prop) (a0 : Option Addr) (n0 : Nat) (c0 : Nat) (x1 : Int) (w : World) : Prop := bits_Print.g0 R (bits_Print.e31 R) a0 n0 c0 x1 w
theorem bits_Print.root0 (R : Value → World → Prop) (a0 : Option Addr) (n0 : Nat) (c0 : Nat) (x1 : Int) (w : World) : fnN Go.Proofs.Tryd.prog Go.Proofs.Tryd.f26 bits_Print.an #[.slice a0 n0 c0, .int .i64 x1] w R = bits_Print.g0 R (bits_Print.re31 R) a0 n0 c0 x1 w := by kernel_rfl
theorem bits_Print.calls {R : Value → World → Prop} {a0 : Option Addr} {n0 : Nat} {c0 : Nat} {x1 : Int} {w : World} (h : bits_Print R a0 n0 c0 x1 w) : Go.E.CallsD Go.Proofs.Tryd.prog 26 #[.slice a0 n0 c0, .int .i64 x1] w R := by
  refine callsD_of (n := bits_Print.an) M_follows M_sizes Go.Proofs.Tryd.func26 (by rfl) ?_
  rw [bits_Print.root0]
  unfold bits_Print at h
  rw [bits_Print.eq31 R] at h
  exact h
-- thicket/thicketref05.Print
def thicketref05_Print.an : An := (.mk none .nil (.mk none .nil (.mk none .nil (.mk none .nil (.mk none .nil (.mk none (.mk none .nil (.mk none (.mk (some [0, 1, 6, 7]) .nil .nil) .nil)) .nil))))))
def thicketref05_Print.g0 (R : Value → World → Prop) (e32 : (Option Addr) → Nat → Nat → Int → (Option Addr) → Nat → Nat → Int → World → Prop) (a0 : Option Addr) (n0 : Nat) (c0 : Nat) (x1 : Int) (w : World) : Prop :=
  onBool (decide (x1 < 0))
    (R (.tuple #[.string ⟨#[]⟩, .int .i64 2]) w)
    (onBool (decide (x1 > 1048576))
      (R (.tuple #[.string ⟨#[]⟩, .int .i64 2]) w)
      (nv (IntKind.i64.wrap (x1 + 63)) fun t12 =>
      nv (IntKind.i64.wrap (Int.tdiv t12 64)) fun t13 =>
      onBool ((n0 : Int) != t13)
        (R (.tuple #[.string ⟨#[]⟩, .int .i64 6]) w)
        (Go.E.CallsD Go.Proofs.Tryd.prog 46 #[.slice a0 n0 c0] w fun yv14 u15 =>
          ∃ yx_16 : Int, yv14 = .int .i64 yx_16 ∧
            (onBool (decide (yx_16 ≥ x1))
              (R (.tuple #[.string ⟨#[]⟩, .int .i64 50]) u15)
              (e32 a0 n0 c0 x1 none 0 0 0 u15)))))
def thicketref05_Print.g32 (R : Value → World → Prop) (b32 : (Option Addr) → Nat → Nat → Int → (Option Addr) → Nat → Nat → Int → World → Prop) (a0 : Option Addr) (n0 : Nat) (c0 : Nat) (x1 : Int) (a6 : Option Addr) (n6 : Nat) (c6 : Nat) (x7 : Int) (w : World) : Prop :=
  onBool (decide (x7 < x1))
    (Go.E.CallsD Go.Proofs.Tryd.prog 42 #[.slice a0 n0 c0, .int .i64 x7] w fun yv17 u18 =>
      ∃ yb_19 : Bool, yv17 = .bool yb_19 ∧
        (onBool yb_19
          (nw (u18.alloc (.cells #[.int .u8 49] 5)) fun w20 =>
          rawN Go.Proofs.Tryd.prog (Builtin.append_ #[63, 63] 63 #[.slice a6 n6 c6, .slice (some (na u18)) 1 1]) w20 fun yv21 u22 =>
            ∃ ya_23 : Option Addr, ∃ yn_23 : Nat, ∃ yc_23 : Nat, yv21 = .slice ya_23 yn_23 yc_23 ∧
              (nv (IntKind.i64.wrap (x7 + 1)) fun t24 =>
              b32 a0 n0 c0 x1 ya_23 yn_23 yc_23 t24 u22))
          (nw (u18.alloc (.cells #[.int .u8 48] 5)) fun w25 =>
          rawN Go.Proofs.Tryd.prog (Builtin.append_ #[63, 63] 63 #[.slice a6 n6 c6, .slice (some (na u18)) 1 1]) w25 fun yv26 u27 =>
            ∃ ya_28 : Option Addr, ∃ yn_28 : Nat, ∃ yc_28 : Nat, yv26 = .slice ya_28 yn_28 yc_28 ∧
              (nv (IntKind.i64.wrap (x7 + 1)) fun t29 =>
              b32 a0 n0 c0 x1 ya_28 yn_28 yc_28 t29 u27))))
    (rawN Go.Proofs.Tryd.prog (convert 63 9 (.slice a6 n6 c6)) w fun yv30 u31 =>
      ∃ ys_32 : ByteArray, yv30 = .string ys_32 ∧
        (R (.tuple #[.string ys_32, .int .i64 0]) u31))
def thicketref05_Print.q2 (R : Value → World → Prop) : Exit → Act → World → Prop := (fin Go.Proofs.Tryd.prog Go.Proofs.Tryd.f27 R)
def thicketref05_Print.q10 (R : Value → World → Prop) : Exit → Act → World → Prop := (thicketref05_Print.q2 R)
def thicketref05_Print.q18 (R : Value → World → Prop) : Exit → Act → World → Prop := (thicketref05_Print.q10 R)
def thicketref05_Print.q26 (R : Value → World → Prop) : Exit → Act → World → Prop := (thicketref05_Print.q18 R)
def thicketref05_Print.q28 (R : Value → World → Prop) : Exit → Act → World → Prop := (thicketref05_Print.q26 R)
def thicketref05_Print.q29 (R : Value → World → Prop) : Exit → Act → World → Prop := Exit.then (startN none (codeN Go.Proofs.Tryd.prog (sub (codeOf Go.Proofs.Tryd.f27) [1, 1, 1, 1, 1, 1]) (nsub thicketref05_Print.an [1, 1, 1, 1, 1, 1]) (thicketref05_Print.q28 R))) (thicketref05_Print.q28 R)
def thicketref05_Print.q31 (R : Value → World → Prop) : Exit → Act → World → Prop := (thicketref05_Print.q29 R)
def thicketref05_Print.q32 (R : Value → World → Prop) : Exit → Act → World → Prop := Exit.inBlock 0 (thicketref05_Print.q31 R)
def thicketref05_Print.rl32 (R : Value → World → Prop) (k : Nat) (a0 : Option Addr) (n0 : Nat) (c0 : Nat) (x1 : Int) (a6 : Option Addr) (n6 : Nat) (c6 : Nat) (x7 : Int) (w : World) : Prop := loopN [0, 1, 6, 7] (codeN Go.Proofs.Tryd.prog (sub (codeOf Go.Proofs.Tryd.f27) [1, 1, 1, 1, 1, 0, 1, 0, 0]) (nsub thicketref05_Print.an [1, 1, 1, 1, 1, 0, 1, 0, 0])) (thicketref05_Print.q32 R) k ⟨#[.slice a0 n0 c0, .int .i64 x1, undef, undef, undef, undef, .slice a6 n6 c6, .int .i64 x7, undef, undef, undef, undef, undef, undef, undef, undef, undef, undef, undef, undef, undef, undef, undef, undef, undef, undef, undef, undef, undef, undef, undef, undef, undef, undef, undef, undef, undef, undef, undef], []⟩ w
def thicketref05_Print.re32 (R : Value → World → Prop) (a0 : Option Addr) (n0 : Nat) (c0 : Nat) (x1 : Int) (a6 : Option Addr) (n6 : Nat) (c6 : Nat) (x7 : Int) (w : World) : Prop := ∃ k, thicketref05_Print.rl32 R k a0 n0 c0 x1 a6 n6 c6 x7 w
def thicketref05_Print.l32 (R : Value → World → Prop) : Nat → (Option Addr) → Nat → Nat → Int → (Option Addr) → Nat → Nat → Int → World → Prop
  | 0, _, _, _, _, _, _, _, _, _ => False
  | k + 1, a0, n0, c0, x1, a6, n6, c6, x7, w => thicketref05_Print.g32 R (thicketref05_Print.l32 R k) a0 n0 c0 x1 a6 n6 c6 x7 w
def thicketref05_Print.e32 (R : Value → World → Prop) (a0 : Option Addr) (n0 : Nat) (c0 : Nat) (x1 : Int) (a6 : Option Addr) (n6 : Nat) (c6 : Nat) (x7 : Int) (w : World) : Prop := ∃ k, thicketref05_Print.l32 R k a0 n0 c0 x1 a6 n6 c6 x7 w
theorem thicketref05_Print.s32 (R : Value → World → Prop) (k : Nat) (a0 : Option Addr) (n0 : Nat) (c0 : Nat) (x1 : Int) (a6 : Option Addr) (n6 : Nat) (c6 : Nat) (x7 : Int) (w : World) : thicketref05_Print.rl32 R (k + 1) a0 n0 c0 x1 a6 n6 c6 x7 w = ∀ _ : Nat → Value, thicketref05_Print.g32 R (thicketref05_Print.rl32 R k) a0 n0 c0 x1 a6 n6 c6 x7 w := by kernel_rfl
theorem thicketref05_Print.lq32 (R : Value → World → Prop) : ∀ k, thicketref05_Print.l32 R k = thicketref05_Print.rl32 R k
  | 0 => by funext a0 n0 c0 x1 a6 n6 c6 x7 w; rfl
  | k + 1 => by
    funext a0 n0 c0 x1 a6 n6 c6 x7 w
    rw [thicketref05_Print.s32, forall_const]
    unfold thicketref05_Print.l32
    have ih := thicketref05_Print.lq32 R k
    rw [ih]
    all_goals rfl
theorem thicketref05_Print.eq32 (R : Value → World → Prop) : thicketref05_Print.e32 R = thicketref05_Print.re32 R := by
  funext a0 n0 c0 x1 a6 n6 c6 x7 w
  unfold thicketref05_Print.e32 thicketref05_Print.re32
  simp only [thicketref05_Print.lq32 R]
def thicketref05_Print (R : Value → World → Prop) (a0 : Option Addr) (n0 : Nat) (c0 : Nat) (x1 : Int) (w : World) : Prop := thicketref05_Print.g0 R (thicketref05_Print.e32 R) a0 n0 c0 x1 w
theorem thicketref05_Print.root0 (R : Value → World → Prop) (a0 : Option Addr) (n0 : Nat) (c0 : Nat) (x1 : Int) (w : World) : fnN Go.Proofs.Tryd.prog Go.Proofs.Tryd.f27 thicketref05_Print.an #[.slice a0 n0 c0, .int .i64 x1] w R = thicketref05_Print.g0 R (thicketref05_Print.re32 R) a0 n0 c0 x1 w := by kernel_rfl
theorem thicketref05_Print.calls {R : Value → World → Prop} {a0 : Option Addr} {n0 : Nat} {c0 : Nat} {x1 : Int} {w : World} (h : thicketref05_Print R a0 n0 c0 x1 w) : Go.E.CallsD Go.Proofs.Tryd.prog 27 #[.slice a0 n0 c0, .int .i64 x1] w R := by
  refine callsD_of (n := thicketref05_Print.an) M_follows M_sizes Go.Proofs.Tryd.func27 (by rfl) ?_
  rw [thicketref05_Print.root0]
  unfold thicketref05_Print at h
  rw [thicketref05_Print.eq32 R] at h
  exact h
-- thicket/bits.Read
def bits_Read.an : An := (.mk none .nil (.mk none .nil (.mk none .nil (.mk none (.mk none .nil (.mk none (.mk (some [0, 6, 19, 20]) .nil .nil) .nil)) .nil))))
def bits_Read.g0 (R : Value → World → Prop) (e16 : ByteArray → (Option Addr) → Nat → Nat → Int → Int → World → Prop) (s0 : ByteArray) (w : World) : Prop :=
  Go.E.CallsD Go.Proofs.Tryd.prog 14 #[.int .i64 ((s0 : ByteArray).size : Int)] w fun yv14 u15 =>
    ∃ ya_16_0 : Option Addr, ∃ yn_16_0 : Nat, ∃ yc_16_0 : Nat, ∃ yx_16_1 : Int, yv14 = .tuple #[.slice ya_16_0 yn_16_0 yc_16_0, .int .i64 yx_16_1] ∧
      (onBool (yx_16_1 != 0)
        (R (.tuple #[.slice none 0 0, .int .i64 0, .int .i64 yx_16_1, .int .i64 0]) u15)
        (e16 s0 ya_16_0 yn_16_0 yc_16_0 ((s0 : ByteArray).size : Int) 0 u15))
def bits_Read.g16 (R : Value → World → Prop) (b16 : ByteArray → (Option Addr) → Nat → Nat → Int → Int → World → Prop) (s0 : ByteArray) (a6 : Option Addr) (n6 : Nat) (c6 : Nat) (x19 : Int) (x20 : Int) (w : World) : Prop :=
  onBool (decide (x20 < x19))
    (chk ((0 : Int) ≤ x20) (∃ yc17 : UInt8, (s0 : ByteArray)[x20.toNat]? = some yc17 ∧
      (onBool ((yc17.toNat : Int) == 49)
        (nv (IntKind.i64.wrap (Int.tdiv x20 64)) fun t18 =>
        optN a6 fun q19 =>
        chk ((0 : Int) ≤ t18 ∧ t18 < (n6 : Int))
          (∃ yx_20 : Int, w.cell? (q19.add (t18.toNat * 1)) = some (.int .u64 yx_20) ∧
            (nv (Int.tmod x20 64) fun t21 =>
            nchk (t21 < 0)
              (nv (IntKind.u64.wrap (1 * 2 ^ (min t21.toNat 64))) fun t22 =>
              nv (bitsI .or .u64 yx_20 t22) fun t23 =>
              optN a6 fun q24 =>
              chk ((0 : Int) ≤ t18 ∧ t18 < (n6 : Int))
                (okSt w ((q24.add (t18.toNat * 1)).add 0) ∧
                  (nw (w.setCell ((q24.add (t18.toNat * 1)).add 0) (.int .u64 t23)) fun w25 =>
                  nv (IntKind.i64.wrap (x20 + 1)) fun t26 =>
                  b16 s0 a6 n6 c6 x19 t26 w25))))))
        (onBool ((yc17.toNat : Int) == 48)
          (nv (IntKind.i64.wrap (x20 + 1)) fun t27 =>
          b16 s0 a6 n6 c6 x19 t27 w)
          (R (.tuple #[.slice none 0 0, .int .i64 0, .int .i64 50, .int .i64 x20]) w)))))
    (R (.tuple #[.slice a6 n6 c6, .int .i64 ((s0 : ByteArray).size : Int), .int .i64 0, .int .i64 0]) w)
def bits_Read.q2 (R : Value → World → Prop) : Exit → Act → World → Prop := (fin Go.Proofs.Tryd.prog Go.Proofs.Tryd.f28 R)
def bits_Read.q4 (R : Value → World → Prop) : Exit → Act → World → Prop := (bits_Read.q2 R)
def bits_Read.q12 (R : Value → World → Prop) : Exit → Act → World → Prop := (bits_Read.q4 R)
def bits_Read.q13 (R : Value → World → Prop) : Exit → Act → World → Prop := Exit.then (startN none (codeN Go.Proofs.Tryd.prog (sub (codeOf Go.Proofs.Tryd.f28) [1, 1, 1, 1]) (nsub bits_Read.an [1, 1, 1, 1]) (bits_Read.q12 R))) (bits_Read.q12 R)
def bits_Read.q15 (R : Value → World → Prop) : Exit → Act → World → Prop := (bits_Read.q13 R)
def bits_Read.q16 (R : Value → World → Prop) : Exit → Act → World → Prop := Exit.inBlock 0 (bits_Read.q15 R)
def bits_Read.rl16 (R : Value → World → Prop) (k : Nat) (s0 : ByteArray) (a6 : Option Addr) (n6 : Nat) (c6 : Nat) (x19 : Int) (x20 : Int) (w : World) : Prop := loopN [0, 6, 19, 20] (codeN Go.Proofs.Tryd.prog (sub (codeOf Go.Proofs.Tryd.f28) [1, 1, 1, 0, 1, 0, 0]) (nsub bits_Read.an [1, 1, 1, 0, 1, 0, 0])) (bits_Read.q16 R) k ⟨#[.string s0, undef, undef, undef, undef, undef, .slice a6 n6 c6, undef, undef, undef, undef, undef, undef, undef, undef, undef, undef, undef, undef, .int .i64 x19, .int .i64 x20, undef, undef, undef, undef, undef, undef, undef, undef, undef, undef, undef, undef, undef, undef, undef, undef, undef, undef, undef, undef, undef, undef, undef, undef], []⟩ w
def bits_Read.re16 (R : Value → World → Prop) (s0 : ByteArray) (a6 : Option Addr) (n6 : Nat) (c6 : Nat) (x19 : Int) (x20 : Int) (w : World) : Prop := ∃ k, bits_Read.rl16 R k s0 a6 n6 c6 x19 x20 w
def bits_Read.l16 (R : Value → World → Prop) : Nat → ByteArray → (Option Addr) → Nat → Nat → Int → Int → World → Prop
  | 0, _, _, _, _, _, _, _ => False
  | k + 1, s0, a6, n6, c6, x19, x20, w => bits_Read.g16 R (bits_Read.l16 R k) s0 a6 n6 c6 x19 x20 w
def bits_Read.e16 (R : Value → World → Prop) (s0 : ByteArray) (a6 : Option Addr) (n6 : Nat) (c6 : Nat) (x19 : Int) (x20 : Int) (w : World) : Prop := ∃ k, bits_Read.l16 R k s0 a6 n6 c6 x19 x20 w
theorem bits_Read.s16 (R : Value → World → Prop) (k : Nat) (s0 : ByteArray) (a6 : Option Addr) (n6 : Nat) (c6 : Nat) (x19 : Int) (x20 : Int) (w : World) : bits_Read.rl16 R (k + 1) s0 a6 n6 c6 x19 x20 w = ∀ _ : Nat → Value, bits_Read.g16 R (bits_Read.rl16 R k) s0 a6 n6 c6 x19 x20 w := by kernel_rfl
theorem bits_Read.lq16 (R : Value → World → Prop) : ∀ k, bits_Read.l16 R k = bits_Read.rl16 R k
  | 0 => by funext s0 a6 n6 c6 x19 x20 w; rfl
  | k + 1 => by
    funext s0 a6 n6 c6 x19 x20 w
    rw [bits_Read.s16, forall_const]
    unfold bits_Read.l16
    have ih := bits_Read.lq16 R k
    rw [ih]
    all_goals rfl
theorem bits_Read.eq16 (R : Value → World → Prop) : bits_Read.e16 R = bits_Read.re16 R := by
  funext s0 a6 n6 c6 x19 x20 w
  unfold bits_Read.e16 bits_Read.re16
  simp only [bits_Read.lq16 R]
def bits_Read (R : Value → World → Prop) (s0 : ByteArray) (w : World) : Prop := bits_Read.g0 R (bits_Read.e16 R) s0 w
theorem bits_Read.root0 (R : Value → World → Prop) (s0 : ByteArray) (w : World) : fnN Go.Proofs.Tryd.prog Go.Proofs.Tryd.f28 bits_Read.an #[.string s0] w R = bits_Read.g0 R (bits_Read.re16 R) s0 w := by kernel_rfl
theorem bits_Read.calls {R : Value → World → Prop} {s0 : ByteArray} {w : World} (h : bits_Read R s0 w) : Go.E.CallsD Go.Proofs.Tryd.prog 28 #[.string s0] w R := by
  refine callsD_of (n := bits_Read.an) M_follows M_sizes Go.Proofs.Tryd.func28 (by rfl) ?_
  rw [bits_Read.root0]
  unfold bits_Read at h
  rw [bits_Read.eq16 R] at h
  exact h
-- thicket/thicketref05.Read
def thicketref05_Read.an : An := (.mk none .nil (.mk none .nil (.mk none .nil (.mk none (.mk none .nil (.mk none (.mk (some [0, 6, 7]) .nil .nil) .nil)) .nil))))
def thicketref05_Read.g0 (R : Value → World → Prop) (e16 : ByteArray → (Option Addr) → Nat → Nat → Int → World → Prop) (s0 : ByteArray) (w : World) : Prop :=
  onBool (decide (((s0 : ByteArray).size : Int) > 1048576))
    (R (.tuple #[.slice none 0 0, .int .i64 0, .int .i64 2, .int .i64 0]) w)
    (nv (IntKind.i64.wrap (((s0 : ByteArray).size : Int) + 63)) fun t18 =>
    nv (IntKind.i64.wrap (Int.tdiv t18 64)) fun t19 =>
    chk ((0 : Int) ≤ t19 ∧ t19 ≤ t19 ∧ ((8 : Nat) : Int) * t19 ≤ 281474976710656 ∧ t19 ≤ 9223372036854775807)
      (nw (w.alloc (.cells (madeCells #[.int .u64 0] ((t19).toNat * 1)) 56)) fun w20 =>
      e16 s0 (some (na w)) ((t19).toNat) ((t19).toNat) 0 w20))
def thicketref05_Read.g16 (R : Value → World → Prop) (b16 : ByteArray → (Option Addr) → Nat → Nat → Int → World → Prop) (s0 : ByteArray) (a6 : Option Addr) (n6 : Nat) (c6 : Nat) (x7 : Int) (w : World) : Prop :=
  onBool (decide (x7 < ((s0 : ByteArray).size : Int)))
    (chk ((0 : Int) ≤ x7) (∃ yc21 : UInt8, (s0 : ByteArray)[x7.toNat]? = some yc21 ∧
      (onBool ((yc21.toNat : Int) != 48)
        (chk ((0 : Int) ≤ x7) (∃ yc22 : UInt8, (s0 : ByteArray)[x7.toNat]? = some yc22 ∧
          (onBool ((yc22.toNat : Int) != 49)
            (R (.tuple #[.slice none 0 0, .int .i64 0, .int .i64 50, .int .i64 x7]) w)
            (chk ((0 : Int) ≤ x7) (∃ yc23 : UInt8, (s0 : ByteArray)[x7.toNat]? = some yc23 ∧
              (onBool ((yc23.toNat : Int) == 49)
                (nv (IntKind.i64.wrap (Int.tdiv x7 64)) fun t24 =>
                nv (IntKind.i64.wrap (Int.tdiv x7 64)) fun t25 =>
                optN a6 fun q26 =>
                chk ((0 : Int) ≤ t25 ∧ t25 < (n6 : Int))
                  (∃ yx_27 : Int, w.cell? (q26.add (t25.toNat * 1)) = some (.int .u64 yx_27) ∧
                    (nv (Int.tmod x7 64) fun t28 =>
                    nv (IntKind.u64.wrap t28) fun t29 =>
                    nchk (t29 < 0)
                      (nv (IntKind.u64.wrap (1 * 2 ^ (min t29.toNat 64))) fun t30 =>
                      nv (bitsI .or .u64 yx_27 t30) fun t31 =>
                      optN a6 fun q32 =>
                      chk ((0 : Int) ≤ t24 ∧ t24 < (n6 : Int))
                        (okSt w ((q32.add (t24.toNat * 1)).add 0) ∧
                          (nw (w.setCell ((q32.add (t24.toNat * 1)).add 0) (.int .u64 t31)) fun w33 =>
                          nv (IntKind.i64.wrap (x7 + 1)) fun t34 =>
                          b16 s0 a6 n6 c6 t34 w33))))))
                (nv (IntKind.i64.wrap (x7 + 1)) fun t35 =>
                b16 s0 a6 n6 c6 t35 w)))))))
        (chk ((0 : Int) ≤ x7) (∃ yc36 : UInt8, (s0 : ByteArray)[x7.toNat]? = some yc36 ∧
          (onBool ((yc36.toNat : Int) == 49)
            (nv (IntKind.i64.wrap (Int.tdiv x7 64)) fun t37 =>
            nv (IntKind.i64.wrap (Int.tdiv x7 64)) fun t38 =>
            optN a6 fun q39 =>
            chk ((0 : Int) ≤ t38 ∧ t38 < (n6 : Int))
              (∃ yx_40 : Int, w.cell? (q39.add (t38.toNat * 1)) = some (.int .u64 yx_40) ∧
                (nv (Int.tmod x7 64) fun t41 =>
                nv (IntKind.u64.wrap t41) fun t42 =>
                nchk (t42 < 0)
                  (nv (IntKind.u64.wrap (1 * 2 ^ (min t42.toNat 64))) fun t43 =>
                  nv (bitsI .or .u64 yx_40 t43) fun t44 =>
                  optN a6 fun q45 =>
                  chk ((0 : Int) ≤ t37 ∧ t37 < (n6 : Int))
                    (okSt w ((q45.add (t37.toNat * 1)).add 0) ∧
                      (nw (w.setCell ((q45.add (t37.toNat * 1)).add 0) (.int .u64 t44)) fun w46 =>
                      nv (IntKind.i64.wrap (x7 + 1)) fun t47 =>
                      b16 s0 a6 n6 c6 t47 w46))))))
            (nv (IntKind.i64.wrap (x7 + 1)) fun t48 =>
            b16 s0 a6 n6 c6 t48 w)))))))
    (R (.tuple #[.slice a6 n6 c6, .int .i64 ((s0 : ByteArray).size : Int), .int .i64 0, .int .i64 0]) w)
def thicketref05_Read.q2 (R : Value → World → Prop) : Exit → Act → World → Prop := (fin Go.Proofs.Tryd.prog Go.Proofs.Tryd.f29 R)
def thicketref05_Read.q10 (R : Value → World → Prop) : Exit → Act → World → Prop := (thicketref05_Read.q2 R)
def thicketref05_Read.q12 (R : Value → World → Prop) : Exit → Act → World → Prop := (thicketref05_Read.q10 R)
def thicketref05_Read.q13 (R : Value → World → Prop) : Exit → Act → World → Prop := Exit.then (startN none (codeN Go.Proofs.Tryd.prog (sub (codeOf Go.Proofs.Tryd.f29) [1, 1, 1, 1]) (nsub thicketref05_Read.an [1, 1, 1, 1]) (thicketref05_Read.q12 R))) (thicketref05_Read.q12 R)
def thicketref05_Read.q15 (R : Value → World → Prop) : Exit → Act → World → Prop := (thicketref05_Read.q13 R)
def thicketref05_Read.q16 (R : Value → World → Prop) : Exit → Act → World → Prop := Exit.inBlock 0 (thicketref05_Read.q15 R)
def thicketref05_Read.rl16 (R : Value → World → Prop) (k : Nat) (s0 : ByteArray) (a6 : Option Addr) (n6 : Nat) (c6 : Nat) (x7 : Int) (w : World) : Prop := loopN [0, 6, 7] (codeN Go.Proofs.Tryd.prog (sub (codeOf Go.Proofs.Tryd.f29) [1, 1, 1, 0, 1, 0, 0]) (nsub thicketref05_Read.an [1, 1, 1, 0, 1, 0, 0])) (thicketref05_Read.q16 R) k ⟨#[.string s0, undef, undef, undef, undef, undef, .slice a6 n6 c6, .int .i64 x7, undef, undef, undef, undef, undef, undef, undef, undef, undef, undef, undef, undef, undef, undef, undef, undef, undef, undef, undef, undef, undef, undef, undef, undef, undef, undef, undef, undef, undef, undef, undef, undef, undef, undef, undef, undef, undef, undef, undef, undef, undef, undef, undef, undef, undef, undef], []⟩ w
def thicketref05_Read.re16 (R : Value → World → Prop) (s0 : ByteArray) (a6 : Option Addr) (n6 : Nat) (c6 : Nat) (x7 : Int) (w : World) : Prop := ∃ k, thicketref05_Read.rl16 R k s0 a6 n6 c6 x7 w
def thicketref05_Read.l16 (R : Value → World → Prop) : Nat → ByteArray → (Option Addr) → Nat → Nat → Int → World → Prop
  | 0, _, _, _, _, _, _ => False
  | k + 1, s0, a6, n6, c6, x7, w => thicketref05_Read.g16 R (thicketref05_Read.l16 R k) s0 a6 n6 c6 x7 w
def thicketref05_Read.e16 (R : Value → World → Prop) (s0 : ByteArray) (a6 : Option Addr) (n6 : Nat) (c6 : Nat) (x7 : Int) (w : World) : Prop := ∃ k, thicketref05_Read.l16 R k s0 a6 n6 c6 x7 w
theorem thicketref05_Read.s16 (R : Value → World → Prop) (k : Nat) (s0 : ByteArray) (a6 : Option Addr) (n6 : Nat) (c6 : Nat) (x7 : Int) (w : World) : thicketref05_Read.rl16 R (k + 1) s0 a6 n6 c6 x7 w = ∀ _ : Nat → Value, thicketref05_Read.g16 R (thicketref05_Read.rl16 R k) s0 a6 n6 c6 x7 w := by kernel_rfl
theorem thicketref05_Read.lq16 (R : Value → World → Prop) : ∀ k, thicketref05_Read.l16 R k = thicketref05_Read.rl16 R k
  | 0 => by funext s0 a6 n6 c6 x7 w; rfl
  | k + 1 => by
    funext s0 a6 n6 c6 x7 w
    rw [thicketref05_Read.s16, forall_const]
    unfold thicketref05_Read.l16
    have ih := thicketref05_Read.lq16 R k
    rw [ih]
    all_goals rfl
theorem thicketref05_Read.eq16 (R : Value → World → Prop) : thicketref05_Read.e16 R = thicketref05_Read.re16 R := by
  funext s0 a6 n6 c6 x7 w
  unfold thicketref05_Read.e16 thicketref05_Read.re16
  simp only [thicketref05_Read.lq16 R]
def thicketref05_Read (R : Value → World → Prop) (s0 : ByteArray) (w : World) : Prop := thicketref05_Read.g0 R (thicketref05_Read.e16 R) s0 w
theorem thicketref05_Read.root0 (R : Value → World → Prop) (s0 : ByteArray) (w : World) : fnN Go.Proofs.Tryd.prog Go.Proofs.Tryd.f29 thicketref05_Read.an #[.string s0] w R = thicketref05_Read.g0 R (thicketref05_Read.re16 R) s0 w := by kernel_rfl
theorem thicketref05_Read.calls {R : Value → World → Prop} {s0 : ByteArray} {w : World} (h : thicketref05_Read R s0 w) : Go.E.CallsD Go.Proofs.Tryd.prog 29 #[.string s0] w R := by
  refine callsD_of (n := thicketref05_Read.an) M_follows M_sizes Go.Proofs.Tryd.func29 (by rfl) ?_
  rw [thicketref05_Read.root0]
  unfold thicketref05_Read at h
  rw [thicketref05_Read.eq16 R] at h
  exact h
-- thicket/thicketlaw05.BitsTexts
def thicketlaw05_BitsTexts.an : An := An.nil
def thicketlaw05_BitsTexts.g0 (R : Value → World → Prop) (a0 : Option Addr) (n0 : Nat) (c0 : Nat) (x1 : Int) (s2 : ByteArray) (w : World) : Prop :=
  Go.E.CallsD Go.Proofs.Tryd.prog 26 #[.slice a0 n0 c0, .int .i64 x1] w fun yv19 u20 =>
    ∃ ys_21_0 : ByteArray, ∃ yx_21_1 : Int, yv19 = .tuple #[.string ys_21_0, .int .i64 yx_21_1] ∧
      (Go.E.CallsD Go.Proofs.Tryd.prog 27 #[.slice a0 n0 c0, .int .i64 x1] u20 fun yv22 u23 =>
        ∃ ys_24_0 : ByteArray, ∃ yx_24_1 : Int, yv22 = .tuple #[.string ys_24_0, .int .i64 yx_24_1] ∧
          (Go.E.CallsD Go.Proofs.Tryd.prog 28 #[.string s2] u23 fun yv25 u26 =>
            ∃ ya_27_0 : Option Addr, ∃ yn_27_0 : Nat, ∃ yc_27_0 : Nat, ∃ yx_27_1 : Int, ∃ yx_27_2 : Int, ∃ yx_27_3 : Int, yv25 = .tuple #[.slice ya_27_0 yn_27_0 yc_27_0, .int .i64 yx_27_1, .int .i64 yx_27_2, .int .i64 yx_27_3] ∧
              (Go.E.CallsD Go.Proofs.Tryd.prog 29 #[.string s2] u26 fun yv28 u29 =>
                ∃ ya_30_0 : Option Addr, ∃ yn_30_0 : Nat, ∃ yc_30_0 : Nat, ∃ yx_30_1 : Int, ∃ yx_30_2 : Int, ∃ yx_30_3 : Int, yv28 = .tuple #[.slice ya_30_0 yn_30_0 yc_30_0, .int .i64 yx_30_1, .int .i64 yx_30_2, .int .i64 yx_30_3] ∧
                  (Go.E.CallsD Go.Proofs.Tryd.prog 20 #[] u29 fun yv31 u32 =>
                    ∃ yb_33 : Bool, yv31 = .bool yb_33 ∧
                      (onBool yb_33
                        (onBool ((ys_21_0 : ByteArray).toList == (ys_24_0 : ByteArray).toList)
                          (onBool (yx_21_1 == yx_24_1)
                            (Go.E.CallsD Go.Proofs.Tryd.prog 21 #[.slice ya_27_0 yn_27_0 yc_27_0, .slice ya_30_0 yn_30_0 yc_30_0] u32 fun yv34 u35 =>
                              ∃ yb_36 : Bool, yv34 = .bool yb_36 ∧
                                (onBool yb_36
                                  (onBool (yx_27_1 == yx_30_1)
                                    (onBool (yx_27_2 == yx_30_2)
                                      (R (.bool (yx_27_3 == yx_30_3)) u35)
                                      (R (.bool false) u35))
                                    (R (.bool false) u35))
                                  (R (.bool false) u35)))
                            (R (.bool false) u32))
                          (R (.bool false) u32))
                        (R (.bool false) u32))))))
def thicketlaw05_BitsTexts (R : Value → World → Prop) (a0 : Option Addr) (n0 : Nat) (c0 : Nat) (x1 : Int) (s2 : ByteArray) (w : World) : Prop := thicketlaw05_BitsTexts.g0 R a0 n0 c0 x1 s2 w
theorem thicketlaw05_BitsTexts.root0 (R : Value → World → Prop) (a0 : Option Addr) (n0 : Nat) (c0 : Nat) (x1 : Int) (s2 : ByteArray) (w : World) : fnN Go.Proofs.Tryd.prog Go.Proofs.Tryd.f5 thicketlaw05_BitsTexts.an #[.slice a0 n0 c0, .int .i64 x1, .string s2] w R = thicketlaw05_BitsTexts.g0 R a0 n0 c0 x1 s2 w := by kernel_rfl
theorem thicketlaw05_BitsTexts.calls {R : Value → World → Prop} {a0 : Option Addr} {n0 : Nat} {c0 : Nat} {x1 : Int} {s2 : ByteArray} {w : World} (h : thicketlaw05_BitsTexts R a0 n0 c0 x1 s2 w) : Go.E.CallsD Go.Proofs.Tryd.prog 5 #[.slice a0 n0 c0, .int .i64 x1, .string s2] w R := by
  refine callsD_of (n := thicketlaw05_BitsTexts.an) M_follows M_sizes Go.Proofs.Tryd.func5 (by rfl) ?_
  rw [thicketlaw05_BitsTexts.root0]
  unfold thicketlaw05_BitsTexts at h
  exact h
-- thicket/bits.each
def bits_each_and.an : An := (.mk none .nil (.mk none .nil (.mk none .nil (.mk none (.mk none .nil (.mk none (.mk (some [0, 1, 2, 8, 19, 20]) .nil .nil) .nil)) .nil))))
def bits_each_and.g0 (R : Value → World → Prop) (e16 : (Option Addr) → Nat → Nat → (Option Addr) → Nat → Nat → (Option Addr) → Nat → Nat → Int → Int → World → Prop) (a0 : Option Addr) (n0 : Nat) (c0 : Nat) (a1 : Option Addr) (n1 : Nat) (c1 : Nat) (w : World) : Prop :=
  onBool ((n0 : Int) != (n1 : Int))
    (R (.tuple #[.slice none 0 0, .int .i64 6]) w)
    (chk ((0 : Int) ≤ (n0 : Int) ∧ (n0 : Int) ≤ (n0 : Int) ∧ ((8 : Nat) : Int) * (n0 : Int) ≤ 281474976710656 ∧ (n0 : Int) ≤ 9223372036854775807)
      (nw (w.alloc (.cells (madeCells #[.int .u64 0] (((n0 : Int)).toNat * 1)) 56)) fun w16 =>
      e16 a0 n0 c0 a1 n1 c1 (some (na w)) (((n0 : Int)).toNat) (((n0 : Int)).toNat) (n0 : Int) 0 w16))
def bits_each_and.g16 (R : Value → World → Prop) (b16 : (Option Addr) → Nat → Nat → (Option Addr) → Nat → Nat → (Option Addr) → Nat → Nat → Int → Int → World → Prop) (a0 : Option Addr) (n0 : Nat) (c0 : Nat) (a1 : Option Addr) (n1 : Nat) (c1 : Nat) (a8 : Option Addr) (n8 : Nat) (c8 : Nat) (x19 : Int) (x20 : Int) (w : World) : Prop :=
  onBool (decide (x20 < x19))
    (∃ F17 : Nat → Value → World → Prop, (∀ i v u u', F17 i v u → Below u.heap.size u u' → F17 i v u') ∧
      (optN a0 fun q18 =>
      chk ((0 : Int) ≤ x20 ∧ x20 < (n0 : Int))
        (∃ yx_19 : Int, w.cell? (q18.add (x20.toNat * 1)) = some (.int .u64 yx_19) ∧
          (optN a1 fun q20 =>
          chk ((0 : Int) ≤ x20 ∧ x20 < (n1 : Int))
            (∃ yx_21 : Int, w.cell? (q20.add (x20.toNat * 1)) = some (.int .u64 yx_21) ∧
              ((∀ u22 : World, Below w.heap.size w u22 → Go.E.CallsD Go.Proofs.Tryd.prog 57 #[.int .u64 yx_19, .int .u64 yx_21] u22 fun yv24 u25 => ∃ yx_23 : Int, yv24 = .int .u64 yx_23 ∧ F17 11 (.int .u64 yx_23) u25 ∧ Below u22.heap.size u22 u25) ∧
                (∀ yx_26 : Int, (∃ u, Below w.heap.size w u ∧ F17 11 (.int .u64 yx_26) u) →
                optN a8 fun q27 =>
                chk ((0 : Int) ≤ x20 ∧ x20 < (n8 : Int))
                  (∀ u28 : World, Below w.heap.size w u28 → F17 11 (.int .u64 yx_26) u28 → 
                    okSt u28 ((q27.add (x20.toNat * 1)).add 0) ∧
                      (nw (u28.setCell ((q27.add (x20.toNat * 1)).add 0) (.int .u64 yx_26)) fun w29 =>
                      nv (IntKind.i64.wrap (x20 + 1)) fun t30 =>
                      b16 a0 n0 c0 a1 n1 c1 a8 n8 c8 x19 t30 w29)))))))))
    (R (.tuple #[.slice a8 n8 c8, .int .i64 0]) w)
def bits_each_and.q2 (R : Value → World → Prop) : Exit → Act → World → Prop := (fin Go.Proofs.Tryd.prog Go.Proofs.Tryd.f56 R)
def bits_each_and.q10 (R : Value → World → Prop) : Exit → Act → World → Prop := (bits_each_and.q2 R)
def bits_each_and.q12 (R : Value → World → Prop) : Exit → Act → World → Prop := (bits_each_and.q10 R)
def bits_each_and.q13 (R : Value → World → Prop) : Exit → Act → World → Prop := Exit.then (startN none (codeN Go.Proofs.Tryd.prog (sub (codeOf Go.Proofs.Tryd.f56) [1, 1, 1, 1]) (nsub bits_each_and.an [1, 1, 1, 1]) (bits_each_and.q12 R))) (bits_each_and.q12 R)
def bits_each_and.q15 (R : Value → World → Prop) : Exit → Act → World → Prop := (bits_each_and.q13 R)
def bits_each_and.q16 (R : Value → World → Prop) : Exit → Act → World → Prop := Exit.inBlock 0 (bits_each_and.q15 R)
def bits_each_and.rl16 (R : Value → World → Prop) (k : Nat) (a0 : Option Addr) (n0 : Nat) (c0 : Nat) (a1 : Option Addr) (n1 : Nat) (c1 : Nat) (a8 : Option Addr) (n8 : Nat) (c8 : Nat) (x19 : Int) (x20 : Int) (w : World) : Prop := loopN [0, 1, 2, 8, 19, 20] (codeN Go.Proofs.Tryd.prog (sub (codeOf Go.Proofs.Tryd.f56) [1, 1, 1, 0, 1, 0, 0]) (nsub bits_each_and.an [1, 1, 1, 0, 1, 0, 0])) (bits_each_and.q16 R) k ⟨#[.slice a0 n0 c0, .slice a1 n1 c1, .func (.func 57) #[] #[], undef, undef, undef, undef, undef, .slice a8 n8 c8, undef, undef, undef, undef, undef, undef, undef, undef, undef, undef, .int .i64 x19, .int .i64 x20, undef, undef, undef, undef, undef, undef, undef, undef, undef, undef, undef, undef, undef, undef, undef, undef, undef], []⟩ w
def bits_each_and.re16 (R : Value → World → Prop) (a0 : Option Addr) (n0 : Nat) (c0 : Nat) (a1 : Option Addr) (n1 : Nat) (c1 : Nat) (a8 : Option Addr) (n8 : Nat) (c8 : Nat) (x19 : Int) (x20 : Int) (w : World) : Prop := ∃ k, bits_each_and.rl16 R k a0 n0 c0 a1 n1 c1 a8 n8 c8 x19 x20 w
def bits_each_and.l16 (R : Value → World → Prop) : Nat → (Option Addr) → Nat → Nat → (Option Addr) → Nat → Nat → (Option Addr) → Nat → Nat → Int → Int → World → Prop
  | 0, _, _, _, _, _, _, _, _, _, _, _, _ => False
  | k + 1, a0, n0, c0, a1, n1, c1, a8, n8, c8, x19, x20, w => bits_each_and.g16 R (bits_each_and.l16 R k) a0 n0 c0 a1 n1 c1 a8 n8 c8 x19 x20 w
def bits_each_and.e16 (R : Value → World → Prop) (a0 : Option Addr) (n0 : Nat) (c0 : Nat) (a1 : Option Addr) (n1 : Nat) (c1 : Nat) (a8 : Option Addr) (n8 : Nat) (c8 : Nat) (x19 : Int) (x20 : Int) (w : World) : Prop := ∃ k, bits_each_and.l16 R k a0 n0 c0 a1 n1 c1 a8 n8 c8 x19 x20 w
theorem bits_each_and.s16 (R : Value → World → Prop) (k : Nat) (a0 : Option Addr) (n0 : Nat) (c0 : Nat) (a1 : Option Addr) (n1 : Nat) (c1 : Nat) (a8 : Option Addr) (n8 : Nat) (c8 : Nat) (x19 : Int) (x20 : Int) (w : World) : bits_each_and.rl16 R (k + 1) a0 n0 c0 a1 n1 c1 a8 n8 c8 x19 x20 w = ∀ _ : Nat → Value, bits_each_and.g16 R (bits_each_and.rl16 R k) a0 n0 c0 a1 n1 c1 a8 n8 c8 x19 x20 w := by kernel_rfl
theorem bits_each_and.lq16 (R : Value → World → Prop) : ∀ k, bits_each_and.l16 R k = bits_each_and.rl16 R k
  | 0 => by funext a0 n0 c0 a1 n1 c1 a8 n8 c8 x19 x20 w; rfl
  | k + 1 => by
    funext a0 n0 c0 a1 n1 c1 a8 n8 c8 x19 x20 w
    rw [bits_each_and.s16, forall_const]
    unfold bits_each_and.l16
    have ih := bits_each_and.lq16 R k
    rw [ih]
    all_goals rfl
theorem bits_each_and.eq16 (R : Value → World → Prop) : bits_each_and.e16 R = bits_each_and.re16 R := by
  funext a0 n0 c0 a1 n1 c1 a8 n8 c8 x19 x20 w
  unfold bits_each_and.e16 bits_each_and.re16
  simp only [bits_each_and.lq16 R]
def bits_each_and (R : Value → World → Prop) (a0 : Option Addr) (n0 : Nat) (c0 : Nat) (a1 : Option Addr) (n1 : Nat) (c1 : Nat) (w : World) : Prop := bits_each_and.g0 R (bits_each_and.e16 R) a0 n0 c0 a1 n1 c1 w
theorem bits_each_and.root0 (R : Value → World → Prop) (a0 : Option Addr) (n0 : Nat) (c0 : Nat) (a1 : Option Addr) (n1 : Nat) (c1 : Nat) (w : World) : fnN Go.Proofs.Tryd.prog Go.Proofs.Tryd.f56 bits_each_and.an #[.slice a0 n0 c0, .slice a1 n1 c1, .func (.func 57) #[] #[]] w R = bits_each_and.g0 R (bits_each_and.re16 R) a0 n0 c0 a1 n1 c1 w := by kernel_rfl
theorem bits_each_and.calls {R : Value → World → Prop} {a0 : Option Addr} {n0 : Nat} {c0 : Nat} {a1 : Option Addr} {n1 : Nat} {c1 : Nat} {w : World} (h : bits_each_and R a0 n0 c0 a1 n1 c1 w) : Go.E.CallsD Go.Proofs.Tryd.prog 56 #[.slice a0 n0 c0, .slice a1 n1 c1, .func (.func 57) #[] #[]] w R := by
  refine callsD_of (n := bits_each_and.an) M_follows M_sizes Go.Proofs.Tryd.func56 (by rfl) ?_
  rw [bits_each_and.root0]
  unfold bits_each_and at h
  rw [bits_each_and.eq16 R] at h
  exact h
-- thicket/bits.each
def bits_each_or.an : An := (.mk none .nil (.mk none .nil (.mk none .nil (.mk none (.mk none .nil (.mk none (.mk (some [0, 1, 2, 8, 19, 20]) .nil .nil) .nil)) .nil))))
def bits_each_or.g0 (R : Value → World → Prop) (e16 : (Option Addr) → Nat → Nat → (Option Addr) → Nat → Nat → (Option Addr) → Nat → Nat → Int → Int → World → Prop) (a0 : Option Addr) (n0 : Nat) (c0 : Nat) (a1 : Option Addr) (n1 : Nat) (c1 : Nat) (w : World) : Prop :=
  onBool ((n0 : Int) != (n1 : Int))
    (R (.tuple #[.slice none 0 0, .int .i64 6]) w)
    (chk ((0 : Int) ≤ (n0 : Int) ∧ (n0 : Int) ≤ (n0 : Int) ∧ ((8 : Nat) : Int) * (n0 : Int) ≤ 281474976710656 ∧ (n0 : Int) ≤ 9223372036854775807)
      (nw (w.alloc (.cells (madeCells #[.int .u64 0] (((n0 : Int)).toNat * 1)) 56)) fun w16 =>
      e16 a0 n0 c0 a1 n1 c1 (some (na w)) (((n0 : Int)).toNat) (((n0 : Int)).toNat) (n0 : Int) 0 w16))
def bits_each_or.g16 (R : Value → World → Prop) (b16 : (Option Addr) → Nat → Nat → (Option Addr) → Nat → Nat → (Option Addr) → Nat → Nat → Int → Int → World → Prop) (a0 : Option Addr) (n0 : Nat) (c0 : Nat) (a1 : Option Addr) (n1 : Nat) (c1 : Nat) (a8 : Option Addr) (n8 : Nat) (c8 : Nat) (x19 : Int) (x20 : Int) (w : World) : Prop :=
  onBool (decide (x20 < x19))
    (∃ F17 : Nat → Value → World → Prop, (∀ i v u u', F17 i v u → Below u.heap.size u u' → F17 i v u') ∧
      (optN a0 fun q18 =>
      chk ((0 : Int) ≤ x20 ∧ x20 < (n0 : Int))
        (∃ yx_19 : Int, w.cell? (q18.add (x20.toNat * 1)) = some (.int .u64 yx_19) ∧
          (optN a1 fun q20 =>
          chk ((0 : Int) ≤ x20 ∧ x20 < (n1 : Int))
            (∃ yx_21 : Int, w.cell? (q20.add (x20.toNat * 1)) = some (.int .u64 yx_21) ∧
              ((∀ u22 : World, Below w.heap.size w u22 → Go.E.CallsD Go.Proofs.Tryd.prog 58 #[.int .u64 yx_19, .int .u64 yx_21] u22 fun yv24 u25 => ∃ yx_23 : Int, yv24 = .int .u64 yx_23 ∧ F17 11 (.int .u64 yx_23) u25 ∧ Below u22.heap.size u22 u25) ∧
                (∀ yx_26 : Int, (∃ u, Below w.heap.size w u ∧ F17 11 (.int .u64 yx_26) u) →
                optN a8 fun q27 =>
                chk ((0 : Int) ≤ x20 ∧ x20 < (n8 : Int))
                  (∀ u28 : World, Below w.heap.size w u28 → F17 11 (.int .u64 yx_26) u28 → 
                    okSt u28 ((q27.add (x20.toNat * 1)).add 0) ∧
                      (nw (u28.setCell ((q27.add (x20.toNat * 1)).add 0) (.int .u64 yx_26)) fun w29 =>
                      nv (IntKind.i64.wrap (x20 + 1)) fun t30 =>
                      b16 a0 n0 c0 a1 n1 c1 a8 n8 c8 x19 t30 w29)))))))))
    (R (.tuple #[.slice a8 n8 c8, .int .i64 0]) w)
def bits_each_or.q2 (R : Value → World → Prop) : Exit → Act → World → Prop := (fin Go.Proofs.Tryd.prog Go.Proofs.Tryd.f56 R)
def bits_each_or.q10 (R : Value → World → Prop) : Exit → Act → World → Prop := (bits_each_or.q2 R)
def bits_each_or.q12 (R : Value → World → Prop) : Exit → Act → World → Prop := (bits_each_or.q10 R)
def bits_each_or.q13 (R : Value → World → Prop) : Exit → Act → World → Prop := Exit.then (startN none (codeN Go.Proofs.Tryd.prog (sub (codeOf Go.Proofs.Tryd.f56) [1, 1, 1, 1]) (nsub bits_each_or.an [1, 1, 1, 1]) (bits_each_or.q12 R))) (bits_each_or.q12 R)
def bits_each_or.q15 (R : Value → World → Prop) : Exit → Act → World → Prop := (bits_each_or.q13 R)
def bits_each_or.q16 (R : Value → World → Prop) : Exit → Act → World → Prop := Exit.inBlock 0 (bits_each_or.q15 R)
def bits_each_or.rl16 (R : Value → World → Prop) (k : Nat) (a0 : Option Addr) (n0 : Nat) (c0 : Nat) (a1 : Option Addr) (n1 : Nat) (c1 : Nat) (a8 : Option Addr) (n8 : Nat) (c8 : Nat) (x19 : Int) (x20 : Int) (w : World) : Prop := loopN [0, 1, 2, 8, 19, 20] (codeN Go.Proofs.Tryd.prog (sub (codeOf Go.Proofs.Tryd.f56) [1, 1, 1, 0, 1, 0, 0]) (nsub bits_each_or.an [1, 1, 1, 0, 1, 0, 0])) (bits_each_or.q16 R) k ⟨#[.slice a0 n0 c0, .slice a1 n1 c1, .func (.func 58) #[] #[], undef, undef, undef, undef, undef, .slice a8 n8 c8, undef, undef, undef, undef, undef, undef, undef, undef, undef, undef, .int .i64 x19, .int .i64 x20, undef, undef, undef, undef, undef, undef, undef, undef, undef, undef, undef, undef, undef, undef, undef, undef, undef], []⟩ w
def bits_each_or.re16 (R : Value → World → Prop) (a0 : Option Addr) (n0 : Nat) (c0 : Nat) (a1 : Option Addr) (n1 : Nat) (c1 : Nat) (a8 : Option Addr) (n8 : Nat) (c8 : Nat) (x19 : Int) (x20 : Int) (w : World) : Prop := ∃ k, bits_each_or.rl16 R k a0 n0 c0 a1 n1 c1 a8 n8 c8 x19 x20 w
def bits_each_or.l16 (R : Value → World → Prop) : Nat → (Option Addr) → Nat → Nat → (Option Addr) → Nat → Nat → (Option Addr) → Nat → Nat → Int → Int → World → Prop
  | 0, _, _, _, _, _, _, _, _, _, _, _, _ => False
  | k + 1, a0, n0, c0, a1, n1, c1, a8, n8, c8, x19, x20, w => bits_each_or.g16 R (bits_each_or.l16 R k) a0 n0 c0 a1 n1 c1 a8 n8 c8 x19 x20 w
def bits_each_or.e16 (R : Value → World → Prop) (a0 : Option Addr) (n0 : Nat) (c0 : Nat) (a1 : Option Addr) (n1 : Nat) (c1 : Nat) (a8 : Option Addr) (n8 : Nat) (c8 : Nat) (x19 : Int) (x20 : Int) (w : World) : Prop := ∃ k, bits_each_or.l16 R k a0 n0 c0 a1 n1 c1 a8 n8 c8 x19 x20 w
theorem bits_each_or.s16 (R : Value → World → Prop) (k : Nat) (a0 : Option Addr) (n0 : Nat) (c0 : Nat) (a1 : Option Addr) (n1 : Nat) (c1 : Nat) (a8 : Option Addr) (n8 : Nat) (c8 : Nat) (x19 : Int) (x20 : Int) (w : World) : bits_each_or.rl16 R (k + 1) a0 n0 c0 a1 n1 c1 a8 n8 c8 x19 x20 w = ∀ _ : Nat → Value, bits_each_or.g16 R (bits_each_or.rl16 R k) a0 n0 c0 a1 n1 c1 a8 n8 c8 x19 x20 w := by kernel_rfl
theorem bits_each_or.lq16 (R : Value → World → Prop) : ∀ k, bits_each_or.l16 R k = bits_each_or.rl16 R k
  | 0 => by funext a0 n0 c0 a1 n1 c1 a8 n8 c8 x19 x20 w; rfl
  | k + 1 => by
    funext a0 n0 c0 a1 n1 c1 a8 n8 c8 x19 x20 w
    rw [bits_each_or.s16, forall_const]
    unfold bits_each_or.l16
    have ih := bits_each_or.lq16 R k
    rw [ih]
    all_goals rfl
theorem bits_each_or.eq16 (R : Value → World → Prop) : bits_each_or.e16 R = bits_each_or.re16 R := by
  funext a0 n0 c0 a1 n1 c1 a8 n8 c8 x19 x20 w
  unfold bits_each_or.e16 bits_each_or.re16
  simp only [bits_each_or.lq16 R]
def bits_each_or (R : Value → World → Prop) (a0 : Option Addr) (n0 : Nat) (c0 : Nat) (a1 : Option Addr) (n1 : Nat) (c1 : Nat) (w : World) : Prop := bits_each_or.g0 R (bits_each_or.e16 R) a0 n0 c0 a1 n1 c1 w
theorem bits_each_or.root0 (R : Value → World → Prop) (a0 : Option Addr) (n0 : Nat) (c0 : Nat) (a1 : Option Addr) (n1 : Nat) (c1 : Nat) (w : World) : fnN Go.Proofs.Tryd.prog Go.Proofs.Tryd.f56 bits_each_or.an #[.slice a0 n0 c0, .slice a1 n1 c1, .func (.func 58) #[] #[]] w R = bits_each_or.g0 R (bits_each_or.re16 R) a0 n0 c0 a1 n1 c1 w := by kernel_rfl
theorem bits_each_or.calls {R : Value → World → Prop} {a0 : Option Addr} {n0 : Nat} {c0 : Nat} {a1 : Option Addr} {n1 : Nat} {c1 : Nat} {w : World} (h : bits_each_or R a0 n0 c0 a1 n1 c1 w) : Go.E.CallsD Go.Proofs.Tryd.prog 56 #[.slice a0 n0 c0, .slice a1 n1 c1, .func (.func 58) #[] #[]] w R := by
  refine callsD_of (n := bits_each_or.an) M_follows M_sizes Go.Proofs.Tryd.func56 (by rfl) ?_
  rw [bits_each_or.root0]
  unfold bits_each_or at h
  rw [bits_each_or.eq16 R] at h
  exact h
end Go.Mir

set_option linter.unusedVariables false
namespace Go.Mir
open Go Go.E Go.RowKit
-- thicket/bits.each
def bits_each_xor.an : An := (.mk none .nil (.mk none .nil (.mk none .nil (.mk none (.mk none .nil (.mk none (.mk (some [0, 1, 2, 8, 19, 20]) .nil .nil) .nil)) .nil))))
def bits_each_xor.g0 (R : Value → World → Prop) (e16 : (Option Addr) → Nat → Nat → (Option Addr) → Nat → Nat → (Option Addr) → Nat → Nat → Int → Int → World → Prop) (a0 : Option Addr) (n0 : Nat) (c0 : Nat) (a1 : Option Addr) (n1 : Nat) (c1 : Nat) (w : World) : Prop :=
  onBool ((n0 : Int) != (n1 : Int))
    (R (.tuple #[.slice none 0 0, .int .i64 6]) w)
    (chk ((0 : Int) ≤ (n0 : Int) ∧ (n0 : Int) ≤ (n0 : Int) ∧ ((8 : Nat) : Int) * (n0 : Int) ≤ 281474976710656 ∧ (n0 : Int) ≤ 9223372036854775807)
      (nw (w.alloc (.cells (madeCells #[.int .u64 0] (((n0 : Int)).toNat * 1)) 56)) fun w16 =>
      e16 a0 n0 c0 a1 n1 c1 (some (na w)) (((n0 : Int)).toNat) (((n0 : Int)).toNat) (n0 : Int) 0 w16))
def bits_each_xor.g16 (R : Value → World → Prop) (b16 : (Option Addr) → Nat → Nat → (Option Addr) → Nat → Nat → (Option Addr) → Nat → Nat → Int → Int → World → Prop) (a0 : Option Addr) (n0 : Nat) (c0 : Nat) (a1 : Option Addr) (n1 : Nat) (c1 : Nat) (a8 : Option Addr) (n8 : Nat) (c8 : Nat) (x19 : Int) (x20 : Int) (w : World) : Prop :=
  onBool (decide (x20 < x19))
    (∃ F17 : Nat → Value → World → Prop, (∀ i v u u', F17 i v u → Below u.heap.size u u' → F17 i v u') ∧
      (optN a0 fun q18 =>
      chk ((0 : Int) ≤ x20 ∧ x20 < (n0 : Int))
        (∃ yx_19 : Int, w.cell? (q18.add (x20.toNat * 1)) = some (.int .u64 yx_19) ∧
          (optN a1 fun q20 =>
          chk ((0 : Int) ≤ x20 ∧ x20 < (n1 : Int))
            (∃ yx_21 : Int, w.cell? (q20.add (x20.toNat * 1)) = some (.int .u64 yx_21) ∧
              ((∀ u22 : World, Below w.heap.size w u22 → Go.E.CallsD Go.Proofs.Tryd.prog 59 #[.int .u64 yx_19, .int .u64 yx_21] u22 fun yv24 u25 => ∃ yx_23 : Int, yv24 = .int .u64 yx_23 ∧ F17 11 (.int .u64 yx_23) u25 ∧ Below u22.heap.size u22 u25) ∧
                (∀ yx_26 : Int, (∃ u, Below w.heap.size w u ∧ F17 11 (.int .u64 yx_26) u) →
                optN a8 fun q27 =>
                chk ((0 : Int) ≤ x20 ∧ x20 < (n8 : Int))
                  (∀ u28 : World, Below w.heap.size w u28 → F17 11 (.int .u64 yx_26) u28 → 
                    okSt u28 ((q27.add (x20.toNat * 1)).add 0) ∧
                      (nw (u28.setCell ((q27.add (x20.toNat * 1)).add 0) (.int .u64 yx_26)) fun w29 =>
                      nv (IntKind.i64.wrap (x20 + 1)) fun t30 =>
                      b16 a0 n0 c0 a1 n1 c1 a8 n8 c8 x19 t30 w29)))))))))
    (R (.tuple #[.slice a8 n8 c8, .int .i64 0]) w)
def bits_each_xor.q2 (R : Value → World → Prop) : Exit → Act → World → Prop := (fin Go.Proofs.Tryd.prog Go.Proofs.Tryd.f56 R)
def bits_each_xor.q10 (R : Value → World → Prop) : Exit → Act → World → Prop := (bits_each_xor.q2 R)
def bits_each_xor.q12 (R : Value → World → Prop) : Exit → Act → World → Prop := (bits_each_xor.q10 R)
def bits_each_xor.q13 (R : Value → World → Prop) : Exit → Act → World → Prop := Exit.then (startN none (codeN Go.Proofs.Tryd.prog (sub (codeOf Go.Proofs.Tryd.f56) [1, 1, 1, 1]) (nsub bits_each_xor.an [1, 1, 1, 1]) (bits_each_xor.q12 R))) (bits_each_xor.q12 R)
def bits_each_xor.q15 (R : Value → World → Prop) : Exit → Act → World → Prop := (bits_each_xor.q13 R)
def bits_each_xor.q16 (R : Value → World → Prop) : Exit → Act → World → Prop := Exit.inBlock 0 (bits_each_xor.q15 R)
def bits_each_xor.rl16 (R : Value → World → Prop) (k : Nat) (a0 : Option Addr) (n0 : Nat) (c0 : Nat) (a1 : Option Addr) (n1 : Nat) (c1 : Nat) (a8 : Option Addr) (n8 : Nat) (c8 : Nat) (x19 : Int) (x20 : Int) (w : World) : Prop := loopN [0, 1, 2, 8, 19, 20] (codeN Go.Proofs.Tryd.prog (sub (codeOf Go.Proofs.Tryd.f56) [1, 1, 1, 0, 1, 0, 0]) (nsub bits_each_xor.an [1, 1, 1, 0, 1, 0, 0])) (bits_each_xor.q16 R) k ⟨#[.slice a0 n0 c0, .slice a1 n1 c1, .func (.func 59) #[] #[], undef, undef, undef, undef, undef, .slice a8 n8 c8, undef, undef, undef, undef, undef, undef, undef, undef, undef, undef, .int .i64 x19, .int .i64 x20, undef, undef, undef, undef, undef, undef, undef, undef, undef, undef, undef, undef, undef, undef, undef, undef, undef], []⟩ w
def bits_each_xor.re16 (R : Value → World → Prop) (a0 : Option Addr) (n0 : Nat) (c0 : Nat) (a1 : Option Addr) (n1 : Nat) (c1 : Nat) (a8 : Option Addr) (n8 : Nat) (c8 : Nat) (x19 : Int) (x20 : Int) (w : World) : Prop := ∃ k, bits_each_xor.rl16 R k a0 n0 c0 a1 n1 c1 a8 n8 c8 x19 x20 w
def bits_each_xor.l16 (R : Value → World → Prop) : Nat → (Option Addr) → Nat → Nat → (Option Addr) → Nat → Nat → (Option Addr) → Nat → Nat → Int → Int → World → Prop
  | 0, _, _, _, _, _, _, _, _, _, _, _, _ => False
  | k + 1, a0, n0, c0, a1, n1, c1, a8, n8, c8, x19, x20, w => bits_each_xor.g16 R (bits_each_xor.l16 R k) a0 n0 c0 a1 n1 c1 a8 n8 c8 x19 x20 w
def bits_each_xor.e16 (R : Value → World → Prop) (a0 : Option Addr) (n0 : Nat) (c0 : Nat) (a1 : Option Addr) (n1 : Nat) (c1 : Nat) (a8 : Option Addr) (n8 : Nat) (c8 : Nat) (x19 : Int) (x20 : Int) (w : World) : Prop := ∃ k, bits_each_xor.l16 R k a0 n0 c0 a1 n1 c1 a8 n8 c8 x19 x20 w
theorem bits_each_xor.s16 (R : Value → World → Prop) (k : Nat) (a0 : Option Addr) (n0 : Nat) (c0 : Nat) (a1 : Option Addr) (n1 : Nat) (c1 : Nat) (a8 : Option Addr) (n8 : Nat) (c8 : Nat) (x19 : Int) (x20 : Int) (w : World) : bits_each_xor.rl16 R (k + 1) a0 n0 c0 a1 n1 c1 a8 n8 c8 x19 x20 w = ∀ _ : Nat → Value, bits_each_xor.g16 R (bits_each_xor.rl16 R k) a0 n0 c0 a1 n1 c1 a8 n8 c8 x19 x20 w := by kernel_rfl
theorem bits_each_xor.lq16 (R : Value → World → Prop) : ∀ k, bits_each_xor.l16 R k = bits_each_xor.rl16 R k
  | 0 => by funext a0 n0 c0 a1 n1 c1 a8 n8 c8 x19 x20 w; rfl
  | k + 1 => by
    funext a0 n0 c0 a1 n1 c1 a8 n8 c8 x19 x20 w
    rw [bits_each_xor.s16, forall_const]
    unfold bits_each_xor.l16
    have ih := bits_each_xor.lq16 R k
    rw [ih]
    all_goals rfl
theorem bits_each_xor.eq16 (R : Value → World → Prop) : bits_each_xor.e16 R = bits_each_xor.re16 R := by
  funext a0 n0 c0 a1 n1 c1 a8 n8 c8 x19 x20 w
  unfold bits_each_xor.e16 bits_each_xor.re16
  simp only [bits_each_xor.lq16 R]
def bits_each_xor (R : Value → World → Prop) (a0 : Option Addr) (n0 : Nat) (c0 : Nat) (a1 : Option Addr) (n1 : Nat) (c1 : Nat) (w : World) : Prop := bits_each_xor.g0 R (bits_each_xor.e16 R) a0 n0 c0 a1 n1 c1 w
theorem bits_each_xor.root0 (R : Value → World → Prop) (a0 : Option Addr) (n0 : Nat) (c0 : Nat) (a1 : Option Addr) (n1 : Nat) (c1 : Nat) (w : World) : fnN Go.Proofs.Tryd.prog Go.Proofs.Tryd.f56 bits_each_xor.an #[.slice a0 n0 c0, .slice a1 n1 c1, .func (.func 59) #[] #[]] w R = bits_each_xor.g0 R (bits_each_xor.re16 R) a0 n0 c0 a1 n1 c1 w := by kernel_rfl
theorem bits_each_xor.calls {R : Value → World → Prop} {a0 : Option Addr} {n0 : Nat} {c0 : Nat} {a1 : Option Addr} {n1 : Nat} {c1 : Nat} {w : World} (h : bits_each_xor R a0 n0 c0 a1 n1 c1 w) : Go.E.CallsD Go.Proofs.Tryd.prog 56 #[.slice a0 n0 c0, .slice a1 n1 c1, .func (.func 59) #[] #[]] w R := by
  refine callsD_of (n := bits_each_xor.an) M_follows M_sizes Go.Proofs.Tryd.func56 (by rfl) ?_
  rw [bits_each_xor.root0]
  unfold bits_each_xor at h
  rw [bits_each_xor.eq16 R] at h
  exact h
-- thicket/bits.And$1
def bits_And_1.an : An := An.nil
def bits_And_1.g0 (R : Value → World → Prop) (x0 : Int) (x1 : Int) (w : World) : Prop :=
  nv (bitsI .and .u64 x0 x1) fun t2 =>
  R (.int .u64 t2) w
def bits_And_1 (R : Value → World → Prop) (x0 : Int) (x1 : Int) (w : World) : Prop := bits_And_1.g0 R x0 x1 w
theorem bits_And_1.root0 (R : Value → World → Prop) (x0 : Int) (x1 : Int) (w : World) : fnN Go.Proofs.Tryd.prog Go.Proofs.Tryd.f57 bits_And_1.an #[.int .u64 x0, .int .u64 x1] w R = bits_And_1.g0 R x0 x1 w := by kernel_rfl
theorem bits_And_1.calls {R : Value → World → Prop} {x0 : Int} {x1 : Int} {w : World} (h : bits_And_1 R x0 x1 w) : Go.E.CallsD Go.Proofs.Tryd.prog 57 #[.int .u64 x0, .int .u64 x1] w R := by
  refine callsD_of (n := bits_And_1.an) M_follows M_sizes Go.Proofs.Tryd.func57 (by rfl) ?_
  rw [bits_And_1.root0]
  unfold bits_And_1 at h
  exact h
-- thicket/bits.Or$1
def bits_Or_1.an : An := An.nil
def bits_Or_1.g0 (R : Value → World → Prop) (x0 : Int) (x1 : Int) (w : World) : Prop :=
  nv (bitsI .or .u64 x0 x1) fun t2 =>
  R (.int .u64 t2) w
def bits_Or_1 (R : Value → World → Prop) (x0 : Int) (x1 : Int) (w : World) : Prop := bits_Or_1.g0 R x0 x1 w
theorem bits_Or_1.root0 (R : Value → World → Prop) (x0 : Int) (x1 : Int) (w : World) : fnN Go.Proofs.Tryd.prog Go.Proofs.Tryd.f58 bits_Or_1.an #[.int .u64 x0, .int .u64 x1] w R = bits_Or_1.g0 R x0 x1 w := by kernel_rfl
theorem bits_Or_1.calls {R : Value → World → Prop} {x0 : Int} {x1 : Int} {w : World} (h : bits_Or_1 R x0 x1 w) : Go.E.CallsD Go.Proofs.Tryd.prog 58 #[.int .u64 x0, .int .u64 x1] w R := by
  refine callsD_of (n := bits_Or_1.an) M_follows M_sizes Go.Proofs.Tryd.func58 (by rfl) ?_
  rw [bits_Or_1.root0]
  unfold bits_Or_1 at h
  exact h
-- thicket/bits.Xor$1
def bits_Xor_1.an : An := An.nil
def bits_Xor_1.g0 (R : Value → World → Prop) (x0 : Int) (x1 : Int) (w : World) : Prop :=
  nv (bitsI .xor .u64 x0 x1) fun t2 =>
  R (.int .u64 t2) w
def bits_Xor_1 (R : Value → World → Prop) (x0 : Int) (x1 : Int) (w : World) : Prop := bits_Xor_1.g0 R x0 x1 w
theorem bits_Xor_1.root0 (R : Value → World → Prop) (x0 : Int) (x1 : Int) (w : World) : fnN Go.Proofs.Tryd.prog Go.Proofs.Tryd.f59 bits_Xor_1.an #[.int .u64 x0, .int .u64 x1] w R = bits_Xor_1.g0 R x0 x1 w := by kernel_rfl
theorem bits_Xor_1.calls {R : Value → World → Prop} {x0 : Int} {x1 : Int} {w : World} (h : bits_Xor_1 R x0 x1 w) : Go.E.CallsD Go.Proofs.Tryd.prog 59 #[.int .u64 x0, .int .u64 x1] w R := by
  refine callsD_of (n := bits_Xor_1.an) M_follows M_sizes Go.Proofs.Tryd.func59 (by rfl) ?_
  rw [bits_Xor_1.root0]
  unfold bits_Xor_1 at h
  exact h
-- thicket/bits.And
def bits_And.an : An := An.nil
def bits_And.g0 (R : Value → World → Prop) (a0 : Option Addr) (n0 : Nat) (c0 : Nat) (a1 : Option Addr) (n1 : Nat) (c1 : Nat) (w : World) : Prop :=
  Go.E.CallsD Go.Proofs.Tryd.prog 56 #[.slice a0 n0 c0, .slice a1 n1 c1, .func (.func 57) #[] #[]] w fun yv4 u5 =>
    ∃ ya_6_0 : Option Addr, ∃ yn_6_0 : Nat, ∃ yc_6_0 : Nat, ∃ yx_6_1 : Int, yv4 = .tuple #[.slice ya_6_0 yn_6_0 yc_6_0, .int .i64 yx_6_1] ∧
      (R (.tuple #[.slice ya_6_0 yn_6_0 yc_6_0, .int .i64 yx_6_1]) u5)
def bits_And (R : Value → World → Prop) (a0 : Option Addr) (n0 : Nat) (c0 : Nat) (a1 : Option Addr) (n1 : Nat) (c1 : Nat) (w : World) : Prop := bits_And.g0 R a0 n0 c0 a1 n1 c1 w
theorem bits_And.root0 (R : Value → World → Prop) (a0 : Option Addr) (n0 : Nat) (c0 : Nat) (a1 : Option Addr) (n1 : Nat) (c1 : Nat) (w : World) : fnN Go.Proofs.Tryd.prog Go.Proofs.Tryd.f30 bits_And.an #[.slice a0 n0 c0, .slice a1 n1 c1] w R = bits_And.g0 R a0 n0 c0 a1 n1 c1 w := by kernel_rfl
theorem bits_And.calls {R : Value → World → Prop} {a0 : Option Addr} {n0 : Nat} {c0 : Nat} {a1 : Option Addr} {n1 : Nat} {c1 : Nat} {w : World} (h : bits_And R a0 n0 c0 a1 n1 c1 w) : Go.E.CallsD Go.Proofs.Tryd.prog 30 #[.slice a0 n0 c0, .slice a1 n1 c1] w R := by
  refine callsD_of (n := bits_And.an) M_follows M_sizes Go.Proofs.Tryd.func30 (by rfl) ?_
  rw [bits_And.root0]
  unfold bits_And at h
  exact h
-- thicket/bits.Or
def bits_Or.an : An := An.nil
def bits_Or.g0 (R : Value → World → Prop) (a0 : Option Addr) (n0 : Nat) (c0 : Nat) (a1 : Option Addr) (n1 : Nat) (c1 : Nat) (w : World) : Prop :=
  Go.E.CallsD Go.Proofs.Tryd.prog 56 #[.slice a0 n0 c0, .slice a1 n1 c1, .func (.func 58) #[] #[]] w fun yv4 u5 =>
    ∃ ya_6_0 : Option Addr, ∃ yn_6_0 : Nat, ∃ yc_6_0 : Nat, ∃ yx_6_1 : Int, yv4 = .tuple #[.slice ya_6_0 yn_6_0 yc_6_0, .int .i64 yx_6_1] ∧
      (R (.tuple #[.slice ya_6_0 yn_6_0 yc_6_0, .int .i64 yx_6_1]) u5)
def bits_Or (R : Value → World → Prop) (a0 : Option Addr) (n0 : Nat) (c0 : Nat) (a1 : Option Addr) (n1 : Nat) (c1 : Nat) (w : World) : Prop := bits_Or.g0 R a0 n0 c0 a1 n1 c1 w
theorem bits_Or.root0 (R : Value → World → Prop) (a0 : Option Addr) (n0 : Nat) (c0 : Nat) (a1 : Option Addr) (n1 : Nat) (c1 : Nat) (w : World) : fnN Go.Proofs.Tryd.prog Go.Proofs.Tryd.f31 bits_Or.an #[.slice a0 n0 c0, .slice a1 n1 c1] w R = bits_Or.g0 R a0 n0 c0 a1 n1 c1 w := by kernel_rfl
theorem bits_Or.calls {R : Value → World → Prop} {a0 : Option Addr} {n0 : Nat} {c0 : Nat} {a1 : Option Addr} {n1 : Nat} {c1 : Nat} {w : World} (h : bits_Or R a0 n0 c0 a1 n1 c1 w) : Go.E.CallsD Go.Proofs.Tryd.prog 31 #[.slice a0 n0 c0, .slice a1 n1 c1] w R := by
  refine callsD_of (n := bits_Or.an) M_follows M_sizes Go.Proofs.Tryd.func31 (by rfl) ?_
  rw [bits_Or.root0]
  unfold bits_Or at h
  exact h
-- thicket/bits.Xor
def bits_Xor.an : An := An.nil
def bits_Xor.g0 (R : Value → World → Prop) (a0 : Option Addr) (n0 : Nat) (c0 : Nat) (a1 : Option Addr) (n1 : Nat) (c1 : Nat) (w : World) : Prop :=
  Go.E.CallsD Go.Proofs.Tryd.prog 56 #[.slice a0 n0 c0, .slice a1 n1 c1, .func (.func 59) #[] #[]] w fun yv4 u5 =>
    ∃ ya_6_0 : Option Addr, ∃ yn_6_0 : Nat, ∃ yc_6_0 : Nat, ∃ yx_6_1 : Int, yv4 = .tuple #[.slice ya_6_0 yn_6_0 yc_6_0, .int .i64 yx_6_1] ∧
      (R (.tuple #[.slice ya_6_0 yn_6_0 yc_6_0, .int .i64 yx_6_1]) u5)
def bits_Xor (R : Value → World → Prop) (a0 : Option Addr) (n0 : Nat) (c0 : Nat) (a1 : Option Addr) (n1 : Nat) (c1 : Nat) (w : World) : Prop := bits_Xor.g0 R a0 n0 c0 a1 n1 c1 w
theorem bits_Xor.root0 (R : Value → World → Prop) (a0 : Option Addr) (n0 : Nat) (c0 : Nat) (a1 : Option Addr) (n1 : Nat) (c1 : Nat) (w : World) : fnN Go.Proofs.Tryd.prog Go.Proofs.Tryd.f32 bits_Xor.an #[.slice a0 n0 c0, .slice a1 n1 c1] w R = bits_Xor.g0 R a0 n0 c0 a1 n1 c1 w := by kernel_rfl
theorem bits_Xor.calls {R : Value → World → Prop} {a0 : Option Addr} {n0 : Nat} {c0 : Nat} {a1 : Option Addr} {n1 : Nat} {c1 : Nat} {w : World} (h : bits_Xor R a0 n0 c0 a1 n1 c1 w) : Go.E.CallsD Go.Proofs.Tryd.prog 32 #[.slice a0 n0 c0, .slice a1 n1 c1] w R := by
  refine callsD_of (n := bits_Xor.an) M_follows M_sizes Go.Proofs.Tryd.func32 (by rfl) ?_
  rw [bits_Xor.root0]
  unfold bits_Xor at h
  exact h
end Go.Mir
