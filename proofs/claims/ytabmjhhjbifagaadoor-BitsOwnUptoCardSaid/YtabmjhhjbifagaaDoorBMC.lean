/- Part of a proof of laws of the seat YtabmjhhjbifagaaDoor: functions' weakest preconditions, each checked by the kernel, contracts out of them, plain lemmas; no conditions. -/
import Derived.Test.YtabmjhhjbifagaaDoorBMA
set_option linter.unusedVariables false
set_option linter.unusedSimpArgs false
set_option linter.unusedVariables false
namespace Go.Mir
open Go Go.E Go.RowKit
-- thicket/thicketref05.Do
def thicketref05_Do.an : An := (.mk none .nil (.mk none .nil (.mk none .nil (.mk none (.mk none .nil (.mk none (.mk (some [0, 1, 2, 8, 16, 17]) .nil .nil) .nil)) .nil))))
def thicketref05_Do.g0 (R : Value → World → Prop) (e16 : (Option Addr) → Nat → Nat → (Option Addr) → Nat → Nat → Int → (Option Addr) → Nat → Nat → Int → Int → World → Prop) (a0 : Option Addr) (n0 : Nat) (c0 : Nat) (a1 : Option Addr) (n1 : Nat) (c1 : Nat) (x2 : Int) (w : World) : Prop :=
  onBool ((n0 : Int) != (n1 : Int))
    (R (.tuple #[.slice none 0 0, .int .i64 6]) w)
    (e16 a0 n0 c0 a1 n1 c1 x2 none 0 0 (n0 : Int) 0 w)
def thicketref05_Do.g16 (R : Value → World → Prop) (b16 : (Option Addr) → Nat → Nat → (Option Addr) → Nat → Nat → Int → (Option Addr) → Nat → Nat → Int → Int → World → Prop) (a0 : Option Addr) (n0 : Nat) (c0 : Nat) (a1 : Option Addr) (n1 : Nat) (c1 : Nat) (x2 : Int) (a8 : Option Addr) (n8 : Nat) (c8 : Nat) (x16 : Int) (x17 : Int) (w : World) : Prop :=
  onBool (decide (x17 < x16))
    (onBool (x2 == 1)
      (∃ F38 : Nat → Value → World → Prop, (∀ i v u u', F38 i v u → Below u.heap.size u u' → F38 i v u') ∧
        (optN a0 fun q39 =>
        chk ((0 : Int) ≤ x17 ∧ x17 < (n0 : Int))
          (∃ yx_40 : Int, w.cell? (q39.add (x17.toNat * 1)) = some (.int .u64 yx_40) ∧
            (optN a1 fun q41 =>
            chk ((0 : Int) ≤ x17 ∧ x17 < (n1 : Int))
              (∃ yx_42 : Int, w.cell? (q41.add (x17.toNat * 1)) = some (.int .u64 yx_42) ∧
                (nv (bitsI .and .u64 yx_40 yx_42) fun t43 =>
                (∀ u44 : World, Below w.heap.size w u44 → F38 10 (.slice (some (na u44)) 1 1) (u44.alloc (.cells #[.int .u64 t43] 56))) ∧
                  (∀ q45 : Addr, (∃ u, Below w.heap.size w u ∧ F38 10 (.slice (some q45) 1 1) u) →
                  ∀ u46 : World, Below w.heap.size w u46 → F38 10 (.slice (some q45) 1 1) u46 → 
                    rawN Go.Proofs.Tryd.prog (Builtin.append_ #[25, 25] 25 #[.slice a8 n8 c8, .slice (some q45) 1 1]) u46 fun yv47 u48 =>
                      ∃ ya_49 : Option Addr, ∃ yn_49 : Nat, ∃ yc_49 : Nat, yv47 = .slice ya_49 yn_49 yc_49 ∧
                        (nv (IntKind.i64.wrap (x17 + 1)) fun t50 =>
                        b16 a0 n0 c0 a1 n1 c1 x2 ya_49 yn_49 yc_49 x16 t50 u48))))))))
      (onBool (x2 == 2)
        (∃ F51 : Nat → Value → World → Prop, (∀ i v u u', F51 i v u → Below u.heap.size u u' → F51 i v u') ∧
          (optN a0 fun q52 =>
          chk ((0 : Int) ≤ x17 ∧ x17 < (n0 : Int))
            (∃ yx_53 : Int, w.cell? (q52.add (x17.toNat * 1)) = some (.int .u64 yx_53) ∧
              (optN a1 fun q54 =>
              chk ((0 : Int) ≤ x17 ∧ x17 < (n1 : Int))
                (∃ yx_55 : Int, w.cell? (q54.add (x17.toNat * 1)) = some (.int .u64 yx_55) ∧
                  (nv (bitsI .or .u64 yx_53 yx_55) fun t56 =>
                  (∀ u57 : World, Below w.heap.size w u57 → F51 10 (.slice (some (na u57)) 1 1) (u57.alloc (.cells #[.int .u64 t56] 56))) ∧
                    (∀ q58 : Addr, (∃ u, Below w.heap.size w u ∧ F51 10 (.slice (some q58) 1 1) u) →
                    ∀ u59 : World, Below w.heap.size w u59 → F51 10 (.slice (some q58) 1 1) u59 → 
                      rawN Go.Proofs.Tryd.prog (Builtin.append_ #[25, 25] 25 #[.slice a8 n8 c8, .slice (some q58) 1 1]) u59 fun yv60 u61 =>
                        ∃ ya_62 : Option Addr, ∃ yn_62 : Nat, ∃ yc_62 : Nat, yv60 = .slice ya_62 yn_62 yc_62 ∧
                          (nv (IntKind.i64.wrap (x17 + 1)) fun t63 =>
                          b16 a0 n0 c0 a1 n1 c1 x2 ya_62 yn_62 yc_62 x16 t63 u61))))))))
        (∃ F64 : Nat → Value → World → Prop, (∀ i v u u', F64 i v u → Below u.heap.size u u' → F64 i v u') ∧
          (optN a0 fun q65 =>
          chk ((0 : Int) ≤ x17 ∧ x17 < (n0 : Int))
            (∃ yx_66 : Int, w.cell? (q65.add (x17.toNat * 1)) = some (.int .u64 yx_66) ∧
              (optN a1 fun q67 =>
              chk ((0 : Int) ≤ x17 ∧ x17 < (n1 : Int))
                (∃ yx_68 : Int, w.cell? (q67.add (x17.toNat * 1)) = some (.int .u64 yx_68) ∧
                  (nv (bitsI .xor .u64 yx_66 yx_68) fun t69 =>
                  (∀ u70 : World, Below w.heap.size w u70 → F64 10 (.slice (some (na u70)) 1 1) (u70.alloc (.cells #[.int .u64 t69] 56))) ∧
                    (∀ q71 : Addr, (∃ u, Below w.heap.size w u ∧ F64 10 (.slice (some q71) 1 1) u) →
                    ∀ u72 : World, Below w.heap.size w u72 → F64 10 (.slice (some q71) 1 1) u72 → 
                      rawN Go.Proofs.Tryd.prog (Builtin.append_ #[25, 25] 25 #[.slice a8 n8 c8, .slice (some q71) 1 1]) u72 fun yv73 u74 =>
                        ∃ ya_75 : Option Addr, ∃ yn_75 : Nat, ∃ yc_75 : Nat, yv73 = .slice ya_75 yn_75 yc_75 ∧
                          (nv (IntKind.i64.wrap (x17 + 1)) fun t76 =>
                          b16 a0 n0 c0 a1 n1 c1 x2 ya_75 yn_75 yc_75 x16 t76 u74))))))))))
    (R (.tuple #[.slice a8 n8 c8, .int .i64 0]) w)
def thicketref05_Do.q2 (R : Value → World → Prop) : Exit → Act → World → Prop := (fin Go.Proofs.Tryd.prog Go.Proofs.Tryd.f33 R)
def thicketref05_Do.q10 (R : Value → World → Prop) : Exit → Act → World → Prop := (thicketref05_Do.q2 R)
def thicketref05_Do.q12 (R : Value → World → Prop) : Exit → Act → World → Prop := (thicketref05_Do.q10 R)
def thicketref05_Do.q13 (R : Value → World → Prop) : Exit → Act → World → Prop := Exit.then (startN none (codeN Go.Proofs.Tryd.prog (sub (codeOf Go.Proofs.Tryd.f33) [1, 1, 1, 1]) (nsub thicketref05_Do.an [1, 1, 1, 1]) (thicketref05_Do.q12 R))) (thicketref05_Do.q12 R)
def thicketref05_Do.q15 (R : Value → World → Prop) : Exit → Act → World → Prop := (thicketref05_Do.q13 R)
def thicketref05_Do.q16 (R : Value → World → Prop) : Exit → Act → World → Prop := Exit.inBlock 0 (thicketref05_Do.q15 R)
def thicketref05_Do.rl16 (R : Value → World → Prop) (k : Nat) (a0 : Option Addr) (n0 : Nat) (c0 : Nat) (a1 : Option Addr) (n1 : Nat) (c1 : Nat) (x2 : Int) (a8 : Option Addr) (n8 : Nat) (c8 : Nat) (x16 : Int) (x17 : Int) (w : World) : Prop := loopN [0, 1, 2, 8, 16, 17] (codeN Go.Proofs.Tryd.prog (sub (codeOf Go.Proofs.Tryd.f33) [1, 1, 1, 0, 1, 0, 0]) (nsub thicketref05_Do.an [1, 1, 1, 0, 1, 0, 0])) (thicketref05_Do.q16 R) k ⟨#[.slice a0 n0 c0, .slice a1 n1 c1, .int .i64 x2, undef, undef, undef, undef, undef, .slice a8 n8 c8, undef, undef, undef, undef, undef, undef, undef, .int .i64 x16, .int .i64 x17, undef, undef, undef, undef, undef, undef, undef, undef, undef, undef, undef, undef, undef, undef, undef, undef, undef, undef, undef, undef, undef, undef, undef, undef, undef, undef, undef, undef, undef, undef, undef, undef, undef, undef, undef, undef, undef, undef, undef, undef, undef, undef, undef, undef, undef], []⟩ w
def thicketref05_Do.re16 (R : Value → World → Prop) (a0 : Option Addr) (n0 : Nat) (c0 : Nat) (a1 : Option Addr) (n1 : Nat) (c1 : Nat) (x2 : Int) (a8 : Option Addr) (n8 : Nat) (c8 : Nat) (x16 : Int) (x17 : Int) (w : World) : Prop := ∃ k, thicketref05_Do.rl16 R k a0 n0 c0 a1 n1 c1 x2 a8 n8 c8 x16 x17 w
def thicketref05_Do.l16 (R : Value → World → Prop) : Nat → (Option Addr) → Nat → Nat → (Option Addr) → Nat → Nat → Int → (Option Addr) → Nat → Nat → Int → Int → World → Prop
  | 0, _, _, _, _, _, _, _, _, _, _, _, _, _ => False
  | k + 1, a0, n0, c0, a1, n1, c1, x2, a8, n8, c8, x16, x17, w => thicketref05_Do.g16 R (thicketref05_Do.l16 R k) a0 n0 c0 a1 n1 c1 x2 a8 n8 c8 x16 x17 w
def thicketref05_Do.e16 (R : Value → World → Prop) (a0 : Option Addr) (n0 : Nat) (c0 : Nat) (a1 : Option Addr) (n1 : Nat) (c1 : Nat) (x2 : Int) (a8 : Option Addr) (n8 : Nat) (c8 : Nat) (x16 : Int) (x17 : Int) (w : World) : Prop := ∃ k, thicketref05_Do.l16 R k a0 n0 c0 a1 n1 c1 x2 a8 n8 c8 x16 x17 w
theorem thicketref05_Do.s16 (R : Value → World → Prop) (k : Nat) (a0 : Option Addr) (n0 : Nat) (c0 : Nat) (a1 : Option Addr) (n1 : Nat) (c1 : Nat) (x2 : Int) (a8 : Option Addr) (n8 : Nat) (c8 : Nat) (x16 : Int) (x17 : Int) (w : World) : thicketref05_Do.rl16 R (k + 1) a0 n0 c0 a1 n1 c1 x2 a8 n8 c8 x16 x17 w = ∀ _ : Nat → Value, thicketref05_Do.g16 R (thicketref05_Do.rl16 R k) a0 n0 c0 a1 n1 c1 x2 a8 n8 c8 x16 x17 w := by kernel_rfl
theorem thicketref05_Do.lq16 (R : Value → World → Prop) : ∀ k, thicketref05_Do.l16 R k = thicketref05_Do.rl16 R k
  | 0 => by funext a0 n0 c0 a1 n1 c1 x2 a8 n8 c8 x16 x17 w; rfl
  | k + 1 => by
    funext a0 n0 c0 a1 n1 c1 x2 a8 n8 c8 x16 x17 w
    rw [thicketref05_Do.s16, forall_const]
    unfold thicketref05_Do.l16
    have ih := thicketref05_Do.lq16 R k
    rw [ih]
    all_goals rfl
theorem thicketref05_Do.eq16 (R : Value → World → Prop) : thicketref05_Do.e16 R = thicketref05_Do.re16 R := by
  funext a0 n0 c0 a1 n1 c1 x2 a8 n8 c8 x16 x17 w
  unfold thicketref05_Do.e16 thicketref05_Do.re16
  simp only [thicketref05_Do.lq16 R]
def thicketref05_Do (R : Value → World → Prop) (a0 : Option Addr) (n0 : Nat) (c0 : Nat) (a1 : Option Addr) (n1 : Nat) (c1 : Nat) (x2 : Int) (w : World) : Prop := thicketref05_Do.g0 R (thicketref05_Do.e16 R) a0 n0 c0 a1 n1 c1 x2 w
theorem thicketref05_Do.root0 (R : Value → World → Prop) (a0 : Option Addr) (n0 : Nat) (c0 : Nat) (a1 : Option Addr) (n1 : Nat) (c1 : Nat) (x2 : Int) (w : World) : fnN Go.Proofs.Tryd.prog Go.Proofs.Tryd.f33 thicketref05_Do.an #[.slice a0 n0 c0, .slice a1 n1 c1, .int .i64 x2] w R = thicketref05_Do.g0 R (thicketref05_Do.re16 R) a0 n0 c0 a1 n1 c1 x2 w := by kernel_rfl
theorem thicketref05_Do.calls {R : Value → World → Prop} {a0 : Option Addr} {n0 : Nat} {c0 : Nat} {a1 : Option Addr} {n1 : Nat} {c1 : Nat} {x2 : Int} {w : World} (h : thicketref05_Do R a0 n0 c0 a1 n1 c1 x2 w) : Go.E.CallsD Go.Proofs.Tryd.prog 33 #[.slice a0 n0 c0, .slice a1 n1 c1, .int .i64 x2] w R := by
  refine callsD_of (n := thicketref05_Do.an) M_follows M_sizes Go.Proofs.Tryd.func33 (by rfl) ?_
  rw [thicketref05_Do.root0]
  unfold thicketref05_Do at h
  rw [thicketref05_Do.eq16 R] at h
  exact h
-- thicket/thicketlaw05.BitsWords
def thicketlaw05_BitsWords.an : An := An.nil
def thicketlaw05_BitsWords.g0 (R : Value → World → Prop) (a0 : Option Addr) (n0 : Nat) (c0 : Nat) (a1 : Option Addr) (n1 : Nat) (c1 : Nat) (w : World) : Prop :=
  Go.E.CallsD Go.Proofs.Tryd.prog 30 #[.slice a0 n0 c0, .slice a1 n1 c1] w fun yv31 u32 =>
    ∃ ya_33_0 : Option Addr, ∃ yn_33_0 : Nat, ∃ yc_33_0 : Nat, ∃ yx_33_1 : Int, yv31 = .tuple #[.slice ya_33_0 yn_33_0 yc_33_0, .int .i64 yx_33_1] ∧
      (Go.E.CallsD Go.Proofs.Tryd.prog 31 #[.slice a0 n0 c0, .slice a1 n1 c1] u32 fun yv34 u35 =>
        ∃ ya_36_0 : Option Addr, ∃ yn_36_0 : Nat, ∃ yc_36_0 : Nat, ∃ yx_36_1 : Int, yv34 = .tuple #[.slice ya_36_0 yn_36_0 yc_36_0, .int .i64 yx_36_1] ∧
          (Go.E.CallsD Go.Proofs.Tryd.prog 32 #[.slice a0 n0 c0, .slice a1 n1 c1] u35 fun yv37 u38 =>
            ∃ ya_39_0 : Option Addr, ∃ yn_39_0 : Nat, ∃ yc_39_0 : Nat, ∃ yx_39_1 : Int, yv37 = .tuple #[.slice ya_39_0 yn_39_0 yc_39_0, .int .i64 yx_39_1] ∧
              (Go.E.CallsD Go.Proofs.Tryd.prog 33 #[.slice a0 n0 c0, .slice a1 n1 c1, .int .i64 1] u38 fun yv40 u41 =>
                ∃ ya_42_0 : Option Addr, ∃ yn_42_0 : Nat, ∃ yc_42_0 : Nat, ∃ yx_42_1 : Int, yv40 = .tuple #[.slice ya_42_0 yn_42_0 yc_42_0, .int .i64 yx_42_1] ∧
                  (Go.E.CallsD Go.Proofs.Tryd.prog 33 #[.slice a0 n0 c0, .slice a1 n1 c1, .int .i64 2] u41 fun yv43 u44 =>
                    ∃ ya_45_0 : Option Addr, ∃ yn_45_0 : Nat, ∃ yc_45_0 : Nat, ∃ yx_45_1 : Int, yv43 = .tuple #[.slice ya_45_0 yn_45_0 yc_45_0, .int .i64 yx_45_1] ∧
                      (Go.E.CallsD Go.Proofs.Tryd.prog 33 #[.slice a0 n0 c0, .slice a1 n1 c1, .int .i64 3] u44 fun yv46 u47 =>
                        ∃ ya_48_0 : Option Addr, ∃ yn_48_0 : Nat, ∃ yc_48_0 : Nat, ∃ yx_48_1 : Int, yv46 = .tuple #[.slice ya_48_0 yn_48_0 yc_48_0, .int .i64 yx_48_1] ∧
                          (Go.E.CallsD Go.Proofs.Tryd.prog 20 #[] u47 fun yv49 u50 =>
                            ∃ yb_51 : Bool, yv49 = .bool yb_51 ∧
                              (onBool (!yb_51)
                                (R (.bool false) u50)
                                (Go.E.CallsD Go.Proofs.Tryd.prog 21 #[.slice ya_33_0 yn_33_0 yc_33_0, .slice ya_42_0 yn_42_0 yc_42_0] u50 fun yv52 u53 =>
                                  ∃ yb_54 : Bool, yv52 = .bool yb_54 ∧
                                    (onBool (!yb_54)
                                      (R (.bool false) u53)
                                      (Go.E.CallsD Go.Proofs.Tryd.prog 21 #[.slice ya_36_0 yn_36_0 yc_36_0, .slice ya_45_0 yn_45_0 yc_45_0] u53 fun yv55 u56 =>
                                        ∃ yb_57 : Bool, yv55 = .bool yb_57 ∧
                                          (onBool (!yb_57)
                                            (R (.bool false) u56)
                                            (Go.E.CallsD Go.Proofs.Tryd.prog 21 #[.slice ya_39_0 yn_39_0 yc_39_0, .slice ya_48_0 yn_48_0 yc_48_0] u56 fun yv58 u59 =>
                                              ∃ yb_60 : Bool, yv58 = .bool yb_60 ∧
                                                (onBool (!yb_60)
                                                  (R (.bool false) u59)
                                                  (onBool (yx_33_1 != yx_42_1)
                                                    (R (.bool false) u59)
                                                    (onBool (yx_36_1 != yx_45_1)
                                                      (R (.bool false) u59)
                                                      (onBool (yx_39_1 != yx_48_1)
                                                        (R (.bool false) u59)
                                                        (Go.E.CallsD Go.Proofs.Tryd.prog 22 #[.slice a0 n0 c0] u59 fun yv61 u62 =>
                                                          ∃ ya_63 : Option Addr, ∃ yn_63 : Nat, ∃ yc_63 : Nat, yv61 = .slice ya_63 yn_63 yc_63 ∧
                                                            (Go.E.CallsD Go.Proofs.Tryd.prog 22 #[.slice a1 n1 c1] u62 fun yv64 u65 =>
                                                              ∃ ya_66 : Option Addr, ∃ yn_66 : Nat, ∃ yc_66 : Nat, yv64 = .slice ya_66 yn_66 yc_66 ∧
                                                                (Go.E.CallsD Go.Proofs.Tryd.prog 23 #[.slice ya_63 yn_63 yc_63, .slice ya_66 yn_66 yc_66] u65 fun yv67 u68 =>
                                                                  ∃ yx_69 : Int, yv67 = .int .i64 yx_69 ∧
                                                                    (onBool (yx_42_1 != 0)
                                                                      (onBool (yx_69 == yx_42_1)
                                                                        (Go.E.CallsD Go.Proofs.Tryd.prog 21 #[.slice ya_63 yn_63 yc_63, .slice a0 n0 c0] u68 fun yv70 u71 =>
                                                                          ∃ yb_72 : Bool, yv70 = .bool yb_72 ∧
                                                                            (onBool yb_72
                                                                              (Go.E.CallsD Go.Proofs.Tryd.prog 21 #[.slice ya_66 yn_66 yc_66, .slice a1 n1 c1] u71 fun yv73 u74 =>
                                                                                ∃ yb_75 : Bool, yv73 = .bool yb_75 ∧
                                                                                  (R (.bool yb_75) u74))
                                                                              (R (.bool false) u71)))
                                                                        (R (.bool false) u68))
                                                                      (onBool (yx_69 == 0)
                                                                        (Go.E.CallsD Go.Proofs.Tryd.prog 21 #[.slice ya_63 yn_63 yc_63, .slice ya_42_0 yn_42_0 yc_42_0] u68 fun yv76 u77 =>
                                                                          ∃ yb_78 : Bool, yv76 = .bool yb_78 ∧
                                                                            (onBool yb_78
                                                                              (Go.E.CallsD Go.Proofs.Tryd.prog 21 #[.slice ya_66 yn_66 yc_66, .slice a1 n1 c1] u77 fun yv79 u80 =>
                                                                                ∃ yb_81 : Bool, yv79 = .bool yb_81 ∧
                                                                                  (R (.bool yb_81) u80))
                                                                              (R (.bool false) u77)))
                                                                        (R (.bool false) u68))))))))))))))))))))))
def thicketlaw05_BitsWords (R : Value → World → Prop) (a0 : Option Addr) (n0 : Nat) (c0 : Nat) (a1 : Option Addr) (n1 : Nat) (c1 : Nat) (w : World) : Prop := thicketlaw05_BitsWords.g0 R a0 n0 c0 a1 n1 c1 w
theorem thicketlaw05_BitsWords.root0 (R : Value → World → Prop) (a0 : Option Addr) (n0 : Nat) (c0 : Nat) (a1 : Option Addr) (n1 : Nat) (c1 : Nat) (w : World) : fnN Go.Proofs.Tryd.prog Go.Proofs.Tryd.f6 thicketlaw05_BitsWords.an #[.slice a0 n0 c0, .slice a1 n1 c1] w R = thicketlaw05_BitsWords.g0 R a0 n0 c0 a1 n1 c1 w := by kernel_rfl
theorem thicketlaw05_BitsWords.calls {R : Value → World → Prop} {a0 : Option Addr} {n0 : Nat} {c0 : Nat} {a1 : Option Addr} {n1 : Nat} {c1 : Nat} {w : World} (h : thicketlaw05_BitsWords R a0 n0 c0 a1 n1 c1 w) : Go.E.CallsD Go.Proofs.Tryd.prog 6 #[.slice a0 n0 c0, .slice a1 n1 c1] w R := by
  refine callsD_of (n := thicketlaw05_BitsWords.an) M_follows M_sizes Go.Proofs.Tryd.func6 (by rfl) ?_
  rw [thicketlaw05_BitsWords.root0]
  unfold thicketlaw05_BitsWords at h
  exact h
-- thicket/bits.Of
def bits_Of.an : An := (.mk none .nil (.mk none .nil (.mk none .nil (.mk none .nil (.mk none (.mk none .nil (.mk none (.mk (some [0, 6, 8, 19, 20, 21]) .nil .nil) .nil)) .nil)))))
def bits_Of.g0 (R : Value → World → Prop) (e18 : Int → (Option Addr) → Nat → Nat → Int → (Option Addr) → Nat → Nat → Int → Int → World → Prop) (x0 : Int) (a1 : Option Addr) (n1 : Nat) (c1 : Nat) (w : World) : Prop :=
  Go.E.CallsD Go.Proofs.Tryd.prog 14 #[.int .i64 x0] w fun yv15 u16 =>
    ∃ ya_17_0 : Option Addr, ∃ yn_17_0 : Nat, ∃ yc_17_0 : Nat, ∃ yx_17_1 : Int, yv15 = .tuple #[.slice ya_17_0 yn_17_0 yc_17_0, .int .i64 yx_17_1] ∧
      (onBool (yx_17_1 != 0)
        (R (.tuple #[.slice none 0 0, .int .i64 yx_17_1]) u16)
        (e18 x0 ya_17_0 yn_17_0 yc_17_0 0 a1 n1 c1 (n1 : Int) 0 u16))
def bits_Of.g18 (R : Value → World → Prop) (b18 : Int → (Option Addr) → Nat → Nat → Int → (Option Addr) → Nat → Nat → Int → Int → World → Prop) (x0 : Int) (a6 : Option Addr) (n6 : Nat) (c6 : Nat) (x8 : Int) (a19 : Option Addr) (n19 : Nat) (c19 : Nat) (x20 : Int) (x21 : Int) (w : World) : Prop :=
  onBool (decide (x21 < x20))
    (optN a19 fun q18 =>
    chk ((0 : Int) ≤ x21 ∧ x21 < (n19 : Int))
      (∃ yx_19 : Int, w.cell? ((q18.add (x21.toNat * 2)).add 0) = some (.int .i64 yx_19) ∧
        (∃ yx_20 : Int, w.cell? ((q18.add (x21.toNat * 2)).add 1) = some (.int .i64 yx_20) ∧
          (nw (w.alloc (.cells #[.int .i64 0, .int .i64 0] 58)) fun w21 =>
          okSt w21 ((na w).add 0) ∧
            (nw (w21.setCell ((na w).add 0) (.int .i64 yx_19)) fun w22 =>
            okSt w22 ((na w).add 1) ∧
              (nw (w22.setCell ((na w).add 1) (.int .i64 yx_20)) fun w23 =>
              ∃ yx_24 : Int, w23.cell? ((na w).add 0) = some (.int .i64 yx_24) ∧
                (onBool (decide (yx_24 < x8))
                  (R (.tuple #[.slice none 0 0, .int .i64 50]) w23)
                  (∃ yx_25 : Int, w23.cell? ((na w).add 0) = some (.int .i64 yx_25) ∧
                    (onBool (decide (yx_25 < 0))
                      (R (.tuple #[.slice none 0 0, .int .i64 50]) w23)
                      (∃ yx_26 : Int, w23.cell? ((na w).add 0) = some (.int .i64 yx_26) ∧
                        (∃ yx_27 : Int, w23.cell? ((na w).add 1) = some (.int .i64 yx_27) ∧
                          (onBool (decide (yx_26 ≥ yx_27))
                            (R (.tuple #[.slice none 0 0, .int .i64 50]) w23)
                            (∃ yx_28 : Int, w23.cell? ((na w).add 1) = some (.int .i64 yx_28) ∧
                              (onBool (decide (yx_28 > x0))
                                (R (.tuple #[.slice none 0 0, .int .i64 50]) w23)
                                (∃ yx_29 : Int, w23.cell? ((na w).add 1) = some (.int .i64 yx_29) ∧
                                  (∃ yx_30 : Int, w23.cell? ((na w).add 0) = some (.int .i64 yx_30) ∧
                                    (∃ yx_31 : Int, w23.cell? ((na w).add 1) = some (.int .i64 yx_31) ∧
                                      (Go.E.CallsD Go.Proofs.Tryd.prog 52 #[.slice a6 n6 c6, .int .i64 yx_30, .int .i64 yx_31] w23 fun yv32 u33 =>
                                        yv32 = .tuple #[] ∧
                                          (nv (IntKind.i64.wrap (x21 + 1)) fun t35 =>
                                          b18 x0 a6 n6 c6 yx_29 a19 n19 c19 x20 t35 u33)))))))))))))))))))
    (R (.tuple #[.slice a6 n6 c6, .int .i64 0]) w)
def bits_Of.q2 (R : Value → World → Prop) : Exit → Act → World → Prop := (fin Go.Proofs.Tryd.prog Go.Proofs.Tryd.f34 R)
def bits_Of.q4 (R : Value → World → Prop) : Exit → Act → World → Prop := (bits_Of.q2 R)
def bits_Of.q12 (R : Value → World → Prop) : Exit → Act → World → Prop := (bits_Of.q4 R)
def bits_Of.q14 (R : Value → World → Prop) : Exit → Act → World → Prop := (bits_Of.q12 R)
def bits_Of.q15 (R : Value → World → Prop) : Exit → Act → World → Prop := Exit.then (startN none (codeN Go.Proofs.Tryd.prog (sub (codeOf Go.Proofs.Tryd.f34) [1, 1, 1, 1, 1]) (nsub bits_Of.an [1, 1, 1, 1, 1]) (bits_Of.q14 R))) (bits_Of.q14 R)
def bits_Of.q17 (R : Value → World → Prop) : Exit → Act → World → Prop := (bits_Of.q15 R)
def bits_Of.q18 (R : Value → World → Prop) : Exit → Act → World → Prop := Exit.inBlock 0 (bits_Of.q17 R)
def bits_Of.rl18 (R : Value → World → Prop) (k : Nat) (x0 : Int) (a6 : Option Addr) (n6 : Nat) (c6 : Nat) (x8 : Int) (a19 : Option Addr) (n19 : Nat) (c19 : Nat) (x20 : Int) (x21 : Int) (w : World) : Prop := loopN [0, 6, 8, 19, 20, 21] (codeN Go.Proofs.Tryd.prog (sub (codeOf Go.Proofs.Tryd.f34) [1, 1, 1, 1, 0, 1, 0, 0]) (nsub bits_Of.an [1, 1, 1, 1, 0, 1, 0, 0])) (bits_Of.q18 R) k ⟨#[.int .i64 x0, undef, undef, undef, undef, undef, .slice a6 n6 c6, undef, .int .i64 x8, undef, undef, undef, undef, undef, undef, undef, undef, undef, undef, .slice a19 n19 c19, .int .i64 x20, .int .i64 x21, undef, undef, undef, undef, undef, undef, undef, undef, undef, undef, undef, undef, undef, undef, undef, undef, undef, undef, undef, undef, undef, undef, undef, undef, undef, undef, undef, undef, undef, undef, undef, undef, undef, undef, undef], []⟩ w
def bits_Of.re18 (R : Value → World → Prop) (x0 : Int) (a6 : Option Addr) (n6 : Nat) (c6 : Nat) (x8 : Int) (a19 : Option Addr) (n19 : Nat) (c19 : Nat) (x20 : Int) (x21 : Int) (w : World) : Prop := ∃ k, bits_Of.rl18 R k x0 a6 n6 c6 x8 a19 n19 c19 x20 x21 w
def bits_Of.l18 (R : Value → World → Prop) : Nat → Int → (Option Addr) → Nat → Nat → Int → (Option Addr) → Nat → Nat → Int → Int → World → Prop
  | 0, _, _, _, _, _, _, _, _, _, _, _ => False
  | k + 1, x0, a6, n6, c6, x8, a19, n19, c19, x20, x21, w => bits_Of.g18 R (bits_Of.l18 R k) x0 a6 n6 c6 x8 a19 n19 c19 x20 x21 w
def bits_Of.e18 (R : Value → World → Prop) (x0 : Int) (a6 : Option Addr) (n6 : Nat) (c6 : Nat) (x8 : Int) (a19 : Option Addr) (n19 : Nat) (c19 : Nat) (x20 : Int) (x21 : Int) (w : World) : Prop := ∃ k, bits_Of.l18 R k x0 a6 n6 c6 x8 a19 n19 c19 x20 x21 w
theorem bits_Of.s18 (R : Value → World → Prop) (k : Nat) (x0 : Int) (a6 : Option Addr) (n6 : Nat) (c6 : Nat) (x8 : Int) (a19 : Option Addr) (n19 : Nat) (c19 : Nat) (x20 : Int) (x21 : Int) (w : World) : bits_Of.rl18 R (k + 1) x0 a6 n6 c6 x8 a19 n19 c19 x20 x21 w = ∀ _ : Nat → Value, bits_Of.g18 R (bits_Of.rl18 R k) x0 a6 n6 c6 x8 a19 n19 c19 x20 x21 w := by kernel_rfl
theorem bits_Of.lq18 (R : Value → World → Prop) : ∀ k, bits_Of.l18 R k = bits_Of.rl18 R k
  | 0 => by funext x0 a6 n6 c6 x8 a19 n19 c19 x20 x21 w; rfl
  | k + 1 => by
    funext x0 a6 n6 c6 x8 a19 n19 c19 x20 x21 w
    rw [bits_Of.s18, forall_const]
    unfold bits_Of.l18
    have ih := bits_Of.lq18 R k
    rw [ih]
    all_goals rfl
theorem bits_Of.eq18 (R : Value → World → Prop) : bits_Of.e18 R = bits_Of.re18 R := by
  funext x0 a6 n6 c6 x8 a19 n19 c19 x20 x21 w
  unfold bits_Of.e18 bits_Of.re18
  simp only [bits_Of.lq18 R]
def bits_Of (R : Value → World → Prop) (x0 : Int) (a1 : Option Addr) (n1 : Nat) (c1 : Nat) (w : World) : Prop := bits_Of.g0 R (bits_Of.e18 R) x0 a1 n1 c1 w
theorem bits_Of.root0 (R : Value → World → Prop) (x0 : Int) (a1 : Option Addr) (n1 : Nat) (c1 : Nat) (w : World) : fnN Go.Proofs.Tryd.prog Go.Proofs.Tryd.f34 bits_Of.an #[.int .i64 x0, .slice a1 n1 c1] w R = bits_Of.g0 R (bits_Of.re18 R) x0 a1 n1 c1 w := by kernel_rfl
theorem bits_Of.calls {R : Value → World → Prop} {x0 : Int} {a1 : Option Addr} {n1 : Nat} {c1 : Nat} {w : World} (h : bits_Of R x0 a1 n1 c1 w) : Go.E.CallsD Go.Proofs.Tryd.prog 34 #[.int .i64 x0, .slice a1 n1 c1] w R := by
  refine callsD_of (n := bits_Of.an) M_follows M_sizes Go.Proofs.Tryd.func34 (by rfl) ?_
  rw [bits_Of.root0]
  unfold bits_Of at h
  rw [bits_Of.eq18 R] at h
  exact h
-- thicket/thicketref05.Of
def thicketref05_Of.an : An := (.mk none .nil (.mk none .nil (.mk none .nil (.mk none (.mk none .nil (.mk none (.mk (some [0, 1, 6, 19, 20, 21]) .nil .nil) .nil)) (.mk none .nil (.mk none (.mk none .nil (.mk none (.mk (some [9, 49, 50, 51]) (.mk none .nil (.mk none .nil (.mk none (.mk none (.mk none .nil (.mk none .nil (.mk none (.mk (some [9, 11, 12, 49, 50, 51]) .nil .nil) .nil))) .nil) .nil))) .nil) .nil)) .nil))))))
def thicketref05_Of.g0 (R : Value → World → Prop) (e16 : Int → (Option Addr) → Nat → Nat → Int → (Option Addr) → Nat → Nat → Int → Int → World → Prop) (x0 : Int) (a1 : Option Addr) (n1 : Nat) (c1 : Nat) (w : World) : Prop :=
  onBool (decide (x0 < 0))
    (R (.tuple #[.slice none 0 0, .int .i64 2]) w)
    (onBool (decide (x0 > 1048576))
      (R (.tuple #[.slice none 0 0, .int .i64 2]) w)
      (e16 x0 a1 n1 c1 0 a1 n1 c1 (n1 : Int) 0 w))
def thicketref05_Of.g16 (R : Value → World → Prop) (b16 : Int → (Option Addr) → Nat → Nat → Int → (Option Addr) → Nat → Nat → Int → Int → World → Prop) (e43 : (Option Addr) → Nat → Nat → (Option Addr) → Nat → Nat → Int → Int → World → Prop) (x0 : Int) (a1 : Option Addr) (n1 : Nat) (c1 : Nat) (x6 : Int) (a19 : Option Addr) (n19 : Nat) (c19 : Nat) (x20 : Int) (x21 : Int) (w : World) : Prop :=
  onBool (decide (x21 < x20))
    (optN a19 fun q35 =>
    chk ((0 : Int) ≤ x21 ∧ x21 < (n19 : Int))
      (∃ yx_36 : Int, w.cell? ((q35.add (x21.toNat * 2)).add 0) = some (.int .i64 yx_36) ∧
        (∃ yx_37 : Int, w.cell? ((q35.add (x21.toNat * 2)).add 1) = some (.int .i64 yx_37) ∧
          (nw (w.alloc (.cells #[.int .i64 0, .int .i64 0] 58)) fun w38 =>
          okSt w38 ((na w).add 0) ∧
            (nw (w38.setCell ((na w).add 0) (.int .i64 yx_36)) fun w39 =>
            okSt w39 ((na w).add 1) ∧
              (nw (w39.setCell ((na w).add 1) (.int .i64 yx_37)) fun w40 =>
              ∃ yx_41 : Int, w40.cell? ((na w).add 0) = some (.int .i64 yx_41) ∧
                (onBool (decide (yx_41 < x6))
                  (R (.tuple #[.slice none 0 0, .int .i64 50]) w40)
                  (∃ yx_42 : Int, w40.cell? ((na w).add 0) = some (.int .i64 yx_42) ∧
                    (∃ yx_43 : Int, w40.cell? ((na w).add 1) = some (.int .i64 yx_43) ∧
                      (onBool (decide (yx_42 ≥ yx_43))
                        (R (.tuple #[.slice none 0 0, .int .i64 50]) w40)
                        (∃ yx_44 : Int, w40.cell? ((na w).add 1) = some (.int .i64 yx_44) ∧
                          (onBool (decide (yx_44 > x0))
                            (R (.tuple #[.slice none 0 0, .int .i64 50]) w40)
                            (∃ yx_45 : Int, w40.cell? ((na w).add 1) = some (.int .i64 yx_45) ∧
                              (nv (IntKind.i64.wrap (x21 + 1)) fun t46 =>
                              b16 x0 a1 n1 c1 yx_45 a19 n19 c19 x20 t46 w40))))))))))))))
    (nv (IntKind.i64.wrap (x0 + 63)) fun t47 =>
    nv (IntKind.i64.wrap (Int.tdiv t47 64)) fun t48 =>
    chk ((0 : Int) ≤ t48 ∧ t48 ≤ t48 ∧ ((8 : Nat) : Int) * t48 ≤ 281474976710656 ∧ t48 ≤ 9223372036854775807)
      (nw (w.alloc (.cells (madeCells #[.int .u64 0] ((t48).toNat * 1)) 56)) fun w49 =>
      e43 (some (na w)) ((t48).toNat) ((t48).toNat) a1 n1 c1 (n1 : Int) 0 w49))
def thicketref05_Of.g43 (R : Value → World → Prop) (e57 : (Option Addr) → Nat → Nat → (Option Addr) → Int → (Option Addr) → Nat → Nat → Int → Int → World → Prop) (a9 : Option Addr) (n9 : Nat) (c9 : Nat) (a49 : Option Addr) (n49 : Nat) (c49 : Nat) (x50 : Int) (x51 : Int) (w : World) : Prop :=
  onBool (decide (x51 < x50))
    (optN a49 fun q50 =>
    chk ((0 : Int) ≤ x51 ∧ x51 < (n49 : Int))
      (∃ yx_51 : Int, w.cell? ((q50.add (x51.toNat * 2)).add 0) = some (.int .i64 yx_51) ∧
        (∃ yx_52 : Int, w.cell? ((q50.add (x51.toNat * 2)).add 1) = some (.int .i64 yx_52) ∧
          (nw (w.alloc (.cells #[.int .i64 0, .int .i64 0] 58)) fun w53 =>
          okSt w53 ((na w).add 0) ∧
            (nw (w53.setCell ((na w).add 0) (.int .i64 yx_51)) fun w54 =>
            okSt w54 ((na w).add 1) ∧
              (nw (w54.setCell ((na w).add 1) (.int .i64 yx_52)) fun w55 =>
              ∃ yx_56 : Int, w55.cell? ((na w).add 0) = some (.int .i64 yx_56) ∧
                (e57 a9 n9 c9 (some (na w)) yx_56 a49 n49 c49 x50 x51 w55)))))))
    (R (.tuple #[.slice a9 n9 c9, .int .i64 0]) w)
def thicketref05_Of.g57 (R : Value → World → Prop) (b43 : (Option Addr) → Nat → Nat → (Option Addr) → Nat → Nat → Int → Int → World → Prop) (b57 : (Option Addr) → Nat → Nat → (Option Addr) → Int → (Option Addr) → Nat → Nat → Int → Int → World → Prop) (a9 : Option Addr) (n9 : Nat) (c9 : Nat) (p11 : Option Addr) (x12 : Int) (a49 : Option Addr) (n49 : Nat) (c49 : Nat) (x50 : Int) (x51 : Int) (w : World) : Prop :=
  optN p11 fun q57 =>
  ∃ yx_58 : Int, w.cell? (q57.add 1) = some (.int .i64 yx_58) ∧
    (onBool (decide (x12 < yx_58))
      (nv (IntKind.i64.wrap (Int.tdiv x12 64)) fun t59 =>
      nv (IntKind.i64.wrap (Int.tdiv x12 64)) fun t60 =>
      optN a9 fun q61 =>
      chk ((0 : Int) ≤ t60 ∧ t60 < (n9 : Int))
        (∃ yx_62 : Int, w.cell? (q61.add (t60.toNat * 1)) = some (.int .u64 yx_62) ∧
          (nv (Int.tmod x12 64) fun t63 =>
          nv (IntKind.u64.wrap t63) fun t64 =>
          nchk (t64 < 0)
            (nv (IntKind.u64.wrap (1 * 2 ^ (min t64.toNat 64))) fun t65 =>
            nv (bitsI .or .u64 yx_62 t65) fun t66 =>
            optN a9 fun q67 =>
            chk ((0 : Int) ≤ t59 ∧ t59 < (n9 : Int))
              (okSt w ((q67.add (t59.toNat * 1)).add 0) ∧
                (nw (w.setCell ((q67.add (t59.toNat * 1)).add 0) (.int .u64 t66)) fun w68 =>
                nv (IntKind.i64.wrap (x12 + 1)) fun t69 =>
                b57 a9 n9 c9 p11 t69 a49 n49 c49 x50 x51 w68))))))
      (nv (IntKind.i64.wrap (x51 + 1)) fun t70 =>
      b43 a9 n9 c9 a49 n49 c49 x50 t70 w))
def thicketref05_Of.q2 (R : Value → World → Prop) : Exit → Act → World → Prop := (fin Go.Proofs.Tryd.prog Go.Proofs.Tryd.f35 R)
def thicketref05_Of.q10 (R : Value → World → Prop) : Exit → Act → World → Prop := (thicketref05_Of.q2 R)
def thicketref05_Of.q12 (R : Value → World → Prop) : Exit → Act → World → Prop := (thicketref05_Of.q10 R)
def thicketref05_Of.q13 (R : Value → World → Prop) : Exit → Act → World → Prop := Exit.then (startN none (codeN Go.Proofs.Tryd.prog (sub (codeOf Go.Proofs.Tryd.f35) [1, 1, 1, 1]) (nsub thicketref05_Of.an [1, 1, 1, 1]) (thicketref05_Of.q12 R))) (thicketref05_Of.q12 R)
def thicketref05_Of.q15 (R : Value → World → Prop) : Exit → Act → World → Prop := (thicketref05_Of.q13 R)
def thicketref05_Of.q16 (R : Value → World → Prop) : Exit → Act → World → Prop := Exit.inBlock 0 (thicketref05_Of.q15 R)
def thicketref05_Of.rl16 (R : Value → World → Prop) (k : Nat) (x0 : Int) (a1 : Option Addr) (n1 : Nat) (c1 : Nat) (x6 : Int) (a19 : Option Addr) (n19 : Nat) (c19 : Nat) (x20 : Int) (x21 : Int) (w : World) : Prop := loopN [0, 1, 6, 19, 20, 21] (codeN Go.Proofs.Tryd.prog (sub (codeOf Go.Proofs.Tryd.f35) [1, 1, 1, 0, 1, 0, 0]) (nsub thicketref05_Of.an [1, 1, 1, 0, 1, 0, 0])) (thicketref05_Of.q16 R) k ⟨#[.int .i64 x0, .slice a1 n1 c1, undef, undef, undef, undef, .int .i64 x6, undef, undef, undef, undef, undef, undef, undef, undef, undef, undef, undef, undef, .slice a19 n19 c19, .int .i64 x20, .int .i64 x21, undef, undef, undef, undef, undef, undef, undef, undef, undef, undef, undef, undef, undef, undef, undef, undef, undef, undef, undef, undef, undef, undef, undef, undef, undef, undef, undef, undef, undef, undef, undef, undef, undef, undef, undef, undef, undef, undef, undef, undef, undef, undef, undef, undef, undef, undef, undef, undef, undef, undef, undef, undef, undef, undef, undef, undef, undef], []⟩ w
def thicketref05_Of.re16 (R : Value → World → Prop) (x0 : Int) (a1 : Option Addr) (n1 : Nat) (c1 : Nat) (x6 : Int) (a19 : Option Addr) (n19 : Nat) (c19 : Nat) (x20 : Int) (x21 : Int) (w : World) : Prop := ∃ k, thicketref05_Of.rl16 R k x0 a1 n1 c1 x6 a19 n19 c19 x20 x21 w
def thicketref05_Of.q37 (R : Value → World → Prop) : Exit → Act → World → Prop := (thicketref05_Of.q12 R)
def thicketref05_Of.q39 (R : Value → World → Prop) : Exit → Act → World → Prop := (thicketref05_Of.q37 R)
def thicketref05_Of.q40 (R : Value → World → Prop) : Exit → Act → World → Prop := Exit.then (startN none (codeN Go.Proofs.Tryd.prog (sub (codeOf Go.Proofs.Tryd.f35) [1, 1, 1, 1, 1, 1]) (nsub thicketref05_Of.an [1, 1, 1, 1, 1, 1]) (thicketref05_Of.q39 R))) (thicketref05_Of.q39 R)
def thicketref05_Of.q42 (R : Value → World → Prop) : Exit → Act → World → Prop := (thicketref05_Of.q40 R)
def thicketref05_Of.q43 (R : Value → World → Prop) : Exit → Act → World → Prop := Exit.inBlock 2 (thicketref05_Of.q42 R)
def thicketref05_Of.rl43 (R : Value → World → Prop) (k : Nat) (a9 : Option Addr) (n9 : Nat) (c9 : Nat) (a49 : Option Addr) (n49 : Nat) (c49 : Nat) (x50 : Int) (x51 : Int) (w : World) : Prop := loopN [9, 49, 50, 51] (codeN Go.Proofs.Tryd.prog (sub (codeOf Go.Proofs.Tryd.f35) [1, 1, 1, 1, 1, 0, 1, 0, 0]) (nsub thicketref05_Of.an [1, 1, 1, 1, 1, 0, 1, 0, 0])) (thicketref05_Of.q43 R) k ⟨#[undef, undef, undef, undef, undef, undef, undef, undef, undef, .slice a9 n9 c9, undef, undef, undef, undef, undef, undef, undef, undef, undef, undef, undef, undef, undef, undef, undef, undef, undef, undef, undef, undef, undef, undef, undef, undef, undef, undef, undef, undef, undef, undef, undef, undef, undef, undef, undef, undef, undef, undef, undef, .slice a49 n49 c49, .int .i64 x50, .int .i64 x51, undef, undef, undef, undef, undef, undef, undef, undef, undef, undef, undef, undef, undef, undef, undef, undef, undef, undef, undef, undef, undef, undef, undef, undef, undef, undef, undef], []⟩ w
def thicketref05_Of.re43 (R : Value → World → Prop) (a9 : Option Addr) (n9 : Nat) (c9 : Nat) (a49 : Option Addr) (n49 : Nat) (c49 : Nat) (x50 : Int) (x51 : Int) (w : World) : Prop := ∃ k, thicketref05_Of.rl43 R k a9 n9 c9 a49 n49 c49 x50 x51 w
def thicketref05_Of.q44 (R : Value → World → Prop) (k43 : Nat) : Exit → Act → World → Prop := Exit.then (fun a w => loopN [9, 49, 50, 51] (codeN Go.Proofs.Tryd.prog (sub (codeOf Go.Proofs.Tryd.f35) [1, 1, 1, 1, 1, 0, 1, 0, 0]) (nsub thicketref05_Of.an [1, 1, 1, 1, 1, 0, 1, 0, 0])) (thicketref05_Of.q43 R) k43 (clr [9, 49, 50, 51] a) w) (thicketref05_Of.q43 R)
def thicketref05_Of.q46 (R : Value → World → Prop) (k43 : Nat) : Exit → Act → World → Prop := (thicketref05_Of.q44 R k43)
def thicketref05_Of.q50 (R : Value → World → Prop) (k43 : Nat) : Exit → Act → World → Prop := (thicketref05_Of.q46 R k43)
def thicketref05_Of.q51 (R : Value → World → Prop) (k43 : Nat) : Exit → Act → World → Prop := Exit.then (startN none (codeN Go.Proofs.Tryd.prog (sub (codeOf Go.Proofs.Tryd.f35) [1, 1, 1, 1, 1, 0, 1, 0, 0, 1, 1, 1]) (nsub thicketref05_Of.an [1, 1, 1, 1, 1, 0, 1, 0, 0, 1, 1, 1]) (thicketref05_Of.q50 R k43))) (thicketref05_Of.q50 R k43)
def thicketref05_Of.q52 (R : Value → World → Prop) (k43 : Nat) : Exit → Act → World → Prop := Exit.inBlock 3 (thicketref05_Of.q51 R k43)
def thicketref05_Of.q54 (R : Value → World → Prop) (k43 : Nat) : Exit → Act → World → Prop := (thicketref05_Of.q52 R k43)
def thicketref05_Of.q56 (R : Value → World → Prop) (k43 : Nat) : Exit → Act → World → Prop := (thicketref05_Of.q54 R k43)
def thicketref05_Of.q57 (R : Value → World → Prop) (k43 : Nat) : Exit → Act → World → Prop := Exit.inBlock 4 (thicketref05_Of.q56 R k43)
def thicketref05_Of.rl57 (R : Value → World → Prop) (k43 : Nat) (k : Nat) (a9 : Option Addr) (n9 : Nat) (c9 : Nat) (p11 : Option Addr) (x12 : Int) (a49 : Option Addr) (n49 : Nat) (c49 : Nat) (x50 : Int) (x51 : Int) (w : World) : Prop := loopN [9, 11, 12, 49, 50, 51] (codeN Go.Proofs.Tryd.prog (sub (codeOf Go.Proofs.Tryd.f35) [1, 1, 1, 1, 1, 0, 1, 0, 0, 1, 1, 0, 0, 1, 1, 0, 0]) (nsub thicketref05_Of.an [1, 1, 1, 1, 1, 0, 1, 0, 0, 1, 1, 0, 0, 1, 1, 0, 0])) (thicketref05_Of.q57 R k43) k ⟨#[undef, undef, undef, undef, undef, undef, undef, undef, undef, .slice a9 n9 c9, undef, .pointer p11, .int .i64 x12, undef, undef, undef, undef, undef, undef, undef, undef, undef, undef, undef, undef, undef, undef, undef, undef, undef, undef, undef, undef, undef, undef, undef, undef, undef, undef, undef, undef, undef, undef, undef, undef, undef, undef, undef, undef, .slice a49 n49 c49, .int .i64 x50, .int .i64 x51, undef, undef, undef, undef, undef, undef, undef, undef, undef, undef, undef, undef, undef, undef, undef, undef, undef, undef, undef, undef, undef, undef, undef, undef, undef, undef, undef], []⟩ w
def thicketref05_Of.re57 (R : Value → World → Prop) (k43 : Nat) (a9 : Option Addr) (n9 : Nat) (c9 : Nat) (p11 : Option Addr) (x12 : Int) (a49 : Option Addr) (n49 : Nat) (c49 : Nat) (x50 : Int) (x51 : Int) (w : World) : Prop := ∃ k, thicketref05_Of.rl57 R k43 k a9 n9 c9 p11 x12 a49 n49 c49 x50 x51 w
def thicketref05_Of.l57 (R : Value → World → Prop) (b43 : (Option Addr) → Nat → Nat → (Option Addr) → Nat → Nat → Int → Int → World → Prop) : Nat → (Option Addr) → Nat → Nat → (Option Addr) → Int → (Option Addr) → Nat → Nat → Int → Int → World → Prop
  | 0, _, _, _, _, _, _, _, _, _, _, _ => False
  | k + 1, a9, n9, c9, p11, x12, a49, n49, c49, x50, x51, w => thicketref05_Of.g57 R b43 (thicketref05_Of.l57 R b43 k) a9 n9 c9 p11 x12 a49 n49 c49 x50 x51 w
def thicketref05_Of.e57 (R : Value → World → Prop) (b43 : (Option Addr) → Nat → Nat → (Option Addr) → Nat → Nat → Int → Int → World → Prop) (a9 : Option Addr) (n9 : Nat) (c9 : Nat) (p11 : Option Addr) (x12 : Int) (a49 : Option Addr) (n49 : Nat) (c49 : Nat) (x50 : Int) (x51 : Int) (w : World) : Prop := ∃ k, thicketref05_Of.l57 R b43 k a9 n9 c9 p11 x12 a49 n49 c49 x50 x51 w
theorem thicketref05_Of.s57 (R : Value → World → Prop) (k43 : Nat) (k : Nat) (a9 : Option Addr) (n9 : Nat) (c9 : Nat) (p11 : Option Addr) (x12 : Int) (a49 : Option Addr) (n49 : Nat) (c49 : Nat) (x50 : Int) (x51 : Int) (w : World) : thicketref05_Of.rl57 R k43 (k + 1) a9 n9 c9 p11 x12 a49 n49 c49 x50 x51 w = ∀ _ : Nat → Value, thicketref05_Of.g57 R (thicketref05_Of.rl43 R k43) (thicketref05_Of.rl57 R k43 k) a9 n9 c9 p11 x12 a49 n49 c49 x50 x51 w := by kernel_rfl
theorem thicketref05_Of.lq57 (R : Value → World → Prop) (k43 : Nat) (b43 : (Option Addr) → Nat → Nat → (Option Addr) → Nat → Nat → Int → Int → World → Prop) (hb43 : b43 = thicketref05_Of.rl43 R k43) : ∀ k, thicketref05_Of.l57 R b43 k = thicketref05_Of.rl57 R k43 k
  | 0 => by funext a9 n9 c9 p11 x12 a49 n49 c49 x50 x51 w; rfl
  | k + 1 => by
    funext a9 n9 c9 p11 x12 a49 n49 c49 x50 x51 w
    rw [thicketref05_Of.s57, forall_const]
    unfold thicketref05_Of.l57
    have ih := thicketref05_Of.lq57 R k43 b43 hb43 k
    subst hb43
    rw [ih]
    all_goals rfl
theorem thicketref05_Of.eq57 (R : Value → World → Prop) (k43 : Nat) (b43 : (Option Addr) → Nat → Nat → (Option Addr) → Nat → Nat → Int → Int → World → Prop) (hb43 : b43 = thicketref05_Of.rl43 R k43) : thicketref05_Of.e57 R b43 = thicketref05_Of.re57 R k43 := by
  funext a9 n9 c9 p11 x12 a49 n49 c49 x50 x51 w
  unfold thicketref05_Of.e57 thicketref05_Of.re57
  simp only [thicketref05_Of.lq57 R k43 b43 hb43]
def thicketref05_Of.l43 (R : Value → World → Prop) : Nat → (Option Addr) → Nat → Nat → (Option Addr) → Nat → Nat → Int → Int → World → Prop
  | 0, _, _, _, _, _, _, _, _, _ => False
  | k + 1, a9, n9, c9, a49, n49, c49, x50, x51, w => thicketref05_Of.g43 R (thicketref05_Of.e57 R (thicketref05_Of.l43 R k)) a9 n9 c9 a49 n49 c49 x50 x51 w
def thicketref05_Of.e43 (R : Value → World → Prop) (a9 : Option Addr) (n9 : Nat) (c9 : Nat) (a49 : Option Addr) (n49 : Nat) (c49 : Nat) (x50 : Int) (x51 : Int) (w : World) : Prop := ∃ k, thicketref05_Of.l43 R k a9 n9 c9 a49 n49 c49 x50 x51 w
theorem thicketref05_Of.s43 (R : Value → World → Prop) (k : Nat) (a9 : Option Addr) (n9 : Nat) (c9 : Nat) (a49 : Option Addr) (n49 : Nat) (c49 : Nat) (x50 : Int) (x51 : Int) (w : World) : thicketref05_Of.rl43 R (k + 1) a9 n9 c9 a49 n49 c49 x50 x51 w = ∀ _ : Nat → Value, thicketref05_Of.g43 R (thicketref05_Of.re57 R k) a9 n9 c9 a49 n49 c49 x50 x51 w := by kernel_rfl
theorem thicketref05_Of.lq43 (R : Value → World → Prop) : ∀ k, thicketref05_Of.l43 R k = thicketref05_Of.rl43 R k
  | 0 => by funext a9 n9 c9 a49 n49 c49 x50 x51 w; rfl
  | k + 1 => by
    funext a9 n9 c9 a49 n49 c49 x50 x51 w
    rw [thicketref05_Of.s43, forall_const]
    unfold thicketref05_Of.l43
    have ih := thicketref05_Of.lq43 R k
    rw [thicketref05_Of.eq57 R k _ ih]
    all_goals rfl
theorem thicketref05_Of.eq43 (R : Value → World → Prop) : thicketref05_Of.e43 R = thicketref05_Of.re43 R := by
  funext a9 n9 c9 a49 n49 c49 x50 x51 w
  unfold thicketref05_Of.e43 thicketref05_Of.re43
  simp only [thicketref05_Of.lq43 R]
def thicketref05_Of.l16 (R : Value → World → Prop) : Nat → Int → (Option Addr) → Nat → Nat → Int → (Option Addr) → Nat → Nat → Int → Int → World → Prop
  | 0, _, _, _, _, _, _, _, _, _, _, _ => False
  | k + 1, x0, a1, n1, c1, x6, a19, n19, c19, x20, x21, w => thicketref05_Of.g16 R (thicketref05_Of.l16 R k) (thicketref05_Of.e43 R) x0 a1 n1 c1 x6 a19 n19 c19 x20 x21 w
def thicketref05_Of.e16 (R : Value → World → Prop) (x0 : Int) (a1 : Option Addr) (n1 : Nat) (c1 : Nat) (x6 : Int) (a19 : Option Addr) (n19 : Nat) (c19 : Nat) (x20 : Int) (x21 : Int) (w : World) : Prop := ∃ k, thicketref05_Of.l16 R k x0 a1 n1 c1 x6 a19 n19 c19 x20 x21 w
theorem thicketref05_Of.s16 (R : Value → World → Prop) (k : Nat) (x0 : Int) (a1 : Option Addr) (n1 : Nat) (c1 : Nat) (x6 : Int) (a19 : Option Addr) (n19 : Nat) (c19 : Nat) (x20 : Int) (x21 : Int) (w : World) : thicketref05_Of.rl16 R (k + 1) x0 a1 n1 c1 x6 a19 n19 c19 x20 x21 w = ∀ _ : Nat → Value, thicketref05_Of.g16 R (thicketref05_Of.rl16 R k) (thicketref05_Of.re43 R) x0 a1 n1 c1 x6 a19 n19 c19 x20 x21 w := by kernel_rfl
theorem thicketref05_Of.lq16 (R : Value → World → Prop) : ∀ k, thicketref05_Of.l16 R k = thicketref05_Of.rl16 R k
  | 0 => by funext x0 a1 n1 c1 x6 a19 n19 c19 x20 x21 w; rfl
  | k + 1 => by
    funext x0 a1 n1 c1 x6 a19 n19 c19 x20 x21 w
    rw [thicketref05_Of.s16, forall_const]
    unfold thicketref05_Of.l16
    have ih := thicketref05_Of.lq16 R k
    rw [thicketref05_Of.eq43 R]
    rw [ih]
    all_goals rfl
theorem thicketref05_Of.eq16 (R : Value → World → Prop) : thicketref05_Of.e16 R = thicketref05_Of.re16 R := by
  funext x0 a1 n1 c1 x6 a19 n19 c19 x20 x21 w
  unfold thicketref05_Of.e16 thicketref05_Of.re16
  simp only [thicketref05_Of.lq16 R]
def thicketref05_Of (R : Value → World → Prop) (x0 : Int) (a1 : Option Addr) (n1 : Nat) (c1 : Nat) (w : World) : Prop := thicketref05_Of.g0 R (thicketref05_Of.e16 R) x0 a1 n1 c1 w
theorem thicketref05_Of.root0 (R : Value → World → Prop) (x0 : Int) (a1 : Option Addr) (n1 : Nat) (c1 : Nat) (w : World) : fnN Go.Proofs.Tryd.prog Go.Proofs.Tryd.f35 thicketref05_Of.an #[.int .i64 x0, .slice a1 n1 c1] w R = thicketref05_Of.g0 R (thicketref05_Of.re16 R) x0 a1 n1 c1 w := by kernel_rfl
theorem thicketref05_Of.calls {R : Value → World → Prop} {x0 : Int} {a1 : Option Addr} {n1 : Nat} {c1 : Nat} {w : World} (h : thicketref05_Of R x0 a1 n1 c1 w) : Go.E.CallsD Go.Proofs.Tryd.prog 35 #[.int .i64 x0, .slice a1 n1 c1] w R := by
  refine callsD_of (n := thicketref05_Of.an) M_follows M_sizes Go.Proofs.Tryd.func35 (by rfl) ?_
  rw [thicketref05_Of.root0]
  unfold thicketref05_Of at h
  rw [thicketref05_Of.eq16 R] at h
  exact h
-- thicket/thicketlaw05.runs
def thicketlaw05_runs.an : An := (.mk none .nil (.mk none .nil (.mk none (.mk none .nil (.mk none (.mk (some [0, 1, 12, 13]) .nil .nil) .nil)) .nil)))
def thicketlaw05_runs.g0 (R : Value → World → Prop) (e14 : (Option Addr) → Nat → Nat → (Option Addr) → Nat → Nat → Int → Int → World → Prop) (a0 : Option Addr) (n0 : Nat) (c0 : Nat) (a1 : Option Addr) (n1 : Nat) (c1 : Nat) (w : World) : Prop :=
  onBool ((n0 : Int) != (n1 : Int))
    (R (.bool false) w)
    (e14 a0 n0 c0 a1 n1 c1 (n0 : Int) 0 w)
def thicketlaw05_runs.g14 (R : Value → World → Prop) (b14 : (Option Addr) → Nat → Nat → (Option Addr) → Nat → Nat → Int → Int → World → Prop) (a0 : Option Addr) (n0 : Nat) (c0 : Nat) (a1 : Option Addr) (n1 : Nat) (c1 : Nat) (x12 : Int) (x13 : Int) (w : World) : Prop :=
  onBool (decide (x13 < x12))
    (optN a0 fun q9 =>
    chk ((0 : Int) ≤ x13 ∧ x13 < (n0 : Int))
      (∃ yx_10 : Int, w.cell? ((q9.add (x13.toNat * 2)).add 0) = some (.int .i64 yx_10) ∧
        (∃ yx_11 : Int, w.cell? ((q9.add (x13.toNat * 2)).add 1) = some (.int .i64 yx_11) ∧
          (optN a1 fun q12 =>
          chk ((0 : Int) ≤ x13 ∧ x13 < (n1 : Int))
            (∃ yx_13 : Int, w.cell? ((q12.add (x13.toNat * 2)).add 0) = some (.int .i64 yx_13) ∧
              (∃ yx_14 : Int, w.cell? ((q12.add (x13.toNat * 2)).add 1) = some (.int .i64 yx_14) ∧
                (∃ eb15 : Bool, (∀ w, (Op.equal 58 (.agg #[.int .i64 yx_10, .int .i64 yx_11]) (.agg #[.int .i64 yx_13, .int .i64 yx_14])).run Go.Proofs.Tryd.prog w = .ok eb15 w) ∧
                  (onBool (!eb15)
                    (R (.bool false) w)
                    (nv (IntKind.i64.wrap (x13 + 1)) fun t16 =>
                    b14 a0 n0 c0 a1 n1 c1 x12 t16 w)))))))))
    (R (.bool true) w)
def thicketlaw05_runs.q2 (R : Value → World → Prop) : Exit → Act → World → Prop := (fin Go.Proofs.Tryd.prog Go.Proofs.Tryd.f36 R)
def thicketlaw05_runs.q10 (R : Value → World → Prop) : Exit → Act → World → Prop := (thicketlaw05_runs.q2 R)
def thicketlaw05_runs.q11 (R : Value → World → Prop) : Exit → Act → World → Prop := Exit.then (startN none (codeN Go.Proofs.Tryd.prog (sub (codeOf Go.Proofs.Tryd.f36) [1, 1, 1]) (nsub thicketlaw05_runs.an [1, 1, 1]) (thicketlaw05_runs.q10 R))) (thicketlaw05_runs.q10 R)
def thicketlaw05_runs.q13 (R : Value → World → Prop) : Exit → Act → World → Prop := (thicketlaw05_runs.q11 R)
def thicketlaw05_runs.q14 (R : Value → World → Prop) : Exit → Act → World → Prop := Exit.inBlock 0 (thicketlaw05_runs.q13 R)
def thicketlaw05_runs.rl14 (R : Value → World → Prop) (k : Nat) (a0 : Option Addr) (n0 : Nat) (c0 : Nat) (a1 : Option Addr) (n1 : Nat) (c1 : Nat) (x12 : Int) (x13 : Int) (w : World) : Prop := loopN [0, 1, 12, 13] (codeN Go.Proofs.Tryd.prog (sub (codeOf Go.Proofs.Tryd.f36) [1, 1, 0, 1, 0, 0]) (nsub thicketlaw05_runs.an [1, 1, 0, 1, 0, 0])) (thicketlaw05_runs.q14 R) k ⟨#[.slice a0 n0 c0, .slice a1 n1 c1, undef, undef, undef, undef, undef, undef, undef, undef, undef, undef, .int .i64 x12, .int .i64 x13, undef, undef, undef, undef, undef, undef, undef, undef, undef, undef, undef, undef], []⟩ w
def thicketlaw05_runs.re14 (R : Value → World → Prop) (a0 : Option Addr) (n0 : Nat) (c0 : Nat) (a1 : Option Addr) (n1 : Nat) (c1 : Nat) (x12 : Int) (x13 : Int) (w : World) : Prop := ∃ k, thicketlaw05_runs.rl14 R k a0 n0 c0 a1 n1 c1 x12 x13 w
def thicketlaw05_runs.l14 (R : Value → World → Prop) : Nat → (Option Addr) → Nat → Nat → (Option Addr) → Nat → Nat → Int → Int → World → Prop
  | 0, _, _, _, _, _, _, _, _, _ => False
  | k + 1, a0, n0, c0, a1, n1, c1, x12, x13, w => thicketlaw05_runs.g14 R (thicketlaw05_runs.l14 R k) a0 n0 c0 a1 n1 c1 x12 x13 w
def thicketlaw05_runs.e14 (R : Value → World → Prop) (a0 : Option Addr) (n0 : Nat) (c0 : Nat) (a1 : Option Addr) (n1 : Nat) (c1 : Nat) (x12 : Int) (x13 : Int) (w : World) : Prop := ∃ k, thicketlaw05_runs.l14 R k a0 n0 c0 a1 n1 c1 x12 x13 w
theorem thicketlaw05_runs.s14 (R : Value → World → Prop) (k : Nat) (a0 : Option Addr) (n0 : Nat) (c0 : Nat) (a1 : Option Addr) (n1 : Nat) (c1 : Nat) (x12 : Int) (x13 : Int) (w : World) : thicketlaw05_runs.rl14 R (k + 1) a0 n0 c0 a1 n1 c1 x12 x13 w = ∀ _ : Nat → Value, thicketlaw05_runs.g14 R (thicketlaw05_runs.rl14 R k) a0 n0 c0 a1 n1 c1 x12 x13 w := by kernel_rfl
theorem thicketlaw05_runs.lq14 (R : Value → World → Prop) : ∀ k, thicketlaw05_runs.l14 R k = thicketlaw05_runs.rl14 R k
  | 0 => by funext a0 n0 c0 a1 n1 c1 x12 x13 w; rfl
  | k + 1 => by
    funext a0 n0 c0 a1 n1 c1 x12 x13 w
    rw [thicketlaw05_runs.s14, forall_const]
    unfold thicketlaw05_runs.l14
    have ih := thicketlaw05_runs.lq14 R k
    rw [ih]
    all_goals rfl
theorem thicketlaw05_runs.eq14 (R : Value → World → Prop) : thicketlaw05_runs.e14 R = thicketlaw05_runs.re14 R := by
  funext a0 n0 c0 a1 n1 c1 x12 x13 w
  unfold thicketlaw05_runs.e14 thicketlaw05_runs.re14
  simp only [thicketlaw05_runs.lq14 R]
def thicketlaw05_runs (R : Value → World → Prop) (a0 : Option Addr) (n0 : Nat) (c0 : Nat) (a1 : Option Addr) (n1 : Nat) (c1 : Nat) (w : World) : Prop := thicketlaw05_runs.g0 R (thicketlaw05_runs.e14 R) a0 n0 c0 a1 n1 c1 w
theorem thicketlaw05_runs.root0 (R : Value → World → Prop) (a0 : Option Addr) (n0 : Nat) (c0 : Nat) (a1 : Option Addr) (n1 : Nat) (c1 : Nat) (w : World) : fnN Go.Proofs.Tryd.prog Go.Proofs.Tryd.f36 thicketlaw05_runs.an #[.slice a0 n0 c0, .slice a1 n1 c1] w R = thicketlaw05_runs.g0 R (thicketlaw05_runs.re14 R) a0 n0 c0 a1 n1 c1 w := by kernel_rfl
theorem thicketlaw05_runs.calls {R : Value → World → Prop} {a0 : Option Addr} {n0 : Nat} {c0 : Nat} {a1 : Option Addr} {n1 : Nat} {c1 : Nat} {w : World} (h : thicketlaw05_runs R a0 n0 c0 a1 n1 c1 w) : Go.E.CallsD Go.Proofs.Tryd.prog 36 #[.slice a0 n0 c0, .slice a1 n1 c1] w R := by
  refine callsD_of (n := thicketlaw05_runs.an) M_follows M_sizes Go.Proofs.Tryd.func36 (by rfl) ?_
  rw [thicketlaw05_runs.root0]
  unfold thicketlaw05_runs at h
  rw [thicketlaw05_runs.eq14 R] at h
  exact h
-- thicket/bits.Runs
def bits_Runs.an : An := (.mk none .nil (.mk none .nil (.mk none .nil (.mk none (.mk none .nil (.mk none (.mk (some [0, 3, 4, 5]) (.mk none .nil (.mk none (.mk none (.mk none .nil (.mk none .nil (.mk none (.mk none (.mk (some [0, 3, 4, 5, 6]) .nil .nil) .nil) .nil))) .nil) .nil)) .nil) .nil)) .nil))))
def bits_Runs.g0 (R : Value → World → Prop) (e10 : (Option Addr) → Nat → Nat → (Option Addr) → Nat → Nat → Int → Int → World → Prop) (a0 : Option Addr) (n0 : Nat) (c0 : Nat) (w : World) : Prop :=
  nv (IntKind.i64.wrap (64 * (n0 : Int))) fun t14 =>
  e10 a0 n0 c0 none 0 0 t14 0 w
def bits_Runs.g10 (R : Value → World → Prop) (b10 : (Option Addr) → Nat → Nat → (Option Addr) → Nat → Nat → Int → Int → World → Prop) (e29 : (Option Addr) → Nat → Nat → (Option Addr) → Nat → Nat → Int → Int → Int → World → Prop) (a0 : Option Addr) (n0 : Nat) (c0 : Nat) (a3 : Option Addr) (n3 : Nat) (c3 : Nat) (x4 : Int) (x5 : Int) (w : World) : Prop :=
  onBool (decide (x5 < x4))
    (Go.E.CallsD Go.Proofs.Tryd.prog 24 #[.slice a0 n0 c0, .int .i64 x5] w fun yv15 u16 =>
      ∃ yb_17 : Bool, yv15 = .bool yb_17 ∧
        (onBool (!yb_17)
          (nv (IntKind.i64.wrap (x5 + 1)) fun t18 =>
          b10 a0 n0 c0 a3 n3 c3 x4 t18 u16)
          (e29 a0 n0 c0 a3 n3 c3 x4 x5 x5 u16)))
    (R (.slice a3 n3 c3) w)
def bits_Runs.g29 (R : Value → World → Prop) (b10 : (Option Addr) → Nat → Nat → (Option Addr) → Nat → Nat → Int → Int → World → Prop) (b29 : (Option Addr) → Nat → Nat → (Option Addr) → Nat → Nat → Int → Int → Int → World → Prop) (a0 : Option Addr) (n0 : Nat) (c0 : Nat) (a3 : Option Addr) (n3 : Nat) (c3 : Nat) (x4 : Int) (x5 : Int) (x6 : Int) (w : World) : Prop :=
  onBool (decide (x5 < x4))
    (Go.E.CallsD Go.Proofs.Tryd.prog 24 #[.slice a0 n0 c0, .int .i64 x5] w fun yv19 u20 =>
      ∃ yb_21 : Bool, yv19 = .bool yb_21 ∧
        (onBool yb_21
          (nv (IntKind.i64.wrap (x5 + 1)) fun t22 =>
          b29 a0 n0 c0 a3 n3 c3 x4 t22 x6 u20)
          (nw (u20.alloc (.cells #[.int .i64 x6, .int .i64 x5] 58)) fun w23 =>
          rawN Go.Proofs.Tryd.prog (Builtin.append_ #[44, 44] 44 #[.slice a3 n3 c3, .slice (some (na u20)) 1 1]) w23 fun yv24 u25 =>
            ∃ ya_26 : Option Addr, ∃ yn_26 : Nat, ∃ yc_26 : Nat, yv24 = .slice ya_26 yn_26 yc_26 ∧
              (nv (IntKind.i64.wrap (x5 + 1)) fun t27 =>
              b10 a0 n0 c0 ya_26 yn_26 yc_26 x4 t27 u25))))
    (nw (w.alloc (.cells #[.int .i64 x6, .int .i64 x5] 58)) fun w28 =>
    rawN Go.Proofs.Tryd.prog (Builtin.append_ #[44, 44] 44 #[.slice a3 n3 c3, .slice (some (na w)) 1 1]) w28 fun yv29 u30 =>
      ∃ ya_31 : Option Addr, ∃ yn_31 : Nat, ∃ yc_31 : Nat, yv29 = .slice ya_31 yn_31 yc_31 ∧
        (nv (IntKind.i64.wrap (x5 + 1)) fun t32 =>
        b10 a0 n0 c0 ya_31 yn_31 yc_31 x4 t32 u30))
def bits_Runs.q2 (R : Value → World → Prop) : Exit → Act → World → Prop := (fin Go.Proofs.Tryd.prog Go.Proofs.Tryd.f37 R)
def bits_Runs.q4 (R : Value → World → Prop) : Exit → Act → World → Prop := (bits_Runs.q2 R)
def bits_Runs.q6 (R : Value → World → Prop) : Exit → Act → World → Prop := (bits_Runs.q4 R)
def bits_Runs.q7 (R : Value → World → Prop) : Exit → Act → World → Prop := Exit.then (startN none (codeN Go.Proofs.Tryd.prog (sub (codeOf Go.Proofs.Tryd.f37) [1, 1, 1, 1]) (nsub bits_Runs.an [1, 1, 1, 1]) (bits_Runs.q6 R))) (bits_Runs.q6 R)
def bits_Runs.q9 (R : Value → World → Prop) : Exit → Act → World → Prop := (bits_Runs.q7 R)
def bits_Runs.q10 (R : Value → World → Prop) : Exit → Act → World → Prop := Exit.inBlock 0 (bits_Runs.q9 R)
def bits_Runs.rl10 (R : Value → World → Prop) (k : Nat) (a0 : Option Addr) (n0 : Nat) (c0 : Nat) (a3 : Option Addr) (n3 : Nat) (c3 : Nat) (x4 : Int) (x5 : Int) (w : World) : Prop := loopN [0, 3, 4, 5] (codeN Go.Proofs.Tryd.prog (sub (codeOf Go.Proofs.Tryd.f37) [1, 1, 1, 0, 1, 0, 0]) (nsub bits_Runs.an [1, 1, 1, 0, 1, 0, 0])) (bits_Runs.q10 R) k ⟨#[.slice a0 n0 c0, undef, undef, .slice a3 n3 c3, .int .i64 x4, .int .i64 x5, undef, undef, undef, undef, undef, undef, undef, undef, undef, undef, undef, undef, undef, undef, undef, undef, undef, undef, undef, undef, undef, undef, undef, undef, undef, undef, undef, undef, undef, undef, undef], []⟩ w
def bits_Runs.re10 (R : Value → World → Prop) (a0 : Option Addr) (n0 : Nat) (c0 : Nat) (a3 : Option Addr) (n3 : Nat) (c3 : Nat) (x4 : Int) (x5 : Int) (w : World) : Prop := ∃ k, bits_Runs.rl10 R k a0 n0 c0 a3 n3 c3 x4 x5 w
def bits_Runs.q11 (R : Value → World → Prop) (k10 : Nat) : Exit → Act → World → Prop := Exit.then (fun a w => loopN [0, 3, 4, 5] (codeN Go.Proofs.Tryd.prog (sub (codeOf Go.Proofs.Tryd.f37) [1, 1, 1, 0, 1, 0, 0]) (nsub bits_Runs.an [1, 1, 1, 0, 1, 0, 0])) (bits_Runs.q10 R) k10 (clr [0, 3, 4, 5] a) w) (bits_Runs.q10 R)
def bits_Runs.q17 (R : Value → World → Prop) (k10 : Nat) : Exit → Act → World → Prop := (bits_Runs.q11 R k10)
def bits_Runs.q18 (R : Value → World → Prop) (k10 : Nat) : Exit → Act → World → Prop := Exit.then (startN none (codeN Go.Proofs.Tryd.prog (sub (codeOf Go.Proofs.Tryd.f37) [1, 1, 1, 0, 1, 0, 0, 1, 1]) (nsub bits_Runs.an [1, 1, 1, 0, 1, 0, 0, 1, 1]) (bits_Runs.q17 R k10))) (bits_Runs.q17 R k10)
def bits_Runs.q19 (R : Value → World → Prop) (k10 : Nat) : Exit → Act → World → Prop := Exit.inBlock 1 (bits_Runs.q18 R k10)
def bits_Runs.q25 (R : Value → World → Prop) (k10 : Nat) : Exit → Act → World → Prop := (bits_Runs.q19 R k10)
def bits_Runs.q27 (R : Value → World → Prop) (k10 : Nat) : Exit → Act → World → Prop := (bits_Runs.q25 R k10)
def bits_Runs.q28 (R : Value → World → Prop) (k10 : Nat) : Exit → Act → World → Prop := Exit.then (startN none (codeN Go.Proofs.Tryd.prog (sub (codeOf Go.Proofs.Tryd.f37) [1, 1, 1, 0, 1, 0, 0, 1, 0, 0, 1, 1, 1]) (nsub bits_Runs.an [1, 1, 1, 0, 1, 0, 0, 1, 0, 0, 1, 1, 1]) (bits_Runs.q27 R k10))) (bits_Runs.q27 R k10)
def bits_Runs.q29 (R : Value → World → Prop) (k10 : Nat) : Exit → Act → World → Prop := Exit.inBlock 2 (bits_Runs.q28 R k10)
def bits_Runs.rl29 (R : Value → World → Prop) (k10 : Nat) (k : Nat) (a0 : Option Addr) (n0 : Nat) (c0 : Nat) (a3 : Option Addr) (n3 : Nat) (c3 : Nat) (x4 : Int) (x5 : Int) (x6 : Int) (w : World) : Prop := loopN [0, 3, 4, 5, 6] (codeN Go.Proofs.Tryd.prog (sub (codeOf Go.Proofs.Tryd.f37) [1, 1, 1, 0, 1, 0, 0, 1, 0, 0, 1, 1, 0, 0, 0]) (nsub bits_Runs.an [1, 1, 1, 0, 1, 0, 0, 1, 0, 0, 1, 1, 0, 0, 0])) (bits_Runs.q29 R k10) k ⟨#[.slice a0 n0 c0, undef, undef, .slice a3 n3 c3, .int .i64 x4, .int .i64 x5, .int .i64 x6, undef, undef, undef, undef, undef, undef, undef, undef, undef, undef, undef, undef, undef, undef, undef, undef, undef, undef, undef, undef, undef, undef, undef, undef, undef, undef, undef, undef, undef, undef], []⟩ w
def bits_Runs.re29 (R : Value → World → Prop) (k10 : Nat) (a0 : Option Addr) (n0 : Nat) (c0 : Nat) (a3 : Option Addr) (n3 : Nat) (c3 : Nat) (x4 : Int) (x5 : Int) (x6 : Int) (w : World) : Prop := ∃ k, bits_Runs.rl29 R k10 k a0 n0 c0 a3 n3 c3 x4 x5 x6 w
def bits_Runs.l29 (R : Value → World → Prop) (b10 : (Option Addr) → Nat → Nat → (Option Addr) → Nat → Nat → Int → Int → World → Prop) : Nat → (Option Addr) → Nat → Nat → (Option Addr) → Nat → Nat → Int → Int → Int → World → Prop
  | 0, _, _, _, _, _, _, _, _, _, _ => False
  | k + 1, a0, n0, c0, a3, n3, c3, x4, x5, x6, w => bits_Runs.g29 R b10 (bits_Runs.l29 R b10 k) a0 n0 c0 a3 n3 c3 x4 x5 x6 w
def bits_Runs.e29 (R : Value → World → Prop) (b10 : (Option Addr) → Nat → Nat → (Option Addr) → Nat → Nat → Int → Int → World → Prop) (a0 : Option Addr) (n0 : Nat) (c0 : Nat) (a3 : Option Addr) (n3 : Nat) (c3 : Nat) (x4 : Int) (x5 : Int) (x6 : Int) (w : World) : Prop := ∃ k, bits_Runs.l29 R b10 k a0 n0 c0 a3 n3 c3 x4 x5 x6 w
theorem bits_Runs.s29 (R : Value → World → Prop) (k10 : Nat) (k : Nat) (a0 : Option Addr) (n0 : Nat) (c0 : Nat) (a3 : Option Addr) (n3 : Nat) (c3 : Nat) (x4 : Int) (x5 : Int) (x6 : Int) (w : World) : bits_Runs.rl29 R k10 (k + 1) a0 n0 c0 a3 n3 c3 x4 x5 x6 w = ∀ _ : Nat → Value, bits_Runs.g29 R (bits_Runs.rl10 R k10) (bits_Runs.rl29 R k10 k) a0 n0 c0 a3 n3 c3 x4 x5 x6 w := by kernel_rfl
theorem bits_Runs.lq29 (R : Value → World → Prop) (k10 : Nat) (b10 : (Option Addr) → Nat → Nat → (Option Addr) → Nat → Nat → Int → Int → World → Prop) (hb10 : b10 = bits_Runs.rl10 R k10) : ∀ k, bits_Runs.l29 R b10 k = bits_Runs.rl29 R k10 k
  | 0 => by funext a0 n0 c0 a3 n3 c3 x4 x5 x6 w; rfl
  | k + 1 => by
    funext a0 n0 c0 a3 n3 c3 x4 x5 x6 w
    rw [bits_Runs.s29, forall_const]
    unfold bits_Runs.l29
    have ih := bits_Runs.lq29 R k10 b10 hb10 k
    subst hb10
    rw [ih]
    all_goals rfl
theorem bits_Runs.eq29 (R : Value → World → Prop) (k10 : Nat) (b10 : (Option Addr) → Nat → Nat → (Option Addr) → Nat → Nat → Int → Int → World → Prop) (hb10 : b10 = bits_Runs.rl10 R k10) : bits_Runs.e29 R b10 = bits_Runs.re29 R k10 := by
  funext a0 n0 c0 a3 n3 c3 x4 x5 x6 w
  unfold bits_Runs.e29 bits_Runs.re29
  simp only [bits_Runs.lq29 R k10 b10 hb10]
def bits_Runs.l10 (R : Value → World → Prop) : Nat → (Option Addr) → Nat → Nat → (Option Addr) → Nat → Nat → Int → Int → World → Prop
  | 0, _, _, _, _, _, _, _, _, _ => False
  | k + 1, a0, n0, c0, a3, n3, c3, x4, x5, w => bits_Runs.g10 R (bits_Runs.l10 R k) (bits_Runs.e29 R (bits_Runs.l10 R k)) a0 n0 c0 a3 n3 c3 x4 x5 w
def bits_Runs.e10 (R : Value → World → Prop) (a0 : Option Addr) (n0 : Nat) (c0 : Nat) (a3 : Option Addr) (n3 : Nat) (c3 : Nat) (x4 : Int) (x5 : Int) (w : World) : Prop := ∃ k, bits_Runs.l10 R k a0 n0 c0 a3 n3 c3 x4 x5 w
theorem bits_Runs.s10 (R : Value → World → Prop) (k : Nat) (a0 : Option Addr) (n0 : Nat) (c0 : Nat) (a3 : Option Addr) (n3 : Nat) (c3 : Nat) (x4 : Int) (x5 : Int) (w : World) : bits_Runs.rl10 R (k + 1) a0 n0 c0 a3 n3 c3 x4 x5 w = ∀ _ : Nat → Value, bits_Runs.g10 R (bits_Runs.rl10 R k) (bits_Runs.re29 R k) a0 n0 c0 a3 n3 c3 x4 x5 w := by kernel_rfl
theorem bits_Runs.lq10 (R : Value → World → Prop) : ∀ k, bits_Runs.l10 R k = bits_Runs.rl10 R k
  | 0 => by funext a0 n0 c0 a3 n3 c3 x4 x5 w; rfl
  | k + 1 => by
    funext a0 n0 c0 a3 n3 c3 x4 x5 w
    rw [bits_Runs.s10, forall_const]
    unfold bits_Runs.l10
    have ih := bits_Runs.lq10 R k
    rw [bits_Runs.eq29 R k _ ih]
    rw [ih]
    all_goals rfl
theorem bits_Runs.eq10 (R : Value → World → Prop) : bits_Runs.e10 R = bits_Runs.re10 R := by
  funext a0 n0 c0 a3 n3 c3 x4 x5 w
  unfold bits_Runs.e10 bits_Runs.re10
  simp only [bits_Runs.lq10 R]
def bits_Runs (R : Value → World → Prop) (a0 : Option Addr) (n0 : Nat) (c0 : Nat) (w : World) : Prop := bits_Runs.g0 R (bits_Runs.e10 R) a0 n0 c0 w
theorem bits_Runs.root0 (R : Value → World → Prop) (a0 : Option Addr) (n0 : Nat) (c0 : Nat) (w : World) : fnN Go.Proofs.Tryd.prog Go.Proofs.Tryd.f37 bits_Runs.an #[.slice a0 n0 c0] w R = bits_Runs.g0 R (bits_Runs.re10 R) a0 n0 c0 w := by kernel_rfl
theorem bits_Runs.calls {R : Value → World → Prop} {a0 : Option Addr} {n0 : Nat} {c0 : Nat} {w : World} (h : bits_Runs R a0 n0 c0 w) : Go.E.CallsD Go.Proofs.Tryd.prog 37 #[.slice a0 n0 c0] w R := by
  refine callsD_of (n := bits_Runs.an) M_follows M_sizes Go.Proofs.Tryd.func37 (by rfl) ?_
  rw [bits_Runs.root0]
  unfold bits_Runs at h
  rw [bits_Runs.eq10 R] at h
  exact h
-- thicket/thicketref05.Runs
def thicketref05_Runs.an : An := (.mk none .nil (.mk none .nil (.mk none (.mk none .nil (.mk none (.mk (some [3, 7, 8, 9]) (.mk none .nil (.mk none .nil (.mk none (.mk none (.mk none .nil (.mk (some [3, 5, 7, 8, 9, 26]) .nil .nil)) .nil) .nil))) .nil) .nil)) .nil)))
def thicketref05_Runs.g0 (R : Value → World → Prop) (e8 : (Option Addr) → Nat → Nat → (Option Addr) → Nat → Nat → Int → Int → World → Prop) (a0 : Option Addr) (n0 : Nat) (c0 : Nat) (w : World) : Prop :=
  Go.E.CallsD Go.Proofs.Tryd.prog 47 #[.slice a0 n0 c0] w fun yv19 u20 =>
    ∃ ya_21 : Option Addr, ∃ yn_21 : Nat, ∃ yc_21 : Nat, yv19 = .slice ya_21 yn_21 yc_21 ∧
      (e8 none 0 0 ya_21 yn_21 yc_21 (yn_21 : Int) 0 u20)
def thicketref05_Runs.g8 (R : Value → World → Prop) (j21 : (Option Addr) → Nat → Nat → Int → (Option Addr) → Nat → Nat → Int → Int → Bool → World → Prop) (a3 : Option Addr) (n3 : Nat) (c3 : Nat) (a7 : Option Addr) (n7 : Nat) (c7 : Nat) (x8 : Int) (x9 : Int) (w : World) : Prop :=
  onBool (decide (x9 < x8))
    (optN a7 fun q22 =>
    chk ((0 : Int) ≤ x9 ∧ x9 < (n7 : Int))
      (∃ yx_23 : Int, w.cell? (q22.add (x9.toNat * 1)) = some (.int .i64 yx_23) ∧
        (onBool (decide ((n3 : Int) > 0))
          (nv (IntKind.i64.wrap ((n3 : Int) - 1)) fun t24 =>
          optN a3 fun q25 =>
          chk ((0 : Int) ≤ t24 ∧ t24 < (n3 : Int))
            (∃ yx_26 : Int, w.cell? ((q25.add (t24.toNat * 2)).add 1) = some (.int .i64 yx_26) ∧
              (j21 a3 n3 c3 yx_23 a7 n7 c7 x8 x9 (yx_26 == yx_23) w)))
          (j21 a3 n3 c3 yx_23 a7 n7 c7 x8 x9 false w))))
    (R (.slice a3 n3 c3) w)
def thicketref05_Runs.g21 (R : Value → World → Prop) (b8 : (Option Addr) → Nat → Nat → (Option Addr) → Nat → Nat → Int → Int → World → Prop) (a3 : Option Addr) (n3 : Nat) (c3 : Nat) (x5 : Int) (a7 : Option Addr) (n7 : Nat) (c7 : Nat) (x8 : Int) (x9 : Int) (b26 : Bool) (w : World) : Prop :=
  onBool b26
    (nv (IntKind.i64.wrap ((n3 : Int) - 1)) fun t27 =>
    nv (IntKind.i64.wrap (x5 + 1)) fun t28 =>
    optN a3 fun q29 =>
    chk ((0 : Int) ≤ t27 ∧ t27 < (n3 : Int))
      (okSt w (((q29.add (t27.toNat * 2)).add 1).add 0) ∧
        (nw (w.setCell (((q29.add (t27.toNat * 2)).add 1).add 0) (.int .i64 t28)) fun w30 =>
        nv (IntKind.i64.wrap (x9 + 1)) fun t31 =>
        b8 a3 n3 c3 a7 n7 c7 x8 t31 w30)))
    (nv (IntKind.i64.wrap (x5 + 1)) fun t32 =>
    nw (w.alloc (.cells #[.int .i64 x5, .int .i64 t32] 58)) fun w33 =>
    rawN Go.Proofs.Tryd.prog (Builtin.append_ #[44, 44] 44 #[.slice a3 n3 c3, .slice (some (na w)) 1 1]) w33 fun yv34 u35 =>
      ∃ ya_36 : Option Addr, ∃ yn_36 : Nat, ∃ yc_36 : Nat, yv34 = .slice ya_36 yn_36 yc_36 ∧
        (nv (IntKind.i64.wrap (x9 + 1)) fun t37 =>
        b8 ya_36 yn_36 yc_36 a7 n7 c7 x8 t37 u35))
def thicketref05_Runs.q2 (R : Value → World → Prop) : Exit → Act → World → Prop := (fin Go.Proofs.Tryd.prog Go.Proofs.Tryd.f38 R)
def thicketref05_Runs.q4 (R : Value → World → Prop) : Exit → Act → World → Prop := (thicketref05_Runs.q2 R)
def thicketref05_Runs.q5 (R : Value → World → Prop) : Exit → Act → World → Prop := Exit.then (startN none (codeN Go.Proofs.Tryd.prog (sub (codeOf Go.Proofs.Tryd.f38) [1, 1, 1]) (nsub thicketref05_Runs.an [1, 1, 1]) (thicketref05_Runs.q4 R))) (thicketref05_Runs.q4 R)
def thicketref05_Runs.q7 (R : Value → World → Prop) : Exit → Act → World → Prop := (thicketref05_Runs.q5 R)
def thicketref05_Runs.q8 (R : Value → World → Prop) : Exit → Act → World → Prop := Exit.inBlock 0 (thicketref05_Runs.q7 R)
def thicketref05_Runs.rl8 (R : Value → World → Prop) (k : Nat) (a3 : Option Addr) (n3 : Nat) (c3 : Nat) (a7 : Option Addr) (n7 : Nat) (c7 : Nat) (x8 : Int) (x9 : Int) (w : World) : Prop := loopN [3, 7, 8, 9] (codeN Go.Proofs.Tryd.prog (sub (codeOf Go.Proofs.Tryd.f38) [1, 1, 0, 1, 0, 0]) (nsub thicketref05_Runs.an [1, 1, 0, 1, 0, 0])) (thicketref05_Runs.q8 R) k ⟨#[undef, undef, undef, .slice a3 n3 c3, undef, undef, undef, .slice a7 n7 c7, .int .i64 x8, .int .i64 x9, undef, undef, undef, undef, undef, undef, undef, undef, undef, undef, undef, undef, undef, undef, undef, undef, undef, undef, undef, undef, undef, undef, undef, undef, undef, undef, undef, undef, undef, undef, undef, undef, undef, undef], []⟩ w
def thicketref05_Runs.re8 (R : Value → World → Prop) (a3 : Option Addr) (n3 : Nat) (c3 : Nat) (a7 : Option Addr) (n7 : Nat) (c7 : Nat) (x8 : Int) (x9 : Int) (w : World) : Prop := ∃ k, thicketref05_Runs.rl8 R k a3 n3 c3 a7 n7 c7 x8 x9 w
def thicketref05_Runs.q9 (R : Value → World → Prop) (k8 : Nat) : Exit → Act → World → Prop := Exit.then (fun a w => loopN [3, 7, 8, 9] (codeN Go.Proofs.Tryd.prog (sub (codeOf Go.Proofs.Tryd.f38) [1, 1, 0, 1, 0, 0]) (nsub thicketref05_Runs.an [1, 1, 0, 1, 0, 0])) (thicketref05_Runs.q8 R) k8 (clr [3, 7, 8, 9] a) w) (thicketref05_Runs.q8 R)
def thicketref05_Runs.q11 (R : Value → World → Prop) (k8 : Nat) : Exit → Act → World → Prop := (thicketref05_Runs.q9 R k8)
def thicketref05_Runs.q15 (R : Value → World → Prop) (k8 : Nat) : Exit → Act → World → Prop := (thicketref05_Runs.q11 R k8)
def thicketref05_Runs.q16 (R : Value → World → Prop) (k8 : Nat) : Exit → Act → World → Prop := Exit.then (startN none (codeN Go.Proofs.Tryd.prog (sub (codeOf Go.Proofs.Tryd.f38) [1, 1, 0, 1, 0, 0, 1, 1, 1]) (nsub thicketref05_Runs.an [1, 1, 0, 1, 0, 0, 1, 1, 1]) (thicketref05_Runs.q15 R k8))) (thicketref05_Runs.q15 R k8)
def thicketref05_Runs.q17 (R : Value → World → Prop) (k8 : Nat) : Exit → Act → World → Prop := Exit.inBlock 1 (thicketref05_Runs.q16 R k8)
def thicketref05_Runs.q19 (R : Value → World → Prop) (k8 : Nat) : Exit → Act → World → Prop := (thicketref05_Runs.q17 R k8)
def thicketref05_Runs.q21 (R : Value → World → Prop) (k8 : Nat) : Exit → Act → World → Prop := (thicketref05_Runs.q19 R k8)
def thicketref05_Runs.rj21 (R : Value → World → Prop) (k8 : Nat) (a3 : Option Addr) (n3 : Nat) (c3 : Nat) (x5 : Int) (a7 : Option Addr) (n7 : Nat) (c7 : Nat) (x8 : Int) (x9 : Int) (b26 : Bool) (w : World) : Prop := startN (some [3, 5, 7, 8, 9, 26]) (codeN Go.Proofs.Tryd.prog (sub (codeOf Go.Proofs.Tryd.f38) [1, 1, 0, 1, 0, 0, 1, 1, 0, 0, 1, 1]) (nsub thicketref05_Runs.an [1, 1, 0, 1, 0, 0, 1, 1, 0, 0, 1, 1]) (thicketref05_Runs.q21 R k8)) ⟨#[undef, undef, undef, .slice a3 n3 c3, undef, .int .i64 x5, undef, .slice a7 n7 c7, .int .i64 x8, .int .i64 x9, undef, undef, undef, undef, undef, undef, undef, undef, undef, undef, undef, undef, undef, undef, undef, undef, .bool b26, undef, undef, undef, undef, undef, undef, undef, undef, undef, undef, undef, undef, undef, undef, undef, undef, undef], []⟩ w
def thicketref05_Runs.j21 (R : Value → World → Prop) (b8 : (Option Addr) → Nat → Nat → (Option Addr) → Nat → Nat → Int → Int → World → Prop) (a3 : Option Addr) (n3 : Nat) (c3 : Nat) (x5 : Int) (a7 : Option Addr) (n7 : Nat) (c7 : Nat) (x8 : Int) (x9 : Int) (b26 : Bool) (w : World) : Prop := thicketref05_Runs.g21 R b8 a3 n3 c3 x5 a7 n7 c7 x8 x9 b26 w
theorem thicketref05_Runs.s21 (R : Value → World → Prop) (k8 : Nat) (a3 : Option Addr) (n3 : Nat) (c3 : Nat) (x5 : Int) (a7 : Option Addr) (n7 : Nat) (c7 : Nat) (x8 : Int) (x9 : Int) (b26 : Bool) (w : World) : thicketref05_Runs.rj21 R k8 a3 n3 c3 x5 a7 n7 c7 x8 x9 b26 w = ∀ _ : Nat → Value, thicketref05_Runs.g21 R (thicketref05_Runs.rl8 R k8) a3 n3 c3 x5 a7 n7 c7 x8 x9 b26 w := by kernel_rfl
theorem thicketref05_Runs.jq21 (R : Value → World → Prop) (k8 : Nat) (b8 : (Option Addr) → Nat → Nat → (Option Addr) → Nat → Nat → Int → Int → World → Prop) (hb8 : b8 = thicketref05_Runs.rl8 R k8) : thicketref05_Runs.j21 R b8 = thicketref05_Runs.rj21 R k8 := by
    funext a3 n3 c3 x5 a7 n7 c7 x8 x9 b26 w
    rw [thicketref05_Runs.s21, forall_const]
    unfold thicketref05_Runs.j21
    subst hb8
    all_goals rfl
def thicketref05_Runs.l8 (R : Value → World → Prop) : Nat → (Option Addr) → Nat → Nat → (Option Addr) → Nat → Nat → Int → Int → World → Prop
  | 0, _, _, _, _, _, _, _, _, _ => False
  | k + 1, a3, n3, c3, a7, n7, c7, x8, x9, w => thicketref05_Runs.g8 R (thicketref05_Runs.j21 R (thicketref05_Runs.l8 R k)) a3 n3 c3 a7 n7 c7 x8 x9 w
def thicketref05_Runs.e8 (R : Value → World → Prop) (a3 : Option Addr) (n3 : Nat) (c3 : Nat) (a7 : Option Addr) (n7 : Nat) (c7 : Nat) (x8 : Int) (x9 : Int) (w : World) : Prop := ∃ k, thicketref05_Runs.l8 R k a3 n3 c3 a7 n7 c7 x8 x9 w
theorem thicketref05_Runs.s8 (R : Value → World → Prop) (k : Nat) (a3 : Option Addr) (n3 : Nat) (c3 : Nat) (a7 : Option Addr) (n7 : Nat) (c7 : Nat) (x8 : Int) (x9 : Int) (w : World) : thicketref05_Runs.rl8 R (k + 1) a3 n3 c3 a7 n7 c7 x8 x9 w = ∀ _ : Nat → Value, thicketref05_Runs.g8 R (thicketref05_Runs.rj21 R k) a3 n3 c3 a7 n7 c7 x8 x9 w := by kernel_rfl
theorem thicketref05_Runs.lq8 (R : Value → World → Prop) : ∀ k, thicketref05_Runs.l8 R k = thicketref05_Runs.rl8 R k
  | 0 => by funext a3 n3 c3 a7 n7 c7 x8 x9 w; rfl
  | k + 1 => by
    funext a3 n3 c3 a7 n7 c7 x8 x9 w
    rw [thicketref05_Runs.s8, forall_const]
    unfold thicketref05_Runs.l8
    have ih := thicketref05_Runs.lq8 R k
    rw [thicketref05_Runs.jq21 R k _ ih]
    all_goals rfl
theorem thicketref05_Runs.eq8 (R : Value → World → Prop) : thicketref05_Runs.e8 R = thicketref05_Runs.re8 R := by
  funext a3 n3 c3 a7 n7 c7 x8 x9 w
  unfold thicketref05_Runs.e8 thicketref05_Runs.re8
  simp only [thicketref05_Runs.lq8 R]
def thicketref05_Runs (R : Value → World → Prop) (a0 : Option Addr) (n0 : Nat) (c0 : Nat) (w : World) : Prop := thicketref05_Runs.g0 R (thicketref05_Runs.e8 R) a0 n0 c0 w
theorem thicketref05_Runs.root0 (R : Value → World → Prop) (a0 : Option Addr) (n0 : Nat) (c0 : Nat) (w : World) : fnN Go.Proofs.Tryd.prog Go.Proofs.Tryd.f38 thicketref05_Runs.an #[.slice a0 n0 c0] w R = thicketref05_Runs.g0 R (thicketref05_Runs.re8 R) a0 n0 c0 w := by kernel_rfl
theorem thicketref05_Runs.calls {R : Value → World → Prop} {a0 : Option Addr} {n0 : Nat} {c0 : Nat} {w : World} (h : thicketref05_Runs R a0 n0 c0 w) : Go.E.CallsD Go.Proofs.Tryd.prog 38 #[.slice a0 n0 c0] w R := by
  refine callsD_of (n := thicketref05_Runs.an) M_follows M_sizes Go.Proofs.Tryd.func38 (by rfl) ?_
  rw [thicketref05_Runs.root0]
  unfold thicketref05_Runs at h
  rw [thicketref05_Runs.eq8 R] at h
  exact h
-- thicket/thicketlaw05.BitsRuns
def thicketlaw05_BitsRuns.an : An := An.nil
def thicketlaw05_BitsRuns.g0 (R : Value → World → Prop) (a0 : Option Addr) (n0 : Nat) (c0 : Nat) (x1 : Int) (a2 : Option Addr) (n2 : Nat) (c2 : Nat) (w : World) : Prop :=
  Go.E.CallsD Go.Proofs.Tryd.prog 34 #[.int .i64 x1, .slice a2 n2 c2] w fun yv22 u23 =>
    ∃ ya_24_0 : Option Addr, ∃ yn_24_0 : Nat, ∃ yc_24_0 : Nat, ∃ yx_24_1 : Int, yv22 = .tuple #[.slice ya_24_0 yn_24_0 yc_24_0, .int .i64 yx_24_1] ∧
      (Go.E.CallsD Go.Proofs.Tryd.prog 35 #[.int .i64 x1, .slice a2 n2 c2] u23 fun yv25 u26 =>
        ∃ ya_27_0 : Option Addr, ∃ yn_27_0 : Nat, ∃ yc_27_0 : Nat, ∃ yx_27_1 : Int, yv25 = .tuple #[.slice ya_27_0 yn_27_0 yc_27_0, .int .i64 yx_27_1] ∧
          (Go.E.CallsD Go.Proofs.Tryd.prog 20 #[] u26 fun yv28 u29 =>
            ∃ yb_30 : Bool, yv28 = .bool yb_30 ∧
              (onBool yb_30
                (Go.E.CallsD Go.Proofs.Tryd.prog 37 #[.slice a0 n0 c0] u29 fun yv31 u32 =>
                  ∃ ya_33 : Option Addr, ∃ yn_33 : Nat, ∃ yc_33 : Nat, yv31 = .slice ya_33 yn_33 yc_33 ∧
                    (Go.E.CallsD Go.Proofs.Tryd.prog 38 #[.slice a0 n0 c0] u32 fun yv34 u35 =>
                      ∃ ya_36 : Option Addr, ∃ yn_36 : Nat, ∃ yc_36 : Nat, yv34 = .slice ya_36 yn_36 yc_36 ∧
                        (Go.E.CallsD Go.Proofs.Tryd.prog 36 #[.slice ya_33 yn_33 yc_33, .slice ya_36 yn_36 yc_36] u35 fun yv37 u38 =>
                          ∃ yb_39 : Bool, yv37 = .bool yb_39 ∧
                            (onBool yb_39
                              (Go.E.CallsD Go.Proofs.Tryd.prog 21 #[.slice ya_24_0 yn_24_0 yc_24_0, .slice ya_27_0 yn_27_0 yc_27_0] u38 fun yv40 u41 =>
                                ∃ yb_42 : Bool, yv40 = .bool yb_42 ∧
                                  (onBool yb_42
                                    (R (.bool (yx_24_1 == yx_27_1)) u41)
                                    (R (.bool false) u41)))
                              (R (.bool false) u38)))))
                (R (.bool false) u29))))
def thicketlaw05_BitsRuns (R : Value → World → Prop) (a0 : Option Addr) (n0 : Nat) (c0 : Nat) (x1 : Int) (a2 : Option Addr) (n2 : Nat) (c2 : Nat) (w : World) : Prop := thicketlaw05_BitsRuns.g0 R a0 n0 c0 x1 a2 n2 c2 w
theorem thicketlaw05_BitsRuns.root0 (R : Value → World → Prop) (a0 : Option Addr) (n0 : Nat) (c0 : Nat) (x1 : Int) (a2 : Option Addr) (n2 : Nat) (c2 : Nat) (w : World) : fnN Go.Proofs.Tryd.prog Go.Proofs.Tryd.f7 thicketlaw05_BitsRuns.an #[.slice a0 n0 c0, .int .i64 x1, .slice a2 n2 c2] w R = thicketlaw05_BitsRuns.g0 R a0 n0 c0 x1 a2 n2 c2 w := by kernel_rfl
theorem thicketlaw05_BitsRuns.calls {R : Value → World → Prop} {a0 : Option Addr} {n0 : Nat} {c0 : Nat} {x1 : Int} {a2 : Option Addr} {n2 : Nat} {c2 : Nat} {w : World} (h : thicketlaw05_BitsRuns R a0 n0 c0 x1 a2 n2 c2 w) : Go.E.CallsD Go.Proofs.Tryd.prog 7 #[.slice a0 n0 c0, .int .i64 x1, .slice a2 n2 c2] w R := by
  refine callsD_of (n := thicketlaw05_BitsRuns.an) M_follows M_sizes Go.Proofs.Tryd.func7 (by rfl) ?_
  rw [thicketlaw05_BitsRuns.root0]
  unfold thicketlaw05_BitsRuns at h
  exact h
end Go.Mir

set_option linter.unusedVariables false
namespace Go.Mir
open Go Go.E Go.RowKit
-- thicket/bits.With
def bits_With.an : An := An.nil
def bits_With.g0 (R : Value → World → Prop) (a0 : Option Addr) (n0 : Nat) (c0 : Nat) (x1 : Int) (w : World) : Prop :=
  Go.E.CallsD Go.Proofs.Tryd.prog 54 #[.slice a0 n0 c0, .int .i64 x1] w fun yv15 u16 =>
    ∃ yb_17 : Bool, yv15 = .bool yb_17 ∧
      (onBool (!yb_17)
        (R (.tuple #[.slice none 0 0, .int .i64 2]) u16)
        (rawN Go.Proofs.Tryd.prog (Builtin.append_ #[25, 25] 25 #[.slice none 0 0, .slice a0 n0 c0]) u16 fun yv18 u19 =>
          ∃ ya_20 : Option Addr, ∃ yn_20 : Nat, ∃ yc_20 : Nat, yv18 = .slice ya_20 yn_20 yc_20 ∧
            (nv (IntKind.i64.wrap (Int.tdiv x1 64)) fun t21 =>
            optN ya_20 fun q22 =>
            chk ((0 : Int) ≤ t21 ∧ t21 < (yn_20 : Int))
              (∃ yx_23 : Int, u19.cell? (q22.add (t21.toNat * 1)) = some (.int .u64 yx_23) ∧
                (nv (Int.tmod x1 64) fun t24 =>
                nchk (t24 < 0)
                  (nv (IntKind.u64.wrap (1 * 2 ^ (min t24.toNat 64))) fun t25 =>
                  nv (bitsI .or .u64 yx_23 t25) fun t26 =>
                  optN ya_20 fun q27 =>
                  chk ((0 : Int) ≤ t21 ∧ t21 < (yn_20 : Int))
                    (okSt u19 ((q27.add (t21.toNat * 1)).add 0) ∧
                      (nw (u19.setCell ((q27.add (t21.toNat * 1)).add 0) (.int .u64 t26)) fun w28 =>
                      R (.tuple #[.slice ya_20 yn_20 yc_20, .int .i64 0]) w28))))))))
def bits_With (R : Value → World → Prop) (a0 : Option Addr) (n0 : Nat) (c0 : Nat) (x1 : Int) (w : World) : Prop := bits_With.g0 R a0 n0 c0 x1 w
theorem bits_With.root0 (R : Value → World → Prop) (a0 : Option Addr) (n0 : Nat) (c0 : Nat) (x1 : Int) (w : World) : fnN Go.Proofs.Tryd.prog Go.Proofs.Tryd.f39 bits_With.an #[.slice a0 n0 c0, .int .i64 x1] w R = bits_With.g0 R a0 n0 c0 x1 w := by kernel_rfl
theorem bits_With.calls {R : Value → World → Prop} {a0 : Option Addr} {n0 : Nat} {c0 : Nat} {x1 : Int} {w : World} (h : bits_With R a0 n0 c0 x1 w) : Go.E.CallsD Go.Proofs.Tryd.prog 39 #[.slice a0 n0 c0, .int .i64 x1] w R := by
  refine callsD_of (n := bits_With.an) M_follows M_sizes Go.Proofs.Tryd.func39 (by rfl) ?_
  rw [bits_With.root0]
  unfold bits_With at h
  exact h
-- thicket/thicketref05.Put
def thicketref05_Put.an : An := An.nil
def thicketref05_Put.g0 (R : Value → World → Prop) (a0 : Option Addr) (n0 : Nat) (c0 : Nat) (x1 : Int) (b2 : Bool) (w : World) : Prop :=
  onBool (decide (x1 < 0))
    (R (.tuple #[.slice none 0 0, .int .i64 2]) w)
    (nv (IntKind.i64.wrap (Int.tdiv x1 64)) fun t2 =>
    onBool (decide (t2 ≥ (n0 : Int)))
      (R (.tuple #[.slice none 0 0, .int .i64 2]) w)
      (rawN Go.Proofs.Tryd.prog (Builtin.append_ #[25, 25] 25 #[.slice none 0 0, .slice a0 n0 c0]) w fun yv3 u4 =>
        ∃ ya_5 : Option Addr, ∃ yn_5 : Nat, ∃ yc_5 : Nat, yv3 = .slice ya_5 yn_5 yc_5 ∧
          (nv (IntKind.i64.wrap (Int.tdiv x1 64)) fun t6 =>
          nv (IntKind.i64.wrap (Int.tdiv x1 64)) fun t7 =>
          optN ya_5 fun q8 =>
          chk ((0 : Int) ≤ t7 ∧ t7 < (yn_5 : Int))
            (∃ yx_9 : Int, u4.cell? (q8.add (t7.toNat * 1)) = some (.int .u64 yx_9) ∧
              (nv (Int.tmod x1 64) fun t10 =>
              nv (IntKind.u64.wrap t10) fun t11 =>
              nchk (t11 < 0)
                (nv (IntKind.u64.wrap (1 * 2 ^ (min t11.toNat 64))) fun t12 =>
                nv (bitsI .andNot .u64 yx_9 t12) fun t13 =>
                optN ya_5 fun q14 =>
                chk ((0 : Int) ≤ t6 ∧ t6 < (yn_5 : Int))
                  (okSt u4 ((q14.add (t6.toNat * 1)).add 0) ∧
                    (nw (u4.setCell ((q14.add (t6.toNat * 1)).add 0) (.int .u64 t13)) fun w15 =>
                    onBool b2
                      (nv (IntKind.i64.wrap (Int.tdiv x1 64)) fun t16 =>
                      nv (IntKind.i64.wrap (Int.tdiv x1 64)) fun t17 =>
                      optN ya_5 fun q18 =>
                      chk ((0 : Int) ≤ t17 ∧ t17 < (yn_5 : Int))
                        (∃ yx_19 : Int, w15.cell? (q18.add (t17.toNat * 1)) = some (.int .u64 yx_19) ∧
                          (nv (Int.tmod x1 64) fun t20 =>
                          nv (IntKind.u64.wrap t20) fun t21 =>
                          nchk (t21 < 0)
                            (nv (IntKind.u64.wrap (1 * 2 ^ (min t21.toNat 64))) fun t22 =>
                            nv (bitsI .or .u64 yx_19 t22) fun t23 =>
                            optN ya_5 fun q24 =>
                            chk ((0 : Int) ≤ t16 ∧ t16 < (yn_5 : Int))
                              (okSt w15 ((q24.add (t16.toNat * 1)).add 0) ∧
                                (nw (w15.setCell ((q24.add (t16.toNat * 1)).add 0) (.int .u64 t23)) fun w25 =>
                                R (.tuple #[.slice ya_5 yn_5 yc_5, .int .i64 0]) w25))))))
                      (R (.tuple #[.slice ya_5 yn_5 yc_5, .int .i64 0]) w15)))))))))
def thicketref05_Put (R : Value → World → Prop) (a0 : Option Addr) (n0 : Nat) (c0 : Nat) (x1 : Int) (b2 : Bool) (w : World) : Prop := thicketref05_Put.g0 R a0 n0 c0 x1 b2 w
theorem thicketref05_Put.root0 (R : Value → World → Prop) (a0 : Option Addr) (n0 : Nat) (c0 : Nat) (x1 : Int) (b2 : Bool) (w : World) : fnN Go.Proofs.Tryd.prog Go.Proofs.Tryd.f40 thicketref05_Put.an #[.slice a0 n0 c0, .int .i64 x1, .bool b2] w R = thicketref05_Put.g0 R a0 n0 c0 x1 b2 w := by kernel_rfl
theorem thicketref05_Put.calls {R : Value → World → Prop} {a0 : Option Addr} {n0 : Nat} {c0 : Nat} {x1 : Int} {b2 : Bool} {w : World} (h : thicketref05_Put R a0 n0 c0 x1 b2 w) : Go.E.CallsD Go.Proofs.Tryd.prog 40 #[.slice a0 n0 c0, .int .i64 x1, .bool b2] w R := by
  refine callsD_of (n := thicketref05_Put.an) M_follows M_sizes Go.Proofs.Tryd.func40 (by rfl) ?_
  rw [thicketref05_Put.root0]
  unfold thicketref05_Put at h
  exact h
-- thicket/bits.Less
def bits_Less.an : An := An.nil
def bits_Less.g0 (R : Value → World → Prop) (a0 : Option Addr) (n0 : Nat) (c0 : Nat) (x1 : Int) (w : World) : Prop :=
  Go.E.CallsD Go.Proofs.Tryd.prog 39 #[.slice a0 n0 c0, .int .i64 x1] w fun yv12 u13 =>
    ∃ ya_14_0 : Option Addr, ∃ yn_14_0 : Nat, ∃ yc_14_0 : Nat, ∃ yx_14_1 : Int, yv12 = .tuple #[.slice ya_14_0 yn_14_0 yc_14_0, .int .i64 yx_14_1] ∧
      (onBool (yx_14_1 == 0)
        (nv (IntKind.i64.wrap (Int.tdiv x1 64)) fun t15 =>
        optN ya_14_0 fun q16 =>
        chk ((0 : Int) ≤ t15 ∧ t15 < (yn_14_0 : Int))
          (∃ yx_17 : Int, u13.cell? (q16.add (t15.toNat * 1)) = some (.int .u64 yx_17) ∧
            (nv (Int.tmod x1 64) fun t18 =>
            nchk (t18 < 0)
              (nv (IntKind.u64.wrap (1 * 2 ^ (min t18.toNat 64))) fun t19 =>
              nv (bitsI .andNot .u64 yx_17 t19) fun t20 =>
              optN ya_14_0 fun q21 =>
              chk ((0 : Int) ≤ t15 ∧ t15 < (yn_14_0 : Int))
                (okSt u13 ((q21.add (t15.toNat * 1)).add 0) ∧
                  (nw (u13.setCell ((q21.add (t15.toNat * 1)).add 0) (.int .u64 t20)) fun w22 =>
                  R (.tuple #[.slice ya_14_0 yn_14_0 yc_14_0, .int .i64 yx_14_1]) w22))))))
        (R (.tuple #[.slice ya_14_0 yn_14_0 yc_14_0, .int .i64 yx_14_1]) u13))
def bits_Less (R : Value → World → Prop) (a0 : Option Addr) (n0 : Nat) (c0 : Nat) (x1 : Int) (w : World) : Prop := bits_Less.g0 R a0 n0 c0 x1 w
theorem bits_Less.root0 (R : Value → World → Prop) (a0 : Option Addr) (n0 : Nat) (c0 : Nat) (x1 : Int) (w : World) : fnN Go.Proofs.Tryd.prog Go.Proofs.Tryd.f41 bits_Less.an #[.slice a0 n0 c0, .int .i64 x1] w R = bits_Less.g0 R a0 n0 c0 x1 w := by kernel_rfl
theorem bits_Less.calls {R : Value → World → Prop} {a0 : Option Addr} {n0 : Nat} {c0 : Nat} {x1 : Int} {w : World} (h : bits_Less R a0 n0 c0 x1 w) : Go.E.CallsD Go.Proofs.Tryd.prog 41 #[.slice a0 n0 c0, .int .i64 x1] w R := by
  refine callsD_of (n := bits_Less.an) M_follows M_sizes Go.Proofs.Tryd.func41 (by rfl) ?_
  rw [bits_Less.root0]
  unfold bits_Less at h
  exact h
-- thicket/thicketref05.Has
def thicketref05_Has.an : An := An.nil
def thicketref05_Has.g0 (R : Value → World → Prop) (a0 : Option Addr) (n0 : Nat) (c0 : Nat) (x1 : Int) (w : World) : Prop :=
  onBool (decide (x1 ≥ 0))
    (nv (IntKind.i64.wrap (Int.tdiv x1 64)) fun t9 =>
    onBool (decide (t9 < (n0 : Int)))
      (nv (IntKind.i64.wrap (Int.tdiv x1 64)) fun t10 =>
      optN a0 fun q11 =>
      chk ((0 : Int) ≤ t10 ∧ t10 < (n0 : Int))
        (∃ yx_12 : Int, w.cell? (q11.add (t10.toNat * 1)) = some (.int .u64 yx_12) ∧
          (nv (Int.tmod x1 64) fun t13 =>
          nv (IntKind.u64.wrap t13) fun t14 =>
          nchk (t14 < 0)
            (nv (Int.fdiv yx_12 (2 ^ (min t14.toNat 64))) fun t15 =>
            nv (bitsI .and .u64 t15 1) fun t16 =>
            R (.bool (t16 == 1)) w))))
      (R (.bool false) w))
    (R (.bool false) w)
def thicketref05_Has (R : Value → World → Prop) (a0 : Option Addr) (n0 : Nat) (c0 : Nat) (x1 : Int) (w : World) : Prop := thicketref05_Has.g0 R a0 n0 c0 x1 w
theorem thicketref05_Has.root0 (R : Value → World → Prop) (a0 : Option Addr) (n0 : Nat) (c0 : Nat) (x1 : Int) (w : World) : fnN Go.Proofs.Tryd.prog Go.Proofs.Tryd.f42 thicketref05_Has.an #[.slice a0 n0 c0, .int .i64 x1] w R = thicketref05_Has.g0 R a0 n0 c0 x1 w := by kernel_rfl
theorem thicketref05_Has.calls {R : Value → World → Prop} {a0 : Option Addr} {n0 : Nat} {c0 : Nat} {x1 : Int} {w : World} (h : thicketref05_Has R a0 n0 c0 x1 w) : Go.E.CallsD Go.Proofs.Tryd.prog 42 #[.slice a0 n0 c0, .int .i64 x1] w R := by
  refine callsD_of (n := thicketref05_Has.an) M_follows M_sizes Go.Proofs.Tryd.func42 (by rfl) ?_
  rw [thicketref05_Has.root0]
  unfold thicketref05_Has at h
  exact h
-- thicket/thicketref05.Lowest
def thicketref05_Lowest.an : An := An.nil
def thicketref05_Lowest.g0 (R : Value → World → Prop) (a0 : Option Addr) (n0 : Nat) (c0 : Nat) (w : World) : Prop :=
  Go.E.CallsD Go.Proofs.Tryd.prog 47 #[.slice a0 n0 c0] w fun yv6 u7 =>
    ∃ ya_8 : Option Addr, ∃ yn_8 : Nat, ∃ yc_8 : Nat, yv6 = .slice ya_8 yn_8 yc_8 ∧
      (onBool ((yn_8 : Int) == 0)
        (R (.int .i64 (-1)) u7)
        (optN ya_8 fun q9 =>
        chk ((0 : Int) ≤ 0 ∧ 0 < (yn_8 : Int))
          (∃ yx_10 : Int, u7.cell? (q9.add 0) = some (.int .i64 yx_10) ∧
            (R (.int .i64 yx_10) u7))))
def thicketref05_Lowest (R : Value → World → Prop) (a0 : Option Addr) (n0 : Nat) (c0 : Nat) (w : World) : Prop := thicketref05_Lowest.g0 R a0 n0 c0 w
theorem thicketref05_Lowest.root0 (R : Value → World → Prop) (a0 : Option Addr) (n0 : Nat) (c0 : Nat) (w : World) : fnN Go.Proofs.Tryd.prog Go.Proofs.Tryd.f44 thicketref05_Lowest.an #[.slice a0 n0 c0] w R = thicketref05_Lowest.g0 R a0 n0 c0 w := by kernel_rfl
theorem thicketref05_Lowest.calls {R : Value → World → Prop} {a0 : Option Addr} {n0 : Nat} {c0 : Nat} {w : World} (h : thicketref05_Lowest R a0 n0 c0 w) : Go.E.CallsD Go.Proofs.Tryd.prog 44 #[.slice a0 n0 c0] w R := by
  refine callsD_of (n := thicketref05_Lowest.an) M_follows M_sizes Go.Proofs.Tryd.func44 (by rfl) ?_
  rw [thicketref05_Lowest.root0]
  unfold thicketref05_Lowest at h
  exact h
-- thicket/thicketref05.Highest
def thicketref05_Highest.an : An := An.nil
def thicketref05_Highest.g0 (R : Value → World → Prop) (a0 : Option Addr) (n0 : Nat) (c0 : Nat) (w : World) : Prop :=
  Go.E.CallsD Go.Proofs.Tryd.prog 47 #[.slice a0 n0 c0] w fun yv7 u8 =>
    ∃ ya_9 : Option Addr, ∃ yn_9 : Nat, ∃ yc_9 : Nat, yv7 = .slice ya_9 yn_9 yc_9 ∧
      (onBool ((yn_9 : Int) == 0)
        (R (.int .i64 (-1)) u8)
        (nv (IntKind.i64.wrap ((yn_9 : Int) - 1)) fun t10 =>
        optN ya_9 fun q11 =>
        chk ((0 : Int) ≤ t10 ∧ t10 < (yn_9 : Int))
          (∃ yx_12 : Int, u8.cell? (q11.add (t10.toNat * 1)) = some (.int .i64 yx_12) ∧
            (R (.int .i64 yx_12) u8))))
def thicketref05_Highest (R : Value → World → Prop) (a0 : Option Addr) (n0 : Nat) (c0 : Nat) (w : World) : Prop := thicketref05_Highest.g0 R a0 n0 c0 w
theorem thicketref05_Highest.root0 (R : Value → World → Prop) (a0 : Option Addr) (n0 : Nat) (c0 : Nat) (w : World) : fnN Go.Proofs.Tryd.prog Go.Proofs.Tryd.f46 thicketref05_Highest.an #[.slice a0 n0 c0] w R = thicketref05_Highest.g0 R a0 n0 c0 w := by kernel_rfl
theorem thicketref05_Highest.calls {R : Value → World → Prop} {a0 : Option Addr} {n0 : Nat} {c0 : Nat} {w : World} (h : thicketref05_Highest R a0 n0 c0 w) : Go.E.CallsD Go.Proofs.Tryd.prog 46 #[.slice a0 n0 c0] w R := by
  refine callsD_of (n := thicketref05_Highest.an) M_follows M_sizes Go.Proofs.Tryd.func46 (by rfl) ?_
  rw [thicketref05_Highest.root0]
  unfold thicketref05_Highest at h
  exact h
-- thicket/thicketref05.All
def thicketref05_All.an : An := (.mk none .nil (.mk none .nil (.mk none (.mk none .nil (.mk none (.mk (some [0, 3, 4]) .nil .nil) .nil)) .nil)))
def thicketref05_All.g0 (R : Value → World → Prop) (e8 : (Option Addr) → Nat → Nat → (Option Addr) → Nat → Nat → Int → World → Prop) (a0 : Option Addr) (n0 : Nat) (c0 : Nat) (w : World) : Prop :=
  e8 a0 n0 c0 none 0 0 0 w
def thicketref05_All.g8 (R : Value → World → Prop) (b8 : (Option Addr) → Nat → Nat → (Option Addr) → Nat → Nat → Int → World → Prop) (a0 : Option Addr) (n0 : Nat) (c0 : Nat) (a3 : Option Addr) (n3 : Nat) (c3 : Nat) (x4 : Int) (w : World) : Prop :=
  nv (IntKind.i64.wrap (64 * (n0 : Int))) fun t16 =>
  onBool (decide (x4 < t16))
    (nv (IntKind.i64.wrap (Int.tdiv x4 64)) fun t17 =>
    optN a0 fun q18 =>
    chk ((0 : Int) ≤ t17 ∧ t17 < (n0 : Int))
      (∃ yx_19 : Int, w.cell? (q18.add (t17.toNat * 1)) = some (.int .u64 yx_19) ∧
        (onBool (yx_19 == 0)
          (nv (Int.tmod x4 64) fun t20 =>
          nv (IntKind.i64.wrap (63 - t20)) fun t21 =>
          nv (IntKind.i64.wrap (x4 + t21)) fun t22 =>
          nv (IntKind.i64.wrap (t22 + 1)) fun t23 =>
          b8 a0 n0 c0 a3 n3 c3 t23 w)
          (Go.E.CallsD Go.Proofs.Tryd.prog 42 #[.slice a0 n0 c0, .int .i64 x4] w fun yv24 u25 =>
            ∃ yb_26 : Bool, yv24 = .bool yb_26 ∧
              (onBool yb_26
                (nw (u25.alloc (.cells #[.int .i64 x4] 3)) fun w27 =>
                rawN Go.Proofs.Tryd.prog (Builtin.append_ #[51, 51] 51 #[.slice a3 n3 c3, .slice (some (na u25)) 1 1]) w27 fun yv28 u29 =>
                  ∃ ya_30 : Option Addr, ∃ yn_30 : Nat, ∃ yc_30 : Nat, yv28 = .slice ya_30 yn_30 yc_30 ∧
                    (nv (IntKind.i64.wrap (x4 + 1)) fun t31 =>
                    b8 a0 n0 c0 ya_30 yn_30 yc_30 t31 u29))
                (nv (IntKind.i64.wrap (x4 + 1)) fun t32 =>
                b8 a0 n0 c0 a3 n3 c3 t32 u25))))))
    (R (.slice a3 n3 c3) w)
def thicketref05_All.q2 (R : Value → World → Prop) : Exit → Act → World → Prop := (fin Go.Proofs.Tryd.prog Go.Proofs.Tryd.f47 R)
def thicketref05_All.q4 (R : Value → World → Prop) : Exit → Act → World → Prop := (thicketref05_All.q2 R)
def thicketref05_All.q5 (R : Value → World → Prop) : Exit → Act → World → Prop := Exit.then (startN none (codeN Go.Proofs.Tryd.prog (sub (codeOf Go.Proofs.Tryd.f47) [1, 1, 1]) (nsub thicketref05_All.an [1, 1, 1]) (thicketref05_All.q4 R))) (thicketref05_All.q4 R)
def thicketref05_All.q7 (R : Value → World → Prop) : Exit → Act → World → Prop := (thicketref05_All.q5 R)
def thicketref05_All.q8 (R : Value → World → Prop) : Exit → Act → World → Prop := Exit.inBlock 0 (thicketref05_All.q7 R)
def thicketref05_All.rl8 (R : Value → World → Prop) (k : Nat) (a0 : Option Addr) (n0 : Nat) (c0 : Nat) (a3 : Option Addr) (n3 : Nat) (c3 : Nat) (x4 : Int) (w : World) : Prop := loopN [0, 3, 4] (codeN Go.Proofs.Tryd.prog (sub (codeOf Go.Proofs.Tryd.f47) [1, 1, 0, 1, 0, 0]) (nsub thicketref05_All.an [1, 1, 0, 1, 0, 0])) (thicketref05_All.q8 R) k ⟨#[.slice a0 n0 c0, undef, undef, .slice a3 n3 c3, .int .i64 x4, undef, undef, undef, undef, undef, undef, undef, undef, undef, undef, undef, undef, undef, undef, undef, undef, undef, undef, undef, undef, undef, undef, undef, undef, undef, undef], []⟩ w
def thicketref05_All.re8 (R : Value → World → Prop) (a0 : Option Addr) (n0 : Nat) (c0 : Nat) (a3 : Option Addr) (n3 : Nat) (c3 : Nat) (x4 : Int) (w : World) : Prop := ∃ k, thicketref05_All.rl8 R k a0 n0 c0 a3 n3 c3 x4 w
def thicketref05_All.l8 (R : Value → World → Prop) : Nat → (Option Addr) → Nat → Nat → (Option Addr) → Nat → Nat → Int → World → Prop
  | 0, _, _, _, _, _, _, _, _ => False
  | k + 1, a0, n0, c0, a3, n3, c3, x4, w => thicketref05_All.g8 R (thicketref05_All.l8 R k) a0 n0 c0 a3 n3 c3 x4 w
def thicketref05_All.e8 (R : Value → World → Prop) (a0 : Option Addr) (n0 : Nat) (c0 : Nat) (a3 : Option Addr) (n3 : Nat) (c3 : Nat) (x4 : Int) (w : World) : Prop := ∃ k, thicketref05_All.l8 R k a0 n0 c0 a3 n3 c3 x4 w
theorem thicketref05_All.s8 (R : Value → World → Prop) (k : Nat) (a0 : Option Addr) (n0 : Nat) (c0 : Nat) (a3 : Option Addr) (n3 : Nat) (c3 : Nat) (x4 : Int) (w : World) : thicketref05_All.rl8 R (k + 1) a0 n0 c0 a3 n3 c3 x4 w = ∀ _ : Nat → Value, thicketref05_All.g8 R (thicketref05_All.rl8 R k) a0 n0 c0 a3 n3 c3 x4 w := by kernel_rfl
theorem thicketref05_All.lq8 (R : Value → World → Prop) : ∀ k, thicketref05_All.l8 R k = thicketref05_All.rl8 R k
  | 0 => by funext a0 n0 c0 a3 n3 c3 x4 w; rfl
  | k + 1 => by
    funext a0 n0 c0 a3 n3 c3 x4 w
    rw [thicketref05_All.s8, forall_const]
    unfold thicketref05_All.l8
    have ih := thicketref05_All.lq8 R k
    rw [ih]
    all_goals rfl
theorem thicketref05_All.eq8 (R : Value → World → Prop) : thicketref05_All.e8 R = thicketref05_All.re8 R := by
  funext a0 n0 c0 a3 n3 c3 x4 w
  unfold thicketref05_All.e8 thicketref05_All.re8
  simp only [thicketref05_All.lq8 R]
def thicketref05_All (R : Value → World → Prop) (a0 : Option Addr) (n0 : Nat) (c0 : Nat) (w : World) : Prop := thicketref05_All.g0 R (thicketref05_All.e8 R) a0 n0 c0 w
theorem thicketref05_All.root0 (R : Value → World → Prop) (a0 : Option Addr) (n0 : Nat) (c0 : Nat) (w : World) : fnN Go.Proofs.Tryd.prog Go.Proofs.Tryd.f47 thicketref05_All.an #[.slice a0 n0 c0] w R = thicketref05_All.g0 R (thicketref05_All.re8 R) a0 n0 c0 w := by kernel_rfl
theorem thicketref05_All.calls {R : Value → World → Prop} {a0 : Option Addr} {n0 : Nat} {c0 : Nat} {w : World} (h : thicketref05_All R a0 n0 c0 w) : Go.E.CallsD Go.Proofs.Tryd.prog 47 #[.slice a0 n0 c0] w R := by
  refine callsD_of (n := thicketref05_All.an) M_follows M_sizes Go.Proofs.Tryd.func47 (by rfl) ?_
  rw [thicketref05_All.root0]
  unfold thicketref05_All at h
  rw [thicketref05_All.eq8 R] at h
  exact h
end Go.Mir
