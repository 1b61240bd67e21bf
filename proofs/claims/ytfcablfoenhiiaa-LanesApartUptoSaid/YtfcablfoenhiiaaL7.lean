/- Part of a proof of laws of the seat Ytfcablfoenhiiaa: functions' weakest preconditions, each checked by the kernel, and contracts out of them; no conditions. -/
import Derived.Test.YtfcablfoenhiiaaL6
set_option linter.unusedVariables false
set_option linter.unusedSimpArgs false
namespace Go.Mir
open Go Go.E Go.RowKit

theorem zero_filled (V : Nat → Nat → Nat) : Filled #[.float .f64 0, .float .f64 0, .float .f64 0, .float .f64 0, .float .f64 0, .float .f64 0, .float .f64 0, .float .f64 0] 1 V (fun _ _ => false) := by
  refine ⟨rfl, fun f k hf hk => ?_⟩
  obtain rfl : f = 0 := by omega
  match k, hk with
  | 0, _ => rfl
  | 1, _ => rfl
  | 2, _ => rfl
  | 3, _ => rfl
  | 4, _ => rfl
  | 5, _ => rfl
  | 6, _ => rfl
  | 7, _ => rfl
abbrev B37 := Option Addr → Nat → Nat → Int → Option Addr → Nat → Nat → Int → World → Prop
abbrev B52 := Option Addr → Nat → Nat → Int → Option Addr → Nat → Nat → Int → Option Addr → Nat → Nat → Int → World → Prop

theorem rpack_k {R : Value → World → Prop} {b37 : B37} {b52 : B52} {wB : World} {a a7 a9 : Option Addr} {n c n7 c7 n9 c9 d g f : Nat} {l : List (List Nat)} (hP : PIn wB a n l d) (hg : 8 * g < n) (hf : f < d)
    (h : ∀ w, Below wB.heap.size wB w → nw (w.alloc (.cells (lcells fun k => packV l g f k) 24)) fun w43 =>
        rawN Go.Proofs.Try.prog (Builtin.append_ #[50, 50] 50 #[.slice a9 n9 c9, .slice (some (na w)) 1 1]) w43 fun v44 u45 => ∃ ya : Option Addr, ∃ yn yc : Nat, v44 = .slice ya yn yc ∧ b52 a n c d a7 n7 c7 (8 * g : Nat) ya yn yc (f + 1 : Nat) u45) :
    ∀ (k i : Nat) (w : World) (cs : Array Value), i + k = 8 → Below wB.heap.size wB w → Blk w wB.heap.size cs 24 → Filled cs 1 (fun _ k => packV l g f k) (fun _ k => decide (k < i)) →
      thicketref18_Pack.l67 R b37 b52 (k + 1) a n c d a7 n7 c7 (8 * g : Nat) a9 n9 c9 f (some (na wB)) i w := by
  have hs := hP.short
  have hd6 := hP.dim
  have hln := hP.rd.len
  intro k
  induction k with
  | zero =>
    intro i w cs hi hb hB hF
    unfold thicketref18_Pack.l67 thicketref18_Pack.g67
    refine onDec_f (by omega) ?_
    rw [optN_some]
    have hc : ∀ k, k < 8 → w.cell? ((na wB).add k) = some (.float .f64 (packV l g f k)) := fun k hk => by
      have := hF.at' 0 k (by omega) hk
      rw [decide_eq_true (show k < i by omega), Nat.zero_mul, Nat.zero_add] at this
      rw [na_add, hB.cell]
      exact this
    refine ⟨_, hc 0 (by omega), _, hc 1 (by omega), _, hc 2 (by omega), _, hc 3 (by omega), _, hc 4 (by omega), _, hc 5 (by omega), _, hc 6 (by omega), _, hc 7 (by omega), ?_⟩
    have := h w hb
    rw [i64_succ (by omega)]
    exact this
  | succ k ih =>
    intro i w cs hi hb hB hF
    unfold thicketref18_Pack.l67 thicketref18_Pack.g67
    have e1 : IntKind.i64.wrap ((n : Int) - 1) = ((n - 1 : Nat) : Int) := by rw [i64_id (by omega) (by omega)]; omega
    have e2 : IntKind.i64.wrap (((8 * g : Nat) : Int) + (i : Int)) = ((8 * g + i : Nat) : Int) := by rw [i64_id (by omega) (by omega)]; omega
    rw [e1, e2]
    have go : ∀ z : Nat, z = min (8 * g + i) (n - 1) → thicketref18_Pack.j84 R b37 b52 (thicketref18_Pack.l67 R b37 b52 (k + 1)) a n c d a7 n7 c7 (8 * g : Nat) a9 n9 c9 f (some (na wB)) i (z : Int) w := by
      intro z hz
      have hlt : z < n := by omega
      unfold thicketref18_Pack.j84 thicketref18_Pack.g84
      refine hP.rd.read hlt fun p a' n' c' hc hr => ite_mk (by omega) ⟨_, _, _, by simpa using bkeep hb hc, ?_⟩
      have hd := hP.row hlt
      have hlen := hr.len
      refine (hr.keep hb).read (i := f) (by omega) fun q hq => ite_mk (by omega) ⟨_, by simpa using hq, ?_⟩
      rw [optN_some]
      refine ite_mk (by omega) ?_
      have ea : ((na wB).add ((i : Int).toNat * 1)).add 0 = ⟨wB.heap.size, 0 * 8 + i, none⟩ := by rw [add_zero, na_add]; simp
      have hv : (l[z]'(hln ▸ hlt))[f]'(by omega) = packV l g f i := by
        have := rowAt_get (l := l) (i := z) (f := f) (hln ▸ hlt) (by omega)
        unfold packV
        rw [← this, hz]
        exact congrArg (fun z => rowAt l (min (8 * g + i) (z - 1)) f) hln
      rw [ea, i64_succ (by omega), hv]
      refine ⟨hB.ok (by rw [hF.size]; omega), ?_⟩
      unfold nw
      refine ih (i + 1) _ _ (by omega) (below_set hb (Nat.le_refl _) _) (hB.set _ _) ((hF.set (f0 := 0) (by omega) (by omega)).done_eq fun f' k' hf' hk => ?_)
      rw [show (f' == 0) = decide (f' = 0) from rfl, show (k' == i) = decide (k' = i) from rfl, ← Bool.decide_and, ← Bool.decide_or, decide_eq_decide]
      omega
    refine onDec_t (by omega) (onDec (fun hge => go (n - 1) (by omega)) (fun hlt => go (8 * g + i) (by omega)))

theorem rpack_f {R : Value → World → Prop} {b37 : B37} {wg : World} {a a7 : Option Addr} {n c n7 c7 d g : Nat} {l : List (List Nat)} (hP : PIn wg a n l d) (hg : 8 * g < n)
    (h : ∀ v w, Below wg.heap.size wg w → OwnK 24 8 encL wg.heap.size w v (packRow l d g) → ∀ a9 n9 c9, v = .slice a9 n9 c9 → nw (w.alloc (.cells #[.slice a9 n9 c9] 50)) fun w30 =>
      rawN Go.Proofs.Try.prog (Builtin.append_ #[32, 32] 32 #[.slice a7 n7 c7, .slice (some (na w)) 1 1]) w30 fun v31 u32 => ∃ ya : Option Addr, ∃ yn yc : Nat, v31 = .slice ya yn yc ∧ b37 a n c d ya yn yc (8 * (g + 1) : Nat) u32) :
    ∀ (k f : Nat) (a9 : Option Addr) (n9 c9 : Nat) (w : World), f + k = d → Below wg.heap.size wg w → w.ownsRow wg.heap.size 24 8 (.slice a9 n9 c9) f (((packRow l d g).take f).flatMap encL) →
      thicketref18_Pack.l52 R b37 (k + 1) a n c d a7 n7 c7 (8 * g : Nat) a9 n9 c9 f w := by
  have hs := hP.short
  have hd6 := hP.dim
  have hpl : (packRow l d g).length = d := by simp [packRow]
  intro k
  induction k with
  | zero =>
    intro f a9 n9 c9 w hf hb hO
    unfold thicketref18_Pack.l52 thicketref18_Pack.g52
    refine onDec_f (by omega) ?_
    rw [List.take_of_length_le (by omega)] at hO
    have hfd : f = d := by omega
    rw [hfd] at hO
    have := h _ w hb (by unfold OwnK; rw [hpl]; exact hO) a9 n9 c9 rfl
    have e : IntKind.i64.wrap (((8 * g : Nat) : Int) + 8) = ((8 * (g + 1) : Nat) : Int) := by rw [i64_id (by omega) (by omega)]; omega
    rw [e]
    exact this
  | succ k ih =>
    intro f a9 n9 c9 w hf hb hO
    unfold thicketref18_Pack.l52 thicketref18_Pack.g52
    refine onDec_t (by omega) ?_
    unfold nw
    have hPw : PIn w a n l d := ⟨hP.rd.keep hb, hs, hd6, hP.all⟩
    refine ⟨9, rpack_k hPw hg (by omega) (fun w' hb' => ?_) 8 0 _ _ rfl (below_new _ _) (Blk.new _ _ _) ((zero_filled _).done_eq fun f' k' _ _ => by simp)⟩
    unfold nw
    have hO' := own_keep hO hb'
    have hbw := bthen hb hb'
    refine append_one S50 (by omega) hO' (cl := lcells fun k => packV l g f k) rfl (fun u hu => ?_) (by simp only [maxLen]; omega) (by omega) hbw.size fun v2 w2 h2 h3 => ?_
    · simp at hu
      rcases hu with rfl | rfl | rfl | rfl | rfl | rfl | rfl | rfl <;> rfl
    · have hrow : (((packRow l d g).take f).flatMap encL) ++ (lcells fun k => packV l g f k).toList = ((packRow l d g).take (f + 1)).flatMap encL := by
        rw [List.take_add_one, List.flatMap_append]
        have : (packRow l d g)[f]? = some (fun k => packV l g f k) := by
          unfold packRow
          rw [List.getElem?_map, List.getElem?_range (by omega)]
          rfl
        rw [this]
        simp
      rw [hrow] at h2
      have hform : ∃ a c, v2 = .slice a (f + 1) c := by
        rcases h2.2 with ⟨_, h0⟩ | ⟨g', cap, cur, rfl, _⟩
        · omega
        · exact ⟨_, _, rfl⟩
      obtain ⟨a2, c2, rfl⟩ := hform
      exact ⟨_, _, _, rfl, ih (f + 1) _ _ _ w2 (by omega) (grown_below hbw hO' h3 (Nat.le_refl _) hbw.size) h2⟩

theorem rpack_g {R : Value → World → Prop} {w0 : World} {a : Option Addr} {n c d : Nat} {l : List (List Nat)} (hP : PIn w0 a n l d)
    (hR : ∀ v u, Nest 50 (OwnK 24 8 encL w0.heap.size) u w0.heap.size v (packed l d) → Below w0.heap.size w0 u → R (.tuple #[v, .int .i64 0]) u) :
    ∀ (k g : Nat) (a8 : Option Addr) (n8 c8 : Nat) (w : World), g + k = (n + 7) / 8 → Below w0.heap.size w0 w → Nest 50 (OwnK 24 8 encL w0.heap.size) w w0.heap.size (.slice a8 n8 c8) ((packed l d).take g) →
      thicketref18_Pack.l37 R (k + 1) a n c d a8 n8 c8 (8 * g : Nat) w := by
  have hs := hP.short
  have hln := hP.rd.len
  have hd6 := hP.dim
  have hpl : (packed l d).length = (n + 7) / 8 := by simp [packed, hln]
  intro k
  induction k with
  | zero =>
    intro g a8 n8 c8 w hg hb hN
    unfold thicketref18_Pack.l37 thicketref18_Pack.g37
    refine onDec_f (by omega) (hR _ _ ?_ hb)
    rwa [List.take_of_length_le (by omega)] at hN
  | succ k ih =>
    intro g a8 n8 c8 w hg hb hN
    unfold thicketref18_Pack.l37 thicketref18_Pack.g37
    have hPw : PIn w a n l d := ⟨hP.rd.keep hb, hs, hd6, hP.all⟩
    refine onDec_t (by omega) ⟨d + 1, rpack_f hPw (by omega) (fun v w' hb' hO' a9 n9 c9 hv => ?_) d 0 none 0 0 w (by omega) (Below.refl _ _) (by simpa using own_nil w w.heap.size 24 8)⟩
    subst hv
    unfold nw
    have hbw : Below w0.heap.size w0 w' := bthen hb hb'
    have hN' : Nest 50 (OwnK 24 8 encL w0.heap.size) w' w0.heap.size (.slice a8 n8 c8) ((packed l d).take g) := hN.to (fun _ _ h => own_keep h hb') (fun _ _ h => own_keep h hb')
    have hI : OwnK 24 8 encL w0.heap.size w' (.slice a9 n9 c9) (packRow l d g) := own_base hO' hb.size
    have htl : ((packed l d).take g).length = g := by simp; omega
    refine Nest.push S32 hN' hI rfl (by rw [htl]; simp only [maxLen]; omega) (by rw [htl]; omega) hbw.size (fun w2 n2 xs ho hg v0 x0 h0 => own_grown h0 ho (by decide) hg) ?_
    intro a4 c4 w2 hN3 hg3 ⟨_, _, ho3⟩
    refine ⟨_, _, _, rfl, ?_⟩
    refine ih (g + 1) _ _ _ w2 (by omega) (grown_below hbw ho3 hg3 (Nat.le_refl _) hbw.size) ?_
    rw [List.take_add_one]
    have : (packed l d)[g]? = some (packRow l d g) := by
      unfold packed
      rw [List.getElem?_map, List.getElem?_range (by omega)]
      rfl
    rw [this]
    exact hN3

theorem rpack_check {R : Value → World → Prop} {w : World} {a : Option Addr} {n c : Nat} {d : Int} {l : List (List Nat)} (hx : Sl2 encF w a n l) (hs : n ≤ 1048576)
    (hok : allLen l d = true → thicketref18_Pack.e37 R a n c d none 0 0 0 w) (hbad : allLen l d = false → R (.tuple #[.slice none 0 0, .int .i64 72]) w) :
    ∀ (k i : Nat), i + k = n → (∀ b, allLen (l.drop i) d = b → allLen l d = b) → thicketref18_Pack.l14 R (k + 1) a n c d i w := by
  have hln := hx.len
  intro k
  induction k with
  | zero =>
    intro i hi hb
    unfold thicketref18_Pack.l14 thicketref18_Pack.g14
    refine onDec_f (by omega) (hok (hb true ?_))
    rw [List.drop_eq_nil_of_le (by omega)]
    rfl
  | succ k ih =>
    intro i hi hb
    unfold thicketref18_Pack.l14 thicketref18_Pack.g14
    refine onDec_t (by omega) (hx.read (i := i) (by omega) fun p a' n' c' hc hr => ite_mk (by omega) ⟨_, _, _, by simpa using hc, ?_⟩)
    have hl := hr.len
    have hd := allLen_drop (l := l) (d := d) (i := i) (by omega)
    refine onBool_mk (fun hne => hbad (hb false ?_)) (fun heq => ?_)
    · rw [hd]
      have : ((l[i]'(by omega)).length : Int) ≠ d := by rw [← hl]; simpa using hne
      simp [this]
    · rw [i64_succ (by omega)]
      refine ih (i + 1) (by omega) fun b hbb => hb b ?_
      have : ((l[i]'(by omega)).length : Int) = d := by rw [← hl]; simpa using heq
      rw [hd, hbb]
      simp [this]

theorem refPack {w : World} {a : Option Addr} {n c : Nat} {d : Int} {l : List (List Nat)} (hx : Sl2 encF w a n l) (hs : n ≤ 1048576) :
    E.CallsD Proofs.Try.prog 16 #[.slice a n c, .int .i64 d] w (PackR w l d) := by
  refine thicketref18_Pack.calls ?_
  unfold thicketref18_Pack thicketref18_Pack.g0
  refine onDec (fun h => ?_) (fun h => onDec (fun h2 => ?_) (fun h2 => ?_))
  · have hc : packCode l d = 2 := by unfold packCode; rw [if_pos h]
    exact ⟨none, 0, 0, by rw [hc], by unfold packAns; rw [hc]; exact slg_nil w, Below.refl _ _⟩
  · have hc : packCode l d = 2 := by unfold packCode; rw [if_neg h, if_pos h2]
    exact ⟨none, 0, 0, by rw [hc], by unfold packAns; rw [hc]; exact slg_nil w, Below.refl _ _⟩
  · obtain ⟨D, rfl⟩ : ∃ D : Nat, d = D := ⟨d.toNat, by omega⟩
    refine ⟨n + 1, rpack_check hx hs (fun hall => ?_) (fun hall => ?_) n 0 (by omega) (fun b hb => by simpa using hb)⟩
    · have hc : packCode l D = 0 := by unfold packCode; rw [if_neg h, if_neg h2, if_pos (show (l.all fun r => (r.length : Int) == (D : Int)) = true from hall)]
      refine ⟨(n + 7) / 8 + 1, rpack_g ⟨hx, hs, by omega, allLen_nat hall⟩ (fun v x hN hb => ?_) _ 0 none 0 0 w (by omega) (Below.refl _ _) (by simpa using Nest.nil w)⟩
      obtain ⟨a', c', rfl, hg⟩ := hN.slp encL_len (by omega)
      exact ⟨a', _, c', by rw [hc], by unfold packAns; rw [if_pos hc]; exact hg, hb⟩
    · have hc : packCode l D = 72 := by unfold packCode; rw [if_neg h, if_neg h2, if_neg (by rw [show (l.all fun r => (r.length : Int) == (D : Int)) = false from hall]; simp)]
      exact ⟨none, 0, 0, by rw [hc], by unfold packAns; rw [hc]; exact slg_nil w, Below.refl _ _⟩
end Go.Mir
