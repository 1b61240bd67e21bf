/- Part of a proof of laws of the seat Ytfcablfoenhiiaa: functions' weakest preconditions, each checked by the kernel, and contracts out of them; no conditions. -/
import Derived.Test.YtfcablfoenhiiaaLD
set_option linter.unusedVariables false
set_option linter.unusedSimpArgs false
namespace Go.Mir
open Go Go.E Go.RowKit

theorem bit8F : ∀ (v : Fin 256) (i : Fin 8), bitsI .and .u8 (Int.fdiv ((v.val : Nat) : Int) (2 ^ i.val)) 1 = if (BitVec.ofNat 8 v.val).getLsbD i.val then 1 else 0 := by decide +kernel
theorem bit8 (v : BitVec 8) {i : Nat} (hi : i < 8) : bitsI .and .u8 (Int.fdiv (v.toNat : Int) (2 ^ (min (IntKind.u64.wrap (i : Int)).toNat 8))) 1 = if v.getLsbD i then 1 else 0 := by
  rw [u64_id (by omega) (by omega), Int.toNat_natCast, Nat.min_eq_left (by omega)]
  have := bit8F ⟨v.toNat, v.isLt⟩ ⟨i, hi⟩
  simpa using this
abbrev lostOf (x : Nat → Nat) : BitVec 8 := fold8 (fun i => nan (x i)) 8 0 0
abbrev outOf (x : Nat → Nat) (cs : List Int) : BitVec 8 := fold8 (fun i => !nan (x i) && !isCat cs (x i)) 8 0 0
theorem fold8_lsb (p : Nat → Bool) {i : Nat} (hi : i < 8) : (fold8 p 8 0 0).getLsbD i = p i := by
  rw [fold8_bit _ _ _ _ _ (by omega), decide_eq_true (show 0 ≤ i ∧ i < 0 + 8 by omega)]
  simp

theorem apart_k {R : Value → World → Prop} {b26 : Option Addr → Nat → Nat → Nat → Nat → Option Addr → Int → Int → Int → World → Prop} {x : Nat → Nat} {w : World} {p : Addr} {a : Option Addr} {n c lo hi : Nat} {cs : List Int}
    (hx : ∀ i, i < 8 → w.cell? (p.add i) = some (.float .f64 (x i))) (hc : Sl encI w a n cs) (hl : n ≤ 1048576) {i : Nat} (hi8 : i < 8)
    (h : b26 a n c lo hi (some p) (lostOf x).toNat (outOf x cs).toNat (i + 1 : Nat) w) :
    ∀ (k j : Nat) (b : Bool), j + k = n → (b || isCat (cs.drop j) (x i)) = isCat cs (x i) → thicketlaw18_LanesApart.l41 R b26 (k + 1) a n c lo hi (some p) (lostOf x).toNat (outOf x cs).toNat i b j w := by
  have hln := hc.len
  intro k
  induction k with
  | zero =>
    intro j b hj hb
    unfold thicketlaw18_LanesApart.l41 thicketlaw18_LanesApart.g41
    refine onDec_f (by omega) (ite_not (not_neg8 hi8) ?_)
    rw [List.drop_eq_nil_of_le (by omega)] at hb
    have hb' : b = isCat cs (x i) := by simpa [isCat] using hb
    rw [or8, bit8 _ hi8, BitVec.getLsbD_or, fold8_lsb _ hi8, fold8_lsb _ hi8]
    have e1 : (!(b == ((if (nan (x i) || (!nan (x i) && !isCat cs (x i))) = true then (1 : Int) else 0) == 0))) = false := by
      rw [hb']
      cases hcat : isCat cs (x i) with
      | true => rw [isCat_nan hcat]; rfl
      | false => cases nan (x i) <;> rfl
    rw [e1, onBool_f, optN_some]
    refine ite_mk (by omega) ⟨_, cix (hx i hi8), ?_⟩
    rw [optN_some]
    refine ite_mk (by omega) ⟨_, cix (hx i hi8), ite_not (not_neg8 hi8) ?_⟩
    rw [bit8 _ hi8, fold8_lsb _ hi8]
    have e2 : (!((FloatKind.f64.format.order (x i) (x i) != some Ordering.eq) == ((if nan (x i) = true then (1 : Int) else 0) == 1))) = false := by
      rw [show (FloatKind.f64.format.order (x i) (x i) != some Ordering.eq) = nan (x i) from rfl]
      cases nan (x i) <;> rfl
    rw [e2, onBool_f, i64_succ (by omega)]
    exact h
  | succ k ih =>
    intro j b hj hb
    unfold thicketlaw18_LanesApart.l41 thicketlaw18_LanesApart.g41
    refine onDec_t (by omega) ?_
    rw [i64_succ (by omega)]
    have hstep := isCat_step (cs := cs) (k := j) (by omega) (x i)
    refine onBool_mk (fun h1 => ?_) (fun h1 => ?_)
    · refine ih (j + 1) true (by omega) ?_
      rw [h1] at hb
      simpa using hb
    · refine hc.read (i := j) (by omega) fun q hq => ite_mk (by omega) ⟨_, cix hq, ?_⟩
      rw [optN_some]
      refine ite_mk (by omega) ⟨_, cix (hx i hi8), ih (j + 1) _ (by omega) ?_⟩
      rw [h1, hstep] at hb
      rw [feq_comm]
      rw [Bool.false_or] at hb
      exact hb

theorem apart_end {x : Nat → Nat} {w w0 : World} {p : Addr} {lo hi : Nat} (hx : ∀ i, i < 8 → w.cell? (p.add i) = some (.float .f64 (x i))) (hb : Below w0.heap.size w0 w) (hle : fgt lo hi = false) :
    thicketlaw18_LanesApart.j66 (fun v' u => v' = .bool true ∧ Below w0.heap.size w0 u) lo hi (some p) w := by
  unfold thicketlaw18_LanesApart.j66 thicketlaw18_LanesApart.g66
  have L : ∀ {K : Nat → Nat → Nat → Nat → Nat → Nat → Nat → Nat → Prop}, K (x 0) (x 1) (x 2) (x 3) (x 4) (x 5) (x 6) (x 7) →
      ∃ f0 : Nat, w.cell? (p.add 0) = some (.float .f64 f0) ∧ ∃ f1 : Nat, w.cell? (p.add 1) = some (.float .f64 f1) ∧ ∃ f2 : Nat, w.cell? (p.add 2) = some (.float .f64 f2) ∧ ∃ f3 : Nat, w.cell? (p.add 3) = some (.float .f64 f3) ∧
        ∃ f4 : Nat, w.cell? (p.add 4) = some (.float .f64 f4) ∧ ∃ f5 : Nat, w.cell? (p.add 5) = some (.float .f64 f5) ∧ ∃ f6 : Nat, w.cell? (p.add 6) = some (.float .f64 f6) ∧ ∃ f7 : Nat, w.cell? (p.add 7) = some (.float .f64 f7) ∧ K f0 f1 f2 f3 f4 f5 f6 f7 :=
    fun h => ⟨_, hx 0 (by omega), _, hx 1 (by omega), _, hx 2 (by omega), _, hx 3 (by omega), _, hx 4 (by omega), _, hx 5 (by omega), _, hx 6 (by omega), _, hx 7 (by omega), h⟩
  refine onBool_mk (fun _ u hu => ⟨rfl, bthen hb hu⟩) (fun hn => onBool_mk (fun _ u hu => ⟨rfl, bthen hb hu⟩) (fun _ => ?_))
  rw [optN_some]
  refine L ⟨_, fun u hu => (lanesAbove x hi u).quiet hu, ?_⟩
  rw [optN_some]
  refine L ⟨_, fun u hu => (lanesAbove x lo u).quiet hu, fun u hu => ⟨?_, bthen hb hu⟩⟩
  rw [andNot8]
  have hz : fold8 (fun i => fgt (x i) hi) 8 0 0 &&& ~~~ fold8 (fun i => fgt (x i) lo) 8 0 0 = 0#8 := by
    apply BitVec.eq_of_getLsbD_eq
    intro k hk
    rw [BitVec.getLsbD_and, BitVec.getLsbD_not, fold8_lsb _ hk, fold8_lsb _ hk, decide_eq_true hk]
    cases h1 : fgt (x k) hi with
    | false => simp
    | true => rw [fgt_trans (l := lo) hn hle h1]; simp
  rw [hz]
  rfl

theorem apart_i {x : Nat → Nat} {w w0 : World} {p : Addr} {a : Option Addr} {n c lo hi : Nat} {cs : List Int} (hx : ∀ i, i < 8 → w.cell? (p.add i) = some (.float .f64 (x i))) (hc : Sl encI w a n cs) (hl : n ≤ 1048576) (hb : Below w0.heap.size w0 w) :
    ∀ (k i : Nat), i + k = 8 → thicketlaw18_LanesApart.l26 (fun v' u => v' = .bool true ∧ Below w0.heap.size w0 u) (k + 1) a n c lo hi (some p) (lostOf x).toNat (outOf x cs).toNat i w := by
  intro k
  induction k with
  | zero =>
    intro i hi8
    unfold thicketlaw18_LanesApart.l26 thicketlaw18_LanesApart.g26
    refine onDec_f (by omega) (onBool_mk (fun h => ?_) (fun h => ?_))
    · refine apart_end hx hb ?_
      have h' : fgt lo hi = true := h
      unfold fgt at h' ⊢
      rw [fgt_flt] 
      simp only [beq_iff_eq] at h'
      rw [h']
      rfl
    · exact apart_end hx hb h
  | succ k ih =>
    intro i hi8
    unfold thicketlaw18_LanesApart.l26 thicketlaw18_LanesApart.g26
    exact onDec_t (by omega) ⟨n + 1, apart_k hx hc hl (by omega) (ih (i + 1) (by omega)) n 0 false (by omega) (by simp)⟩

theorem lanesApart_law (x : Nat → Nat) (w : World) {a : Option Addr} {n c lo hi : Nat} {cs : List Int} (hc : Sl encI w a n cs) (hl : n ≤ 1048576) :
    Pure Proofs.Try.prog 5 #[lv x, .slice a n c, .float .f64 lo, .float .f64 hi] w (.bool true) := by
  refine thicketlaw18_LanesApart.calls (R := fun v' u => v' = _ ∧ Below w.heap.size w u) ?_
  unfold thicketlaw18_LanesApart thicketlaw18_LanesApart.g0
  refine nw_mk ?_
  have b0 : Below w.heap.size w (w.alloc (.cells (lcells x) 24)) := below_new _ _
  have hx0 : ∀ i, i < 8 → (w.alloc (.cells (lcells x) 24)).cell? ((na w).add i) = some (.float .f64 (x i)) := fun i hi => by rw [cell_new]; exact lcells_get x hi
  refine E.CallsD.mono (begins _) fun v u1 ⟨hv, b1⟩ => ⟨_, hv, ?_⟩
  show onBool false _ _
  rw [onBool_f]
  have B1 := bthen b0 b1
  have L : ∀ {u : World} {K : Nat → Nat → Nat → Nat → Nat → Nat → Nat → Nat → Prop}, Below (w.alloc (.cells (lcells x) 24)).heap.size (w.alloc (.cells (lcells x) 24)) u → K (x 0) (x 1) (x 2) (x 3) (x 4) (x 5) (x 6) (x 7) →
      ∃ f0 : Nat, u.cell? ((na w).add 0) = some (.float .f64 f0) ∧ ∃ f1 : Nat, u.cell? ((na w).add 1) = some (.float .f64 f1) ∧ ∃ f2 : Nat, u.cell? ((na w).add 2) = some (.float .f64 f2) ∧ ∃ f3 : Nat, u.cell? ((na w).add 3) = some (.float .f64 f3) ∧
        ∃ f4 : Nat, u.cell? ((na w).add 4) = some (.float .f64 f4) ∧ ∃ f5 : Nat, u.cell? ((na w).add 5) = some (.float .f64 f5) ∧ ∃ f6 : Nat, u.cell? ((na w).add 6) = some (.float .f64 f6) ∧ ∃ f7 : Nat, u.cell? ((na w).add 7) = some (.float .f64 f7) ∧ K f0 f1 f2 f3 f4 f5 f6 f7 :=
    fun hb h => ⟨_, bkeep hb (hx0 0 (by omega)), _, bkeep hb (hx0 1 (by omega)), _, bkeep hb (hx0 2 (by omega)), _, bkeep hb (hx0 3 (by omega)), _, bkeep hb (hx0 4 (by omega)), _, bkeep hb (hx0 5 (by omega)), _, bkeep hb (hx0 6 (by omega)), _, bkeep hb (hx0 7 (by omega)), h⟩
  refine L b1 ?_
  refine E.CallsD.mono (lanesLost x u1) fun v u2 ⟨hv, b2⟩ => ⟨_, hv, ?_⟩
  have b12 := bthen b1 b2
  refine L b12 ?_
  refine E.CallsD.mono (lanesOutside x u2 (hc.keep (bthen B1 b2)) (by omega)) fun v u3 ⟨hv, b3⟩ => ⟨_, hv, ?_⟩
  have b13 := bthen b12 b3
  have B3 := bthen b0 b13
  rw [and8]
  have hz : lostOf x &&& outOf x cs = 0#8 := by
    apply BitVec.eq_of_getLsbD_eq
    intro k hk
    rw [BitVec.getLsbD_and, fold8_lsb _ hk, fold8_lsb _ hk]
    cases nan (x k) <;> simp
  rw [hz]
  show onBool false _ _
  rw [onBool_f]
  exact ⟨9, apart_i (fun i hi => bkeep b13 (hx0 i hi)) (hc.keep B3) hl B3 8 0 rfl⟩
end Go.Mir
