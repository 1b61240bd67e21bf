/- Part of a proof of laws of the seat YtabmjhhjbifagaaDoor: functions' weakest preconditions, each checked by the kernel, and contracts out of them; no conditions. -/
import Derived.Test.YtabmjhhjbifagaaDoorB9
import Derived.Test.YtabmjhhjbifagaaDoorBM4
import Derived.Test.YtabmjhhjbifagaaDoorBM5
set_option linter.unusedVariables false
set_option linter.unusedSimpArgs false
namespace Go.Mir
open Go Go.E Go.RowKit Go.Bt
section
variable {w : World} {a b : Option Addr} {n c m d g : Nat} {xs ys : W}
/-- One bit is put into an own set: the program's text; the document's. -/
theorem putP {K : World → Prop} {i : Nat} (ha : Arr enW 56 w a n c xs g) (hi : i / 64 < n) (hb : i ≤ 4611686018427387904) (hk : ∀ u x, xs[i / 64]? = some x → Arr enW 56 u a n c (xs.set (i / 64) (x ||| BitVec.twoPow 64 (i % 64))) g → Only g w u → K u) :
    nv (IntKind.i64.wrap (Int.tdiv (i : Int) 64)) fun t18 => optN a fun q19 => chk ((0 : Int) ≤ t18 ∧ t18 < (n : Int)) (∃ yx_20 : Int, w.cell? (q19.add (t18.toNat * 1)) = some (.int .u64 yx_20) ∧
      (nv (Int.tmod (i : Int) 64) fun t21 => nchk (t21 < 0) (nv (IntKind.u64.wrap (1 * 2 ^ (min t21.toNat 64))) fun t22 => nv (bitsI .or .u64 yx_20 t22) fun t23 => optN a fun q24 =>
        chk ((0 : Int) ≤ t18 ∧ t18 < (n : Int)) (okSt w ((q24.add (t18.toNat * 1)).add 0) ∧ nw (w.setCell ((q24.add (t18.toNat * 1)).add 0) (.int .u64 t23)) K)))) := by
  refine nv_div (by omega) (by omega) (by omega) ?_
  refine Sl.rdW ha.sl (fun _ => rfl) (by omega) (by omega) fun x hx => ?_
  refine nv_mod (by omega) ?_
  refine nchk_mk (by omega) ?_
  rw [shl1]
  refine nv_mk rfl ?_
  rw [or64]
  refine nv_mk rfl ?_
  refine Arr.wr ha (by omega) (by omega) (x := x ||| BitVec.twoPow 64 (((i : Int) % 64).toNat)) rfl fun u hu mu => ?_
  rw [show ((i : Int) / 64).toNat = i / 64 from by omega] at hx hu
  rw [show ((i : Int) % 64).toNat = i % 64 from by omega] at hu
  exact hk u x hx hu mu
theorem putR {K : World → Prop} {i : Nat} (ha : Arr enW 56 w a n c xs g) (hi : i / 64 < n) (hb : i ≤ 4611686018427387904) (hk : ∀ u x, xs[i / 64]? = some x → Arr enW 56 u a n c (xs.set (i / 64) (x ||| BitVec.twoPow 64 (i % 64))) g → Only g w u → K u) :
    nv (IntKind.i64.wrap (Int.tdiv (i : Int) 64)) fun t17 => nv (IntKind.i64.wrap (Int.tdiv (i : Int) 64)) fun t18 => optN a fun q19 => chk ((0 : Int) ≤ t18 ∧ t18 < (n : Int)) (∃ yx_20 : Int, w.cell? (q19.add (t18.toNat * 1)) = some (.int .u64 yx_20) ∧
      (nv (Int.tmod (i : Int) 64) fun t20 => nv (IntKind.u64.wrap t20) fun t21 => nchk (t21 < 0) (nv (IntKind.u64.wrap (1 * 2 ^ (min t21.toNat 64))) fun t22 => nv (bitsI .or .u64 yx_20 t22) fun t23 => optN a fun q24 =>
        chk ((0 : Int) ≤ t17 ∧ t17 < (n : Int)) (okSt w ((q24.add (t17.toNat * 1)).add 0) ∧ nw (w.setCell ((q24.add (t17.toNat * 1)).add 0) (.int .u64 t23)) K)))) := by
  refine nv_div (by omega) (by omega) (by omega) ?_
  refine nv_div (by omega) (by omega) (by omega) ?_
  refine Sl.rdW ha.sl (fun _ => rfl) (by omega) (by omega) fun x hx => ?_
  refine nv_mod (by omega) ?_
  refine nv_u64 (by omega) (by omega) ?_
  refine nchk_mk (by omega) ?_
  rw [shl1]
  refine nv_mk rfl ?_
  rw [or64]
  refine nv_mk rfl ?_
  refine Arr.wr ha (by omega) (by omega) (x := x ||| BitVec.twoPow 64 (((i : Int) % 64).toNat)) rfl fun u hu mu => ?_
  rw [show ((i : Int) / 64).toNat = i / 64 from by omega] at hx hu
  rw [show ((i : Int) % 64).toNat = i % 64 from by omega] at hu
  exact hk u x hx hu mu

/-! ### Read -/
def scan (s : ByteArray) : Nat → Nat → Option Nat
  | 0, _ => none
  | k + 1, i => match s[i]? with
    | some b => if b = 49 ∨ b = 48 then scan s k (i + 1) else some i
    | none => some i
def isOne (s : ByteArray) (i : Nat) : Bool := match s[i]? with
  | some b => decide (b = 49)
  | none => false
def readOf (s : ByteArray) : W × Int × Int × Int := if 1048576 < s.size then ([], 0, 2, 0) else match scan s s.size 0 with
  | some i => ([], 0, 50, i)
  | none => (ofB (nW s.size) (isOne s), s.size, 0, 0)
def AnsR (w u : World) (v : Value) (r : W × Int × Int × Int) : Prop := ∃ a n c, v = .tuple #[.slice a n c, .int .i64 r.2.1, .int .i64 r.2.2.1, .int .i64 r.2.2.2] ∧ Sl enW u a n r.1 ∧ Kept w u
/-- What is read before byte i. -/
def upto (s : ByteArray) (i : Nat) : W := ofB (nW s.size) fun j => decide (j < i) && isOne s j
theorem upto_zero (s : ByteArray) : upto s 0 = List.replicate (nW s.size) 0#64 := by
  rw [zeros]; unfold upto; congr 1
theorem upto_full (s : ByteArray) : upto s s.size = ofB (nW s.size) (isOne s) := by
  unfold upto; congr 1; funext j
  by_cases h : j < s.size
  · simp [h]
  · have : isOne s j = false := by
      unfold isOne
      have : s[j]? = none := getElem?_neg s j h
      rw [this]
    simp [this]
theorem upto_one {s : ByteArray} {i : Nat} {x : BitVec 64} (h : isOne s i = true) (hx : (upto s i)[i / 64]? = some x) : (upto s i).set (i / 64) (x ||| BitVec.twoPow 64 (i % 64)) = upto s (i + 1) := by
  unfold upto at hx ⊢
  rw [put_step hx]
  congr 1
  funext j
  by_cases hj : j = i
  · subst hj; simp [h]
  · simp only [hj, decide_false, Bool.or_false]
    congr 1
    exact decide_eq_decide.2 (by omega)
theorem upto_not {s : ByteArray} {i : Nat} (h : isOne s i = false) : upto s (i + 1) = upto s i := by
  unfold upto
  congr 1
  funext j
  by_cases hj : j = i
  · subst hj; simp [h]
  · congr 1
    exact decide_eq_decide.2 (by omega)
theorem byte_get {s : ByteArray} {i : Nat} (h : i < s.size) : s[i]? = some s[i] := getElem?_pos s i h
theorem byte_eq {b : UInt8} {k : UInt8} : ((b.toNat : Int) == (k.toNat : Int)) = decide (b = k) := by
  rw [Bool.eq_iff_iff, beq_iff_eq, decide_eq_true_iff]
  constructor
  · intro h; exact UInt8.toNat.inj (by omega)
  · rintro rfl; rfl
theorem byte_ne {b : UInt8} {k : UInt8} : ((b.toNat : Int) != (k.toNat : Int)) = !decide (b = k) := by
  rw [bne, byte_eq]
theorem scan_succ {s : ByteArray} {k i : Nat} {b : UInt8} (hb : s[i]? = some b) : scan s (k + 1) i = if b = 49 ∨ b = 48 then scan s k (i + 1) else some i := by
  rw [scan, hb]
theorem AnsR.bad {w u : World} {s : ByteArray} {i : Nat} (hs : s.size ≤ 1048576) (h : scan s s.size 0 = some i) (hk : Kept w u) : AnsR w u (.tuple #[.slice none 0 0, .int .i64 0, .int .i64 50, .int .i64 i]) (readOf s) := by
  have e : readOf s = ([], 0, 50, (i : Int)) := by unfold readOf; rw [if_neg (by omega), h]
  rw [e]
  exact ⟨_, _, _, rfl, Sl.nil _ _, hk⟩
theorem AnsR.good {w u : World} {s : ByteArray} {a : Option Addr} {c : Nat} (hs : s.size ≤ 1048576) (h : scan s s.size 0 = none) (hs2 : Sl enW u a (nW s.size) (upto s s.size)) (hk : Kept w u) : AnsR w u (.tuple #[.slice a (nW s.size) c, .int .i64 s.size, .int .i64 0, .int .i64 0]) (readOf s) := by
  have e : readOf s = (ofB (nW s.size) (isOne s), (s.size : Int), 0, 0) := by unfold readOf; rw [if_neg (by omega), h]
  rw [e]
  exact ⟨_, _, _, rfl, by rwa [upto_full] at hs2, hk⟩
theorem Read_loop {w0 w1 : World} {s : ByteArray} {a : Option Addr} {c g : Nat} (hs : s.size ≤ 1048576) (hk0 : Kept w0 w1) (hg : w0.heap.size < g ∨ g = 0) :
    ∀ (k i : Nat) (w : World), i + k = s.size → scan s k i = scan s s.size 0 → Arr enW 56 w a (nW s.size) c (upto s i) g → Only g w1 w → bits_Read.l16 (fun v u => AnsR w0 u v (readOf s)) (k + 1) s a (nW s.size) c s.size i w
  | 0, i, w, hi, hsc, ha, ho => by
    unfold bits_Read.l16 bits_Read.g16
    refine onDec_f (by omega) ?_
    obtain rfl : i = s.size := by omega
    refine AnsR.good hs hsc.symm ha.sl ?_
    rcases hg with h | h
    · exact Kept.only hk0 ho h
    · exact Kept.trans hk0 (ho.kept fun k h5 h6 => by omega)
  | k + 1, i, w, hi, hsc, ha, ho => by
    have hiL : i / 64 < nW s.size := by unfold nW; omega
    have hb := byte_get (s := s) (i := i) (by omega)
    have hkw : Kept w0 w := by
      rcases hg with h | h
      · exact Kept.only hk0 ho h
      · exact Kept.trans hk0 (ho.kept fun k h5 h6 => by omega)
    unfold bits_Read.l16 bits_Read.g16
    refine onDec_t (by omega) ?_
    refine chk_mk (by omega) ?_
    refine ⟨s[i], hb, ?_⟩
    rw [scan_succ hb] at hsc
    rw [show (49 : Int) = ((49 : UInt8).toNat : Int) from rfl, show (48 : Int) = ((48 : UInt8).toNat : Int) from rfl, byte_eq, byte_eq]
    refine onBool_mk (fun h1 => ?_) (fun h1 => ?_)
    · have h1 := of_decide_eq_true h1
      rw [if_pos (.inl h1)] at hsc
      refine putP ha hiL (by omega) fun u x hx hu mu => ?_
      refine nv_succ (by omega) ?_
      rw [upto_one (by unfold isOne; rw [hb]; simp [h1]) hx] at hu
      exact Read_loop hs hk0 hg k (i + 1) u (by omega) hsc hu (Only.then ho mu)
    · have h1 := of_decide_eq_false h1
      refine onBool_mk (fun h2 => ?_) (fun h2 => ?_)
      · have h2 := of_decide_eq_true h2
        rw [if_pos (.inr h2)] at hsc
        refine nv_succ (by omega) ?_
        refine Read_loop hs hk0 hg k (i + 1) w (by omega) hsc ?_ ho
        rw [upto_not (by unfold isOne; rw [hb]; simp [h1])]
        exact ha
      · have h2 := of_decide_eq_false h2
        rw [if_neg (fun h => h.elim h1 h2)] at hsc
        exact AnsR.bad hs hsc.symm hkw
theorem Read_c {s : ByteArray} (w : World) : E.CallsD Go.Proofs.Tryd.prog 28 #[.string s] w fun v u => AnsR w u v (readOf s) := by
  refine bits_Read.calls ?_
  unfold bits_Read bits_Read.g0
  by_cases hs : s.size ≤ 1048576
  · refine E.CallsD.mono (Empty_ok (n := s.size) (by omega) (by omega) w) fun v u ⟨a, c, hv, g, ha, hg, hk⟩ => ⟨_, _, _, _, hv, ?_⟩
    refine onNe_f (by omega) ?_
    rw [← zeros, ← upto_zero] at ha
    exact ⟨s.size + 1, Read_loop hs hk hg s.size 0 u (by omega) rfl ha (Mod.refl _)⟩
  · refine E.CallsD.mono (Empty_no (n := s.size) (by omega) w) fun v u ⟨hv, hk⟩ => ⟨_, _, _, _, hv, ?_⟩
    refine onNe_t (by omega) ?_
    have e : readOf s = ([], 0, 2, 0) := by unfold readOf; rw [if_pos (by omega)]
    rw [e]
    exact ⟨_, _, _, rfl, Sl.nil _ _, hk⟩
theorem refRead_loop {w0 w1 : World} {s : ByteArray} {a : Option Addr} {c g : Nat} (hs : s.size ≤ 1048576) (hk0 : Kept w0 w1) (hg : w0.heap.size < g ∨ g = 0) :
    ∀ (k i : Nat) (w : World), i + k = s.size → scan s k i = scan s s.size 0 → Arr enW 56 w a (nW s.size) c (upto s i) g → Only g w1 w → thicketref05_Read.l16 (fun v u => AnsR w0 u v (readOf s)) (k + 1) s a (nW s.size) c i w
  | 0, i, w, hi, hsc, ha, ho => by
    unfold thicketref05_Read.l16 thicketref05_Read.g16
    refine onDec_f (by omega) ?_
    obtain rfl : i = s.size := by omega
    refine AnsR.good hs hsc.symm ha.sl ?_
    rcases hg with h | h
    · exact Kept.only hk0 ho h
    · exact Kept.trans hk0 (ho.kept fun k h5 h6 => by omega)
  | k + 1, i, w, hi, hsc, ha, ho => by
    have hiL : i / 64 < nW s.size := by unfold nW; omega
    have hb := byte_get (s := s) (i := i) (by omega)
    have hkw : Kept w0 w := by
      rcases hg with h | h
      · exact Kept.only hk0 ho h
      · exact Kept.trans hk0 (ho.kept fun k h5 h6 => by omega)
    unfold thicketref05_Read.l16 thicketref05_Read.g16
    refine onDec_t (by omega) ?_
    refine chk_mk (by omega) ?_
    refine ⟨s[i], hb, ?_⟩
    rw [scan_succ hb] at hsc
    rw [show (49 : Int) = ((49 : UInt8).toNat : Int) from rfl, show (48 : Int) = ((48 : UInt8).toNat : Int) from rfl, byte_ne]
    by_cases h1 : s[i] = 49
    · rw [if_pos (.inl h1)] at hsc
      rw [decide_eq_false (show ¬ s[i] = 48 by rw [h1]; decide)]
      show onBool true _ _
      rw [onBool_t]
      refine chk_mk (by omega) ?_
      refine ⟨s[i], hb, ?_⟩
      rw [byte_ne, decide_eq_true h1]
      show onBool false _ _
      rw [onBool_f]
      refine chk_mk (by omega) ?_
      refine ⟨s[i], hb, ?_⟩
      rw [byte_eq, decide_eq_true h1, onBool_t]
      refine putR ha hiL (by omega) fun u x hx hu mu => ?_
      refine nv_succ (by omega) ?_
      rw [upto_one (by unfold isOne; rw [hb]; simp [h1]) hx] at hu
      exact refRead_loop hs hk0 hg k (i + 1) u (by omega) hsc hu (Only.then ho mu)
    · by_cases h2 : s[i] = 48
      · rw [if_pos (.inr h2)] at hsc
        rw [decide_eq_true h2]
        show onBool false _ _
        rw [onBool_f]
        refine chk_mk (by omega) ?_
        refine ⟨s[i], hb, ?_⟩
        rw [byte_eq, decide_eq_false h1, onBool_f]
        refine nv_succ (by omega) ?_
        refine refRead_loop hs hk0 hg k (i + 1) w (by omega) hsc ?_ ho
        rw [upto_not (by unfold isOne; rw [hb]; simp [h1])]
        exact ha
      · rw [if_neg (fun h => h.elim h1 h2)] at hsc
        rw [decide_eq_false h2]
        show onBool true _ _
        rw [onBool_t]
        refine chk_mk (by omega) ?_
        refine ⟨s[i], hb, ?_⟩
        rw [byte_ne, decide_eq_false h1]
        show onBool true _ _
        rw [onBool_t]
        exact AnsR.bad hs hsc.symm hkw
theorem refRead_c {s : ByteArray} (hmx : s.size ≤ 9223372036854775000) (w : World) : E.CallsD Go.Proofs.Tryd.prog 29 #[.string s] w fun v u => AnsR w u v (readOf s) := by
  refine thicketref05_Read.calls ?_
  unfold thicketref05_Read thicketref05_Read.g0
  by_cases hs : s.size ≤ 1048576
  · refine onDec_f (by omega) ?_
    refine nv_i64 (by omega) (by omega) ?_
    refine nv_div (by omega) (by omega) (by omega) ?_
    refine Arr.make (en := enW) (x := 0#64) rfl (by omega) (by omega) (by omega) fun u1 ha hk1 => ?_
    have e : (((s.size : Int) + 63) / 64).toNat = nW s.size := rfl
    rw [e] at ha ⊢
    rw [← upto_zero] at ha
    exact ⟨s.size + 1, refRead_loop hs hk1 (.inl (Nat.lt_succ_self _)) s.size 0 u1 (by omega) rfl ha (Mod.refl _)⟩
  · refine onDec_t (by omega) ?_
    have e : readOf s = ([], 0, 2, 0) := by unfold readOf; rw [if_pos (by omega)]
    rw [e]
    exact ⟨_, _, _, rfl, Sl.nil _ _, Kept.refl _⟩
end
end Go.Mir
