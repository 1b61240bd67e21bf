/- Part of a proof of laws of the seat YtabmjhhjbifagaaDoor: functions' weakest preconditions, each checked by the kernel, contracts out of them, plain lemmas; no conditions. -/
import Derived.Laws.StructEq
import Derived.Test.YtabmjhhjbifagaaDoorBA
import Derived.Test.YtabmjhhjbifagaaDoorBMB
import Derived.Test.YtabmjhhjbifagaaDoorEB
import Derived.Test.YtabmjhhjbifagaaDoorBSA
import Derived.Test.YtabmjhhjbifagaaDoorBMC
import Derived.Test.YtabmjhhjbifagaaDoorBM8
set_option linter.unusedVariables false
set_option linter.unusedSimpArgs false
namespace Go.Mir
open Go Go.E Go.RowKit Go.Bt
section
variable {w : World} {a b : Option Addr} {n c m d g : Nat} {xs ys : W} {i : Int}
theorem count_mono {xs ys : W} (hl : xs.length = ys.length) (h : ∀ i, bit xs i = true → bit ys i = true) : count xs ≤ count ys := by
  unfold count all
  rw [← List.countP_eq_length_filter, ← List.countP_eq_length_filter, hl]
  exact List.countP_mono_left fun x _ hx => h x hx
theorem bit_zip {xs ys : W} (hl : xs.length = ys.length) (i : Nat) : bit (xs.zipWith (· &&& ·) ys) i = (bit xs i && bit ys i) := by
  unfold bit
  rw [List.getElem?_zipWith]
  by_cases h : i / 64 < xs.length
  · rw [List.getElem?_eq_getElem h, List.getElem?_eq_getElem (hl ▸ h)]
    simp [BitVec.getLsbD_and]
  · rw [List.getElem?_eq_none (by omega), List.getElem?_eq_none (by omega)]
    simp
/-- The law BitsMeets. -/
theorem bitsMeets_law {N f t i : Int} (hT : Tab w) (hx : Sl enW w a n xs) (hm : n ≤ 16777216) (hi : i ≤ 9223372036854775807) : Pure Go.Proofs.Tryd.prog 4 #[.slice a n c, .int .i64 N, .int .i64 f, .int .i64 t, .int .i64 i] w (.bool true) := by
  refine thicketlaw05_BitsMeets.calls (R := fun v' u => v' = _ ∧ Below w.heap.size w u) ?_
  unfold thicketlaw05_BitsMeets thicketlaw05_BitsMeets.g0
  refine E.CallsD.mono (lives_c hT) fun v u1 ⟨hv, k1⟩ => ⟨_, hv, ?_⟩
  show onBool (!true) _ _
  rw [Bool.not_true, onBool_f]
  by_cases hM : okM N f t
  · obtain ⟨p1, p2, p3, p4, p5⟩ := hM
    refine E.CallsD.mono (Mask_ok p1 p2 p3 p4 p5 u1) fun v u2 ⟨am, cm, hv, gm, ham, hgm, k2⟩ => ⟨_, _, _, _, hv, ?_⟩
    refine onNe_f (by omega) ?_
    have k12 := Kept.trans k1 k2
    refine E.CallsD.mono (copied_c (hx.keep k12) hm) fun v u3 ⟨ac, cc, hv, gc, hac, hgc, k3⟩ => ⟨_, _, _, hv, ?_⟩
    have k13 := Kept.trans k12 k3
    have hlm := ham.le
    by_cases hne : n = nW N
    · subst hne
      have hlx := hx.len
      refine E.CallsD.mono (Meet_c hac (fun u ho => ((ham.kept k3).mod ho fun k h4 h5 => by omega).sl) (by have := nW_le p2; omega)) fun v u4 ⟨hv, hb, ho⟩ => ⟨_, hv, ?_⟩
      have k34 : Kept u2 u4 := by
        rcases hgc with h | h
        · exact Kept.only k3 ho h
        · exact Kept.trans k3 (ho.kept fun k h5 h6 => by omega)
      have k14 := Kept.trans k12 k34
      refine onNe_f (by omega) ?_
      have hbl : (List.zipWith (fun x y => x &&& y) xs (maskB N f t)).length = xs.length := by simp [maskB]; omega
      refine E.CallsD.mono (Has_c (i := i) hb.sl hi) fun v u5 ⟨hv, k5⟩ => ⟨_, hv, ?_⟩
      refine E.CallsD.mono (Has_c (i := i) (hx.keep (Kept.trans k14 k5)) hi) fun v u6 ⟨hv, k6⟩ => ⟨_, hv, ?_⟩
      have k46 := Kept.trans k5 k6
      have tail : E.CallsD Go.Proofs.Tryd.prog 25 #[.slice ac (nW N) cc] u6 fun yv67 u68 => ∃ yx_69 : Int, yv67 = .int .i64 yx_69 ∧ (E.CallsD Go.Proofs.Tryd.prog 25 #[.slice a (nW N) c] u68 fun yv70 u71 => ∃ yx_72 : Int, yv70 = .int .i64 yx_72 ∧ ((fun v' u => v' = Value.bool true ∧ Below w.heap.size w u) (.bool (decide (yx_69 ≤ yx_72))) u71)) := by
        refine E.CallsD.mono (Count_c (hb.sl.keep k46) hm) fun v u7 ⟨hv, k7⟩ => ⟨_, hv, ?_⟩
        have k67 := Kept.trans k46 k7
        refine E.CallsD.mono (Count_c (hx.keep (Kept.trans k14 k67)) hm) fun v u8 ⟨hv, k8⟩ => ⟨_, hv, ?_, Kept.trans k14 (Kept.trans k67 k8)⟩
        rw [decide_eq_true]
        have := count_mono hbl fun j hj => by rw [bit_zip (by simp [maskB]; omega)] at hj; exact (Bool.and_eq_true_iff.1 hj).1
        omega
      have hh : has (List.zipWith (fun x y => x &&& y) xs (maskB N f t)) i = (has xs i && (decide (i < N) && !(decide (f ≤ i) && decide (i < t)))) := by
        unfold has
        by_cases h0 : 0 ≤ i
        · rw [decide_eq_true h0, bit_zip (by simp [maskB]; omega)]
          unfold maskB
          rw [bit_ofB, show ((i.toNat : Nat) : Int) = i from by omega]
          simp only [Bool.true_and]
          by_cases h1 : i < N
          · rw [decide_eq_true (show i.toNat < 64 * nW N by unfold nW; omega), Bool.true_and]
          · simp [h1]
        · rw [decide_eq_false h0]; rfl
      rw [hh]
      refine onBool_mk (fun hb1 => ?_) (fun hb1 => ?_)
      · rw [hb1, Bool.true_and]
        have h0 : 0 ≤ i := by
          unfold has at hb1
          exact of_decide_eq_true (Bool.and_eq_true_iff.1 hb1).1
        refine onDec_t (by omega) ?_
        refine onDec (fun h1 => onDec (fun h2 => ?_) (fun h2 => ?_)) (fun h1 => ?_)
        · rw [show (decide (i < N) && !(decide (f ≤ i) && decide (i < t))) = true from by simp; omega]
          exact tail
        · rw [show ((decide (i < N) && !(decide (f ≤ i) && decide (i < t))) == decide (i ≥ t)) = true from by
            rw [beq_iff_eq]
            by_cases h3 : i < t
            · rw [decide_eq_true h1, decide_eq_true (show f ≤ i by omega), decide_eq_true h3, decide_eq_false (show ¬ i ≥ t by omega)]; rfl
            · rw [decide_eq_true h1, decide_eq_false h3, decide_eq_true (show i ≥ t by omega), Bool.and_false]; rfl]
          exact tail
        · rw [show ((decide (i < N) && !(decide (f ≤ i) && decide (i < t))) == false) = true from by simp [h1]]
          exact tail
      · rw [hb1]
        exact tail
    · refine E.CallsD.mono (Meet_no hne) fun v u4 ⟨hv, k4⟩ => ⟨_, hv, ?_⟩
      refine onNe_t (by omega) ?_
      refine onEq_t (by omega) ?_
      refine ⟨?_, Kept.trans k13 k4⟩
      have : ((n : Int) != (nW N : Int)) = true := by simp; omega
      rw [this]
  · refine E.CallsD.mono (Mask_no (n := N) (f := f) (t := t) (by unfold okM at hM; omega) u1) fun v u2 ⟨hv, k2⟩ => ⟨_, _, _, _, hv, ?_⟩
    refine onNe_t (by omega) ?_
    have r : (fun v' u => v' = Value.bool true ∧ Below w.heap.size w u) (.bool true) u2 := ⟨rfl, Kept.trans k1 k2⟩
    refine onDec (fun _ => r) fun _ => onDec (fun _ => r) fun _ => onDec (fun _ => r) fun _ => onDec (fun _ => r) fun _ => ?_
    rw [decide_eq_true (show t > N by unfold okM at hM; omega)]
    exact r
end
end Go.Mir

namespace Go.Mir
open Go Go.E Go.RowKit Go.Bt
section
variable {w : World} {a b : Option Addr} {n c m d g : Nat} {xs ys : W}
/-- One bit is put into an own set: the program's text; the document's. -/
theorem putP {K : World → Prop} {i : Nat} (ha : Arr enW 56 w a n c xs g) (hi : i / 64 < n) (hb : i ≤ 4611686018427387904) (hk : ∀ u x, xs[i / 64]? = some x → Arr enW 56 u a n c (xs.set (i / 64) (x ||| BitVec.twoPow 64 (i % 64))) g → Only g w u → K u) :
    nv (IntKind.i64.wrap (Int.tdiv (i : Int) 64)) fun t18 => optN a fun q19 => chk ((0 : Int) ≤ t18 ∧ t18 < (n : Int)) (∃ yx_20 : Int, w.cell? (q19.add (t18.toNat * 1)) = some (.int .u64 yx_20) ∧
      (nv (Int.tmod (i : Int) 64) fun t21 => nchk (t21 < 0) (nv (IntKind.u64.wrap (1 * 2 ^ (min t21.toNat 64))) fun t22 => nv (bitsI .or .u64 yx_20 t22) fun t23 => optN a fun q24 =>
        chk ((0 : Int) ≤ t18 ∧ t18 < (n : Int)) (okSt w ((q24.add (t18.toNat * 1)).add 0) ∧ nw (w.setCell ((q24.add (t18.toNat * 1)).add 0) (.int .u64 t23)) K)))) := by
  refine nv_div (by omega) (by omega) (by omega) ?_
  refine Sl.rdW ha.sl (fun _ => rfl) (by omega) (by omega) fun x hx => ?_
  refine nv_mod (by omega) ?_
  refine nchk_mk (by omega) ?_
  rw [shl1]
  refine nv_mk rfl ?_
  rw [or64]
  refine nv_mk rfl ?_
  refine Arr.wr ha (by omega) (by omega) (x := x ||| BitVec.twoPow 64 (((i : Int) % 64).toNat)) rfl fun u hu mu => ?_
  rw [show ((i : Int) / 64).toNat = i / 64 from by omega] at hx hu
  rw [show ((i : Int) % 64).toNat = i % 64 from by omega] at hu
  exact hk u x hx hu mu
theorem putR {K : World → Prop} {i : Nat} (ha : Arr enW 56 w a n c xs g) (hi : i / 64 < n) (hb : i ≤ 4611686018427387904) (hk : ∀ u x, xs[i / 64]? = some x → Arr enW 56 u a n c (xs.set (i / 64) (x ||| BitVec.twoPow 64 (i % 64))) g → Only g w u → K u) :
    nv (IntKind.i64.wrap (Int.tdiv (i : Int) 64)) fun t17 => nv (IntKind.i64.wrap (Int.tdiv (i : Int) 64)) fun t18 => optN a fun q19 => chk ((0 : Int) ≤ t18 ∧ t18 < (n : Int)) (∃ yx_20 : Int, w.cell? (q19.add (t18.toNat * 1)) = some (.int .u64 yx_20) ∧
      (nv (Int.tmod (i : Int) 64) fun t20 => nv (IntKind.u64.wrap t20) fun t21 => nchk (t21 < 0) (nv (IntKind.u64.wrap (1 * 2 ^ (min t21.toNat 64))) fun t22 => nv (bitsI .or .u64 yx_20 t22) fun t23 => optN a fun q24 =>
        chk ((0 : Int) ≤ t17 ∧ t17 < (n : Int)) (okSt w ((q24.add (t17.toNat * 1)).add 0) ∧ nw (w.setCell ((q24.add (t17.toNat * 1)).add 0) (.int .u64 t23)) K)))) := by
  refine nv_div (by omega) (by omega) (by omega) ?_
  refine nv_div (by omega) (by omega) (by omega) ?_
  refine Sl.rdW ha.sl (fun _ => rfl) (by omega) (by omega) fun x hx => ?_
  refine nv_mod (by omega) ?_
  refine nv_u64 (by omega) (by omega) ?_
  refine nchk_mk (by omega) ?_
  rw [shl1]
  refine nv_mk rfl ?_
  rw [or64]
  refine nv_mk rfl ?_
  refine Arr.wr ha (by omega) (by omega) (x := x ||| BitVec.twoPow 64 (((i : Int) % 64).toNat)) rfl fun u hu mu => ?_
  rw [show ((i : Int) / 64).toNat = i / 64 from by omega] at hx hu
  rw [show ((i : Int) % 64).toNat = i % 64 from by omega] at hu
  exact hk u x hx hu mu

/-! ### Read -/
def scan (s : ByteArray) : Nat → Nat → Option Nat
  | 0, _ => none
  | k + 1, i => match s[i]? with
    | some b => if b = 49 ∨ b = 48 then scan s k (i + 1) else some i
    | none => some i
def isOne (s : ByteArray) (i : Nat) : Bool := match s[i]? with
  | some b => decide (b = 49)
  | none => false
def readOf (s : ByteArray) : W × Int × Int × Int := if 1048576 < s.size then ([], 0, 2, 0) else match scan s s.size 0 with
  | some i => ([], 0, 50, i)
  | none => (ofB (nW s.size) (isOne s), s.size, 0, 0)
def AnsR (w u : World) (v : Value) (r : W × Int × Int × Int) : Prop := ∃ a n c, v = .tuple #[.slice a n c, .int .i64 r.2.1, .int .i64 r.2.2.1, .int .i64 r.2.2.2] ∧ Sl enW u a n r.1 ∧ Kept w u
/-- What is read before byte i. -/
def upto (s : ByteArray) (i : Nat) : W := ofB (nW s.size) fun j => decide (j < i) && isOne s j
theorem upto_zero (s : ByteArray) : upto s 0 = List.replicate (nW s.size) 0#64 := by
  rw [zeros]; unfold upto; congr 1
theorem upto_full (s : ByteArray) : upto s s.size = ofB (nW s.size) (isOne s) := by
  unfold upto; congr 1; funext j
  by_cases h : j < s.size
  · simp [h]
  · have : isOne s j = false := by
      unfold isOne
      have : s[j]? = none := getElem?_neg s j h
      rw [this]
    simp [this]
theorem upto_one {s : ByteArray} {i : Nat} {x : BitVec 64} (h : isOne s i = true) (hx : (upto s i)[i / 64]? = some x) : (upto s i).set (i / 64) (x ||| BitVec.twoPow 64 (i % 64)) = upto s (i + 1) := by
  unfold upto at hx ⊢
  rw [put_step hx]
  congr 1
  funext j
  by_cases hj : j = i
  · subst hj; simp [h]
  · simp only [hj, decide_false, Bool.or_false]
    congr 1
    exact decide_eq_decide.2 (by omega)
theorem upto_not {s : ByteArray} {i : Nat} (h : isOne s i = false) : upto s (i + 1) = upto s i := by
  unfold upto
  congr 1
  funext j
  by_cases hj : j = i
  · subst hj; simp [h]
  · congr 1
    exact decide_eq_decide.2 (by omega)
theorem byte_get {s : ByteArray} {i : Nat} (h : i < s.size) : s[i]? = some s[i] := getElem?_pos s i h
theorem byte_eq {b : UInt8} {k : UInt8} : ((b.toNat : Int) == (k.toNat : Int)) = decide (b = k) := by
  rw [Bool.eq_iff_iff, beq_iff_eq, decide_eq_true_iff]
  constructor
  · intro h; exact UInt8.toNat.inj (by omega)
  · rintro rfl; rfl
theorem byte_ne {b : UInt8} {k : UInt8} : ((b.toNat : Int) != (k.toNat : Int)) = !decide (b = k) := by
  rw [bne, byte_eq]
theorem scan_succ {s : ByteArray} {k i : Nat} {b : UInt8} (hb : s[i]? = some b) : scan s (k + 1) i = if b = 49 ∨ b = 48 then scan s k (i + 1) else some i := by
  rw [scan, hb]
theorem AnsR.bad {w u : World} {s : ByteArray} {i : Nat} (hs : s.size ≤ 1048576) (h : scan s s.size 0 = some i) (hk : Kept w u) : AnsR w u (.tuple #[.slice none 0 0, .int .i64 0, .int .i64 50, .int .i64 i]) (readOf s) := by
  have e : readOf s = ([], 0, 50, (i : Int)) := by unfold readOf; rw [if_neg (by omega), h]
  rw [e]
  exact ⟨_, _, _, rfl, Sl.nil _ _, hk⟩
theorem AnsR.good {w u : World} {s : ByteArray} {a : Option Addr} {c : Nat} (hs : s.size ≤ 1048576) (h : scan s s.size 0 = none) (hs2 : Sl enW u a (nW s.size) (upto s s.size)) (hk : Kept w u) : AnsR w u (.tuple #[.slice a (nW s.size) c, .int .i64 s.size, .int .i64 0, .int .i64 0]) (readOf s) := by
  have e : readOf s = (ofB (nW s.size) (isOne s), (s.size : Int), 0, 0) := by unfold readOf; rw [if_neg (by omega), h]
  rw [e]
  exact ⟨_, _, _, rfl, by rwa [upto_full] at hs2, hk⟩
theorem Read_loop {w0 w1 : World} {s : ByteArray} {a : Option Addr} {c g : Nat} (hs : s.size ≤ 1048576) (hk0 : Kept w0 w1) (hg : w0.heap.size < g ∨ g = 0) :
    ∀ (k i : Nat) (w : World), i + k = s.size → scan s k i = scan s s.size 0 → Arr enW 56 w a (nW s.size) c (upto s i) g → Only g w1 w → bits_Read.l16 (fun v u => AnsR w0 u v (readOf s)) (k + 1) s a (nW s.size) c s.size i w
  | 0, i, w, hi, hsc, ha, ho => by
    unfold bits_Read.l16 bits_Read.g16
    refine onDec_f (by omega) ?_
    obtain rfl : i = s.size := by omega
    refine AnsR.good hs hsc.symm ha.sl ?_
    rcases hg with h | h
    · exact Kept.only hk0 ho h
    · exact Kept.trans hk0 (ho.kept fun k h5 h6 => by omega)
  | k + 1, i, w, hi, hsc, ha, ho => by
    have hiL : i / 64 < nW s.size := by unfold nW; omega
    have hb := byte_get (s := s) (i := i) (by omega)
    have hkw : Kept w0 w := by
      rcases hg with h | h
      · exact Kept.only hk0 ho h
      · exact Kept.trans hk0 (ho.kept fun k h5 h6 => by omega)
    unfold bits_Read.l16 bits_Read.g16
    refine onDec_t (by omega) ?_
    refine chk_mk (by omega) ?_
    refine ⟨s[i], hb, ?_⟩
    rw [scan_succ hb] at hsc
    rw [show (49 : Int) = ((49 : UInt8).toNat : Int) from rfl, show (48 : Int) = ((48 : UInt8).toNat : Int) from rfl, byte_eq, byte_eq]
    refine onBool_mk (fun h1 => ?_) (fun h1 => ?_)
    · have h1 := of_decide_eq_true h1
      rw [if_pos (.inl h1)] at hsc
      refine putP ha hiL (by omega) fun u x hx hu mu => ?_
      refine nv_succ (by omega) ?_
      rw [upto_one (by unfold isOne; rw [hb]; simp [h1]) hx] at hu
      exact Read_loop hs hk0 hg k (i + 1) u (by omega) hsc hu (Only.then ho mu)
    · have h1 := of_decide_eq_false h1
      refine onBool_mk (fun h2 => ?_) (fun h2 => ?_)
      · have h2 := of_decide_eq_true h2
        rw [if_pos (.inr h2)] at hsc
        refine nv_succ (by omega) ?_
        refine Read_loop hs hk0 hg k (i + 1) w (by omega) hsc ?_ ho
        rw [upto_not (by unfold isOne; rw [hb]; simp [h1])]
        exact ha
      · have h2 := of_decide_eq_false h2
        rw [if_neg (fun h => h.elim h1 h2)] at hsc
        exact AnsR.bad hs hsc.symm hkw
theorem Read_c {s : ByteArray} (w : World) : E.CallsD Go.Proofs.Tryd.prog 28 #[.string s] w fun v u => AnsR w u v (readOf s) := by
  refine bits_Read.calls ?_
  unfold bits_Read bits_Read.g0
  by_cases hs : s.size ≤ 1048576
  · refine E.CallsD.mono (Empty_ok (n := s.size) (by omega) (by omega) w) fun v u ⟨a, c, hv, g, ha, hg, hk⟩ => ⟨_, _, _, _, hv, ?_⟩
    refine onNe_f (by omega) ?_
    rw [← zeros, ← upto_zero] at ha
    exact ⟨s.size + 1, Read_loop hs hk hg s.size 0 u (by omega) rfl ha (Mod.refl _)⟩
  · refine E.CallsD.mono (Empty_no (n := s.size) (by omega) w) fun v u ⟨hv, hk⟩ => ⟨_, _, _, _, hv, ?_⟩
    refine onNe_t (by omega) ?_
    have e : readOf s = ([], 0, 2, 0) := by unfold readOf; rw [if_pos (by omega)]
    rw [e]
    exact ⟨_, _, _, rfl, Sl.nil _ _, hk⟩
theorem refRead_loop {w0 w1 : World} {s : ByteArray} {a : Option Addr} {c g : Nat} (hs : s.size ≤ 1048576) (hk0 : Kept w0 w1) (hg : w0.heap.size < g ∨ g = 0) :
    ∀ (k i : Nat) (w : World), i + k = s.size → scan s k i = scan s s.size 0 → Arr enW 56 w a (nW s.size) c (upto s i) g → Only g w1 w → thicketref05_Read.l16 (fun v u => AnsR w0 u v (readOf s)) (k + 1) s a (nW s.size) c i w
  | 0, i, w, hi, hsc, ha, ho => by
    unfold thicketref05_Read.l16 thicketref05_Read.g16
    refine onDec_f (by omega) ?_
    obtain rfl : i = s.size := by omega
    refine AnsR.good hs hsc.symm ha.sl ?_
    rcases hg with h | h
    · exact Kept.only hk0 ho h
    · exact Kept.trans hk0 (ho.kept fun k h5 h6 => by omega)
  | k + 1, i, w, hi, hsc, ha, ho => by
    have hiL : i / 64 < nW s.size := by unfold nW; omega
    have hb := byte_get (s := s) (i := i) (by omega)
    have hkw : Kept w0 w := by
      rcases hg with h | h
      · exact Kept.only hk0 ho h
      · exact Kept.trans hk0 (ho.kept fun k h5 h6 => by omega)
    unfold thicketref05_Read.l16 thicketref05_Read.g16
    refine onDec_t (by omega) ?_
    refine chk_mk (by omega) ?_
    refine ⟨s[i], hb, ?_⟩
    rw [scan_succ hb] at hsc
    rw [show (49 : Int) = ((49 : UInt8).toNat : Int) from rfl, show (48 : Int) = ((48 : UInt8).toNat : Int) from rfl, byte_ne]
    by_cases h1 : s[i] = 49
    · rw [if_pos (.inl h1)] at hsc
      rw [decide_eq_false (show ¬ s[i] = 48 by rw [h1]; decide)]
      show onBool true _ _
      rw [onBool_t]
      refine chk_mk (by omega) ?_
      refine ⟨s[i], hb, ?_⟩
      rw [byte_ne, decide_eq_true h1]
      show onBool false _ _
      rw [onBool_f]
      refine chk_mk (by omega) ?_
      refine ⟨s[i], hb, ?_⟩
      rw [byte_eq, decide_eq_true h1, onBool_t]
      refine putR ha hiL (by omega) fun u x hx hu mu => ?_
      refine nv_succ (by omega) ?_
      rw [upto_one (by unfold isOne; rw [hb]; simp [h1]) hx] at hu
      exact refRead_loop hs hk0 hg k (i + 1) u (by omega) hsc hu (Only.then ho mu)
    · by_cases h2 : s[i] = 48
      · rw [if_pos (.inr h2)] at hsc
        rw [decide_eq_true h2]
        show onBool false _ _
        rw [onBool_f]
        refine chk_mk (by omega) ?_
        refine ⟨s[i], hb, ?_⟩
        rw [byte_eq, decide_eq_false h1, onBool_f]
        refine nv_succ (by omega) ?_
        refine refRead_loop hs hk0 hg k (i + 1) w (by omega) hsc ?_ ho
        rw [upto_not (by unfold isOne; rw [hb]; simp [h1])]
        exact ha
      · rw [if_neg (fun h => h.elim h1 h2)] at hsc
        rw [decide_eq_false h2]
        show onBool true _ _
        rw [onBool_t]
        refine chk_mk (by omega) ?_
        refine ⟨s[i], hb, ?_⟩
        rw [byte_ne, decide_eq_false h1]
        show onBool true _ _
        rw [onBool_t]
        exact AnsR.bad hs hsc.symm hkw
theorem refRead_c {s : ByteArray} (hmx : s.size ≤ 9223372036854775000) (w : World) : E.CallsD Go.Proofs.Tryd.prog 29 #[.string s] w fun v u => AnsR w u v (readOf s) := by
  refine thicketref05_Read.calls ?_
  unfold thicketref05_Read thicketref05_Read.g0
  by_cases hs : s.size ≤ 1048576
  · refine onDec_f (by omega) ?_
    refine nv_i64 (by omega) (by omega) ?_
    refine nv_div (by omega) (by omega) (by omega) ?_
    refine Arr.make (en := enW) (x := 0#64) rfl (by omega) (by omega) (by omega) fun u1 ha hk1 => ?_
    have e : (((s.size : Int) + 63) / 64).toNat = nW s.size := rfl
    rw [e] at ha ⊢
    rw [← upto_zero] at ha
    exact ⟨s.size + 1, refRead_loop hs hk1 (.inl (Nat.lt_succ_self _)) s.size 0 u1 (by omega) rfl ha (Mod.refl _)⟩
  · refine onDec_t (by omega) ?_
    have e : readOf s = ([], 0, 2, 0) := by unfold readOf; rw [if_pos (by omega)]
    rw [e]
    exact ⟨_, _, _, rfl, Sl.nil _ _, Kept.refl _⟩
end
end Go.Mir

namespace Go.Mir
open Go Go.E Go.RowKit Go.Bt
section
variable {w : World} {a b : Option Addr} {n c m d g : Nat} {xs ys : W}
def NewK {α : Type} (k : Nat) (en : α → List Value) (e : Nat) (w u : World) (a : Option Addr) (n c : Nat) (xs : List α) : Prop := ∃ g, ArrK k en e u a n c xs g ∧ (w.heap.size < g ∨ g = 0) ∧ Kept w u
theorem S_R : SliceT Go.Proofs.Tryd.prog 44 58 2 16 := sliceT (by kernel_rfl)
/-- What is kept where a row of one's own is written. -/
theorem Kept.own {w w1 u : World} {g : Nat} (h : Kept w w1) (ho : Only g w1 u) (hg : w.heap.size < g ∨ g = 0) : Kept w u := by
  rcases hg with hg | hg
  · exact Kept.only h ho hg
  · exact Kept.trans h (ho.kept fun k h5 h6 => by omega)
theorem runsTo_ge {xs : W} {i : Nat} : ∀ d, 64 * xs.length ≤ i → runsTo xs (i + d) = runsTo xs i
  | 0, _ => rfl
  | d + 1, h => by rw [← Nat.add_assoc, runsTo_no (bit_out (by omega)), runsTo_ge d h]

/-! ### Runs -/
theorem Runs_in {R : Value → World → Prop} {b10 : Option Addr → Nat → Nat → Option Addr → Nat → Nat → Int → Int → World → Prop} {w0 : World} {a : Option Addr} {n c f : Nat} {b : Option Addr} {m d g : Nat} (hx : Sl enW w0 a n xs) (hm : n ≤ 16777216)
    (hl : ∀ r, (runsTo xs f).getLast? = some r → r.2 < f) (hf : bit xs f = true) (hg : w0.heap.size < g ∨ g = 0)
    (H : ∀ (j : Nat) a' m' d' g' u, f < j → j ≤ 64 * n → (∀ r, (runsTo xs (j + 1)).getLast? = some r → r.2 < (j + 1 : Nat)) → ArrK 2 enR 58 u a' m' d' (runsTo xs (j + 1)) g' → (w0.heap.size < g' ∨ g' = 0) → Kept w0 u → b10 a n c a' m' d' (64 * n : Nat) (j + 1 : Nat) u) :
    ∀ (k j : Nat) (w : World), j + k = 64 * n → f ≤ j → (∀ i, f ≤ i → i < j → bit xs i = true) → ArrK 2 enR 58 w b m d (runsTo xs f) g → Kept w0 w → bits_Runs.l29 R b10 (k + 1) a n c b m d (64 * n : Nat) j f w := by
  have hn := hx.len
  have fin : ∀ (j : Nat) (w : World), f < j → j ≤ 64 * n → (∀ i, f ≤ i → i < j → bit xs i = true) → bit xs j = false → ArrK 2 enR 58 w b m d (runsTo xs f) g → Kept w0 w →
      nw (w.alloc (.cells #[.int .i64 f, .int .i64 j] 58)) fun w28 => rawN Go.Proofs.Tryd.prog (Builtin.append_ #[44, 44] 44 #[.slice b m d, .slice (some (na w)) 1 1]) w28 fun yv29 u30 =>
        ∃ ya_31 : Option Addr, ∃ yn_31 : Nat, ∃ yc_31 : Nat, yv29 = .slice ya_31 yn_31 yc_31 ∧ (nv (IntKind.i64.wrap ((j : Int) + 1)) fun t32 => b10 a n c ya_31 yn_31 yc_31 (64 * n : Nat) t32 u30) := by
    intro j w hfj hj hb hbj ha hk
    have hml := ha.len2
    have hrl := runs_len xs f
    have hff : f < 64 * xs.length := by
      apply Nat.lt_of_not_le
      intro hle
      rw [bit_out hle] at hf
      cases hf
    refine ArrK.push S_R (fun _ => rfl) (by omega) ha (x := ((f : Int), (j : Int))) rfl (by simp [Value.oneCell']) (by simp only [maxLen]; omega) (by omega) fun a' c' g' u h1 h2 h3 h4 => ⟨_, _, _, rfl, ?_⟩
    refine nv_succ (by omega) ?_
    have e := runsTo_run hl (j - f) (by omega) (fun i h5 h6 => hb i h5 (by omega))
    rw [show f + (j - f) = j from by omega] at e
    have hsz := hk.size
    refine H j a' (m + 1) c' g' u hfj hj ?_ (by rw [runsTo_no hbj, e]; exact h1) (by omega) (Kept.own hk h4 hg)
    intro r hr
    rw [runsTo_no hbj] at hr
    have := runsTo_last hr
    omega
  intro k
  induction k with
  | zero =>
    intro j w hj hfj hb ha hk
    unfold bits_Runs.l29 bits_Runs.g29
    refine onDec_f (by omega) ?_
    have hne : f ≠ j := by rintro rfl; rw [bit_out (by omega)] at hf; cases hf
    exact fin j w (by omega) (by omega) hb (bit_out (by omega)) ha hk
  | succ k ih =>
    intro j w hj hfj hb ha hk
    unfold bits_Runs.l29 bits_Runs.g29
    refine onDec_t (by omega) ?_
    refine E.CallsD.mono (Has_c (hx.keep hk) (by omega)) fun v u ⟨hv, hu⟩ => ⟨_, hv, ?_⟩
    rw [show has xs (j : Int) = bit xs j from by unfold has; simp]
    refine onBool_mk (fun hbj => ?_) (fun hbj => ?_)
    · refine nv_succ (by omega) ?_
      refine ih (j + 1) u (by omega) (by omega) (fun i h1 h2 => ?_) (ha.kept hu) (Kept.trans hk hu)
      by_cases h : i = j
      · subst h; exact hbj
      · exact hb i h1 (by omega)
    · have hne : f ≠ j := by rintro rfl; rw [hbj] at hf; cases hf
      exact fin j u (by omega) (by omega) hb hbj (ha.kept hu) (Kept.trans hk hu)
theorem Runs_out {R : Value → World → Prop} {w0 : World} {a : Option Addr} {n c : Nat} (hx : Sl enW w0 a n xs) (hm : n ≤ 16777216)
    (hR : ∀ a' m' d' g' u, ArrK 2 enR 58 u a' m' d' (runsOf xs) g' → (w0.heap.size < g' ∨ g' = 0) → Kept w0 u → R (.slice a' m' d') u) :
    ∀ (k i : Nat) (b : Option Addr) (m d g : Nat) (w : World), 64 * n + 1 < i + k → i ≤ 64 * n + 1 → (∀ r, (runsTo xs i).getLast? = some r → r.2 < i) → ArrK 2 enR 58 w b m d (runsTo xs i) g → (w0.heap.size < g ∨ g = 0) → Kept w0 w →
      bits_Runs.l10 R k a n c b m d (64 * n : Nat) i w
  | 0, i, b, m, d, g, w, h1, h2, hl, ha, hg, hk => by omega
  | k + 1, i, b, m, d, g, w, h1, h2, hl, ha, hg, hk => by
    have hn := hx.len
    unfold bits_Runs.l10 bits_Runs.g10
    refine onDec (fun hlt => ?_) (fun hge => ?_)
    · refine E.CallsD.mono (Has_c (hx.keep hk) (by omega)) fun v u ⟨hv, hu⟩ => ⟨_, hv, ?_⟩
      rw [show has xs (i : Int) = bit xs i from by unfold has; simp]
      cases hb : bit xs i with
      | false =>
        show onBool true _ _
        rw [onBool_t]
        refine nv_succ (by omega) ?_
        refine Runs_out hx hm hR k (i + 1) b m d g u (by omega) (by omega) (fun r hr => ?_) (by rw [runsTo_no hb]; exact ha.kept hu) hg (Kept.trans hk hu)
        rw [runsTo_no hb] at hr
        have := hl r hr
        omega
      | true =>
        show onBool false _ _
        rw [onBool_f]
        refine ⟨64 * n - i + 1, Runs_in hx hm hl hb hg (fun j a' m' d' g' u' h3 h4 h5 h6 h7 h8 => ?_) (64 * n - i) i u (by omega) (Nat.le_refl _) (fun j h3 h4 => by omega) (ha.kept hu) (Kept.trans hk hu)⟩
        exact Runs_out hx hm hR k (j + 1) a' m' d' g' u' (by omega) (by omega) h5 h6 h7 h8
    · obtain ⟨e, rfl⟩ : ∃ e, i = 64 * xs.length + e := ⟨i - 64 * xs.length, by omega⟩
      rw [runsTo_ge e (Nat.le_refl _), ← runsOf_to] at ha
      exact hR _ _ _ g w ha hg hk
theorem Runs_c (hx : Sl enW w a n xs) (hm : n ≤ 16777216) : E.CallsD Go.Proofs.Tryd.prog 37 #[.slice a n c] w fun v u => ∃ a' n' c', v = .slice a' n' c' ∧ NewK 2 enR 58 w u a' n' c' (runsOf xs) := by
  refine bits_Runs.calls ?_
  unfold bits_Runs bits_Runs.g0
  refine nv_mk (y := ((64 * n : Nat) : Int)) (by rw [i64_id (by omega) (by omega)]; omega) ?_
  refine ⟨64 * n + 2, Runs_out hx hm (fun a' m' d' g' u h1 h2 h3 => ⟨_, _, _, rfl, g', h1, h2, h3⟩) (64 * n + 2) 0 none 0 0 0 w (by omega) (by omega) (fun r hr => by simp [runsTo] at hr) (ArrK.nil _ _ _ _) (by omega) (Kept.refl _)⟩

/-! ### the document's Runs -/
theorem getLast_at {α : Type} {l : List α} {r : α} (h : l.getLast? = some r) : 0 < l.length ∧ l[l.length - 1]? = some r := by
  have hp : 0 < l.length := by cases l with
    | nil => cases h
    | cons x l => simp
  exact ⟨hp, by rwa [List.getLast?_eq_getElem?] at h⟩
theorem foldl_take {α β : Type} {f : β → α → β} {b : β} {l : List α} {i : Nat} {x : α} (h : l[i]? = some x) : (l.take (i + 1)).foldl f b = f ((l.take i).foldl f b) x := by
  rw [List.take_add_one, h, List.foldl_append]
  rfl
theorem fold_len : ∀ (l : List Nat) (out : Rs), (l.foldl stepR out).length ≤ out.length + l.length
  | [], out => by simp
  | x :: l, out => by
    rw [List.foldl_cons]
    have := fold_len l (stepR out x)
    have h2 : (stepR out x).length ≤ out.length + 1 := by
      unfold stepR
      split
      · split <;> simp <;> omega
      · simp
    simp only [List.length_cons]
    omega
theorem stepR_some {out : Rs} {r : Int × Int} (h : out.getLast? = some r) (x : Nat) : stepR out x = if r.2 = x then out.dropLast ++ [(r.1, (x : Int) + 1)] else out ++ [((x : Int), (x : Int) + 1)] := by
  unfold stepR
  rw [h]
theorem refRuns_loop {R : Value → World → Prop} {w0 : World} {l : List Nat} {a : Option Addr} {n c g0 : Nat} (hn : n ≤ 1073741824) (hb : ∀ x ∈ l, x ≤ 1073741824)
    (hR : ∀ a' m' d' g' u, ArrK 2 enR 58 u a' m' d' (l.foldl stepR []) g' → (w0.heap.size < g' ∨ g' = 0) → Kept w0 u → R (.slice a' m' d') u) :
    ∀ (k i : Nat) (b : Option Addr) (m d g : Nat) (w : World), i + k = n → ArrK 2 enR 58 w b m d ((l.take i).foldl stepR []) g → (w0.heap.size < g ∨ g = 0) → g ≠ g0 ∨ g = 0 → g0 ≤ w.heap.size → Arr enN 3 w a n c l g0 → Kept w0 w → thicketref05_Runs.l8 R (k + 1) b m d a n c n i w
  | 0, i, b, m, d, g, w, hi, ha, hg, hg0, hle, hx, hk => by
    unfold thicketref05_Runs.l8 thicketref05_Runs.g8
    refine onDec_f (by omega) ?_
    rw [List.take_of_length_le (by have := hx.len; omega)] at ha
    exact hR _ _ _ g w ha hg hk
  | k + 1, i, b, m, d, g, w, hi, ha, hg, hg0, hle, hx, hk => by
    have hml := ha.len2
    have hfl := fold_len (l.take i) []
    simp only [List.length_nil, List.length_take, Nat.zero_add] at hfl
    have hll := hx.len
    unfold thicketref05_Runs.l8 thicketref05_Runs.g8
    refine onDec_t (by omega) ?_
    refine Sl.rdN hx.sl (by omega) (by omega) fun x hxi => ?_
    rw [Int.toNat_natCast] at hxi
    have hxb := hb x (List.mem_of_getElem? hxi)
    have hft := foldl_take (f := stepR) (b := []) hxi
    have push : ∀ (ha2 : (l.take (i + 1)).foldl stepR [] = (l.take i).foldl stepR [] ++ [((x : Int), (x : Int) + 1)]), thicketref05_Runs.j21 R (thicketref05_Runs.l8 R (k + 1)) b m d x a n c n i false w := by
      intro ha2
      unfold thicketref05_Runs.j21 thicketref05_Runs.g21
      rw [onBool_f]
      refine nv_i64 (by omega) (by omega) ?_
      refine ArrK.push S_R (fun _ => rfl) (by omega) ha (x := ((x : Int), (x : Int) + 1)) rfl (by simp [Value.oneCell']) (by simp only [maxLen]; omega) (by omega) fun a' c' g' u h1 h2 h3 h4 => ⟨_, _, _, rfl, ?_⟩
      refine nv_succ (by omega) ?_
      have hsz := hk.size
      have hsz2 := h4.size
      exact refRuns_loop hn hb hR k (i + 1) a' (m + 1) c' g' u (by omega) (by rw [ha2]; exact h1) (by omega) (by omega) (by omega) (hx.mod h4 fun k h5 h6 => by omega) (Kept.own hk h4 hg)
    by_cases hm0 : m = 0
    · refine onDec_f (by omega) ?_
      have e : (l.take i).foldl stepR [] = [] := List.eq_nil_of_length_eq_zero (by omega)
      refine push ?_
      rw [hft, e]
      rfl
    · refine onDec_t (by omega) ?_
      refine nv_i64 (by omega) (by omega) ?_
      refine SlK.rdSnd ha.slk2 (by omega) (by omega) fun r hr => ?_
      rw [show ((m : Int) - 1).toNat = m - 1 from by omega] at hr
      have hlast : ((l.take i).foldl stepR []).getLast? = some r := by rw [List.getLast?_eq_getElem?, ← hml]; exact hr
      by_cases he : r.2 = x
      · rw [show (r.2 == (x : Int)) = true from by simp [he]]
        unfold thicketref05_Runs.j21 thicketref05_Runs.g21
        rw [onBool_t]
        refine nv_i64 (by omega) (by omega) ?_
        refine nv_i64 (by omega) (by omega) ?_
        refine ArrK.wrSnd ha (by omega) (by omega) (x := r) (by rw [show ((m : Int) - 1).toNat = m - 1 from by omega]; exact hr) fun u h1 h4 => ?_
        refine nv_succ (by omega) ?_
        rw [show ((m : Int) - 1).toNat = m - 1 from by omega] at h1
        have hsz2 := h4.size
        have ha2 : (l.take (i + 1)).foldl stepR [] = ((l.take i).foldl stepR []).set (m - 1) (r.1, (x : Int) + 1) := by
          rw [hft]
          have e1 : stepR ((l.take i).foldl stepR []) x = ((l.take i).foldl stepR []).dropLast ++ [(r.1, (x : Int) + 1)] := by
            rw [stepR_some hlast, if_pos he]
          rw [e1]
          generalize (l.take i).foldl stepR [] = o at hml hlast
          have hp : 0 < o.length := by omega
          rw [List.dropLast_eq_take, hml]
          apply List.ext_getElem?
          intro j
          rw [List.getElem?_set]
          by_cases hj : o.length - 1 = j
          · subst hj
            rw [if_pos rfl, if_pos (by omega), List.getElem?_append_right (by simp)]
            simp
          · rw [if_neg hj]
            by_cases hj2 : j < o.length - 1
            · rw [List.getElem?_append_left (by simp; omega), List.getElem?_take, if_pos hj2]
            · rw [List.getElem?_eq_none (by simp; omega), List.getElem?_eq_none (by omega)]
        exact refRuns_loop hn hb hR k (i + 1) b m d g u (by omega) (by rw [ha2]; exact h1) hg hg0 (by omega) (hx.mod h4 fun k h5 h6 => by omega) (Kept.own hk h4 hg)
      · rw [show (r.2 == (x : Int)) = false from by simp [he]]
        refine push ?_
        rw [hft]
        rw [stepR_some hlast, if_neg he]
theorem all_lt {xs : W} {x : Nat} (h : x ∈ all xs) : x < 64 * xs.length := by
  unfold all at h
  exact List.mem_range.1 (List.mem_filter.1 h).1
theorem refRuns_c (hx : Sl enW w a n xs) (hm : n ≤ 16777216) : E.CallsD Go.Proofs.Tryd.prog 38 #[.slice a n c] w fun v u => ∃ a' n' c', v = .slice a' n' c' ∧ NewK 2 enR 58 w u a' n' c' (runsOf xs) := by
  refine thicketref05_Runs.calls ?_
  unfold thicketref05_Runs thicketref05_Runs.g0
  have hn := hx.len
  have hc := count_le xs
  refine E.CallsD.mono (All_c hx hm) fun v u ⟨a', c', hv, g0, ha, hg, hk⟩ => ⟨_, _, _, hv, ?_⟩
  refine ⟨count xs + 1, refRuns_loop (l := all xs) (by omega) (fun x hx => by have := all_lt hx; omega) (fun a' m' d' g' u h1 h2 h3 => ⟨_, _, _, rfl, g', h1, h2, h3⟩) (count xs) 0 none 0 0 0 u (by omega) (ArrK.nil _ _ _ _) (by omega) (by omega) ha.le ha hk⟩
end
end Go.Mir

namespace Go.Mir
open Go Go.E Go.RowKit Go.Bt
section
variable {w : World} {a b : Option Addr} {n c m d g : Nat} {xs ys : W}

/-! ### Of -/
def okR (n : Int) : Int → Rs → Bool
  | _, [] => true
  | last, r :: l => decide (last ≤ r.1 ∧ r.1 < r.2 ∧ r.2 ≤ n) && okR n r.2 l
def inR (l : Rs) (i : Nat) : Bool := l.any fun r => decide (r.1 ≤ (i : Int)) && decide ((i : Int) < r.2)
def ofR (n : Int) (l : Rs) : W := ofB (nW n) (inR l)
def ofAns (n : Int) (l : Rs) : W × Int := if okN n then (if okR n 0 l then (ofR n l, 0) else ([], 50)) else ([], 2)
theorem inR_take {l : Rs} {i : Nat} {r : Int × Int} (h : l[i]? = some r) (j : Nat) : inR (l.take (i + 1)) j = (inR (l.take i) j || (decide (r.1 ≤ (j : Int)) && decide ((j : Int) < r.2))) := by
  unfold inR
  rw [List.take_add_one, h, List.any_append]
  simp
theorem Of_loop {w0 w1 : World} {N : Int} {l : Rs} {a b : Option Addr} {n c d g : Nat} (hN : okN N) (hl : SlK 2 enR w0 b n l) (hn : n ≤ 1048576) (hk0 : Kept w0 w1) (hg : w0.heap.size < g ∨ g = 0) (hle : g ≤ w1.heap.size) :
    ∀ (k i : Nat) (last : Int) (w : World), i + k = n → 0 ≤ last → okR N last (l.drop i) = okR N 0 l → Arr enW 56 w a (nW N) c (ofB (nW N) (inR (l.take i))) g → Only g w1 w →
      bits_Of.l18 (fun v u => Ans w0 u v (ofAns N l).1 (ofAns N l).2) (k + 1) N a (nW N) c last b n d n i w
  | 0, i, last, w, hi, h0, hok, ha, ho => by
    have hll := hl.len
    unfold bits_Of.l18 bits_Of.g18
    refine onDec_f (by omega) ?_
    rw [List.drop_of_length_le (by omega)] at hok
    rw [List.take_of_length_le (by omega)] at ha
    have e : ofAns N l = (ofR N l, 0) := by unfold ofAns; rw [if_pos hN, ← hok]; rfl
    rw [e]
    exact ⟨_, _, _, rfl, ha.sl, Kept.own hk0 ho hg⟩
  | k + 1, i, last, w, hi, h0, hok, ha, ho => by
    have hll := hl.len
    have hkw := Kept.own hk0 ho hg
    obtain ⟨hN0, hN1⟩ := hN
    unfold bits_Of.l18 bits_Of.g18
    refine onDec_t (by omega) ?_
    refine SlK.rd2 (hl.keep hkw) (by omega) (by omega) fun r hr => ?_
    rw [Int.toNat_natCast] at hr
    obtain ⟨hlt, hre⟩ := List.getElem?_eq_some_iff.1 hr
    rw [List.drop_eq_getElem_cons hlt, hre] at hok
    refine box2 fun u hB hk => ?_
    have hku := Kept.trans hkw hk
    have bad : okR N 0 l = false → ∀ u, Kept w0 u → Ans w0 u (.tuple #[.slice none 0 0, .int .i64 50]) (ofAns N l).1 (ofAns N l).2 := fun hb u hk => by
      have e : ofAns N l = ([], 50) := by unfold ofAns; rw [if_pos ⟨hN0, hN1⟩, hb]; rfl
      rw [e]
      exact ⟨_, _, _, rfl, Sl.nil _ _, hk⟩
    have no : ¬ (last ≤ r.1 ∧ r.1 < r.2 ∧ r.2 ≤ N) → okR N 0 l = false := fun h => by
      rw [← hok, okR, decide_eq_false h]; rfl
    refine ⟨_, hB.rd rfl, onDec (fun h1 => bad (no (by omega)) _ hku) fun h1 => ⟨_, hB.rd rfl, onDec (fun h2 => bad (no (by omega)) _ hku) fun h2 => ⟨_, hB.rd rfl, _, hB.rd rfl, onDec (fun h3 => bad (no (by omega)) _ hku) fun h3 => ⟨_, hB.rd rfl, onDec (fun h4 => bad (no (by omega)) _ hku) fun h4 => ⟨_, hB.rd rfl, _, hB.rd rfl, _, hB.rd rfl, ?_⟩⟩⟩⟩⟩
    have hau := ha.kept hk
    have hnw := nW_le hN1
    refine E.CallsD.mono (fill_c (f := r.1) (t := r.2) hau (by omega) (by omega) (by omega)) fun v u2 ⟨hv, ha2, ho2⟩ => ⟨hv, ?_⟩
    refine nv_succ (by omega) ?_
    refine Of_loop ⟨hN0, hN1⟩ hl hn hk0 hg hle k (i + 1) r.2 u2 (by omega) (by omega) ?_ ?_ (Only.then (Only.kept ho hk) ho2)
    · rw [← hok, okR, decide_eq_true (by omega), Bool.true_and]
    · have e : fillW (ofB (nW N) (inR (l.take i))) r.1 r.2 = ofB (nW N) (inR (l.take (i + 1))) := by
        unfold fillW
        rw [ofB_length]
        apply ofB_ext
        intro j hj
        rw [bit_ofB, inR_take hr]
        simp [hj]
      rwa [e] at ha2
theorem Of_c {l : Rs} (N : Int) (hl : SlK 2 enR w b n l) (hn : n ≤ 1048576) : E.CallsD Go.Proofs.Tryd.prog 34 #[.int .i64 N, .slice b n d] w fun v u => Ans w u v (ofAns N l).1 (ofAns N l).2 := by
  refine bits_Of.calls ?_
  unfold bits_Of bits_Of.g0
  by_cases h : okN N
  · refine E.CallsD.mono (Empty_ok h.1 h.2 w) fun v u ⟨a, c, hv, g, ha, hg, hk⟩ => ⟨_, _, _, _, hv, ?_⟩
    refine onNe_f (by omega) ?_
    exact ⟨n + 1, Of_loop (a := a) h hl hn hk hg ha.le n 0 0 u (by omega) (by omega) rfl (by rw [List.take_zero]; exact ha) (Mod.refl _)⟩
  · refine E.CallsD.mono (Empty_no (n := N) (by unfold okN at h; omega) w) fun v u ⟨hv, hk⟩ => ⟨_, _, _, _, hv, ?_⟩
    refine onNe_t (by omega) ?_
    have e : ofAns N l = ([], 2) := by unfold ofAns; rw [if_neg h]
    rw [e]
    exact ⟨_, _, _, rfl, Sl.nil _ _, hk⟩

/-! ### the document's Of -/
/-- One run's bits are put in, one by one. -/
theorem refOf_in {R : Value → World → Prop} {b43 : Option Addr → Nat → Nat → Option Addr → Nat → Nat → Int → Int → World → Prop} {w1 : World} {r : Int × Int} {p : Nat → Bool} {a b : Option Addr} {L c n d g B i : Nat} (hL : (64 * L : Nat) ≤ (4611686018427387904 : Int)) (hr : 0 ≤ r.1 ∧ r.1 ≤ r.2 ∧ r.2 ≤ (64 * L : Nat)) (hB : B + 1 ≠ g) (hi : i < 1048577)
    (H : ∀ u, Arr enW 56 u a L c (ofB L fun j => p j || (decide (r.1 ≤ (j : Int)) && decide ((j : Int) < r.2))) g → Only g w1 u → b43 a L c b n d n (i + 1 : Nat) u) :
    ∀ (k j : Nat) (w : World), (j : Int) + k = r.2 → r.1 ≤ j → Arr enW 56 w a L c (ofB L fun x => p x || (decide (r.1 ≤ (x : Int)) && decide (x < j))) g → Only g w1 w → Blk w B #[.int .i64 r.1, .int .i64 r.2] 58 →
      thicketref05_Of.l57 R b43 (k + 1) a L c (some ⟨B, 0, none⟩) j b n d n i w
  | 0, j, w, hj, h1, ha, ho, hb => by
    unfold thicketref05_Of.l57 thicketref05_Of.g57
    refine ⟨_, by rw [addr_add, hb.cell]; rfl, ?_⟩
    refine onDec_f (by omega) ?_
    refine nv_succ (by omega) ?_
    refine H w ?_ ho
    have e : (fun x : Nat => p x || (decide (r.1 ≤ (x : Int)) && decide ((x : Int) < r.2))) = fun x => p x || (decide (r.1 ≤ (x : Int)) && decide (x < j)) := by
      funext x
      congr 2
      exact decide_eq_decide.2 (by omega)
    rw [e]
    exact ha
  | k + 1, j, w, hj, h1, ha, ho, hb => by
    unfold thicketref05_Of.l57 thicketref05_Of.g57
    refine ⟨_, by rw [addr_add, hb.cell]; rfl, ?_⟩
    refine onDec_t (by omega) ?_
    refine putR ha (by omega) (by omega) fun u x hx hu mu => ?_
    refine nv_succ (by omega) ?_
    refine refOf_in hL hr hB hi H k (j + 1) u (by omega) (by omega) ?_ (Only.then ho mu) (hb.mod mu hB)
    rw [put_step hx] at hu
    have e : (fun x : Nat => p x || (decide (r.1 ≤ (x : Int)) && decide (x < j + 1))) = fun x => (p x || (decide (r.1 ≤ (x : Int)) && decide (x < j))) || decide (x = j) := by
      funext x
      by_cases hxj : x = j
      · subst hxj
        rw [decide_eq_true (show r.1 ≤ (x : Int) from h1), decide_eq_true (show x < x + 1 by omega), decide_eq_true (show x = x from rfl)]
        simp
      · rw [decide_eq_false hxj, Bool.or_false]
        congr 2
        exact decide_eq_decide.2 (by omega)
    rw [e]
    exact hu
theorem refOf_fill {w0 w1 : World} {N : Int} {l : Rs} {a b : Option Addr} {n c d g : Nat} (hN : okN N) (hok : okR N 0 l = true) (hl : SlK 2 enR w0 b n l) (hn : n ≤ 1048576) (hk0 : Kept w0 w1) (hg : w0.heap.size < g) (hle : g ≤ w1.heap.size) :
    ∀ (k i : Nat) (last : Int) (w : World), i + k = n → 0 ≤ last → okR N last (l.drop i) = true → Arr enW 56 w a (nW N) c (ofB (nW N) (inR (l.take i))) g → Only g w1 w →
      thicketref05_Of.l43 (fun v u => Ans w0 u v (ofAns N l).1 (ofAns N l).2) (k + 1) a (nW N) c b n d n i w
  | 0, i, last, w, hi, h0, hok2, ha, ho => by
    have hll := hl.len
    unfold thicketref05_Of.l43 thicketref05_Of.g43
    refine onDec_f (by omega) ?_
    rw [List.take_of_length_le (by omega)] at ha
    have e : ofAns N l = (ofR N l, 0) := by unfold ofAns; rw [if_pos hN, hok]; rfl
    rw [e]
    exact ⟨_, _, _, rfl, ha.sl, Kept.only hk0 ho hg⟩
  | k + 1, i, last, w, hi, h0, hok2, ha, ho => by
    have hll := hl.len
    have hkw := Kept.only hk0 ho hg
    obtain ⟨hN0, hN1⟩ := hN
    unfold thicketref05_Of.l43 thicketref05_Of.g43
    refine onDec_t (by omega) ?_
    refine SlK.rd2 (hl.keep hkw) (by omega) (by omega) fun r hr => ?_
    rw [Int.toNat_natCast] at hr
    obtain ⟨hlt, hre⟩ := List.getElem?_eq_some_iff.1 hr
    rw [List.drop_eq_getElem_cons hlt, hre, okR, Bool.and_eq_true, decide_eq_true_iff] at hok2
    obtain ⟨⟨h1, h2, h3⟩, hok3⟩ := hok2
    refine box2 fun u hB hk => ⟨_, hB.rd rfl, ?_⟩
    have hsz := ho.size
    have hnw := nW_le hN1
    have hW : (64 * nW N : Nat) ≥ N := by unfold nW; omega
    obtain ⟨f, hf⟩ : ∃ f : Nat, r.1 = f := ⟨r.1.toNat, by omega⟩
    obtain ⟨len, hlen⟩ : ∃ len : Nat, r.1 + len = r.2 := ⟨(r.2 - r.1).toNat, by omega⟩
    have key := refOf_in (R := fun v u => Ans w0 u v (ofAns N l).1 (ofAns N l).2) (b43 := thicketref05_Of.l43 (fun v u => Ans w0 u v (ofAns N l).1 (ofAns N l).2) (k + 1)) (w1 := w1) (r := r) (p := inR (l.take i)) (a := a) (b := b) (L := nW N) (c := c) (n := n) (d := d) (g := g) (B := w.heap.size) (i := i)
      (by omega) ⟨by omega, by omega, by omega⟩ (by omega) (by omega) (fun u' h4 h5 => refOf_fill ⟨hN0, hN1⟩ hok hl hn hk0 hg hle k (i + 1) r.2 u' (by omega) (by omega) hok3 (by
        have e : (fun j => inR (l.take i) j || (decide (r.1 ≤ (j : Int)) && decide ((j : Int) < r.2))) = inR (l.take (i + 1)) := by
          funext j; rw [inR_take hr]
        rw [← e]; exact h4) h5)
      len f u (by omega) (by omega) (by
        have e : (fun x : Nat => inR (l.take i) x || (decide (r.1 ≤ (x : Int)) && decide (x < f))) = inR (l.take i) := by
          funext x
          have : (decide (r.1 ≤ (x : Int)) && decide (x < f)) = false := by
            rw [Bool.and_eq_false_iff, decide_eq_false_iff_not, decide_eq_false_iff_not]; omega
          rw [this, Bool.or_false]
        rw [e]; exact ha.kept hk) (Only.kept ho hk) hB
    rw [← hf] at key
    exact ⟨_, key⟩
theorem refOf_loop {w0 : World} {N : Int} {l : Rs} {b : Option Addr} {n d : Nat} (hN : okN N) (hl : SlK 2 enR w0 b n l) (hn : n ≤ 1048576) :
    ∀ (k i : Nat) (last : Int) (w : World), i + k = n → 0 ≤ last → okR N last (l.drop i) = okR N 0 l → Kept w0 w →
      thicketref05_Of.l16 (fun v u => Ans w0 u v (ofAns N l).1 (ofAns N l).2) (k + 1) N b n d last b n d n i w
  | 0, i, last, w, hi, h0, hok, hk => by
    have hll := hl.len
    have hN' := hN
    obtain ⟨hN0, hN1⟩ := hN'
    unfold thicketref05_Of.l16 thicketref05_Of.g16
    rw [List.drop_of_length_le (by omega)] at hok
    refine onDec_f (by omega) ?_
    refine nv_i64 (by omega) (by omega) ?_
    refine nv_div (by omega) (by omega) (by omega) ?_
    refine Arr.make (en := enW) (x := 0#64) rfl (by omega) (by omega) (by omega) fun u1 ha hk1 => ?_
    have e : ((N + 63) / 64).toNat = nW N := rfl
    rw [e] at ha ⊢
    have hsz := hk.size
    exact ⟨n + 1, refOf_fill (g := w.heap.size + 1) hN hok.symm hl hn (Kept.trans hk hk1) (by omega) ha.le n 0 0 u1 (by omega) (by omega) hok.symm (by rw [zeros] at ha; rw [List.take_zero]; exact ha) (Mod.refl _)⟩
  | k + 1, i, last, w, hi, h0, hok, hk => by
    have hll := hl.len
    obtain ⟨hN0, hN1⟩ := hN
    unfold thicketref05_Of.l16 thicketref05_Of.g16
    refine onDec_t (by omega) ?_
    refine SlK.rd2 (hl.keep hk) (by omega) (by omega) fun r hr => ?_
    rw [Int.toNat_natCast] at hr
    obtain ⟨hlt, hre⟩ := List.getElem?_eq_some_iff.1 hr
    rw [List.drop_eq_getElem_cons hlt, hre] at hok
    refine box2 fun u hB hk2 => ?_
    have hku := Kept.trans hk hk2
    have bad : okR N 0 l = false → ∀ u, Kept w0 u → Ans w0 u (.tuple #[.slice none 0 0, .int .i64 50]) (ofAns N l).1 (ofAns N l).2 := fun hb u hk => by
      have e : ofAns N l = ([], 50) := by unfold ofAns; rw [if_pos ⟨hN0, hN1⟩, hb]; rfl
      rw [e]
      exact ⟨_, _, _, rfl, Sl.nil _ _, hk⟩
    have no : ¬ (last ≤ r.1 ∧ r.1 < r.2 ∧ r.2 ≤ N) → okR N 0 l = false := fun h => by
      rw [← hok, okR, decide_eq_false h]; rfl
    refine ⟨_, hB.rd rfl, onDec (fun h1 => bad (no (by omega)) _ hku) fun h1 => ⟨_, hB.rd rfl, _, hB.rd rfl, onDec (fun h3 => bad (no (by omega)) _ hku) fun h3 => ⟨_, hB.rd rfl, onDec (fun h4 => bad (no (by omega)) _ hku) fun h4 => ⟨_, hB.rd rfl, ?_⟩⟩⟩⟩
    refine nv_succ (by omega) ?_
    refine refOf_loop ⟨hN0, hN1⟩ hl hn k (i + 1) r.2 u (by omega) (by omega) ?_ hku
    rw [← hok, okR, decide_eq_true (by omega), Bool.true_and]
theorem refOf_c {l : Rs} (N : Int) (hl : SlK 2 enR w b n l) (hn : n ≤ 1048576) : E.CallsD Go.Proofs.Tryd.prog 35 #[.int .i64 N, .slice b n d] w fun v u => Ans w u v (ofAns N l).1 (ofAns N l).2 := by
  refine thicketref05_Of.calls ?_
  unfold thicketref05_Of thicketref05_Of.g0
  by_cases h : okN N
  · have h0 := h.1
    have h1 := h.2
    refine onDec_f (by omega) ?_
    refine onDec_f (by omega) ?_
    exact ⟨n + 1, refOf_loop h hl hn n 0 0 w (by omega) (by omega) rfl (Kept.refl _)⟩
  · have e : ofAns N l = ([], 2) := by unfold ofAns; rw [if_neg h]
    rw [e]
    have r : Ans w w (.tuple #[.slice none 0 0, .int .i64 2]) [] 2 := ⟨_, _, _, rfl, Sl.nil _ _, Kept.refl _⟩
    refine onDec (fun _ => r) fun h0 => ?_
    have h1 : N > 1048576 := by unfold okN at h; omega
    refine onDec_t (by omega) ?_
    exact r

/-! ### two lists of runs -/
theorem part0 (a b : Int) (w : World) : (Go.part 3 #[.int .i64 a, .int .i64 b] 0).run Go.Proofs.Tryd.prog w = .ok (.int .i64 a) w := by kernel_rfl
theorem part1 (a b : Int) (w : World) : (Go.part 3 #[.int .i64 a, .int .i64 b] 1).run Go.Proofs.Tryd.prog w = .ok (.int .i64 b) w := by kernel_rfl
theorem flds (xs ys : Array Value) : Op.eqFields 9999 xs ys ((Go.Proofs.Tryd.prog).fieldsOf 58).toList = (do
      let a ← Go.part 3 xs 0
      let b ← Go.part 3 ys 0
      let r ← Op.equalIn 9999 3 a b
      if (!r) = true then pure false else do
      let a ← Go.part 3 xs 1
      let b ← Go.part 3 ys 1
      let r ← Op.equalIn 9999 3 a b
      if (!r) = true then pure false else pure true) := by kernel_rfl
theorem eqRun (a b c d : Int) (w : World) : (Op.equal 58 (.agg #[.int .i64 a, .int .i64 b]) (.agg #[.int .i64 c, .int .i64 d])).run Go.Proofs.Tryd.prog w = .ok (a == c && b == d) w := by
  unfold Op.equal
  rw [show Op.maxDepth = 9999 + 1 from rfl, run_equalIn_struct w 9999 58 _ _ (by kernel_rfl) (by kernel_rfl), flds]
  have e : ∀ a b : Int, (Op.equalIn 9999 3 (.int .i64 a) (.int .i64 b)).run Go.Proofs.Tryd.prog w = .ok (a == b) w := fun a b => run_equalIn_int w 9998 3 _ .i64 a b (by kernel_rfl)
  simp only [Sem.run_bind, part0, part1, Result.andThen_ok, e, Sem.run_ite, Sem.run_pure]
  cases a == c <;> cases b == d <;> rfl
theorem runs_loop {R : Value → World → Prop} {l : Rs} (h : SlK 2 enR w a n l) (h2 : SlK 2 enR w b n l) (hn : n ≤ 1099511627776) (hR : R (.bool true) w) :
    ∀ (k i : Nat), i + k = n → thicketlaw05_runs.l14 R (k + 1) a n c b n d n i w
  | 0, i, hi => by
    unfold thicketlaw05_runs.l14 thicketlaw05_runs.g14
    refine onDec_f (by omega) ?_
    exact hR
  | k + 1, i, hi => by
    unfold thicketlaw05_runs.l14 thicketlaw05_runs.g14
    refine onDec_t (by omega) ?_
    refine SlK.rd2 h (by omega) (by omega) fun r hr => SlK.rd2 h2 (by omega) (by omega) fun r2 hr2 => ⟨_, fun w => eqRun _ _ _ _ w, ?_⟩
    rw [hr] at hr2
    obtain rfl := Option.some.inj hr2
    rw [show (r.1 == r.1 && r.2 == r.2) = true from by simp]
    show onBool false _ _
    rw [onBool_f]
    refine nv_succ (by omega) ?_
    exact runs_loop h h2 hn hR k (i + 1) (by omega)
theorem runs_yes {l : Rs} (h : SlK 2 enR w a n l) (h2 : SlK 2 enR w b m l) (hn : n ≤ 1099511627776) : Pure Go.Proofs.Tryd.prog 36 #[.slice a n c, .slice b m d] w (.bool true) := by
  refine thicketlaw05_runs.calls (R := fun v' u => v' = _ ∧ Below w.heap.size w u) ?_
  unfold thicketlaw05_runs thicketlaw05_runs.g0
  have e1 := h.len
  have e2 := h2.len
  obtain rfl : n = m := by omega
  refine onNe_f (by omega) ?_
  exact ⟨n + 1, runs_loop h h2 hn ⟨rfl, Below.refl _ _⟩ n 0 (by omega)⟩
end
end Go.Mir

namespace Go.Mir
open Go Go.E Go.RowKit Go.Bt
section
variable {w : World} {a b : Option Addr} {n c m d g : Nat} {xs ys : W}
theorem ans_len {xs : W} {w u : World} {a : Option Addr} {n : Nat} (s : Sl enW u a n xs) (h : xs.length ≤ 16777216) : n ≤ 16777216 := by rw [s.len]; exact h
theorem readOf_len (s : ByteArray) : (readOf s).1.length ≤ 16777216 := by
  unfold readOf
  split
  · simp
  · rename_i h
    split
    · simp
    · have := nW_le (n := (s.size : Int)) (by omega)
      simp; omega
theorem ofAns_len (N : Int) (l : Rs) : (ofAns N l).1.length ≤ 16777216 := by
  unfold ofAns
  split
  · rename_i h
    split
    · have := nW_le h.2
      simp [ofR]; omega
    · simp
  · simp
/-- The law BitsTexts. -/
theorem bitsTexts_law {N : Int} {s : ByteArray} (hT : Tab w) (hx : Sl enW w a n xs) (hm : n ≤ 16777216) (hs : s.size ≤ 9223372036854775000) : Pure Go.Proofs.Tryd.prog 5 #[.slice a n c, .int .i64 N, .string s] w (.bool true) := by
  refine thicketlaw05_BitsTexts.calls (R := fun v' u => v' = _ ∧ Below w.heap.size w u) ?_
  unfold thicketlaw05_BitsTexts thicketlaw05_BitsTexts.g0
  refine E.CallsD.mono (Print_c hx hm N) fun v u1 ⟨hv, k1⟩ => ⟨_, _, hv, ?_⟩
  refine E.CallsD.mono (refPrint_c (hx.keep k1) hm N) fun v u2 ⟨hv, k2⟩ => ⟨_, _, hv, ?_⟩
  have k12 := Kept.trans k1 k2
  refine E.CallsD.mono (Read_c u2) fun v u3 ⟨a3, n3, c3, hv, s3, k3⟩ => ⟨_, _, _, _, _, _, hv, ?_⟩
  refine E.CallsD.mono (refRead_c hs u3) fun v u4 ⟨a4, n4, c4, hv, s4, k4⟩ => ⟨_, _, _, _, _, _, hv, ?_⟩
  have k14 := Kept.trans k12 (Kept.trans k3 k4)
  refine E.CallsD.mono (lives_c (hT.kept k14)) fun v u5 ⟨hv, k5⟩ => ⟨_, hv, ?_⟩
  rw [onBool_t, show ∀ x : List UInt8, (x == x) = true from fun x => by simp, onBool_t]
  refine onEq_t (by omega) ?_
  refine E.CallsD.mono (Same_yes (s3.keep (Kept.trans k4 k5)) (s4.keep k5) (by rw [s3.len]; exact readOf_len s)) fun v u6 ⟨hv, k6⟩ => ⟨_, hv, ?_⟩
  rw [onBool_t]
  refine onEq_t (by omega) ?_
  refine onEq_t (by omega) ?_
  exact ⟨by simp, Kept.trans k14 (Kept.trans k5 k6)⟩
/-- The law BitsRuns. -/
theorem bitsRuns_law {N : Int} {l : Rs} (hT : Tab w) (hx : Sl enW w a n xs) (hm : n ≤ 16777216) (hl : SlK 2 enR w b m l) (hlm : m ≤ 1048576) : Pure Go.Proofs.Tryd.prog 7 #[.slice a n c, .int .i64 N, .slice b m d] w (.bool true) := by
  refine thicketlaw05_BitsRuns.calls (R := fun v' u => v' = _ ∧ Below w.heap.size w u) ?_
  unfold thicketlaw05_BitsRuns thicketlaw05_BitsRuns.g0
  refine E.CallsD.mono (Of_c N hl hlm) fun v u1 ⟨a1, n1, c1, hv, s1, k1⟩ => ⟨_, _, _, _, hv, ?_⟩
  refine E.CallsD.mono (refOf_c N (hl.keep k1) hlm) fun v u2 ⟨a2, n2, c2, hv, s2, k2⟩ => ⟨_, _, _, _, hv, ?_⟩
  have k12 := Kept.trans k1 k2
  refine E.CallsD.mono (lives_c (hT.kept k12)) fun v u3 ⟨hv, k3⟩ => ⟨_, hv, ?_⟩
  rw [onBool_t]
  have k13 := Kept.trans k12 k3
  refine E.CallsD.mono (Runs_c (hx.keep k13) hm) fun v u4 ⟨a4, n4, c4, hv, g4, h4, _, k4⟩ => ⟨_, _, _, hv, ?_⟩
  have k14 := Kept.trans k13 k4
  refine E.CallsD.mono (refRuns_c (hx.keep k14) hm) fun v u5 ⟨a5, n5, c5, hv, g5, h5, _, k5⟩ => ⟨_, _, _, hv, ?_⟩
  have hrl := runs_len xs (64 * xs.length)
  have hxl := hx.len
  have h4l := h4.len2
  rw [runsOf_to] at h4l
  refine E.CallsD.mono (runs_yes (h4.kept k5).slk2 h5.slk2 (by omega)) fun v u6 ⟨hv, k6⟩ => ⟨_, hv, ?_⟩
  rw [onBool_t]
  have k26 := Kept.trans k3 (Kept.trans k4 (Kept.trans k5 k6))
  refine E.CallsD.mono (Same_yes (s1.keep (Kept.trans k2 k26)) (s2.keep k26) (by rw [s1.len]; exact ofAns_len N l)) fun v u7 ⟨hv, k7⟩ => ⟨_, hv, ?_⟩
  rw [onBool_t]
  exact ⟨by simp, Kept.trans k12 (Kept.trans k26 k7)⟩

end
/-! ### back -/
theorem prB_get {xs : W} {N i : Nat} (h : i < N) : (⟨(prB xs N).toArray⟩ : ByteArray)[i]? = some (if bit xs i then 49 else 48) := by
  have hl : i < (⟨(prB xs N).toArray⟩ : ByteArray).size := by simp [ByteArray.size, prB, h]
  rw [byte_get hl]
  congr 1
  have := prB_at (xs := xs) h
  have e : (⟨(prB xs N).toArray⟩ : ByteArray)[i] = (prB xs N)[i]'(by simp [prB, h]) := rfl
  rw [e]
  rw [List.getElem?_eq_getElem (by simp [prB, h])] at this
  exact Option.some.inj this
theorem prB_size (xs : W) (N : Nat) : (⟨(prB xs N).toArray⟩ : ByteArray).size = N := by simp [ByteArray.size, prB]
theorem prB_scan (xs : W) (N : Nat) : ∀ k i, i + k = N → scan ⟨(prB xs N).toArray⟩ k i = none
  | 0, i, _ => rfl
  | k + 1, i, h => by
    rw [scan_succ (prB_get (by omega)), if_pos (by cases bit xs i <;> simp), prB_scan xs N k (i + 1) (by omega)]
theorem high_lt {xs : W} {N : Int} (h : ¬ high xs ≥ N) : ∀ j : Nat, N ≤ j → bit xs j = false := by
  intro j hj
  cases hb : bit xs j with
  | false => rfl
  | true =>
    have hm := mem_all.2 hb
    have hs := all_sorted xs
    unfold high at h
    cases he : (all xs).getLast? with
    | none => rw [List.getLast?_eq_none_iff] at he; rw [he] at hm; cases hm
    | some i =>
      rw [he] at h
      simp only at h
      obtain ⟨l, hl2⟩ := List.getLast?_eq_some_iff.1 he
      rw [hl2] at hm hs
      rcases List.mem_append.1 hm with h1 | h1
      · have h2 : j < i := (List.pairwise_append.1 hs).2.2 j h1 i (by simp)
        omega
      · have := List.mem_singleton.1 h1
        omega
/-- The text of a set, read: the set. -/
theorem read_print {xs : W} {N : Nat} (hN : N ≤ 1048576) (hl : nW N = xs.length) (hh : ∀ j : Nat, N ≤ j → bit xs j = false) : readOf ⟨(prB xs N).toArray⟩ = (xs, (N : Int), 0, 0) := by
  unfold readOf
  rw [prB_size, if_neg (by omega), prB_scan xs N N 0 (by omega)]
  simp only [Prod.mk.injEq, and_true]
  refine ext (by simpa using hl) fun i hi => ?_
  rw [bit_ofB]
  simp only [ofB_length] at hi
  rw [decide_eq_true hi, Bool.true_and]
  unfold isOne
  by_cases h : i < N
  · rw [prB_get h]
    cases bit xs i <;> simp
  · have e : (⟨(prB xs N).toArray⟩ : ByteArray)[i]? = none := getElem?_neg _ i (by have := prB_size xs N; omega)
    rw [e, hh i (by omega)]
theorem runsTo_wf {xs : W} : ∀ (i : Nat) (r : Int × Int), r ∈ runsTo xs i → 0 ≤ r.1 ∧ r.1 < r.2 ∧ r.2 ≤ (i : Int) := by
  intro i
  induction i with
  | zero => intro r hr; simp [runsTo] at hr
  | succ i ih =>
    intro r hr
    cases hb : bit xs i with
    | false => rw [runsTo_no hb] at hr; have := ih r hr; omega
    | true =>
      rw [runsTo_yes hb] at hr
      unfold stepR at hr
      split at hr
      · rename_i q hq
        split at hr
        · rcases List.mem_append.1 hr with h | h
          · have := ih r (List.dropLast_subset _ h); omega
          · have hq2 := ih q (List.mem_of_getLast? hq)
            have := List.mem_singleton.1 h
            subst this
            simp only
            omega
        · rcases List.mem_append.1 hr with h | h
          · have := ih r h; omega
          · have := List.mem_singleton.1 h
            subst this
            simp only
            omega
      · rcases List.mem_append.1 hr with h | h
        · have := ih r h; omega
        · have := List.mem_singleton.1 h
          subst this
          simp only
          omega
/-- What runs hold. -/
theorem inR_runsTo {xs : W} : ∀ i j, inR (runsTo xs i) j = (decide (j < i) && bit xs j)
  | 0, j => by simp [runsTo, inR]
  | i + 1, j => by
    cases hb : bit xs i with
    | false =>
      rw [runsTo_no hb, inR_runsTo i j]
      by_cases hj : j = i
      · subst hj; simp [hb]
      · congr 1; exact decide_eq_decide.2 (by omega)
    | true =>
      rw [runsTo_yes hb]
      have ih := inR_runsTo (xs := xs) i j
      have e : (decide (j < i + 1) && bit xs j) = ((decide (j < i) && bit xs j) || decide (j = i)) := by
        by_cases hj : j = i
        · subst hj; simp [hb]
        · rw [decide_eq_false hj, Bool.or_false]; congr 1; exact decide_eq_decide.2 (by omega)
      rw [e, ← ih]
      have single : ∀ (o : Rs) (r : Int × Int), inR (o ++ [r]) j = (inR o j || (decide (r.1 ≤ (j : Int)) && decide ((j : Int) < r.2))) := fun o r => by unfold inR; simp [List.any_append]
      have one : (decide ((i : Int) ≤ (j : Int)) && decide ((j : Int) < (i : Int) + 1)) = decide (j = i) := by
        rw [← Bool.decide_and]; exact decide_eq_decide.2 (by omega)
      unfold stepR
      split
      · rename_i r hr
        split
        · rename_i he
          have hlast := runsTo_last hr
          obtain ⟨o, ho⟩ := List.getLast?_eq_some_iff.1 hr
          rw [ho, List.dropLast_concat, single, single]
          have hr1 : r.1 ≤ (i : Int) := by
            have := runsTo_wf (xs := xs) i r (by rw [ho]; simp)
            omega
          rw [Bool.or_assoc]
          congr 1
          by_cases hj : j = i
          · subst hj; simp [hr1]; omega
          · rw [decide_eq_false hj, Bool.or_false]; congr 1; exact decide_eq_decide.2 (by omega)
        · rw [single, one]
      · rw [single, one]

/-- Where the last run ends. -/
def endOf (last : Int) (o : Rs) : Int := match o.getLast? with
  | none => last
  | some q => q.2
theorem okR_concat (n : Int) (r : Int × Int) : ∀ (o : Rs) (last : Int), okR n last (o ++ [r]) = (okR n last o && decide (endOf last o ≤ r.1 ∧ r.1 < r.2 ∧ r.2 ≤ n))
  | [], last => by rw [List.nil_append, okR, okR, okR, Bool.and_true, Bool.true_and]; rfl
  | q :: o, last => by
    rw [List.cons_append, okR, okR, okR_concat n r o q.2, Bool.and_assoc]
    have e : endOf last (q :: o) = endOf q.2 o := by
      unfold endOf
      rw [List.getLast?_cons]
      cases o.getLast? <;> rfl
    rw [e]
theorem okR_runs {xs : W} {N : Int} (hh : ∀ j : Nat, N ≤ j → bit xs j = false) : ∀ i, okR N 0 (runsTo xs i) = true
  | 0 => rfl
  | i + 1 => by
    have ih := okR_runs hh i
    cases hb : bit xs i with
    | false => rw [runsTo_no hb]; exact ih
    | true =>
      have hi : ¬ N ≤ i := fun h => by rw [hh i h] at hb; cases hb
      rw [runsTo_yes hb]
      unfold stepR
      split
      · rename_i r hr
        have hlast := runsTo_last hr
        split
        · obtain ⟨o, ho⟩ := List.getLast?_eq_some_iff.1 hr
          rw [ho, okR_concat, Bool.and_eq_true, decide_eq_true_iff] at ih
          rw [ho, List.dropLast_concat, okR_concat, ih.1, decide_eq_true (by simp only; omega)]
          rfl
        · rw [okR_concat, ih, decide_eq_true (by unfold endOf; rw [hr]; simp only; omega)]
          rfl
      · rename_i hr
        rw [okR_concat, ih, decide_eq_true (by unfold endOf; rw [hr]; simp only; omega)]
        rfl
/-- The runs of a set, put together: the set. -/
theorem of_runs {xs : W} {N : Int} (hN : okN N) (hl : nW N = xs.length) (hh : ∀ j : Nat, N ≤ j → bit xs j = false) : ofAns N (runsOf xs) = (xs, 0) := by
  unfold ofAns
  rw [if_pos hN, runsOf_to, okR_runs hh, if_pos rfl]
  congr 1
  refine ext (by simpa [ofR] using hl) fun i hi => ?_
  unfold ofR at hi ⊢
  simp only [ofB_length] at hi
  rw [bit_ofB, decide_eq_true hi, Bool.true_and, inR_runsTo, decide_eq_true (by omega), Bool.true_and]
/-- The law BitsBack. -/
theorem bitsBack_law {w : World} {a : Option Addr} {n c : Nat} {xs : W} {N : Int} (hT : Tab w) (hx : Sl enW w a n xs) (hm : n ≤ 16777216) : Pure Go.Proofs.Tryd.prog 9 #[.slice a n c, .int .i64 N] w (.bool true) := by
  refine thicketlaw05_BitsBack.calls (R := fun v' u => v' = _ ∧ Below w.heap.size w u) ?_
  unfold thicketlaw05_BitsBack thicketlaw05_BitsBack.g0
  have hlen := hx.len
  refine E.CallsD.mono (lives_c hT) fun v u1 ⟨hv, k1⟩ => ⟨_, hv, ?_⟩
  show onBool (!true) _ _
  rw [Bool.not_true, onBool_f]
  refine E.CallsD.mono (Print_c (hx.keep k1) hm N) fun v u2 ⟨hv, k2⟩ => ⟨_, _, hv, ?_⟩
  have k12 := Kept.trans k1 k2
  unfold prOf
  by_cases h0 : N < 0 ∨ 1048576 < N
  · rw [if_pos h0]
    refine onNe_t (by omega) ?_
    refine E.CallsD.mono (Words_no h0 u2) fun v u3 ⟨hv, k3⟩ => ⟨_, _, hv, ?_⟩
    refine onNe_t (by omega) ?_
    exact ⟨rfl, Kept.trans k12 k3⟩
  · rw [if_neg h0]
    by_cases h1 : nW N ≠ xs.length
    · rw [if_pos h1]
      refine onNe_t (by omega) ?_
      refine E.CallsD.mono (Words_ok (n := N) (by omega) (by omega) u2) fun v u3 ⟨hv, k3⟩ => ⟨_, _, hv, ?_⟩
      refine onNe_f (by omega) ?_
      refine onNe_t (by omega) ?_
      exact ⟨rfl, Kept.trans k12 k3⟩
    · rw [if_neg h1]
      by_cases h2 : high xs ≥ N
      · rw [if_pos h2]
        refine onNe_t (by omega) ?_
        refine E.CallsD.mono (Words_ok (n := N) (by omega) (by omega) u2) fun v u3 ⟨hv, k3⟩ => ⟨_, _, hv, ?_⟩
        refine onNe_f (by omega) ?_
        refine onNe_f (by omega) ?_
        have k13 := Kept.trans k12 k3
        refine E.CallsD.mono (Highest_c (hx.keep k13) hm) fun v u4 ⟨hv, k4⟩ => ⟨_, hv, ?_⟩
        rw [decide_eq_true h2]
        exact ⟨rfl, Kept.trans k13 k4⟩
      · rw [if_neg h2]
        refine onNe_f (by omega) ?_
        have hh := high_lt h2
        have e1 := read_print (xs := xs) (N := N.toNat) (by omega) (by rw [show ((N.toNat : Nat) : Int) = N from by omega]; omega) (fun j hj => hh j (by omega))
        refine E.CallsD.mono (Read_c (s := ⟨(prB xs N.toNat).toArray⟩) u2) fun v u3 ⟨a3, n3, c3, hv, s3, k3⟩ => ⟨_, _, _, _, _, _, hv, ?_⟩
        rw [e1] at s3 ⊢
        have k13 := Kept.trans k12 k3
        refine E.CallsD.mono (Runs_c (hx.keep k13) hm) fun v u4 ⟨a4, n4, c4, hv, g4, h4, _, k4⟩ => ⟨_, _, _, hv, ?_⟩
        have hrl := runs_len xs (64 * xs.length)
        have hnn := nW_le (n := N) (by omega)
        have h4l := h4.len2
        rw [runsOf_to] at h4l
        refine E.CallsD.mono (Of_c N h4.slk2 (by omega)) fun v u5 ⟨a5, n5, c5, hv, s5, k5⟩ => ⟨_, _, _, _, hv, ?_⟩
        rw [of_runs ⟨by omega, by omega⟩ (by omega) hh] at s5 ⊢
        have k15 := Kept.trans k13 (Kept.trans k4 k5)
        have hsz : ((⟨(prB xs N.toNat).toArray⟩ : ByteArray).size : Int) = N := by rw [prB_size]; omega
        have hsz2 : ((N.toNat : Nat) : Int) = N := by omega
        dsimp only
        refine onEq_t (by omega) ?_
        refine onEq_t (by omega) ?_
        refine onEq_t (by omega) ?_
        refine onEq_t (by omega) ?_
        refine E.CallsD.mono (Same_yes (hx.keep k15) (s3.keep (Kept.trans k4 k5)) hm) fun v u6 ⟨hv, k6⟩ => ⟨_, hv, ?_⟩
        rw [onBool_t]
        refine E.CallsD.mono (Same_yes (hx.keep (Kept.trans k15 k6)) (s5.keep k6) hm) fun v u7 ⟨hv, k7⟩ => ⟨_, hv, rfl, Kept.trans k15 (Kept.trans k6 k7)⟩
end Go.Mir
