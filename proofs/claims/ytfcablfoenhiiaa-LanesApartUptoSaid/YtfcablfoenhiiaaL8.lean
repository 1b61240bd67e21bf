/- Part of a proof of laws of the seat Ytfcablfoenhiiaa: functions' weakest preconditions, each checked by the kernel, and contracts out of them; no conditions. -/
import Derived.Test.YtfcablfoenhiiaaL7
set_option linter.unusedVariables false
set_option linter.unusedSimpArgs false
namespace Go.Mir
open Go Go.E Go.RowKit

def unV (gs : List (List (Nat → Nat))) (i f : Nat) : Nat := ((gs.getD (i / 8) []).getD f (fun _ => 0)) (i % 8)
def unRow (gs : List (List (Nat → Nat))) (d i : Nat) : List Nat := (List.range d).map fun f => unV gs i f
def unpacked (gs : List (List (Nat → Nat))) (n d : Nat) : List (List Nat) := (List.range n).map fun i => unRow gs d i
def allLenG (gs : List (List (Nat → Nat))) (d : Int) : Bool := gs.all fun r => (r.length : Int) == d
def unCode (gs : List (List (Nat → Nat))) (n d : Int) : Int := if d < 0 then 2 else if d > 65536 then 2 else if n < 0 then 2 else if gs.length ≠ (n.toNat + 7) / 8 then 6 else if allLenG gs d then 0 else 6
def unAns (gs : List (List (Nat → Nat))) (n d : Int) : List (List Nat) := if unCode gs n d = 0 then unpacked gs n.toNat d.toNat else []

theorem allLenG_drop {l : List (List (Nat → Nat))} {d : Int} {i : Nat} (hi : i < l.length) : allLenG (l.drop i) d = (((l[i]).length : Int) == d && allLenG (l.drop (i + 1)) d) := by
  unfold allLenG
  rw [List.drop_eq_getElem_cons hi, List.all_cons]
theorem allLenG_nat {l : List (List (Nat → Nat))} {d : Nat} (h : allLenG l (d : Int) = true) : ∀ r ∈ l, r.length = d := by
  intro r hr
  have := List.all_eq_true.1 h r hr
  simp only [beq_iff_eq] at this
  omega

/-- The groups that Unpack is given. -/
structure UIn (w0 : World) (a : Option Addr) (n : Nat) (gs : List (List (Nat → Nat))) (N d : Nat) : Prop where
  rd : SlG w0 a n gs
  short : n ≤ 1048576
  dim : d ≤ 65536
  all : ∀ r ∈ gs, r.length = d
  many : n = (N + 7) / 8
theorem UIn.keep {w0 u : World} {a : Option Addr} {n : Nat} {gs : List (List (Nat → Nat))} {N d : Nat} (h : UIn w0 a n gs N d) (hb : Below w0.heap.size w0 u) : UIn u a n gs N d :=
  ⟨h.rd.keep (fun _ _ _ hi => hi.keep hb) hb, h.short, h.dim, h.all, h.many⟩
theorem UIn.at' {w0 : World} {a : Option Addr} {n : Nat} {gs : List (List (Nat → Nat))} {N d : Nat} (h : UIn w0 a n gs N d) {i f : Nat} (hi : i < N) (hf : f < d) {K : Addr → Prop}
    (hk : ∀ p a' n' c', w0.cell? (p.add (i / 8)) = some (.slice a' n' c') → n' = d → (∀ {K : Addr → Prop}, (∀ q, w0.cell? (q.add (f * 8 + i % 8)) = some (.float .f64 (unV gs i f)) → K q) → optN a' K) → K p) : optN a K := by
  have hln := h.rd.len
  have hm := h.many
  have hlt : i / 8 < n := by omega
  refine h.rd.read hlt fun p a' n' c' hc hr => ?_
  have hd : (gs[i / 8]'(hln ▸ hlt)).length = d := h.all _ (List.getElem_mem _)
  have hl := hr.len
  refine hk p a' n' c' hc (by omega) fun {K} hK => ?_
  refine hr.read (i := f) (by omega) fun q hq => hK q ?_
  have hx := hq (i % 8) _ (encL_get _ (by omega))
  have : (gs[i / 8]'(hln ▸ hlt))[f]'(by omega) = (gs.getD (i / 8) []).getD f (fun _ => 0) := by
    simp only [List.getD_eq_getElem?_getD, List.getElem?_eq_getElem (hln ▸ hlt), Option.getD_some, List.getElem?_eq_getElem (show f < (gs[i / 8]'(hln ▸ hlt)).length by omega)]
  rw [this] at hx
  exact hx

theorem cix {w : World} {p : Addr} {i : Nat} {v : Value} (h : w.cell? (p.add i) = some v) : w.cell? (p.add (((i : Nat) : Int).toNat * 1)) = some v := by rw [Int.toNat_natCast, Nat.mul_one]; exact h
theorem tdiv8 {i : Nat} (hi : i ≤ 8388608) : IntKind.i64.wrap (Int.tdiv (i : Int) 8) = ((i / 8 : Nat) : Int) := by
  rw [show Int.tdiv (i : Int) 8 = ((i / 8 : Nat) : Int) from rfl, i64_id (by omega) (by omega)]
theorem tmod8 {i : Nat} : Int.tmod (i : Int) 8 = ((i % 8 : Nat) : Int) := rfl

/-! ### lanes.Unpack -/
theorem unpack_f {R : Value → World → Prop} {b47 : Option Addr → Nat → Nat → Int → Option Addr → Nat → Nat → Int → Int → World → Prop} {wB : World} {a a10 : Option Addr} {n c n10 c10 N d i : Nat} {gs : List (List (Nat → Nat))} (hU : UIn wB a n gs N d) (hi : i < N)
    (h : ∀ w cs, Below wB.heap.size wB w → Blk w wB.heap.size cs 22 → cs.toList = (unRow gs d i).map encF →
      nw (w.alloc (.cells #[.slice (some (na wB)) d d] 48)) fun w26 => rawN Go.Proofs.Try.prog (Builtin.append_ #[31, 31] 31 #[.slice a10 n10 c10, .slice (some (na w)) 1 1]) w26 fun v27 u28 => ∃ ya : Option Addr, ∃ yn yc : Nat, v27 = .slice ya yn yc ∧ b47 a n c d ya yn yc N (i + 1 : Nat) u28) :
    ∀ (k f : Nat) (w : World) (cs : Array Value), f + k = d → Below wB.heap.size wB w → Blk w wB.heap.size cs 22 → cs.size = d → (∀ j, j < f → cs[j]? = some (.float .f64 (unV gs i j))) →
      lanes_Unpack.l64 R b47 (k + 1) a n c d a10 n10 c10 i (some (na wB)) d d N i (d : Int) f w := by
  have hm := hU.many
  have hs := hU.short
  have hd6 := hU.dim
  intro k
  induction k with
  | zero =>
    intro f w cs hf hb hB hz hF
    unfold lanes_Unpack.l64 lanes_Unpack.g64
    refine onDec_f (by omega) ?_
    rw [i64_succ (by omega)]
    refine h w cs hb hB ?_
    apply List.ext_getElem?
    intro j
    by_cases hj : j < d
    · have := hF j (by omega)
      rw [List.getElem?_map]
      unfold unRow
      rw [List.getElem?_map, List.getElem?_range hj]
      simpa using this
    · rw [List.getElem?_eq_none (by simp [hz]; omega), List.getElem?_eq_none (by simp [unRow]; omega)]
  | succ k ih =>
    intro f w cs hf hb hB hz hF
    have hfd : f < d := by omega
    unfold lanes_Unpack.l64 lanes_Unpack.g64
    rw [tdiv8 (by omega), tmod8]
    refine onDec_t (by omega) (hU.at' hi hfd fun p a' n' c' hc hn' hrd => ite_mk (by omega) ⟨_, _, _, cix (bkeep hb hc), hrd fun q hq => ite_mk (by omega) (ite_mk (by omega) ⟨_, by rw [add_add, Int.toNat_natCast, Int.toNat_natCast, Nat.mul_one]; exact bkeep hb hq, ?_⟩)⟩)
    rw [optN_some]
    refine ite_mk (by omega) ?_
    have ea : ((na wB).add ((f : Int).toNat * 1)).add 0 = ⟨wB.heap.size, f, none⟩ := by rw [add_zero, na_add]; simp
    rw [ea, i64_succ (by omega)]
    refine ⟨hB.ok (by omega), ?_⟩
    unfold nw
    refine ih (f + 1) _ _ (by omega) (below_set hb (Nat.le_refl _) _) (hB.set _ _) (by simpa using hz) fun j hj => ?_
    by_cases hjf : j = f
    · subst hjf
      rw [Array.getElem?_setIfInBounds_self_of_lt (by omega)]
    · rw [Array.getElem?_setIfInBounds_ne (Ne.symm hjf)]
      exact hF j (by omega)

theorem unpack_i {R : Value → World → Prop} {w0 : World} {a : Option Addr} {n c N d : Nat} {gs : List (List (Nat → Nat))} (hU : UIn w0 a n gs N d)
    (hR : ∀ v u, Nest 48 (Own1 22 encF w0.heap.size) u w0.heap.size v (unpacked gs N d) → Below w0.heap.size w0 u → R (.tuple #[v, .int .i64 0]) u) :
    ∀ (k i : Nat) (a8 : Option Addr) (n8 c8 : Nat) (w : World), i + k = N → Below w0.heap.size w0 w → Nest 48 (Own1 22 encF w0.heap.size) w w0.heap.size (.slice a8 n8 c8) ((unpacked gs N d).take i) →
      lanes_Unpack.l47 R (k + 1) a n c d a8 n8 c8 N i w := by
  have hm := hU.many
  have hs := hU.short
  have hd6 := hU.dim
  have hpl : (unpacked gs N d).length = N := by simp [unpacked]
  intro k
  induction k with
  | zero =>
    intro i a8 n8 c8 w hi hb hN
    unfold lanes_Unpack.l47 lanes_Unpack.g47
    refine onDec_f (by omega) (hR _ _ ?_ hb)
    rwa [List.take_of_length_le (by omega)] at hN
  | succ k ih =>
    intro i a8 n8 c8 w hi hb hN
    unfold lanes_Unpack.l47 lanes_Unpack.g47
    refine onDec_t (by omega) (ite_mk (by omega) ?_)
    unfold nw
    rw [Int.toNat_natCast, Nat.mul_one]
    refine ⟨d + 1, unpack_f (hU.keep hb) (by omega) (fun w' cs hb' hB' hF' => ?_) d 0 _ _ (by omega) (below_new _ _) (Blk.new _ _ _) (size_madeCells _ _) (fun j hj => by omega)⟩
    unfold nw
    have hbw : Below w0.heap.size w0 w' := bthen hb hb'
    have hN' : Nest 48 (Own1 22 encF w0.heap.size) w' w0.heap.size (.slice a8 n8 c8) ((unpacked gs N d).take i) := hN.to (fun _ _ h => own_keep h hb') (fun _ _ h => own_keep h hb')
    have hI : Own1 22 encF w0.heap.size w' (.slice (some (na w)) d d) (unRow gs d i) := by
      refine ⟨by simp, .inr ⟨w.heap.size, d, cs, by simp [unRow, na], hb.size, hB', by simp [unRow], by simp only [maxLen]; omega, ?_, ?_⟩⟩
      · have := congrArg List.length hF'
        simp [unRow] at this
        omega
      · rw [hF', List.take_of_length_le (by simp)]
    have htl : ((unpacked gs N d).take i).length = i := by simp; omega
    refine Nest.push S31 hN' hI rfl (by rw [htl]; simp only [maxLen]; omega) (by rw [htl]; omega) hbw.size (fun w2 n2 xs ho hg v0 x0 h0 => own_grown h0 ho (by decide) hg) ?_
    intro a4 c4 w2 hN3 hg3 ⟨_, _, ho3⟩
    refine ⟨_, _, _, rfl, ?_⟩
    refine ih (i + 1) _ _ _ w2 (by omega) (grown_below hbw ho3 hg3 (Nat.le_refl _) hbw.size) ?_
    rw [List.take_add_one]
    have : (unpacked gs N d)[i]? = some (unRow gs d i) := by
      unfold unpacked
      rw [List.getElem?_map, List.getElem?_range (by omega)]
      rfl
    rw [this]
    exact hN3

theorem many' {n : Nat} (hn : n ≤ 9223372036854775807) (w : World) : Pure Proofs.Try.prog 26 #[.int .i64 n] w (.int .i64 ((n + 7) / 8 : Nat)) := by
  refine lanes_groups.calls (R := fun v' u => v' = _ ∧ Below w.heap.size w u) ?_
  unfold lanes_groups lanes_groups.g0
  refine onBool_mk (fun hb => ?_) (fun hb => ?_)
  · have : n = 0 := by simpa using hb
    subst this
    exact ⟨rfl, Below.refl _ _⟩
  · have h0 : n ≠ 0 := by simpa using hb
    refine ⟨?_, Below.refl _ _⟩
    have e1 : IntKind.i64.wrap ((n : Int) - 1) = ((n - 1 : Nat) : Int) := by rw [i64_id (by omega) (by omega)]; omega
    have e2 : Int.tdiv ((n - 1 : Nat) : Int) 8 = (((n - 1) / 8 : Nat) : Int) := rfl
    rw [e1, e2, i64_id (x := (((n - 1) / 8 : Nat) : Int)) (by omega) (by omega), i64_id (by omega) (by omega)]
    congr 1
    omega

theorem unpack_check {R : Value → World → Prop} {w : World} {a : Option Addr} {n c : Nat} {d N : Int} {gs : List (List (Nat → Nat))} (hx : SlG w a n gs) (hs : n ≤ 1048576)
    (hok : allLenG gs d = true → lanes_Unpack.e47 R a n c d none 0 0 N 0 w) (hbad : allLenG gs d = false → R (.tuple #[.slice none 0 0, .int .i64 6]) w) :
    ∀ (k i : Nat), i + k = n → (∀ b, allLenG (gs.drop i) d = b → allLenG gs d = b) → lanes_Unpack.l22 R (k + 1) a n c N d a n c (n : Int) i w := by
  have hln := hx.len
  intro k
  induction k with
  | zero =>
    intro i hi hb
    unfold lanes_Unpack.l22 lanes_Unpack.g22
    refine onDec_f (by omega) (hok (hb true ?_))
    rw [List.drop_eq_nil_of_le (by omega)]
    rfl
  | succ k ih =>
    intro i hi hb
    unfold lanes_Unpack.l22 lanes_Unpack.g22
    refine onDec_t (by omega) (hx.read (i := i) (by omega) fun p a' n' c' hc hr => ite_mk (by omega) ⟨_, _, _, by simpa using hc, ?_⟩)
    have hl := hr.len
    have hd := allLenG_drop (l := gs) (d := d) (i := i) (by omega)
    refine onBool_mk (fun hne => hbad (hb false ?_)) (fun heq => ?_)
    · rw [hd]
      have : ((gs[i]'(by omega)).length : Int) ≠ d := by rw [← hl]; simpa using hne
      simp [this]
    · rw [i64_succ (by omega)]
      refine ih (i + 1) (by omega) fun b hbb => hb b ?_
      have : ((gs[i]'(by omega)).length : Int) = d := by rw [← hl]; simpa using heq
      rw [hd, hbb]
      simp [this]

def UnR (w : World) (gs : List (List (Nat → Nat))) (n d : Int) (v : Value) (u : World) : Prop :=
  ∃ a m c, v = .tuple #[.slice a m c, .int .i64 (unCode gs n d)] ∧ Sl2 encF u a m (unAns gs n d) ∧ Below w.heap.size w u
theorem sl2_nil (u : World) : Sl2 encF u none 0 [] := ⟨rfl, fun i x h => by simp at h⟩
theorem unR_bad {w u : World} {gs : List (List (Nat → Nat))} {n d k : Int} (hc : unCode gs n d = k) (hk : k ≠ 0) (hb : Below w.heap.size w u) : UnR w gs n d (.tuple #[.slice none 0 0, .int .i64 k]) u :=
  ⟨none, 0, 0, by rw [hc], by unfold unAns; rw [hc, if_neg hk]; exact sl2_nil u, hb⟩

theorem lanesUnpack {w : World} {a : Option Addr} {n c : Nat} {N d : Int} {gs : List (List (Nat → Nat))} (hx : SlG w a n gs) (hs : n ≤ 1048576) (hN : N ≤ 9223372036854775807) :
    E.CallsD Proofs.Try.prog 17 #[.slice a n c, .int .i64 N, .int .i64 d] w (UnR w gs N d) := by
  have hln := hx.len
  refine lanes_Unpack.calls ?_
  unfold lanes_Unpack lanes_Unpack.g0
  refine onDec (fun h => ?_) (fun h => onDec (fun h2 => ?_) (fun h2 => onDec (fun h3 => ?_) (fun h3 => ?_)))
  · exact unR_bad (by unfold unCode; rw [if_pos h]) (by decide) (Below.refl _ _)
  · exact unR_bad (by unfold unCode; rw [if_neg h, if_pos h2]) (by decide) (Below.refl _ _)
  · exact unR_bad (by unfold unCode; rw [if_neg h, if_neg h2, if_pos h3]) (by decide) (Below.refl _ _)
  obtain ⟨D, rfl⟩ : ∃ D : Nat, d = D := ⟨d.toNat, by omega⟩
  obtain ⟨M, rfl⟩ : ∃ M : Nat, N = M := ⟨N.toNat, by omega⟩
  refine E.CallsD.mono (many' (n := M) (by omega) w) fun v u ⟨hv, hu⟩ => ⟨_, hv, onBool_mk (fun hb => ?_) (fun hb => ?_)⟩
  · refine unR_bad ?_ (by decide) hu
    unfold unCode
    rw [if_neg h, if_neg h2, if_neg h3, if_pos]
    simp at hb
    simp
    omega
  · have hm : n = (M + 7) / 8 := by simp at hb; omega
    have hxu : SlG u a n gs := hx.keep (fun _ _ _ hi => hi.keep hu) hu
    refine ⟨n + 1, unpack_check hxu hs (fun hall => ?_) (fun hall => ?_) n 0 (by omega) (fun b hb => by simpa using hb)⟩
    · have hc : unCode gs M D = 0 := by unfold unCode; rw [if_neg h, if_neg h2, if_neg h3, if_neg (by simp; omega), if_pos hall]
      refine ⟨M + 1, unpack_i ⟨hxu, hs, by omega, allLenG_nat hall, hm⟩ (fun v x hN hb => ?_) _ 0 none 0 0 u (by omega) (Below.refl _ _) (by simpa using Nest.nil u)⟩
      obtain ⟨a', c', rfl, hg⟩ := hN.sl2
      exact ⟨a', _, c', by rw [hc], by unfold unAns; rw [if_pos hc]; exact hg, bthen hu hb⟩
    · exact unR_bad (by unfold unCode; rw [if_neg h, if_neg h2, if_neg h3, if_neg (by simp; omega), if_neg (by rw [hall]; simp)]) (by decide) hu
end Go.Mir
