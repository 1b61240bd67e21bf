/- Part of a proof of laws of the seat YtmmomijhlmmjpaaDoor: functions' weakest preconditions, each checked by the kernel, contracts out of them, plain lemmas; no conditions. -/
import Derived.Test.YtmmomijhlmmjpaaDoorN1
import Derived.Test.YtmmomijhlmmjpaaDoorEB
set_option linter.unusedVariables false
set_option linter.unusedSimpArgs false
set_option linter.unusedVariables false
namespace Go.Mir
open Go Go.E Go.RowKit
theorem S48 : SliceT Go.Proofs.Tryd.prog 60 55 1 8 := sliceT (by kernel_rfl)
theorem S31 : SliceT Go.Proofs.Tryd.prog 22 60 1 24 := sliceT (by kernel_rfl)
theorem S50 : SliceT Go.Proofs.Tryd.prog 50 57 8 64 := sliceT (by kernel_rfl)
theorem S32 : SliceT Go.Proofs.Tryd.prog 35 50 1 24 := sliceT (by kernel_rfl)
abbrev encF (x : Nat) : Value := .float .f64 x
abbrev encL (x : Nat → Nat) : List Value := (lcells x).toList
abbrev SlG (w : World) (a : Option Addr) (n : Nat) (gss : List (List (Nat → Nat))) : Prop := SlP (SlK 8 encL) w a n gss
theorem encL_get (x : Nat → Nat) {k : Nat} (hk : k < 8) : (encL x)[k]? = some (.float .f64 (x k)) := by
  have := lcells_get x hk
  simpa using this
theorem encL_len (x : Nat → Nat) : (encL x).length = 8 := rfl

theorem many {n : Nat} (hn : n ≤ 8388608) (w : World) : Pure Go.Proofs.Tryd.prog 20 #[.int .i64 n] w (.int .i64 ((n + 7) / 8 : Nat)) := by
  refine lanes_groups.calls (R := fun v' u => v' = _ ∧ Below w.heap.size w u) ?_
  unfold lanes_groups lanes_groups.g0
  refine onBool_mk (fun hb => ?_) (fun hb => ?_)
  · have : n = 0 := by simpa using hb
    subst this
    exact ⟨rfl, Below.refl _ _⟩
  · have h0 : n ≠ 0 := by simpa using hb
    refine ⟨?_, Below.refl _ _⟩
    have e1 : IntKind.i64.wrap ((n : Int) - 1) = ((n - 1 : Nat) : Int) := by rw [i64_id (by omega) (by omega)]; omega
    have e2 : Int.tdiv ((n - 1 : Nat) : Int) 8 = (((n - 1) / 8 : Nat) : Int) := rfl
    rw [e1, e2, i64_id (x := (((n - 1) / 8 : Nat) : Int)) (by omega) (by omega), i64_id (by omega) (by omega)]
    congr 1
    omega
def rowAt (l : List (List Nat)) (i f : Nat) : Nat := (l.getD i []).getD f 0
/-- The group's lanes. -/
def packV (l : List (List Nat)) (g f k : Nat) : Nat := rowAt l (min (8 * g + k) (l.length - 1)) f
def packRow (l : List (List Nat)) (d g : Nat) : List (Nat → Nat) := (List.range d).map fun f => fun k => packV l g f k
def packed (l : List (List Nat)) (d : Nat) : List (List (Nat → Nat)) := (List.range ((l.length + 7) / 8)).map fun g => packRow l d g
def packCode (l : List (List Nat)) (d : Int) : Int := if d < 0 then 2 else if d > 65536 then 2 else if l.all (fun r => (r.length : Int) == d) then 0 else 72
def packAns (l : List (List Nat)) (d : Int) : List (List (Nat → Nat)) := if packCode l d = 0 then packed l d.toNat else []

structure Filled (cs : Array Value) (d : Nat) (V : Nat → Nat → Nat) (done : Nat → Nat → Bool) : Prop where
  size : cs.size = d * 8
  at' : ∀ f k, f < d → k < 8 → cs[f * 8 + k]? = some (.float .f64 (bif done f k then V f k else 0))
theorem Filled.done_eq {cs : Array Value} {d : Nat} {V : Nat → Nat → Nat} {p q : Nat → Nat → Bool} (h : Filled cs d V p) (hpq : ∀ f k, f < d → k < 8 → p f k = q f k) : Filled cs d V q :=
  ⟨h.size, fun f k hf hk => by rw [← hpq f k hf hk]; exact h.at' f k hf hk⟩
theorem Filled.set {cs : Array Value} {d : Nat} {V : Nat → Nat → Nat} {p : Nat → Nat → Bool} (h : Filled cs d V p) {f0 k0 : Nat} (hf : f0 < d) (hk : k0 < 8) :
    Filled (cs.setIfInBounds (f0 * 8 + k0) (.float .f64 (V f0 k0))) d V (fun f k => p f k || (f == f0 && k == k0)) := by
  refine ⟨by simpa using h.size, fun f k hf' hk' => ?_⟩
  by_cases he : f = f0 ∧ k = k0
  · obtain ⟨rfl, rfl⟩ := he
    have hlt : f * 8 + k < cs.size := by rw [h.size]; omega
    rw [Array.getElem?_setIfInBounds_self_of_lt hlt]
    simp
  · have hne : f0 * 8 + k0 ≠ f * 8 + k := by omega
    rw [Array.getElem?_setIfInBounds_ne hne, h.at' f k hf' hk']
    have : (f == f0 && k == k0) = false := by
      cases h1 : (f == f0) <;> cases h2 : (k == k0) <;> simp_all
    rw [this, Bool.or_false]
theorem Filled.list {cs : Array Value} {d : Nat} {V : Nat → Nat → Nat} {p : Nat → Nat → Bool} (h : Filled cs d V p) (hp : ∀ f k, f < d → k < 8 → p f k = true) : cs.toList = ((List.range d).map fun f => fun k => V f k).flatMap encL := by
  have hl : (((List.range d).map fun f => fun k => V f k).flatMap encL).length = d * 8 := by rw [flatMap_length (k := 8) _ (fun x _ => rfl)]; simp
  apply List.ext_getElem?
  intro i
  by_cases hi : i < d * 8
  · have h1 := h.at' (i / 8) (i % 8) (by omega) (by omega)
    rw [hp _ _ (by omega) (by omega), show i / 8 * 8 + i % 8 = i by omega] at h1
    have h2 := flatMap_at (k := 8) (en := encL) ((List.range d).map fun f => fun k => V f k) (fun x _ => rfl) (i / 8) (fun k => V (i / 8) k) (by rw [List.getElem?_map, List.getElem?_range (by omega)]; rfl) (i % 8) _ (encL_get _ (by omega))
    rw [show i / 8 * 8 + i % 8 = i by omega] at h2
    rw [h2]
    simpa using h1
  · rw [List.getElem?_eq_none (by simp [h.size]; omega), List.getElem?_eq_none (by omega)]

theorem made_filled (d : Nat) (V : Nat → Nat → Nat) : Filled (madeCells #[.float .f64 0, .float .f64 0, .float .f64 0, .float .f64 0, .float .f64 0, .float .f64 0, .float .f64 0, .float .f64 0] (d * 8)) d V (fun _ _ => false) := by
  refine ⟨by simp [madeCells], fun f k hf hk => ?_⟩
  have hlt : f * 8 + k < d * 8 := by omega
  unfold madeCells
  rw [Array.getElem?_map, Array.getElem?_range]
  rw [if_pos hlt]
  simp only [Option.map_some, cond_false, Option.some.injEq]
  have : (f * 8 + k) % 8 = k := by omega
  rw [show (#[Value.float .f64 0, .float .f64 0, .float .f64 0, .float .f64 0, .float .f64 0, .float .f64 0, .float .f64 0, .float .f64 0] : Array Value).size = 8 from rfl, this]
  match k, hk with
  | 0, _ => rfl
  | 1, _ => rfl
  | 2, _ => rfl
  | 3, _ => rfl
  | 4, _ => rfl
  | 5, _ => rfl
  | 6, _ => rfl
  | 7, _ => rfl

theorem minI {a b : Nat} : (if ((a : Nat) : Int) < ((b : Nat) : Int) then ((a : Nat) : Int) else ((b : Nat) : Int)) = ((min b a : Nat) : Int) := by
  split <;> omega

/-- The rows that Pack is given. -/
structure PIn (w0 : World) (a : Option Addr) (n : Nat) (l : List (List Nat)) (d : Nat) : Prop where
  rd : Sl2 encF w0 a n l
  short : n ≤ 1048576
  dim : d ≤ 65536
  all : ∀ r ∈ l, r.length = d
theorem PIn.row {w0 : World} {a : Option Addr} {n : Nat} {l : List (List Nat)} {d : Nat} (h : PIn w0 a n l d) {i : Nat} (hi : i < n) : (l[i]'(h.rd.len ▸ hi)).length = d := h.all _ (List.getElem_mem _)
theorem rowAt_get {l : List (List Nat)} {i f : Nat} (hi : i < l.length) (hf : f < (l[i]).length) : rowAt l i f = l[i][f] := by
  unfold rowAt
  simp only [List.getD_eq_getElem?_getD, List.getElem?_eq_getElem hi, Option.getD_some, List.getElem?_eq_getElem hf]

theorem pack_f {R : Value → World → Prop} {b39 : Option Addr → Nat → Nat → Int → Option Addr → Nat → Nat → Int → Int → World → Prop} {b56 : Option Addr → Nat → Nat → Int → Option Addr → Nat → Nat → Int → Option Addr → Nat → Nat → Int → Int → Int → World → Prop}
    {wB : World} {a a8 : Option Addr} {n c n8 c8 d g i : Nat} {m : Int} {l : List (List Nat)} {row : List Nat} {a' : Option Addr} {n' c' : Nat} (hi : i < 8) (hr : Sl encF wB a' n' row) (hd : row.length = d) (hd6 : d ≤ 65536) (hrow : ∀ f, f < d → row.getD f 0 = packV l g f i)
    (h : ∀ w cs, Below wB.heap.size wB w → Blk w wB.heap.size cs 57 → Filled cs d (packV l g) (fun _ k => decide (k < i + 1)) → b56 a n c d a8 n8 c8 g (some (na wB)) d d m g (i + 1 : Nat) w) :
    ∀ (k f : Nat) (w : World) (cs : Array Value), f + k = d → Below wB.heap.size wB w → Blk w wB.heap.size cs 57 → Filled cs d (packV l g) (fun f' k => decide (k < i) || (k == i && decide (f' < f))) →
      lanes_Pack.l72 R b39 b56 (k + 1) a n c d a8 n8 c8 g (some (na wB)) d d i m g i a' n' c' (n' : Int) f w := by
  intro k
  induction k with
  | zero =>
    intro f w cs hf hb hB hF
    unfold lanes_Pack.l72 lanes_Pack.g72
    refine onDec_f (by have := hr.len; omega) ?_
    rw [i64_succ (by omega)]
    refine h w cs hb hB (hF.done_eq fun f' k hf' hk => ?_)
    rw [decide_eq_true (show f' < f by omega), Bool.and_true, show (k == i) = decide (k = i) from rfl, ← Bool.decide_or, decide_eq_decide]
    omega
  | succ k ih =>
    intro f w cs hf hb hB hF
    have hlen := hr.len
    have hfd : f < d := by omega
    unfold lanes_Pack.l72 lanes_Pack.g72
    refine onDec_t (by omega) ((hr.keep hb).read (i := f) (by omega) fun p hc => chk_mk (by omega) ⟨_, by simpa using hc, ?_⟩)
    rw [optN_some]
    refine chk_mk (by omega) (chk_mk (by omega) ?_)
    have ea : (((na wB).add ((f : Int).toNat * 8)).add ((i : Int).toNat * 1)).add 0 = ⟨wB.heap.size, f * 8 + i, none⟩ := by rw [add_zero, add_add, na_add]; simp
    rw [ea, i64_succ (by omega)]
    refine ⟨hB.ok (by rw [hF.size]; omega), ?_⟩
    unfold nw
    have hv : row[f]'(by omega) = packV l g f i := by
      have := hrow f hfd
      rwa [List.getD_eq_getElem?_getD, List.getElem?_eq_getElem (by omega)] at this
    rw [hv]
    refine ih (f + 1) _ _ (by omega) (below_set hb (Nat.le_refl _) _) (hB.set _ _) ((hF.set hfd hi).done_eq fun f' k hf' hk => ?_)
    rw [show (f' == f) = decide (f' = f) from rfl, show (k == i) = decide (k = i) from rfl, ← Bool.decide_and, ← Bool.decide_and, ← Bool.decide_or, ← Bool.decide_or, ← Bool.decide_and, ← Bool.decide_or, decide_eq_decide]
    omega

theorem pack_i {R : Value → World → Prop} {b39 : Option Addr → Nat → Nat → Int → Option Addr → Nat → Nat → Int → Int → World → Prop} {wB : World} {a a8 : Option Addr} {n c n8 c8 d g : Nat} {m : Int} {l : List (List Nat)} (hP : PIn wB a n l d) (hg : g * 8 < n)
    (h : ∀ w cs, Below wB.heap.size wB w → Blk w wB.heap.size cs 57 → Filled cs d (packV l g) (fun _ _ => true) →
      nw (w.alloc (.cells #[.slice (some (na wB)) d d] 50)) fun w25 => rawN Go.Proofs.Tryd.prog (Builtin.append_ #[35, 35] 35 #[.slice a8 n8 c8, .slice (some (na w)) 1 1]) w25 fun v26 u27 => ∃ ya : Option Addr, ∃ yn yc : Nat, v26 = .slice ya yn yc ∧ b39 a n c d ya yn yc m (g + 1 : Nat) u27) :
    ∀ (k i : Nat) (w : World) (cs : Array Value), i + k = 8 → Below wB.heap.size wB w → Blk w wB.heap.size cs 57 → Filled cs d (packV l g) (fun _ k => decide (k < i)) →
      lanes_Pack.l56 R b39 (k + 1) a n c d a8 n8 c8 g (some (na wB)) d d m g i w := by
  intro k
  induction k with
  | zero =>
    intro i w cs hi hb hB hF
    unfold lanes_Pack.l56 lanes_Pack.g56
    refine onDec_f (by omega) ?_
    have hs := hP.short
    have := h w cs hb hB (hF.done_eq fun f k hf hk => decide_eq_true (by omega))
    rw [i64_succ (by omega)]
    exact this
  | succ k ih =>
    intro i w cs hi hb hB hF
    have hs := hP.short
    have hln := hP.rd.len
    unfold lanes_Pack.l56 lanes_Pack.g56
    have e1 : IntKind.i64.wrap ((n : Int) - 1) = ((n - 1 : Nat) : Int) := by rw [i64_id (by omega) (by omega)]; omega
    have e2 : IntKind.i64.wrap (IntKind.i64.wrap ((g : Int) * 8) + (i : Int)) = ((8 * g + i : Nat) : Int) := by rw [i64_id (x := (g : Int) * 8) (by omega) (by omega), i64_id (by omega) (by omega)]; omega
    simp only [nv]
    rw [e1, e2, minI]
    have hlt : min (8 * g + i) (n - 1) < n := by omega
    refine onDec_t (by omega) (hP.rd.read hlt fun p a' n' c' hc hr => chk_mk (by omega) ⟨_, _, _, by simpa using bkeep hb hc, d + 1, ?_⟩)
    have hd := hP.row hlt
    refine pack_f (row := l[min (8 * g + i) (n - 1)]'(hln ▸ hlt)) (l := l) (by omega) hr hd hP.dim (fun f hf => ?_) (fun w cs hb hB hF => ih (i + 1) w cs (by omega) hb hB hF) d 0 w cs (by omega) hb hB (hF.done_eq fun f' k' _ _ => by simp)
    have := rowAt_get (l := l) (i := min (8 * g + i) (n - 1)) (f := f) (hln ▸ hlt) (by omega)
    unfold packV
    rw [show rowAt l (min (8 * g + i) (l.length - 1)) f = rowAt l (min (8 * g + i) (n - 1)) f from congrArg (fun z => rowAt l (min (8 * g + i) (z - 1)) f) hln.symm, this, List.getD_eq_getElem?_getD, List.getElem?_eq_getElem (by omega)]
    rfl

theorem pack_g {R : Value → World → Prop} {w0 : World} {a : Option Addr} {n c d : Nat} {l : List (List Nat)} (hP : PIn w0 a n l d)
    (hR : ∀ v u, Nest 50 (OwnK 57 8 encL w0.heap.size) u w0.heap.size v (packed l d) → Below w0.heap.size w0 u → R (.tuple #[v, .int .i64 0]) u) :
    ∀ (k g : Nat) (a8 : Option Addr) (n8 c8 : Nat) (w : World), g + k = (n + 7) / 8 → Below w0.heap.size w0 w → Nest 50 (OwnK 57 8 encL w0.heap.size) w w0.heap.size (.slice a8 n8 c8) ((packed l d).take g) →
      lanes_Pack.l39 R (k + 1) a n c d a8 n8 c8 ((n + 7) / 8 : Nat) g w := by
  have hs := hP.short
  have hln := hP.rd.len
  have hd6 := hP.dim
  have hpl : (packed l d).length = (n + 7) / 8 := by simp [packed, hln]
  intro k
  induction k with
  | zero =>
    intro g a8 n8 c8 w hg hb hN
    unfold lanes_Pack.l39 lanes_Pack.g39
    refine onDec_f (by omega) (hR _ _ ?_ hb)
    rwa [List.take_of_length_le (by omega)] at hN
  | succ k ih =>
    intro g a8 n8 c8 w hg hb hN
    unfold lanes_Pack.l39 lanes_Pack.g39
    refine onDec_t (by omega) (chk_mk (by omega) ?_)
    unfold nw
    rw [Int.toNat_natCast]
    have hPw : PIn w a n l d := ⟨hP.rd.keep hb, hs, hd6, hP.all⟩
    refine ⟨9, pack_i hPw (by omega) (fun w' cs hb' hB' hF' => ?_) 8 0 _ _ rfl (below_new _ _) (Blk.new _ _ _) ((made_filled d (packV l g)).done_eq fun f k _ _ => by simp)⟩
    unfold nw
    have hbw : Below w0.heap.size w0 w' := bthen hb hb'
    have hN' : Nest 50 (OwnK 57 8 encL w0.heap.size) w' w0.heap.size (.slice a8 n8 c8) ((packed l d).take g) := hN.to (fun _ _ h => own_keep h hb') (fun _ _ h => own_keep h hb')
    have hI : OwnK 57 8 encL w0.heap.size w' (.slice (some (na w)) d d) (packRow l d g) := by
      refine ⟨by rw [flatMap_length (k := 8) _ (fun x _ => rfl)], .inr ⟨w.heap.size, d, cs, by simp [packRow, na], hb.size, hB', by simp [packRow], by simp only [maxLen]; omega, hF'.size, ?_⟩⟩
      rw [hF'.list (fun _ _ _ _ => rfl)]
      rw [List.take_of_length_le (by rw [flatMap_length (k := 8) _ (fun x _ => rfl)]; simp [packRow])]
      rfl
    have htl : ((packed l d).take g).length = g := by simp; omega
    refine Nest.push S32 hN' hI rfl (by rw [htl]; simp only [maxLen]; omega) (by rw [htl]; omega) hbw.size (fun w2 n2 xs ho hg v0 x0 h0 => own_grown h0 ho (by decide) hg) ?_
    intro a4 c4 w2 hN3 hg3 ⟨_, _, ho3⟩
    refine ⟨_, _, _, rfl, ?_⟩
    refine ih (g + 1) _ _ _ w2 (by omega) (grown_below hbw ho3 hg3 (Nat.le_refl _) hbw.size) ?_
    rw [List.take_add_one]
    have : (packed l d)[g]? = some (packRow l d g) := by
      unfold packed
      rw [List.getElem?_map, List.getElem?_range (by omega)]
      rfl
    rw [this]
    exact hN3

def allLen (l : List (List Nat)) (d : Int) : Bool := l.all fun r => (r.length : Int) == d
theorem allLen_drop {l : List (List Nat)} {d : Int} {i : Nat} (hi : i < l.length) : allLen (l.drop i) d = (((l[i]).length : Int) == d && allLen (l.drop (i + 1)) d) := by
  unfold allLen
  rw [List.drop_eq_getElem_cons hi, List.all_cons]
theorem allLen_nat {l : List (List Nat)} {d : Nat} (h : allLen l (d : Int) = true) : ∀ r ∈ l, r.length = d := by
  intro r hr
  have := List.all_eq_true.1 h r hr
  simp only [beq_iff_eq] at this
  omega

theorem pack_check {R : Value → World → Prop} {w : World} {a : Option Addr} {n c : Nat} {d : Int} {l : List (List Nat)} (hx : Sl2 encF w a n l) (hs : n ≤ 1048576)
    (hok : allLen l d = true → ∀ u, Below w.heap.size w u → lanes_Pack.e39 R a n c d none 0 0 ((n + 7) / 8 : Nat) 0 u) (hbad : allLen l d = false → R (.tuple #[.slice none 0 0, .int .i64 72]) w) :
    ∀ (k i : Nat), i + k = n → (∀ b, allLen (l.drop i) d = b → allLen l d = b) → lanes_Pack.l14 R (k + 1) a n c d a n c (n : Int) i w := by
  have hln := hx.len
  intro k
  induction k with
  | zero =>
    intro i hi hb
    unfold lanes_Pack.l14 lanes_Pack.g14
    refine onDec_f (by omega) ?_
    refine E.CallsD.mono (many (n := n) (by omega) w) fun v u ⟨hv, hu⟩ => ⟨_, hv, hok (hb true ?_) u hu⟩
    rw [List.drop_eq_nil_of_le (by omega)]
    rfl
  | succ k ih =>
    intro i hi hb
    unfold lanes_Pack.l14 lanes_Pack.g14
    refine onDec_t (by omega) (hx.read (i := i) (by omega) fun p a' n' c' hc hr => chk_mk (by omega) ⟨_, _, _, by simpa using hc, ?_⟩)
    have hl := hr.len
    have hd := allLen_drop (l := l) (d := d) (i := i) (by omega)
    refine onBool_mk (fun hne => hbad (hb false ?_)) (fun heq => ?_)
    · rw [hd]
      have : ((l[i]'(by omega)).length : Int) ≠ d := by rw [← hl]; simpa using hne
      simp [this]
    · rw [i64_succ (by omega)]
      refine ih (i + 1) (by omega) fun b hbb => hb b ?_
      have : ((l[i]'(by omega)).length : Int) = d := by rw [← hl]; simpa using heq
      rw [hd, hbb]
      simp [this]

/-- What both Packs answer. -/
def PackR (w : World) (l : List (List Nat)) (d : Int) (v : Value) (u : World) : Prop :=
  ∃ a n c, v = .tuple #[.slice a n c, .int .i64 (packCode l d)] ∧ SlG u a n (packAns l d) ∧ Below w.heap.size w u
theorem slg_nil (u : World) : SlG u none 0 [] := ⟨rfl, fun i x h => by simp at h⟩

theorem lanesPack {w : World} {a : Option Addr} {n c : Nat} {d : Int} {l : List (List Nat)} (hx : Sl2 encF w a n l) (hs : n ≤ 1048576) :
    E.CallsD Go.Proofs.Tryd.prog 13 #[.slice a n c, .int .i64 d] w (PackR w l d) := by
  refine lanes_Pack.calls ?_
  unfold lanes_Pack lanes_Pack.g0
  refine onDec (fun h => ?_) (fun h => onDec (fun h2 => ?_) (fun h2 => ?_))
  · have hc : packCode l d = 2 := by unfold packCode; rw [if_pos h]
    exact ⟨none, 0, 0, by rw [hc], by unfold packAns; rw [hc]; exact slg_nil w, Below.refl _ _⟩
  · have hc : packCode l d = 2 := by unfold packCode; rw [if_neg h, if_pos h2]
    exact ⟨none, 0, 0, by rw [hc], by unfold packAns; rw [hc]; exact slg_nil w, Below.refl _ _⟩
  · obtain ⟨D, rfl⟩ : ∃ D : Nat, d = D := ⟨d.toNat, by omega⟩
    refine ⟨n + 1, pack_check hx hs (fun hall u hu => ?_) (fun hall => ?_) n 0 (by omega) (fun b hb => by simpa using hb)⟩
    · have hc : packCode l D = 0 := by unfold packCode; rw [if_neg h, if_neg h2, if_pos (show (l.all fun r => (r.length : Int) == (D : Int)) = true from hall)]
      refine ⟨(n + 7) / 8 + 1, pack_g (w0 := u) ⟨hx.keep hu, hs, by omega, allLen_nat hall⟩ (fun v x hN hb => ?_) _ 0 none 0 0 u (by omega) (Below.refl _ _) (by simpa using Nest.nil u)⟩
      obtain ⟨a', c', rfl, hg⟩ := hN.slp encL_len (by omega)
      exact ⟨a', _, c', by rw [hc], by unfold packAns; rw [if_pos hc]; exact hg, bthen hu hb⟩
    · have hc : packCode l D = 72 := by unfold packCode; rw [if_neg h, if_neg h2, if_neg (by rw [show (l.all fun r => (r.length : Int) == (D : Int)) = false from hall]; simp)]
      exact ⟨none, 0, 0, by rw [hc], by unfold packAns; rw [hc]; exact slg_nil w, Below.refl _ _⟩
end Go.Mir
