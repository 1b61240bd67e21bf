/- Part of a proof of laws of the seat YtmmomijhlmmjpaaDoor: functions' weakest preconditions, each checked by the kernel, contracts out of them, plain lemmas; no conditions. -/
import Derived.Test.YtmmomijhlmmjpaaDoorTMA
import Derived.Test.YtmmomijhlmmjpaaDoorEC
set_option linter.unusedVariables false
set_option linter.unusedSimpArgs false
set_option linter.unusedVariables false
namespace Go.Mir
open Go Go.E Go.RowKit
/-- Eight numbers. -/
def lv (x : Nat → Nat) : Value := .agg #[.float .f64 (x 0), .float .f64 (x 1), .float .f64 (x 2), .float .f64 (x 3), .float .f64 (x 4), .float .f64 (x 5), .float .f64 (x 6), .float .f64 (x 7)]
abbrev lcells (x : Nat → Nat) : Array Value := #[.float .f64 (x 0), .float .f64 (x 1), .float .f64 (x 2), .float .f64 (x 3), .float .f64 (x 4), .float .f64 (x 5), .float .f64 (x 6), .float .f64 (x 7)]
theorem lcells_get (x : Nat → Nat) {i : Nat} (h : i < 8) : (lcells x)[i]? = some (.float .f64 (x i)) := by
  match i, h with
  | 0, _ => rfl
  | 1, _ => rfl
  | 2, _ => rfl
  | 3, _ => rfl
  | 4, _ => rfl
  | 5, _ => rfl
  | 6, _ => rfl
  | 7, _ => rfl

/-- The lanes of which p holds, as bits, from lane i on, n lanes. -/
def fold8 (p : Nat → Bool) : Nat → Nat → BitVec 8 → BitVec 8
  | 0, _, acc => acc
  | n + 1, i, acc => fold8 p n (i + 1) (if p i then acc ||| BitVec.twoPow 8 i else acc)

def fgt (a b : Nat) : Bool := FloatKind.f64.format.order a b == some .gt
def feq (a b : Nat) : Bool := FloatKind.f64.format.order a b == some .eq
def nan (a : Nat) : Bool := FloatKind.f64.format.order a a != some .eq

theorem shlI {i : Nat} (h : i < 8) : IntKind.u8.wrap (1 * 2 ^ (min (IntKind.u64.wrap (i : Int)).toNat 8)) = ((BitVec.twoPow 8 i).toNat : Int) := by
  rw [u64_id (by omega) (by omega)]
  exact shl8 h

theorem i64_succ {i : Nat} (h : i < 9223372036854775807) : IntKind.i64.wrap ((i : Int) + 1) = ((i + 1 : Nat) : Int) := by rw [i64_id (by omega) (by omega)]; rfl
theorem not_neg8 {i : Nat} (h : i < 8) : ¬ IntKind.u64.wrap (i : Int) < 0 := by rw [u64_id] <;> omega
abbrev encI (x : Int) : Value := .int .i64 x
/-- Is the number one of the categories? -/
def isCat (cs : List Int) (v : Nat) : Bool := cs.any fun c => feq v (FloatKind.f64.nearest c)

theorem isCat_step {cs : List Int} {k : Nat} (hk : k < cs.length) (v : Nat) : isCat (cs.drop k) v = (feq v (FloatKind.f64.nearest (cs[k]'hk)) || isCat (cs.drop (k + 1)) v) := by
  unfold isCat
  rw [List.drop_eq_getElem_cons hk, List.any_cons]

/-! ### the compiled package -/
theorem above1 {v t : Nat} {p : Addr} {w : World} (h : w.cell? p = some (.float .f64 t)) : Pure Go.Proofs.Tryd.prog 22 #[.float .f64 v, .pointer (some p)] w (.bool (fgt v t)) := by
  refine lanes_Above_1.calls (R := fun v' u => v' = _ ∧ Below w.heap.size w u) ?_
  exact ⟨t, h, rfl, Below.refl _ _⟩
theorem lost1 {v : Nat} {w : World} : Pure Go.Proofs.Tryd.prog 24 #[.float .f64 v] w (.bool (nan v)) := by
  refine lanes_Lost_1.calls (R := fun v' u => v' = _ ∧ Below w.heap.size w u) ?_
  exact ⟨rfl, Below.refl _ _⟩

theorem outside1_loop {R : Value → World → Prop} {v : Nat} {w : World} {a : Option Addr} {c : Nat} {cs : List Int} (hc : Sl encI w a cs.length cs) (hl : cs.length ≤ 9223372036854775806) :
    ∀ (n k : Nat), k + n = cs.length → R (.bool (!isCat (cs.drop k) v)) w → lanes_Outside_1.l14 R (n + 1) v a cs.length c (cs.length : Int) k w
  | 0, k, hk, h => by
    unfold lanes_Outside_1.l14 lanes_Outside_1.g14
    refine onDec_f (by omega) ?_
    rw [List.drop_eq_nil_of_le (by omega)] at h
    exact h
  | n + 1, k, hk, h => by
    unfold lanes_Outside_1.l14 lanes_Outside_1.g14
    refine onDec_t (by omega) (hc.read (i := k) (by omega) fun q hq => chk_mk (by omega) ⟨cs[k]'(by omega), by simpa using hq, ?_⟩)
    rw [List.drop_eq_getElem_cons (by omega)] at h
    simp only [isCat, List.any_cons] at h
    simp only [nv]
    rw [i64_succ (by omega), feq_comm]
    refine onBool_mk (fun hb => ?_) (fun hb => ?_)
    · rw [show feq v (FloatKind.f64.nearest (cs[k]'(by omega))) = true from hb] at h
      simpa using h
    · refine outside1_loop hc hl n (k + 1) (by omega) ?_
      rw [show feq v (FloatKind.f64.nearest (cs[k]'(by omega))) = false from hb] at h
      simpa only [Bool.false_or, isCat] using h

theorem outside1 {v : Nat} {p : Addr} {w : World} {a : Option Addr} {n c : Nat} {cs : List Int} (h : w.cell? p = some (.slice a n c)) (hc : Sl encI w a n cs) (hl : n ≤ 9223372036854775806) :
    Pure Go.Proofs.Tryd.prog 23 #[.float .f64 v, .pointer (some p)] w (.bool (!nan v && !isCat cs v)) := by
  obtain rfl := hc.len
  refine lanes_Outside_1.calls (R := fun v' u => v' = _ ∧ Below w.heap.size w u) ?_
  unfold lanes_Outside_1 lanes_Outside_1.g0
  refine onBool_mk (fun hb => ?_) (fun hb => ?_)
  · exact ⟨by rw [show nan v = true from hb]; rfl, Below.refl _ _⟩
  · refine ⟨a, _, c, h, cs.length + 1, outside1_loop hc hl cs.length 0 (by omega) ⟨?_, Below.refl _ _⟩⟩
    rw [show nan v = false from hb]
    rfl

theorem gathered_a_loop {R : Value → World → Prop} {x : Nat → Nat} {w0 : World} {p : Addr} {q : Nat → Bool}
    (hp : ∀ v u, Below w0.heap.size w0 u → Pure Go.Proofs.Tryd.prog 22 (#[.float .f64 v] ++ #[.pointer (some p)]) u (.bool (q v))) :
    ∀ (n i : Nat) (acc : BitVec 8) (w : World), i + n = 8 → Below w0.heap.size w0 w → (∀ u, Below w0.heap.size w0 u → R (.int .u8 (fold8 (fun i => q (x i)) n i acc).toNat) u) →
      lanes_gathered_a.l8 R (n + 1) p acc.toNat (x 0) (x 1) (x 2) (x 3) (x 4) (x 5) (x 6) (x 7) i w
  | 0, i, acc, w, hi, hb, h => by
    unfold lanes_gathered_a.l8 lanes_gathered_a.g8
    exact onDec_f (by omega) (h _ hb)
  | n + 1, i, acc, w, hi, hb, h => by
    unfold lanes_gathered_a.l8 lanes_gathered_a.g8
    refine onDec_t (by omega) (chk_mk (by omega) ⟨x i, by simpa using lcells_get x (i := i) (by omega), ?_⟩)
    refine E.CallsD.mono (hp (x i) w hb) fun v u ⟨hv, hu⟩ => ⟨_, hv, ?_⟩
    simp only [nv]
    rw [shlI (by omega), or8, i64_succ (by omega)]
    unfold fold8 at h
    refine onBool_mk (fun hq => nchk_mk (not_neg8 (by omega)) ?_) (fun hq => ?_)
    · simp only [hq, if_true] at h
      exact gathered_a_loop hp n (i + 1) _ u (by omega) (bthen hb hu) h
    · simp only [hq, Bool.false_eq_true, if_false] at h
      exact gathered_a_loop hp n (i + 1) _ u (by omega) (bthen hb hu) h

theorem gathered_a {x : Nat → Nat} {w : World} {p : Addr} {q : Nat → Bool} (hp : ∀ v u, Below w.heap.size w u → Pure Go.Proofs.Tryd.prog 22 (#[.float .f64 v] ++ #[.pointer (some p)]) u (.bool (q v))) :
    Pure Go.Proofs.Tryd.prog 21 #[lv x, .func (.func 22) #[] #[.pointer (some p)]] w (.int .u8 (fold8 (fun i => q (x i)) 8 0 0).toNat) := by
  refine lanes_gathered_a.calls (R := fun v' u => v' = _ ∧ Below w.heap.size w u) ?_
  unfold lanes_gathered_a lanes_gathered_a.g0 nw
  have hn : ∀ i, i < 8 → (w.alloc (.cells (lcells x) 57)).cell? ((na w).add i) = some (.float .f64 (x i)) := fun i hi => by rw [cell_new]; exact lcells_get x hi
  refine ⟨x 0, hn 0 (by omega), x 1, hn 1 (by omega), x 2, hn 2 (by omega), x 3, hn 3 (by omega), x 4, hn 4 (by omega), x 5, hn 5 (by omega), x 6, hn 6 (by omega), x 7, hn 7 (by omega), ?_⟩
  exact ⟨9, gathered_a_loop (x := x) (w0 := w.alloc (.cells (lcells x) 57)) (fun v u hu => hp v u (bthen (below_new _ _) hu)) 8 0 0 _ rfl (Below.refl _ _) (fun u hu => ⟨rfl, bthen (below_new _ _) hu⟩)⟩

theorem gathered_o_loop {R : Value → World → Prop} {x : Nat → Nat} {w0 : World} {p : Addr} {q : Nat → Bool}
    (hp : ∀ v u, Below w0.heap.size w0 u → Pure Go.Proofs.Tryd.prog 23 (#[.float .f64 v] ++ #[.pointer (some p)]) u (.bool (q v))) :
    ∀ (n i : Nat) (acc : BitVec 8) (w : World), i + n = 8 → Below w0.heap.size w0 w → (∀ u, Below w0.heap.size w0 u → R (.int .u8 (fold8 (fun i => q (x i)) n i acc).toNat) u) →
      lanes_gathered_o.l8 R (n + 1) p acc.toNat (x 0) (x 1) (x 2) (x 3) (x 4) (x 5) (x 6) (x 7) i w
  | 0, i, acc, w, hi, hb, h => by
    unfold lanes_gathered_o.l8 lanes_gathered_o.g8
    exact onDec_f (by omega) (h _ hb)
  | n + 1, i, acc, w, hi, hb, h => by
    unfold lanes_gathered_o.l8 lanes_gathered_o.g8
    refine onDec_t (by omega) (chk_mk (by omega) ⟨x i, by simpa using lcells_get x (i := i) (by omega), ?_⟩)
    refine E.CallsD.mono (hp (x i) w hb) fun v u ⟨hv, hu⟩ => ⟨_, hv, ?_⟩
    simp only [nv]
    rw [shlI (by omega), or8, i64_succ (by omega)]
    unfold fold8 at h
    refine onBool_mk (fun hq => nchk_mk (not_neg8 (by omega)) ?_) (fun hq => ?_)
    · simp only [hq, if_true] at h
      exact gathered_o_loop hp n (i + 1) _ u (by omega) (bthen hb hu) h
    · simp only [hq, Bool.false_eq_true, if_false] at h
      exact gathered_o_loop hp n (i + 1) _ u (by omega) (bthen hb hu) h

theorem gathered_o {x : Nat → Nat} {w : World} {p : Addr} {q : Nat → Bool} (hp : ∀ v u, Below w.heap.size w u → Pure Go.Proofs.Tryd.prog 23 (#[.float .f64 v] ++ #[.pointer (some p)]) u (.bool (q v))) :
    Pure Go.Proofs.Tryd.prog 21 #[lv x, .func (.func 23) #[] #[.pointer (some p)]] w (.int .u8 (fold8 (fun i => q (x i)) 8 0 0).toNat) := by
  refine lanes_gathered_o.calls (R := fun v' u => v' = _ ∧ Below w.heap.size w u) ?_
  unfold lanes_gathered_o lanes_gathered_o.g0 nw
  have hn : ∀ i, i < 8 → (w.alloc (.cells (lcells x) 57)).cell? ((na w).add i) = some (.float .f64 (x i)) := fun i hi => by rw [cell_new]; exact lcells_get x hi
  refine ⟨x 0, hn 0 (by omega), x 1, hn 1 (by omega), x 2, hn 2 (by omega), x 3, hn 3 (by omega), x 4, hn 4 (by omega), x 5, hn 5 (by omega), x 6, hn 6 (by omega), x 7, hn 7 (by omega), ?_⟩
  exact ⟨9, gathered_o_loop (x := x) (w0 := w.alloc (.cells (lcells x) 57)) (fun v u hu => hp v u (bthen (below_new _ _) hu)) 8 0 0 _ rfl (Below.refl _ _) (fun u hu => ⟨rfl, bthen (below_new _ _) hu⟩)⟩

theorem gathered_l_loop {R : Value → World → Prop} {x : Nat → Nat} {w0 : World} {q : Nat → Bool}
    (hp : ∀ v u, Below w0.heap.size w0 u → Pure Go.Proofs.Tryd.prog 24 (#[.float .f64 v] ++ #[]) u (.bool (q v))) :
    ∀ (n i : Nat) (acc : BitVec 8) (w : World), i + n = 8 → Below w0.heap.size w0 w → (∀ u, Below w0.heap.size w0 u → R (.int .u8 (fold8 (fun i => q (x i)) n i acc).toNat) u) →
      lanes_gathered_l.l8 R (n + 1) acc.toNat (x 0) (x 1) (x 2) (x 3) (x 4) (x 5) (x 6) (x 7) i w
  | 0, i, acc, w, hi, hb, h => by
    unfold lanes_gathered_l.l8 lanes_gathered_l.g8
    exact onDec_f (by omega) (h _ hb)
  | n + 1, i, acc, w, hi, hb, h => by
    unfold lanes_gathered_l.l8 lanes_gathered_l.g8
    refine onDec_t (by omega) (chk_mk (by omega) ⟨x i, by simpa using lcells_get x (i := i) (by omega), ?_⟩)
    refine E.CallsD.mono (hp (x i) w hb) fun v u ⟨hv, hu⟩ => ⟨_, hv, ?_⟩
    simp only [nv]
    rw [shlI (by omega), or8, i64_succ (by omega)]
    unfold fold8 at h
    refine onBool_mk (fun hq => nchk_mk (not_neg8 (by omega)) ?_) (fun hq => ?_)
    · simp only [hq, if_true] at h
      exact gathered_l_loop hp n (i + 1) _ u (by omega) (bthen hb hu) h
    · simp only [hq, Bool.false_eq_true, if_false] at h
      exact gathered_l_loop hp n (i + 1) _ u (by omega) (bthen hb hu) h

theorem gathered_l {x : Nat → Nat} {w : World} {q : Nat → Bool} (hp : ∀ v u, Below w.heap.size w u → Pure Go.Proofs.Tryd.prog 24 (#[.float .f64 v] ++ #[]) u (.bool (q v))) :
    Pure Go.Proofs.Tryd.prog 21 #[lv x, .func (.func 24) #[] #[]] w (.int .u8 (fold8 (fun i => q (x i)) 8 0 0).toNat) := by
  refine lanes_gathered_l.calls (R := fun v' u => v' = _ ∧ Below w.heap.size w u) ?_
  unfold lanes_gathered_l lanes_gathered_l.g0 nw
  have hn : ∀ i, i < 8 → (w.alloc (.cells (lcells x) 57)).cell? ((na w).add i) = some (.float .f64 (x i)) := fun i hi => by rw [cell_new]; exact lcells_get x hi
  refine ⟨x 0, hn 0 (by omega), x 1, hn 1 (by omega), x 2, hn 2 (by omega), x 3, hn 3 (by omega), x 4, hn 4 (by omega), x 5, hn 5 (by omega), x 6, hn 6 (by omega), x 7, hn 7 (by omega), ?_⟩
  exact ⟨9, gathered_l_loop (x := x) (w0 := w.alloc (.cells (lcells x) 57)) (fun v u hu => hp v u (bthen (below_new _ _) hu)) 8 0 0 _ rfl (Below.refl _ _) (fun u hu => ⟨rfl, bthen (below_new _ _) hu⟩)⟩

theorem lanesAbove (x : Nat → Nat) (t : Nat) (w : World) : Pure Go.Proofs.Tryd.prog 14 #[lv x, .float .f64 t] w (.int .u8 (fold8 (fun i => fgt (x i) t) 8 0 0).toNat) := by
  refine lanes_Above.calls (R := fun v' u => v' = _ ∧ Below w.heap.size w u) ?_
  unfold lanes_Above lanes_Above.g0 nw
  have hb : Below w.heap.size w ((w.alloc (.cells (lcells x) 57)).alloc (.cells #[.float .f64 t] 55)) := bthen (below_new _ _) (below_new _ _)
  have hn : ∀ i, i < 8 → ((w.alloc (.cells (lcells x) 57)).alloc (.cells #[.float .f64 t] 55)).cell? ((na w).add i) = some (.float .f64 (x i)) := fun i hi => bkeep (below_new _ _) (by rw [cell_new]; exact lcells_get x hi)
  refine ⟨x 0, hn 0 (by omega), x 1, hn 1 (by omega), x 2, hn 2 (by omega), x 3, hn 3 (by omega), x 4, hn 4 (by omega), x 5, hn 5 (by omega), x 6, hn 6 (by omega), x 7, hn 7 (by omega), ?_⟩
  refine E.CallsD.mono (gathered_a (x := x) (q := fun v => fgt v t) fun v u hu => above1 (bkeep hu (by rw [cell_new0]; rfl))) fun v u ⟨hv, hu⟩ => ⟨_, hv, rfl, bthen hb hu⟩

theorem lanesLost (x : Nat → Nat) (w : World) : Pure Go.Proofs.Tryd.prog 16 #[lv x] w (.int .u8 (fold8 (fun i => nan (x i)) 8 0 0).toNat) := by
  refine lanes_Lost.calls (R := fun v' u => v' = _ ∧ Below w.heap.size w u) ?_
  unfold lanes_Lost lanes_Lost.g0 nw
  have hn : ∀ i, i < 8 → (w.alloc (.cells (lcells x) 57)).cell? ((na w).add i) = some (.float .f64 (x i)) := fun i hi => by rw [cell_new]; exact lcells_get x hi
  refine ⟨x 0, hn 0 (by omega), x 1, hn 1 (by omega), x 2, hn 2 (by omega), x 3, hn 3 (by omega), x 4, hn 4 (by omega), x 5, hn 5 (by omega), x 6, hn 6 (by omega), x 7, hn 7 (by omega), ?_⟩
  refine E.CallsD.mono (gathered_l (x := x) (q := fun v => nan v) fun v u hu => lost1) fun v u ⟨hv, hu⟩ => ⟨_, hv, rfl, bthen (below_new _ _) hu⟩

theorem lanesOutside (x : Nat → Nat) (w : World) {a : Option Addr} {n c : Nat} {cs : List Int} (hc : Sl encI w a n cs) (hl : n ≤ 9223372036854775806) :
    Pure Go.Proofs.Tryd.prog 15 #[lv x, .slice a n c] w (.int .u8 (fold8 (fun i => !nan (x i) && !isCat cs (x i)) 8 0 0).toNat) := by
  refine lanes_Outside.calls (R := fun v' u => v' = _ ∧ Below w.heap.size w u) ?_
  unfold lanes_Outside lanes_Outside.g0 nw
  have hb : Below w.heap.size w ((w.alloc (.cells (lcells x) 57)).alloc (.cells #[.slice a n c] 45)) := bthen (below_new _ _) (below_new _ _)
  have hn : ∀ i, i < 8 → ((w.alloc (.cells (lcells x) 57)).alloc (.cells #[.slice a n c] 45)).cell? ((na w).add i) = some (.float .f64 (x i)) := fun i hi => bkeep (below_new _ _) (by rw [cell_new]; exact lcells_get x hi)
  refine ⟨x 0, hn 0 (by omega), x 1, hn 1 (by omega), x 2, hn 2 (by omega), x 3, hn 3 (by omega), x 4, hn 4 (by omega), x 5, hn 5 (by omega), x 6, hn 6 (by omega), x 7, hn 7 (by omega), ?_⟩
  refine E.CallsD.mono (gathered_o (x := x) (q := fun v => !nan v && !isCat cs v) fun v u hu => outside1 (bkeep hu (by rw [cell_new0]; rfl)) (hc.keep (bthen hb hu)) hl) fun v u ⟨hv, hu⟩ => ⟨_, hv, rfl, bthen hb hu⟩

end Go.Mir
