/- Part of a proof of laws of the seat Ytfcablfoenhiiaa: functions' weakest preconditions, each checked by the kernel, and contracts out of them; no conditions. -/
import Derived.Test.YtfcablfoenhiiaaLN
import Derived.Test.YtfcablfoenhiiaaL3
import Derived.Test.YtfcablfoenhiiaaE9
set_option linter.unusedVariables false
set_option linter.unusedSimpArgs false
namespace Go.Mir
open Go Go.E Go.RowKit
theorem fbits (b : Nat) (w : World) : RunV Proofs.Try.prog (callFunc 27 #[.float .f64 b]) w (.int .u64 b) := fun d => by kernel_rfl

theorem S48 : SliceT Proofs.Try.prog 48 22 1 8 := sliceT (by kernel_rfl)
theorem S31 : SliceT Proofs.Try.prog 31 48 1 24 := sliceT (by kernel_rfl)
theorem S50 : SliceT Proofs.Try.prog 50 24 8 64 := sliceT (by kernel_rfl)
theorem S32 : SliceT Proofs.Try.prog 32 50 1 24 := sliceT (by kernel_rfl)

abbrev encF (x : Nat) : Value := .float .f64 x
abbrev encL (x : Nat → Nat) : List Value := (lcells x).toList
/-- Nothing is longer than this. -/
def Short {α : Type} (xss : List (List α)) : Prop := xss.length ≤ 8388608 ∧ ∀ xs ∈ xss, xs.length ≤ 1048576

/-- Two slices of slices of numbers, bit for bit. -/
theorem alike_in {R : Value → World → Prop} {b14 : Option Addr → Nat → Nat → Option Addr → Nat → Nat → Int → World → Prop} {w : World} {a b : Option Addr} {n m c d : Nat} {xss : List (List Nat)} (hs : Short xss)
    (hx : Sl2 encF w a n xss) (hy : Sl2 encF w b m xss) {i : Nat} (hi : i < n) (h : b14 a n c b m d (i + 1 : Nat) w) :
    ∀ (k j : Nat), j + k = (xss[i]'(hx.len ▸ hi)).length → thicketlaw18_alike.l34 R b14 (k + 1) a n c b m d i j w := by
  have hm : i < m := by have := hx.len; have := hy.len; omega
  have hlen : n ≤ 8388608 := by have := hs.1; have := hx.len; omega
  intro k
  induction k with
  | zero =>
    intro j hj
    unfold thicketlaw18_alike.l34 thicketlaw18_alike.g34
    refine hx.read hi fun p a' n' c' hc hr => ite_mk (by omega) ⟨_, _, _, by simpa using hc, onDec_f (by have := hr.len; omega) ?_⟩
    rw [i64_succ (by omega)]
    exact h
  | succ k ih =>
    intro j hj
    have hrow := hs.2 _ (List.getElem_mem (hx.len ▸ hi))
    unfold thicketlaw18_alike.l34 thicketlaw18_alike.g34
    refine hx.read hi fun p a' n' c' hc hr => ite_mk (by omega) ⟨_, _, _, by simpa using hc, onDec_t (by have := hr.len; omega) ?_⟩
    refine hx.read hi fun p a' n' c' hc hr => ite_mk (by omega) ⟨_, _, _, by simpa using hc, hr.read (i := j) (by have := hr.len; omega) fun q hq => ite_mk (by have := hr.len; omega) ⟨_, by simpa using hq, _, fbits _ _, ?_⟩⟩
    refine hy.read hm fun p a' n' c' hc hr => ite_mk (by omega) ⟨_, _, _, by simpa using hc, hr.read (i := j) (by have := hr.len; omega) fun q hq => ite_mk (by have := hr.len; omega) ⟨_, by simpa using hq, _, fbits _ _, ?_⟩⟩
    rw [i64_succ (by omega)]
    refine onBool_mk (fun hb => ?_) (fun _ => ih (j + 1) (by omega))
    simp at hb

theorem alike_out {R : Value → World → Prop} {w : World} {a b : Option Addr} {n m c d : Nat} {xss : List (List Nat)} (hs : Short xss) (hx : Sl2 encF w a n xss) (hy : Sl2 encF w b m xss) (h : R (.bool true) w) :
    ∀ (k i : Nat), i + k = n → thicketlaw18_alike.l14 R (k + 1) a n c b m d i w := by
  have hnm : n = m := by have := hx.len; have := hy.len; omega
  have hlen : n ≤ 8388608 := by have := hs.1; have := hx.len; omega
  intro k
  induction k with
  | zero =>
    intro i hi
    unfold thicketlaw18_alike.l14 thicketlaw18_alike.g14
    exact onDec_f (by omega) h
  | succ k ih =>
    intro i hi
    unfold thicketlaw18_alike.l14 thicketlaw18_alike.g14
    refine onDec_t (by omega) (hx.read (i := i) (by omega) fun p a' n' c' hc hr => ite_mk (by omega) ⟨_, _, _, by simpa using hc, hy.read (i := i) (by omega) fun p' a'' n'' c'' hc' hr' => ite_mk (by omega) ⟨_, _, _, by simpa using hc', ?_⟩⟩)
    have h1 := hr.len
    have h2 := hr'.len
    refine onBool_mk (fun hb => ?_) (fun _ => ⟨_, alike_in hs hx hy (i := i) (by omega) (ih (i + 1) (by omega)) _ 0 (Nat.zero_add _)⟩)
    simp [h1, h2] at hb

theorem alike {w : World} {a b : Option Addr} {n m c d : Nat} {xss : List (List Nat)} (hs : Short xss) (hx : Sl2 encF w a n xss) (hy : Sl2 encF w b m xss) :
    Pure Proofs.Try.prog 20 #[.slice a n c, .slice b m d] w (.bool true) := by
  refine thicketlaw18_alike.calls (R := fun v' u => v' = _ ∧ Below w.heap.size w u) ?_
  unfold thicketlaw18_alike thicketlaw18_alike.g0
  have hnm : n = m := by have := hx.len; have := hy.len; omega
  refine onBool_mk (fun hb => ?_) (fun _ => ⟨n + 1, alike_out hs hx hy ⟨rfl, Below.refl _ _⟩ n 0 (by omega)⟩)
  simp [hnm] at hb

/-! ### copied -/
theorem copied_loop {R : Value → World → Prop} {w0 : World} {a : Option Addr} {n c : Nat} {xss : List (List Nat)} (hs : Short xss) (hx : Sl2 encF w0 a n xss)
    (hR : ∀ v u, Nest 48 (Own1 22 encF w0.heap.size) u w0.heap.size v xss → Below w0.heap.size w0 u → R v u) :
    ∀ (k i : Nat) (a3 : Option Addr) (n3 c3 : Nat) (w : World), i + k = n → Below w0.heap.size w0 w → Nest 48 (Own1 22 encF w0.heap.size) w w0.heap.size (.slice a3 n3 c3) (xss.take i) →
      thicketlaw18_copied.l8 R (k + 1) a n c a3 n3 c3 i w := by
  have hlen : n ≤ 8388608 := by have := hs.1; have := hx.len; omega
  intro k
  induction k with
  | zero =>
    intro i a3 n3 c3 w hi hb hN
    unfold thicketlaw18_copied.l8 thicketlaw18_copied.g8
    refine onDec_f (by omega) (hR _ _ ?_ hb)
    rwa [List.take_of_length_le (by have := hx.len; omega)] at hN
  | succ k ih =>
    intro i a3 n3 c3 w hi hb hN
    have hin : i < n := by omega
    have hrow := hs.2 _ (List.getElem_mem (hx.len ▸ hin))
    unfold thicketlaw18_copied.l8 thicketlaw18_copied.g8 nw
    have hb1 : Below w0.heap.size w0 (w.alloc (.cells #[] 22)) := bthen hb (below_new _ _)
    refine onDec_t (by omega) ((hx.keep hb1).read hin fun p a' n' c' hc hr => ite_mk (by omega) ⟨_, _, _, by simpa using hc, ?_⟩)
    have hl := hr.len
    refine append_own S48 (by omega) (own_empty (base := w.heap.size) (Nat.le_refl _)) (news := (xss[i]'(hx.len ▸ hin)).map encF) (by simp [hl]) (fun j u hj => ?_) (fun h => ?_) (fun u hu => ?_) (by simp only [maxLen]; omega) (by omega) (by simp) ?_
    · obtain ⟨y, hy, rfl⟩ := Option.map_eq_some_iff.1 (by simpa using hj)
      exact hr.get j y hy
    · rcases Nat.eq_zero_or_pos n' with h0 | h0
      · exact h0
      · obtain ⟨q, hq, _⟩ := hr.at (i := 0) h0
        rw [h] at hq; cases hq
    · obtain ⟨y, _, rfl⟩ := List.mem_map.1 hu
      rfl
    intro v' u hrow' hgr
    have hbw : Below w.heap.size w u := grown_below (below_new _ _) (own_empty (size := 1) (e := 22) (base := w.heap.size) (Nat.le_refl _)) hgr (Nat.le_refl _) (by simp)
    have hb2 : Below w0.heap.size w0 u := bthen hb hbw
    have hI : Own1 22 encF w0.heap.size u v' (xss[i]'(hx.len ▸ hin)) := by
      unfold Own1
      rw [← hl]
      exact own_base (by simpa using hrow') hb.size
    obtain ⟨ga, gc, rfl, _⟩ := own_sl hI
    refine ⟨_, _, _, rfl, ?_⟩
    have hN2 : Nest 48 (Own1 22 encF w0.heap.size) u w0.heap.size (.slice a3 n3 c3) (xss.take i) := hN.to (fun _ _ h => own_keep h hbw) (fun _ _ h => own_keep h hbw)
    have htl : (xss.take i).length = i := by simp; have := hx.len; omega
    refine Nest.push S31 hN2 hI rfl (by rw [htl]; simp only [maxLen]; omega) (by rw [htl]; omega) hb2.size (fun w' n xs ho hg v0 x0 h0 => own_grown h0 ho (by decide) hg) ?_
    intro a4 c4 w' hN3 hg3 ⟨_, _, ho3⟩
    refine ⟨_, _, _, rfl, ?_⟩
    rw [i64_succ (by omega)]
    refine ih (i + 1) _ _ _ w' (by omega) (grown_below hb2 ho3 hg3 (Nat.le_refl _) hb2.size) ?_
    rw [List.take_add_one, List.getElem?_eq_getElem (hx.len ▸ hin)]
    exact hN3

theorem copied {w : World} {a : Option Addr} {n c : Nat} {xss : List (List Nat)} (hs : Short xss) (hx : Sl2 encF w a n xss) {R : Value → World → Prop} (hR : ∀ a' c' u, Sl2 encF u a' xss.length xss → Below w.heap.size w u → R (.slice a' xss.length c') u) :
    E.CallsD Proofs.Try.prog 14 #[.slice a n c] w R := by
  refine thicketlaw18_copied.calls ?_
  unfold thicketlaw18_copied thicketlaw18_copied.g0
  refine ⟨n + 1, copied_loop hs hx (fun v u hN hb => ?_) n 0 none 0 0 w (by omega) (Below.refl _ _) (by simpa using Nest.nil w)⟩
  obtain ⟨a', c', rfl, hs'⟩ := hN.sl2
  exact hR a' c' u hs' hb

/-! ### groups -/
abbrev SlG (w : World) (a : Option Addr) (n : Nat) (gss : List (List (Nat → Nat))) : Prop := SlP (SlK 8 encL) w a n gss
theorem encL_get (x : Nat → Nat) {k : Nat} (hk : k < 8) : (encL x)[k]? = some (.float .f64 (x k)) := by
  have := lcells_get x hk
  simpa using this
theorem encL_len (x : Nat → Nat) : (encL x).length = 8 := rfl

theorem groups_k {R : Value → World → Prop} {b14 : Option Addr → Nat → Nat → Option Addr → Nat → Nat → Int → World → Prop} {b34 : Option Addr → Nat → Nat → Option Addr → Nat → Nat → Int → Int → World → Prop} {w : World} {a b : Option Addr} {n m c d : Nat} {xss : List (List (Nat → Nat))} (hs : Short xss)
    (hx : SlG w a n xss) (hy : SlG w b m xss) {i : Nat} (hi : i < n) {f : Nat} (hf : f < (xss[i]'(hx.len ▸ hi)).length) (h : b34 a n c b m d i (f + 1 : Nat) w) :
    ∀ (k j : Nat), j + k = 8 → thicketlaw18_groups.l46 R b14 b34 (k + 1) a n c b m d i f j w := by
  have hm : i < m := by have := hx.len; have := hy.len; omega
  have hlen : n ≤ 8388608 := by have := hs.1; have := hx.len; omega
  have hrow := hs.2 _ (List.getElem_mem (hx.len ▸ hi))
  intro k
  induction k with
  | zero =>
    intro j hj
    unfold thicketlaw18_groups.l46 thicketlaw18_groups.g46
    refine onDec_f (by omega) ?_
    rw [i64_succ (by omega)]
    exact h
  | succ k ih =>
    intro j hj
    have hj8 : j < 8 := by omega
    unfold thicketlaw18_groups.l46 thicketlaw18_groups.g46
    refine onDec_t (by omega) (hx.read hi fun p a' n' c' hc hr => ite_mk (by omega) ⟨_, _, _, by simpa using hc, hr.read (i := f) (by have := hr.len; omega) fun q hq => ite_mk (by have := hr.len; omega) (ite_mk (by omega) ⟨_, by rw [add_add]; simpa using hq j _ (encL_get _ hj8), _, fbits _ _, ?_⟩)⟩)
    refine hy.read hm fun p a' n' c' hc hr => ite_mk (by omega) ⟨_, _, _, by simpa using hc, hr.read (i := f) (by have := hr.len; omega) fun q hq => ite_mk (by have := hr.len; omega) (ite_mk (by omega) ⟨_, by rw [add_add]; simpa using hq j _ (encL_get _ hj8), _, fbits _ _, ?_⟩)⟩
    rw [i64_succ (by omega)]
    refine onBool_mk (fun hb => ?_) (fun _ => ih (j + 1) (by omega))
    simp at hb

theorem groups_in {R : Value → World → Prop} {b14 : Option Addr → Nat → Nat → Option Addr → Nat → Nat → Int → World → Prop} {w : World} {a b : Option Addr} {n m c d : Nat} {xss : List (List (Nat → Nat))} (hs : Short xss)
    (hx : SlG w a n xss) (hy : SlG w b m xss) {i : Nat} (hi : i < n) (h : b14 a n c b m d (i + 1 : Nat) w) :
    ∀ (k j : Nat), j + k = (xss[i]'(hx.len ▸ hi)).length → thicketlaw18_groups.l34 R b14 (k + 1) a n c b m d i j w := by
  have hlen : n ≤ 8388608 := by have := hs.1; have := hx.len; omega
  intro k
  induction k with
  | zero =>
    intro j hj
    unfold thicketlaw18_groups.l34 thicketlaw18_groups.g34
    refine hx.read hi fun p a' n' c' hc hr => ite_mk (by omega) ⟨_, _, _, by simpa using hc, onDec_f (by have := hr.len; omega) ?_⟩
    rw [i64_succ (by omega)]
    exact h
  | succ k ih =>
    intro j hj
    unfold thicketlaw18_groups.l34 thicketlaw18_groups.g34
    refine hx.read hi fun p a' n' c' hc hr => ite_mk (by omega) ⟨_, _, _, by simpa using hc, onDec_t (by have := hr.len; omega) ?_⟩
    exact ⟨9, groups_k hs hx hy hi (f := j) (by omega) (ih (j + 1) (by omega)) 8 0 rfl⟩

theorem groups_out {R : Value → World → Prop} {w : World} {a b : Option Addr} {n m c d : Nat} {xss : List (List (Nat → Nat))} (hs : Short xss) (hx : SlG w a n xss) (hy : SlG w b m xss) (h : R (.bool true) w) :
    ∀ (k i : Nat), i + k = n → thicketlaw18_groups.l14 R (k + 1) a n c b m d i w := by
  have hnm : n = m := by have := hx.len; have := hy.len; omega
  have hlen : n ≤ 8388608 := by have := hs.1; have := hx.len; omega
  intro k
  induction k with
  | zero =>
    intro i hi
    unfold thicketlaw18_groups.l14 thicketlaw18_groups.g14
    exact onDec_f (by omega) h
  | succ k ih =>
    intro i hi
    unfold thicketlaw18_groups.l14 thicketlaw18_groups.g14
    refine onDec_t (by omega) (hx.read (i := i) (by omega) fun p a' n' c' hc hr => ite_mk (by omega) ⟨_, _, _, by simpa using hc, hy.read (i := i) (by omega) fun p' a'' n'' c'' hc' hr' => ite_mk (by omega) ⟨_, _, _, by simpa using hc', ?_⟩⟩)
    have h1 := hr.len
    have h2 := hr'.len
    refine onBool_mk (fun hb => ?_) (fun _ => ⟨_, groups_in hs hx hy (i := i) (by omega) (ih (i + 1) (by omega)) _ 0 (Nat.zero_add _)⟩)
    simp [h1, h2] at hb

theorem groups {w : World} {a b : Option Addr} {n m c d : Nat} {xss : List (List (Nat → Nat))} (hs : Short xss) (hx : SlG w a n xss) (hy : SlG w b m xss) :
    Pure Proofs.Try.prog 19 #[.slice a n c, .slice b m d] w (.bool true) := by
  refine thicketlaw18_groups.calls (R := fun v' u => v' = _ ∧ Below w.heap.size w u) ?_
  unfold thicketlaw18_groups thicketlaw18_groups.g0
  have hnm : n = m := by have := hx.len; have := hy.len; omega
  refine onBool_mk (fun hb => ?_) (fun _ => ⟨n + 1, groups_out hs hx hy ⟨rfl, Below.refl _ _⟩ n 0 (by omega)⟩)
  simp [hnm] at hb

/-- How many groups so many vectors have. -/
theorem many {n : Nat} (hn : n ≤ 8388608) (w : World) : Pure Proofs.Try.prog 26 #[.int .i64 n] w (.int .i64 ((n + 7) / 8 : Nat)) := by
  refine lanes_groups.calls (R := fun v' u => v' = _ ∧ Below w.heap.size w u) ?_
  unfold lanes_groups lanes_groups.g0
  refine onBool_mk (fun hb => ?_) (fun hb => ?_)
  · have : n = 0 := by simpa using hb
    subst this
    exact ⟨rfl, Below.refl _ _⟩
  · have h0 : n ≠ 0 := by simpa using hb
    refine ⟨?_, Below.refl _ _⟩
    have e1 : IntKind.i64.wrap ((n : Int) - 1) = ((n - 1 : Nat) : Int) := by rw [i64_id (by omega) (by omega)]; omega
    have e2 : Int.tdiv ((n - 1 : Nat) : Int) 8 = (((n - 1) / 8 : Nat) : Int) := rfl
    rw [e1, e2, i64_id (x := (((n - 1) / 8 : Nat) : Int)) (by omega) (by omega), i64_id (by omega) (by omega)]
    congr 1
    omega
end Go.Mir
