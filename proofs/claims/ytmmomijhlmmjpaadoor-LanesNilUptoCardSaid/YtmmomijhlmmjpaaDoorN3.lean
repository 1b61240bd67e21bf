/- Part of a proof of laws of the seat YtmmomijhlmmjpaaDoor: functions' weakest preconditions, each checked by the kernel, contracts out of them, plain lemmas; no conditions. -/
import Derived.Test.YtmmomijhlmmjpaaDoorN2
set_option linter.unusedVariables false
set_option linter.unusedSimpArgs false
set_option linter.unusedVariables false
set_option maxRecDepth 100000
namespace Go.Mir
open Go Go.E Go.RowKit
/-! ### begins -/
theorem sl_lit {α : Type} {en : α → Value} {w : World} {e : TypeId} (xs : List α) : Sl en (w.alloc (.cells (xs.map en).toArray e)) (some (na w)) xs.length xs :=
  ⟨rfl, fun i x hi => ⟨_, rfl, by rw [cell_new]; simp [hi]⟩⟩

theorem blk_cast {w : World} {b : Nat} {cs cs' : Array Value} {e : TypeId} (h : Blk w b cs e) (he : cs = cs') : Blk w b cs' e := he ▸ h
theorem st_step {u w : World} {cs : Array Value} {e : TypeId} {j : Nat} {v : Value} {K : World → Prop} (hb : Below u.heap.size u w) (hB : Blk w u.heap.size cs e) (hj : j < cs.size)
    (hk : ∀ w', Below u.heap.size u w' → Blk w' u.heap.size (cs.setIfInBounds j v) e → K w') : okSt w ((na u).add j) ∧ nw (w.setCell ((na u).add j) v) K := by
  rw [na_add]
  exact ⟨hB.ok hj, hk _ (below_set hb (Nat.le_refl _) _) (hB.set _ _)⟩

abbrev lay : List (List Nat) := [[4607182418800017408, 4611686018427387904], [4613937818241073152, 4616189618054758400]]
def x8 (k : Nat) : Nat := [4607182418800017408, 4611686018427387904, 4613937818241073152, 4616189618054758400, 4617315517961601024, 4618441417868443648, 4619567317775286272, 4620693217682128896].getD k 0

theorem blk_lane {w : World} {b : Nat} {x : Nat → Nat} (h : Blk w b (lcells x) 57) {k : Nat} (hk : k < 8) : w.cell? ⟨b, k, none⟩ = some (.float .f64 (x k)) := by
  rw [h.cell]; exact lcells_get x hk

theorem begins (w : World) : Pure Go.Proofs.Tryd.prog 7 #[] w (.bool true) := by
  refine thicketlaw18_begins.calls (R := fun v' u => v' = _ ∧ Below w.heap.size w u) ?_
  unfold thicketlaw18_begins thicketlaw18_begins.g0
  refine nw_mk (nw_mk (nw_mk ?_))
  generalize hw1 : w.alloc (.cells #[.float .f64 4607182418800017408, .float .f64 4611686018427387904] 55) = w1
  generalize hw2 : w1.alloc (.cells #[.float .f64 4613937818241073152, .float .f64 4616189618054758400] 55) = w2
  generalize hw3 : w2.alloc (.cells #[.slice (some (na w)) 2 2, .slice (some (na w1)) 2 2] 60) = w3
  have b1 : Below w.heap.size w w1 := hw1 ▸ below_new _ _
  have b2 : Below w1.heap.size w1 w2 := hw2 ▸ below_new _ _
  have b3 : Below w2.heap.size w2 w3 := hw3 ▸ below_new _ _
  have B3 : Below w.heap.size w w3 := bthen (bthen b1 b2) b3
  have s1 : Sl encF w1 (some (na w)) 2 [4607182418800017408, 4611686018427387904] := hw1 ▸ sl_lit (en := encF) (e := 55) [4607182418800017408, 4611686018427387904]
  have s2 : Sl encF w2 (some (na w1)) 2 [4613937818241073152, 4616189618054758400] := hw2 ▸ sl_lit (en := encF) (e := 55) [4613937818241073152, 4616189618054758400]
  have hl : Sl2 encF w3 (some (na w2)) 2 lay := by
    refine ⟨rfl, fun i xs hi => ⟨_, rfl, ?_⟩⟩
    match i with
    | 0 => cases hi; exact ⟨some (na w), 2, 2, by rw [← hw3, cell_new]; rfl, s1.keep (bthen b2 b3)⟩
    | 1 => cases hi; exact ⟨some (na w1), 2, 2, by rw [← hw3, cell_new]; rfl, s2.keep b3⟩
    | k + 2 => simp at hi
  refine E.CallsD.mono (lanesPack (d := 2) hl (by omega)) fun v u ⟨a, n, c, hv, hg, b4⟩ => ⟨a, n, c, 0, hv, ?_⟩
  have hgs : packAns lay 2 = [[fun k => packV lay 0 0 k, fun k => packV lay 0 1 k]] := rfl
  rw [hgs] at hg
  obtain rfl : n = 1 := hg.len
  refine nw_mk ?_
  refine st_step (below_new _ _) (Blk.new _ _ _) (by decide) fun w1 b1 B1 => st_step b1 B1 (by decide) fun w2 b2 B2 => st_step b2 B2 (by decide) fun w3 b3' B3' => st_step b3' B3' (by decide) fun w4 b4' B4' => st_step b4' B4' (by decide) fun w5 b5 B5 =>
    st_step b5 B5 (by decide) fun w6 b6 B6 => st_step b6 B6 (by decide) fun w7 b7 B7 => st_step b7 B7 (by decide) fun w8 b8 B8 => ?_
  have B8 : Blk w8 u.heap.size (lcells x8) 57 := blk_cast B8 (by kernel_rfl)
  have B : Below w.heap.size w w8 := bthen (bthen B3 b4) b8
  have hg8 : SlG w8 a 1 _ := hg.keep (fun _ _ _ hi => hi.keep b8) b8
  obtain ⟨p, rfl, a', n', c', hc, hr⟩ := hg8.get 0 _ rfl
  obtain rfl : n' = 2 := hr.len
  obtain ⟨q, rfl, hq⟩ := hr.get 0 _ rfl
  have hq' : ∀ k, k < 8 → w8.cell? ((q.add 0).add k) = some (.float .f64 (packV lay 0 0 k)) := fun k hk => by
    have := hq k _ (encL_get _ hk)
    rw [add_add]
    simpa using this
  have hx : ∀ k, k < 8 → w8.cell? ((na u).add k) = some (.float .f64 (x8 k)) := fun k hk => by rw [na_add]; exact blk_lane B8 hk
  have L : ∀ {y : World} {K : Nat → Nat → Nat → Nat → Nat → Nat → Nat → Nat → Prop}, Below w8.heap.size w8 y → K (x8 0) (x8 1) (x8 2) (x8 3) (x8 4) (x8 5) (x8 6) (x8 7) →
      ∃ f0 : Nat, y.cell? ((na u).add 0) = some (.float .f64 f0) ∧ ∃ f1 : Nat, y.cell? ((na u).add 1) = some (.float .f64 f1) ∧ ∃ f2 : Nat, y.cell? ((na u).add 2) = some (.float .f64 f2) ∧ ∃ f3 : Nat, y.cell? ((na u).add 3) = some (.float .f64 f3) ∧
        ∃ f4 : Nat, y.cell? ((na u).add 4) = some (.float .f64 f4) ∧ ∃ f5 : Nat, y.cell? ((na u).add 5) = some (.float .f64 f5) ∧ ∃ f6 : Nat, y.cell? ((na u).add 6) = some (.float .f64 f6) ∧ ∃ f7 : Nat, y.cell? ((na u).add 7) = some (.float .f64 f7) ∧ K f0 f1 f2 f3 f4 f5 f6 f7 :=
    fun {y K} hb h => ⟨_, bkeep hb (hx 0 (by omega)), _, bkeep hb (hx 1 (by omega)), _, bkeep hb (hx 2 (by omega)), _, bkeep hb (hx 3 (by omega)), _, bkeep hb (hx 4 (by omega)), _, bkeep hb (hx 5 (by omega)), _, bkeep hb (hx 6 (by omega)), _, bkeep hb (hx 7 (by omega)), h⟩
  show onBool true (onBool true _ _) _
  rw [onBool_t, onBool_t, optN_some]
  refine chk_mk (by omega) ⟨_, _, _, hc, ?_⟩
  show onBool true _ _
  rw [onBool_t, optN_some]
  refine chk_mk (by omega) ⟨_, _, _, hc, ?_⟩
  rw [optN_some]
  refine chk_mk (by omega) ⟨_, hq' 0 (by omega), _, hq' 1 (by omega), _, hq' 2 (by omega), _, hq' 3 (by omega), _, hq' 4 (by omega), _, hq' 5 (by omega), _, hq' 6 (by omega), _, hq' 7 (by omega), true, fun w => by kernel_rfl, ?_⟩
  rw [onBool_t]
  refine L (Below.refl _ _) ?_
  refine E.CallsD.mono (lanesAbove x8 4618441417868443648 w8) fun v u1 ⟨hv, c1⟩ => ⟨_, hv, ?_⟩
  rw [show ((((fold8 (fun i => fgt (x8 i) 4618441417868443648) 8 0 0).toNat : Int) == 192) = true) from by kernel_rfl, onBool_t]
  refine L c1 ?_
  have c1' : Below w8.heap.size w8 (u1.alloc (.cells #[.int .i64 1, .int .i64 3] 3)) := bthen c1 (below_new _ _)
  refine nw_mk ?_
  refine E.CallsD.mono (lanesOutside x8 _ (sl_lit (en := encI) (e := 3) [1, 3]) (by decide)) fun v u2 ⟨hv, c2⟩ => ⟨_, hv, ?_⟩
  have c2' := bthen c1' c2
  rw [show ((((fold8 (fun i => !nan (x8 i) && !isCat [1, 3] (x8 i)) 8 0 0).toNat : Int) == 250) = true) from by kernel_rfl, onBool_t]
  refine L c2' ?_
  refine E.CallsD.mono (lanesLost x8 u2) fun v u3 ⟨hv, c3⟩ => ⟨_, hv, ?_, bthen B (bthen c2' c3)⟩
  rw [show ((((fold8 (fun i => nan (x8 i)) 8 0 0).toNat : Int) == 0) = true) from by kernel_rfl]

theorem asked_nil (a : Option Addr) (n c : Nat) (w : World) : Pure Go.Proofs.Tryd.prog 8 #[.pointer none, .slice a n c] w (.tuple #[.slice none 0 0, .int .i64 1, .int .i64 0]) := by
  refine lanes_Scorer_asked.calls (R := fun v' u => v' = _ ∧ Below w.heap.size w u) ?_
  exact ⟨rfl, Below.refl _ _⟩
theorem score_nil (a : Option Addr) (n c : Nat) (w : World) : Pure Go.Proofs.Tryd.prog 4 #[.pointer none, .slice a n c] w (.tuple #[.slice none 0 0, .int .i64 1, .int .i64 0]) := by
  refine lanes_Scorer_Score.calls (R := fun v' u => v' = _ ∧ Below w.heap.size w u) ?_
  unfold lanes_Scorer_Score lanes_Scorer_Score.g0
  refine E.CallsD.mono (asked_nil a n c w) fun v u ⟨hv, hu⟩ => ⟨_, _, _, _, _, hv, ?_⟩
  exact onNe_t (by omega) ⟨rfl, hu⟩
theorem exits_nil (a : Option Addr) (n c : Nat) (w : World) : Pure Go.Proofs.Tryd.prog 5 #[.pointer none, .slice a n c] w (.tuple #[.slice none 0 0, .int .i64 1, .int .i64 0]) := by
  refine lanes_Scorer_Exits.calls (R := fun v' u => v' = _ ∧ Below w.heap.size w u) ?_
  unfold lanes_Scorer_Exits lanes_Scorer_Exits.g0
  refine E.CallsD.mono (asked_nil a n c w) fun v u ⟨hv, hu⟩ => ⟨_, _, _, _, _, hv, ?_⟩
  exact onNe_t (by omega) ⟨rfl, hu⟩
theorem work_nil (a : Option Addr) (n c : Nat) (w : World) : Pure Go.Proofs.Tryd.prog 6 #[.pointer none, .slice a n c] w (.tuple #[.int .i64 0, .int .i64 1, .int .i64 0]) := by
  refine lanes_Scorer_Work.calls (R := fun v' u => v' = _ ∧ Below w.heap.size w u) ?_
  unfold lanes_Scorer_Work lanes_Scorer_Work.g0
  refine E.CallsD.mono (asked_nil a n c w) fun v u ⟨hv, hu⟩ => ⟨_, _, _, _, _, hv, ?_⟩
  exact onNe_t (by omega) ⟨rfl, hu⟩
end Go.Mir
