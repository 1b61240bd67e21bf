/- Part of a proof of laws of the seat Ytdealcfgobobiaa: functions' weakest preconditions, each checked by the kernel, contracts out of them, plain lemmas; no conditions. -/
import Derived.Test.YtdealcfgobobiaaT33
import Derived.Test.YtdealcfgobobiaaTLOne
set_option linter.unusedVariables false
set_option linter.unusedSimpArgs false
set_option maxRecDepth 100000
namespace Go.Mir
open Go Go.E Go.RowKit Go.Tr
/-- A new node of noughts, drawn as value j. -/
def FPn (j B : Nat) : Nat → Value → World → Prop := F1 j fun v u => ∃ Bw : World, v = .pointer (some (na Bw)) ∧ Blk u Bw.heap.size #[.int .u8 0, .int .i64 0, .int .i64 0, .float .f64 0, .slice none 0 0, .int .u8 0, .int .i64 0, .int .i64 0] 27 ∧ B ≤ Bw.heap.size
theorem FPn.keep {j B : Nat} (i : Nat) (v : Value) (u u' : World) (h : FPn j B i v u) (hk : Below u.heap.size u u') : FPn j B i v u' :=
  F1.keep (fun v u u' ⟨Bw, h1, h2, h3⟩ hk => ⟨Bw, h1, h2.mod (Kept.mod (S := fun _ => False) hk) (fun h => h), h3⟩) i v u u' h hk
section
variable {w u w1 : World} {p : Addr} {o : Int} {x : ND} {a a1 a5 a10 : Option Addr} {n c n1 c1 n5 c5 n10 c10 g B B' : Nat} {F F' S : Nat → Prop} {nodes : List ND} {xs : List Nat} {x7 x8 : Int}
theorem goesP_range {f : Nat} (hi : x.inner = true) (hm : x.missing = 1 ∨ x.missing = 2) : goesP x f = 1 ∨ goesP x f = 2 := by
  unfold goesP
  unfold ND.inner at hi
  by_cases k2 : x.kind = 2
  · rw [if_pos k2]
    split
    · exact hm
    · split <;> omega
  · rw [if_neg k2]
    by_cases k3 : x.kind = 3
    · rw [if_pos k3]
      split
      · exact hm
      · split <;> omega
    · simp [k2, k3] at hi
theorem one_loop {R : Value → World → Prop} (hG : Good F w1 a n c nodes) (hT : At2 w1 p o a n c) (hx : Sl enF w1 a1 n1 xs) (h0 : wayE nodes xs.length = 0) (hW : Sl enI w1 a5 n5 (natL (wayP nodes xs)))
    (hend : ∀ (u : World) (i : Int), From w1.heap.size w1 u → i + 1 = n5 → thicketlaw07_TreesOne.l36 R 1 a1 n1 c1 (some p) a5 n5 c5 x7 x8 a10 n10 c10 i u) :
    ∀ (k i : Nat) (w : World), i + k + 1 = n5 → From w1.heap.size w1 w → thicketlaw07_TreesOne.l36 R (k + 1) a1 n1 c1 (some p) a5 n5 c5 x7 x8 a10 n10 c10 i w := by
  obtain ⟨hs0, hf⟩ := wayE_split h0
  have hTr := treeP_spec hs0
  have hn := hG.len
  have hmx := hG.max
  have hwl := hW.len
  have hway := wayP_ok h0
  obtain ⟨_, _, _, hle⟩ := wayP_last h0
  rw [natL_length] at hwl
  have hxl := hx.len
  intro k
  induction k with
  | zero => intro i w hi hw; exact hend w i hw (by omega)
  | succ k ih =>
    intro i w hi hw
    unfold thicketlaw07_TreesOne.l36 thicketlaw07_TreesOne.g36
    refine nv_i64 (by omega) (by omega) ?_
    refine onDec_t (by omega) ?_
    have hj : (wayP nodes xs)[i]? = some ((wayP nodes xs)[i]'(by omega)) := List.getElem?_eq_getElem _
    have hj1 : (wayP nodes xs)[i + 1]? = some ((wayP nodes xs)[i + 1]'(by omega)) := List.getElem?_eq_getElem _
    obtain ⟨j, hje⟩ : ∃ j, (wayP nodes xs)[i]'(by omega) = j := ⟨_, rfl⟩
    obtain ⟨j1, hj1e⟩ : ∃ j, (wayP nodes xs)[i + 1]'(by omega) = j := ⟨_, rfl⟩
    rw [hje] at hj
    rw [hj1e] at hj1
    rw [hway] at hj hj1
    obtain ⟨x, hxj, hin, hL, hR⟩ := way_step _ hTr.is hj hj1
    rw [← hway] at hj hj1
    have hjl := (List.getElem?_eq_some_iff.1 hxj).1
    have hGw := hG.from hw
    refine ⟨FPn 8 w.heap.size, FPn.keep, optN_mk ⟨_, _, _, (hT.from hw).c1, ?_⟩⟩
    refine (hW.from hw).rdI (k := .i64) (by omega) (by omega) fun y hy => ?_
    rw [Int.toNat_natCast, natL_get hj] at hy
    obtain rfl : y = (j : Int) := by simpa using hy.symm
    refine hGw.ls.rdN (by omega) (by omega) fun x' a' n' c' hx' hcs => ?_
    rw [Int.toNat_natCast, hxj] at hx'
    obtain rfl : x = x' := by simpa using hx'
    have hok := okNode_inner (hTr.right.ok j x hxj) hin
    have hft := fits_all hf hxj hin
    have hsh := hG.short x (List.mem_of_getElem? hxj)
    have hcl := hcs.len
    refine ⟨fun u hu _ => ⟨u, rfl, Blk.new u _ _, hu.size⟩, fun q _ u hu hF8 => ?_⟩
    obtain ⟨Bw, hv, hb, hB⟩ := hF8 rfl
    simp only [Value.pointer.injEq, Option.some.injEq] at hv
    subst hv
    refine fill8 hb fun u2 hb2 h8 ho => ?_
    have hw2 : From w.heap.size w u2 := (Kept.fr hu).only ho (.inr (by omega))
    have hk2 := From.kept hw2
    have hu2 := hw.keptThen hk2
    refine h8.ld ⟨_, h8.c2, ?_⟩
    refine rdX (hx.from hu2) (by omega) (by omega) ?_
    refine E.CallsD.mono (Goes_c (x := x) (by omega) (hcs.kept hk2).sl) fun v u3 ⟨hv, hk3⟩ => ⟨_, hv, ?_⟩
    have hu3 := hu2.keptThen hk3
    have h83 := h8.kept hk3
    have hrng := goesP_range (f := xs.getD x.feature.toNat 0) hin (by omega)
    have hgo : goesAt nodes xs j = (goesP x (xs.getD x.feature.toNat 0) == 1) := by unfold goesAt; rw [hxj]
    have hrd : ∀ {K : Int → Prop}, K (j1 : Int) → optN a5 fun q => chk ((0 : Int) ≤ (i : Int) + 1 ∧ (i : Int) + 1 < (n5 : Int)) (∃ y : Int, u3.cell? (q.add (((i : Int) + 1).toNat * 1)) = some (.int .i64 y) ∧ K y) := fun {K} hK => by
      refine (hW.from hu3).rdI (k := .i64) (by omega) (by omega) fun z hz => ?_
      rw [show ((i : Int) + 1).toNat = i + 1 by omega, natL_get hj1] at hz
      have hz' : (j1 : Int) = z := by simpa using hz
      rwa [← hz']
    refine onEq_f (by omega) (onEq (fun h1 => ?_) fun h1 => ?_)
    · have hl := hL (by rw [hgo, h1]; rfl)
      refine nv_i64 (by omega) (by omega) ?_
      refine hrd ⟨_, h83.c6, onNe_f hl.symm (onNe_f h1 ?_)⟩
      refine nv_succ (by omega) ?_
      exact ih (i + 1) u3 (by omega) hu3
    · have hl := hR (by rw [hgo]; simpa using h1)
      refine onNe_t h1 ?_
      refine nv_i64 (by omega) (by omega) ?_
      refine hrd ⟨_, h83.c7, onNe_f hl.symm ?_⟩
      refine nv_succ (by omega) ?_
      exact ih (i + 1) u3 (by omega) hu3
/-- The law TreesOne. -/
theorem treesOne_law (hG : Good F w a n c nodes) (hx : Sl enF w a1 n1 xs) (hm1 : n1 ≤ 1048576) : Pure Go.Proofs.Try.prog 9 #[vT o a n c, .slice a1 n1 c1] w (.bool true) := by
  refine thicketlaw07_TreesOne.calls (R := fun v' u => v' = _ ∧ Below w.heap.size w u) ?_
  unfold thicketlaw07_TreesOne thicketlaw07_TreesOne.g0
  have hn := hG.len
  have hmx := hG.max
  refine box2T fun w1 _ hT1 hk1 => ?_
  refine E.CallsD.mono (lives_c w1) fun v w2 ⟨hv, hk2⟩ => ⟨_, hv, ob_f ?_⟩
  have k2 := Kept.trans hk1 hk2
  have hT2 := hT1.kept hk2
  refine ⟨_, hT2.c0, _, _, _, hT2.c1, ?_⟩
  refine E.CallsD.mono (Way_c (o := o) (c1 := c1) (hG.kept k2) (hx.keep k2) hm1) fun v w3 ⟨a3, n3, c3, hv, h3⟩ => ⟨_, _, _, _, hv, ?_⟩
  have hk3 := h3.kept
  have k3 := Kept.trans k2 hk3
  have hT3 := hT2.kept hk3
  refine ⟨_, hT3.c0, _, _, _, hT3.c1, ?_⟩
  refine E.CallsD.mono (Leaf_c (o := o) (c1 := c1) (hG.kept k3) (hx.keep k3) hm1) fun v w4 ⟨hv, hk4⟩ => ⟨_, _, _, hv, ?_⟩
  have k4 := Kept.trans k3 hk4
  have hT4 := hT3.kept hk4
  have h3l := h3.len
  rw [natL_length] at h3l
  refine onNe (fun hne => onEq_t rfl ⟨?_, k4⟩) fun h0 => ?_
  · rw [wayP_no hne] at h3l
    subst h3l
    rfl
  refine ⟨_, hT4.c0, _, _, _, hT4.c1, ?_⟩
  refine E.CallsD.mono (Leaves_c (o := o) (hG.kept k4)) fun v w5 ⟨a5, n5, c5, hv, h5⟩ => ⟨_, _, _, _, hv, ?_⟩
  have hk5 := h5.kept
  have k5 := Kept.trans k4 hk5
  have hT5 := hT4.kept hk5
  obtain ⟨hs0, hf⟩ := wayE_split h0
  have hTr := treeP_spec hs0
  obtain ⟨hlast, hpos, hendl, hle⟩ := wayP_last h0
  obtain ⟨k, hk, hth, y, hy, hyk, hyv⟩ := leaf_facts h0
  have hkl := (List.getElem?_eq_some_iff.1 hth).1
  have h5l := h5.len
  rw [natL_length] at h5l
  have hW5 := h3.sl.keep (Kept.trans hk4 hk5)
  refine onNe_f h0 (onNe_f hs0 (onEq_f (by omega) ?_))
  have hhd : (natL (wayP nodes xs))[0]? = some 0 := by
    rw [wayP_ok h0]
    have := natL_get (way_head (goesAt nodes xs) (treeP nodes))
    rw [hTr.root] at this
    exact this
  obtain ⟨q, hq, hc0⟩ := hW5.get 0 0 hhd
  rw [hq]
  refine optN_mk (chk_mk ⟨by omega, by omega⟩ ⟨0, hc0, onNe_f rfl ?_⟩)
  rw [hk]
  refine onDec_f (by omega) (onDec_f (by omega) ?_)
  rw [← hq]
  refine ⟨n3, ?_⟩
  obtain ⟨m, rfl⟩ : ∃ m, n3 = m + 1 := ⟨n3 - 1, by omega⟩
  refine one_loop (w1 := w5) (p := na w) (o := o) (F := F) (a := a) (n := n) (c := c) (nodes := nodes) (xs := xs) (hG.kept k5) hT5 (hx.keep k5) h0 hW5 (fun u i hu hi => ?_) m 0 w5 (by omega) (From.refl _ _)
  unfold thicketlaw07_TreesOne.l36 thicketlaw07_TreesOne.g36
  refine nv_i64 (by omega) (by omega) ?_
  refine onDec_f (by omega) ?_
  have hku := From.kept hu
  have ku := Kept.trans k5 hku
  have hTu := hT5.kept hku
  have hWu := hW5.keep hku
  refine ⟨FPn 10 u.heap.size, FPn.keep, optN_mk ⟨_, _, _, hTu.c1, ?_⟩⟩
  refine nv_i64 (by omega) (by omega) ?_
  have elast : (((m + 1 : Nat) : Int) - 1).toNat = (wayP nodes xs).length - 1 := by omega
  have hrd : ∀ {v : World} {K : Int → Prop}, Kept u v → K (endP nodes xs : Int) → optN a3 fun q => chk ((0 : Int) ≤ ((m + 1 : Nat) : Int) - 1 ∧ ((m + 1 : Nat) : Int) - 1 < ((m + 1 : Nat) : Int)) (∃ y : Int, v.cell? (q.add ((((m + 1 : Nat) : Int) - 1).toNat * 1)) = some (.int .i64 y) ∧ K y) := fun {v K} hv hK => by
    refine (hWu.keep hv).rdI (k := .i64) (by omega) (by omega) fun z hz => ?_
    rw [elast, hlast] at hz
    have hz' : (endP nodes xs : Int) = z := by simpa using hz
    rwa [← hz']
  refine hrd (Kept.refl _) ?_
  refine (hG.kept ku).ls.rdN (by omega) (by omega) fun x' a' n' c' hx' hcs => ?_
  rw [Int.toNat_natCast, hy] at hx'
  obtain rfl : y = x' := by simpa using hx'
  refine ⟨fun u1 hu1 _ => ⟨u1, rfl, Blk.new u1 _ _, hu1.size⟩, fun q _ u1 hu1 hF10 => ?_⟩
  obtain ⟨Bw, hv, hb, hB⟩ := hF10 rfl
  simp only [Value.pointer.injEq, Option.some.injEq] at hv
  subst hv
  refine fill8 hb fun u2 hb2 h8 ho => ⟨_, h8.c0, onNe_f hyk ?_⟩
  have hk2' := From.kept ((Kept.fr hu1).only ho (.inr (by omega)))
  have ku2 := Kept.trans ku hk2'
  refine ((h5.sl.keep (Kept.trans hku hk2')).rdI (k := .i64) (by omega) (by omega) fun z hz => ?_)
  rw [Int.toNat_natCast, natL_get hth] at hz
  obtain rfl : z = (endP nodes xs : Int) := by simpa using hz.symm
  refine nv_i64 (by omega) (by omega) ?_
  refine hrd hk2' (onNe_f rfl ⟨_, h8.c1, onNe_f hyv.symm (optN_mk ?_)⟩)
  have hTu2 := hTu.kept hk2'
  refine ⟨_, hTu2.c0, _, _, _, hTu2.c1, ?_⟩
  refine E.CallsD.mono (Canon_c (o := o) (hG.kept ku2)) fun v u3 ⟨a6, n6, c6, hv, ho6, hk6⟩ => ⟨_, _, _, _, _, hv, ?_⟩
  refine box2Tz fun u4 _ hTc hk7 => onNe_f hs0 ?_
  have hcl := canon_len nodes
  have hcs' := canon_short hG.short
  have g6 := (ho6.kept hk7).goodS hcl (by omega) hcs'
  have ku4 := Kept.trans ku2 (Kept.trans hk6 hk7)
  have hco : canonO o nodes = o := by unfold canonO; rw [if_pos hs0]
  rw [hco] at hTc
  refine ⟨_, hTc.c0, _, _, _, hTc.c1, ?_⟩
  refine E.CallsD.mono (Leaf_c (o := o) (c1 := c1) g6 (hx.keep ku4) hm1) fun v u5 ⟨hv, hk8⟩ => ⟨_, _, _, hv, ?_⟩
  have hTc5 := hTc.kept hk8
  refine ⟨_, hTc5.c0, _, _, _, hTc5.c1, ?_⟩
  refine E.CallsD.mono (Canon_c (o := o) (g6.kept hk8)) fun v u6 ⟨a9, n9, c9, hv, ho9, hk9⟩ => ⟨_, _, _, _, _, hv, ?_⟩
  refine box2Tz fun u7 _ hTd hk10 => ?_
  obtain ⟨e1, e2⟩ := canon_leaf h0
  have hs1 : (shapeP nanB (canonP nodes)).1 = 0 := by rw [canonP_shape hs0]
  have hco2 : canonO o (canonP nodes) = o := by unfold canonO; rw [if_pos hs1]
  rw [hco2] at hTd
  rw [canon_twice hs0] at ho9
  have k47 := Kept.trans hk8 (Kept.trans hk9 hk10)
  have hTc7 := hTc5.kept (Kept.trans hk9 hk10)
  refine onEq_t (canon_wayE h0) (onEq_t hs1 (onEq_t (by rw [e1, hk]) (onEq_t e2 ⟨_, hTc7.c0, _, _, _, hTc7.c1, _, hTd.c0, _, _, _, hTd.c1, ?_⟩)))
  have g9 := (ho9.kept hk10).goodS hcl (by omega) hcs'
  refine E.CallsD.mono (Alike_c (o := o) (o1 := o) (g6.kept k47) g9) fun v u8 ⟨hv, hk11⟩ => ⟨_, hv, ?_⟩
  rw [decB_t ⟨rfl, rfl⟩]
  have hTu8 := hTu2.kept (Kept.trans (Kept.trans hk6 hk7) (Kept.trans k47 hk11))
  refine ob_t ⟨_, _, _, (hTc7.kept hk11).c1, optN_mk ⟨_, _, _, hTu8.c1, ?_, Kept.trans ku4 (Kept.trans k47 hk11)⟩⟩
  have h6l := ho6.len
  rw [h6l, canonP_ok hs0, canonN_length, hTr.length, ← hn]
  simp
end
end Go.Mir
