/- Part of a proof of laws of the seat YtpllehijaidinaaDoor: functions' weakest preconditions, each checked by the kernel, contracts out of them, plain lemmas; no conditions. -/
import Derived.Test.YtpllehijaidinaaDoorK11
import Derived.Test.YtpllehijaidinaaDoorTD
import Derived.Test.YtpllehijaidinaaDoorKLNested
set_option linter.unusedVariables false
set_option linter.unusedSimpArgs false
set_option maxRecDepth 100000
namespace Go.Mir
open Go Go.E Go.RowKit Go.Tr
section
variable {w w1 u W : World} {p1 p10 : Addr} {o : Int} {a a3 a5 a7 b : Option Addr} {n c n3 c3 n5 c5 n7 c7 m d : Nat} {F : Nat → Prop} {nodes : List ND} {l : List MkD} {k : Nat} {mk : MkD}
set_option maxHeartbeats 2000000 in
theorem nest_in {R : Value → World → Prop} {b36 : Option Addr → Option Addr → Nat → Nat → Option Addr → Nat → Nat → Option Addr → Nat → Nat → Option Addr → Nat → Nat → Int → Int → World → Prop} (hG : Good F w1 a n c nodes) (hTr : Tree nanB nodes (treeP nodes)) (hT : At2 w1 p1 o a n c) (h3 : At3 w1 p10 mk) (hl : SlK 3 enM w1 a3 n3 l) (hkn : k < n3) (hk4 : n3 ≤ 4096) (hnst : ∀ j x, j < k → l[j]? = some x → Nst mk x) (hmk : mk ∈ (treeP nodes).marks 0)
    (hend : ∀ u, From w1.heap.size w1 u → b36 (some p1) a3 n3 c3 a5 n5 c5 a7 n7 c7 a3 n3 c3 n3 ((k : Int) + 1) u) :
    ∀ (m j : Nat) (w : World), j + m = k → From w1.heap.size w1 w → thicketlaw13_MaskNested.l59 R b36 (m + 1) (some p1) a3 n3 c3 a5 n5 c5 a7 n7 c7 (some p10) a3 n3 c3 n3 k a3 k c3 k j w
  | 0, j, w, hj, hw => by
    unfold thicketlaw13_MaskNested.l59 thicketlaw13_MaskNested.g59
    refine onDec_f (by omega) ?_
    have hTw := hT.from hw
    have hGw := hG.from hw
    have h3w := h3.kept (From.kept hw)
    have hn := hG.len
    have hmx := hG.max
    obtain ⟨i, x, sub, e1, e2, e3, e4, hIs, hsl, elen⟩ := mark_left hTr.is hmk
    have hil := (List.getElem?_eq_some_iff.1 e2).1
    refine optN_mk ⟨_, _, _, hTw.c1, optN_mk ⟨_, h3w.c0, ?_⟩⟩
    rw [e1]
    refine hGw.ls.rdN (by omega) (by omega) fun x' a6 n6 c6 hx' _ => ?_
    rw [Int.toNat_natCast, e2] at hx'
    obtain rfl : x = x' := by simpa using hx'
    refine box8z fun u1 _ hb hk1 => ?_
    have hu1 := hw.keptThen hk1
    have hT1 := hTw.kept hk1
    refine optN_mk ⟨_, _, _, hT1.c1, ?_⟩
    refine E.CallsD.mono (refNodes_c (hGw.kept hk1)) fun v u2 ⟨a2, c2, hv, ho2, hk2⟩ => ⟨_, _, _, hv, ?_⟩
    refine box2Tz fun u3 hb3 h23 hk3 => ⟨_, _, _, h23.c1, _, (hb.kept (Kept.trans hk2 hk3)).c6, ?_⟩
    rw [e4]
    have hGo := (ho2.good hmx hG.short).kept hk3
    have hsub : sub.pre.Nodup := hTr.nodup.sublist hsl
    have hsz : sub.size ≤ 1048576 := by
      have h1 := hsl.length_le
      rw [hTr.length, BT.pre_length] at h1
      omega
    refine E.CallsD.mono (under_c hGo hTr.right hIs hsub hsz) fun v u4 ⟨a4, c4, od, hv, hod, hG4, hk4⟩ => ⟨_, _, _, hv, ?_⟩
    have z3 := hb3.lt
    have hb34 := hb3.keep hk4
    refine hb34.wr0 (i := 1) (v := .slice a4 od.length c4) (by simp) fun u5 hb5 ho5 => ?_
    have hG5 : Good _ u5 a4 od.length c4 (canonN od nodes) := ⟨hG4.ls.mod ho5 (fun b hb hs => by
      have hs' : b + 1 = u2.heap.size + 1 := hs
      rcases hb with h | h
      · have : b < u2.heap.size := h.2
        omega
      · omega), fun b hb => Nat.lt_of_lt_of_le (hG4.old b hb) ho5.size, hG4.max, hG4.short⟩
    refine ⟨_, hb5.rd rfl, _, _, _, hb5.rd rfl, ?_⟩
    refine E.CallsD.mono (Leaves_c (o := 0) hG5) fun v u6 ⟨a6, n6, c6, hv, h6⟩ => ⟨_, _, _, _, hv, ?_⟩
    obtain ⟨q1, q2⟩ := under_leaves hTr.right hIs hsub hod
    have h6l := h6.len
    rw [natL_length, q2] at h6l
    have hu5 : From w1.heap.size w1 u5 := (hu1.keptThen (Kept.trans (Kept.trans hk2 hk3) hk4)).only ho5 (.inr (by have := hu1.size; have := hk2.size; omega))
    have hu6 := hu5.keptThen h6.kept
    have h36 := h3.kept (From.kept hu6)
    refine onNe_f q1 (optN_mk ⟨_, h36.c2, optN_mk ⟨_, h36.c1, ?_⟩⟩)
    have hns := sub.nl_size
    refine nv_mk (y := (sub.nl : Int)) (by rw [elen, i64_id (by omega) (by omega)]) (onNe_f (by omega) ?_)
    refine nv_mk (y := (k : Int) + 1) (i64_id (by omega) (by omega)) ?_
    exact hend u6 hu6
  | m + 1, j, w, hj, hw => by
    unfold thicketlaw13_MaskNested.l59 thicketlaw13_MaskNested.g59
    have hlw : SlK 3 enM w a3 n3 l := hl.keep (From.kept hw)
    have hll := hl.len
    have hx : l[j]? = some (l[j]'(by omega)) := List.getElem?_eq_getElem _
    obtain ⟨x, hxe⟩ : ∃ x, l[j]'(by omega) = x := ⟨_, rfl⟩
    rw [hxe] at hx
    obtain ⟨hN1, hN2⟩ := hnst j x (by omega) hx
    have hrd := hlw.rdM (i := (j : Int)) (K := fun y z t => nw (w.alloc (.cells #[.int .i64 0, .int .i64 0, .int .i64 0] 44)) fun w1 => True) (by omega) (by omega) (fun _ _ => trivial)
    refine onDec_t (by omega) ?_
    obtain ⟨q, hq, hc⟩ := hlw.get j x hx
    have e0 : ((j : Nat) : Int).toNat = j := by omega
    have r0 : w.cell? ((q.add (((j : Nat) : Int).toNat * 3)).add 0) = some (.int .i64 x.node) := by rw [e0, add_add]; exact hc 0 _ rfl
    have r1 : w.cell? ((q.add (((j : Nat) : Int).toNat * 3)).add 1) = some (.int .i64 x.frm) := by rw [e0, add_add]; exact hc 1 _ rfl
    have r2 : w.cell? ((q.add (((j : Nat) : Int).toNat * 3)).add 2) = some (.int .i64 x.to) := by rw [e0, add_add]; exact hc 2 _ rfl
    refine (by rw [hq]; exact fun h => h : (∀ {K : Addr → Prop}, K q → optN a3 K)) ?_
    refine chk_mk (by omega) ⟨_, r0, _, r1, _, r2, ?_⟩
    refine box3z (x := x) fun u1 _ h3x hk1 => ?_
    have hu1 := hw.keptThen hk1
    have h3w := h3.kept (From.kept hu1)
    have next : thicketlaw13_MaskNested.l59 R b36 (m + 1) (some p1) a3 n3 c3 a5 n5 c5 a7 n7 c7 (some p10) a3 n3 c3 n3 k a3 k c3 k ((j + 1 : Nat) : Int) u1 :=
      nest_in hG hTr hT h3 hl hkn hk4 hnst hmk hend m (j + 1) u1 (by omega) hu1
    repeat' (first
      | (refine ⟨_, h3x.c1, ?_⟩)
      | (refine ⟨_, h3x.c2, ?_⟩)
      | (refine optN_mk ⟨_, h3w.c1, ?_⟩)
      | (refine optN_mk ⟨_, h3w.c2, ?_⟩)
      | (refine onDec (fun _ => ?_) (fun _ => ?_)))
    any_goals (exfalso; omega)
    all_goals exact nv_succ (by omega) next
theorem nest_loop {R : Value → World → Prop} {F : Nat → Prop} (hG : Good F w1 a n c nodes) (h0 : lvE nodes = 0) (hT : At2 w1 p1 o a n c) (hl : SlK 3 enM w1 a3 n3 (marksP nodes)) (h3c : n3 ≤ c3) (h7 : Sl enI w1 a7 n7 (natL (thoseP nodes true))) (hn5 : n5 = lvN nodes)
    (hR : ∀ u, From w1.heap.size w1 u → R (.bool true) u) :
    ∀ (m k : Nat) (w : World), k + m = n3 → From w1.heap.size w1 w → thicketlaw13_MaskNested.l36 R (m + 1) (some p1) a3 n3 c3 a5 n5 c5 a7 n7 c7 a3 n3 c3 n3 k w
  | 0, k, w, hk, hw => by
    unfold thicketlaw13_MaskNested.l36 thicketlaw13_MaskNested.g36
    refine onDec_f (by omega) ?_
    exact hR w hw
  | m + 1, k, w, hk, hw => by
    unfold thicketlaw13_MaskNested.l36 thicketlaw13_MaskNested.g36
    refine onDec_t (by omega) ?_
    obtain ⟨hsh, _⟩ := lv_shape h0
    have hTr := treeP_spec hsh
    have hM : marksP nodes = (treeP nodes).marks 0 := by unfold marksP; rw [if_pos h0]
    have hlw : SlK 3 enM w a3 n3 (marksP nodes) := hl.keep (From.kept hw)
    have hll := hl.len
    have hml := marks_le hG.len hG.max
    refine hlw.rdM (by omega) (by omega) fun mk hmk => ?_
    rw [Int.toNat_natCast] at hmk
    have hmem := List.mem_of_getElem? hmk
    obtain ⟨b1, b2⟩ := marks_bd h0
    obtain ⟨i1, i2, i3⟩ := b2 mk hmem
    refine box3z (x := mk) fun u1 _ h3 hk1 => ⟨_, h3.c0, ?_⟩
    have hu1 := hw.keptThen hk1
    have h7l := h7.len
    have hnodes : (marksP nodes).map MkD.node = natL (thoseP nodes true) := by
      rw [hM, marks_nodes _ _ hTr.is]
      unfold thoseP
      rw [if_pos hsh]
    have h7n : n7 = n3 := by rw [h7l, ← hnodes, List.length_map, hll]
    refine (h7.keep (From.kept hu1)).rdI (k := .i64) (by omega) (by omega) fun y hy => ?_
    rw [Int.toNat_natCast, ← hnodes, List.getElem?_map, hmk] at hy
    obtain rfl : mk.node = y := by simpa using hy
    refine onNe_f rfl ⟨_, h3.c1, onDec_f (by omega) ⟨_, h3.c1, _, h3.c2, onDec_f (by omega) ⟨_, h3.c2, onDec_f (by omega) ?_⟩⟩⟩
    refine chk_mk (by omega) ?_
    rw [slA_zero, Int.toNat_natCast]
    have hnst : ∀ j x, j < k → (marksP nodes)[j]? = some x → Nst mk x := fun j x hj hx => by
      have hp := (treeP nodes).marks_nest 0
      rw [← hM] at hp
      obtain ⟨hjl, hje⟩ := List.getElem?_eq_some_iff.1 hx
      obtain ⟨hkl, hke⟩ := List.getElem?_eq_some_iff.1 hmk
      have := List.pairwise_iff_getElem.1 hp j k hjl hkl hj
      rw [hje, hke] at this
      exact this.symm
    exact ⟨_, nest_in (w1 := u1) (hG.from hu1) hTr (hT.from hu1) h3 (hl.keep (From.kept hu1)) (by omega) (by omega) hnst (by rw [← hM]; exact hmem) (fun u hu => nest_loop hG h0 hT hl h3c h7 hn5 hR m (k + 1) u (by omega) (hu1.then hu fun b _ h => by have h' : u1.heap.size ≤ b := h; have := hu1.size; omega)) k 0 u1 (by omega) (From.refl _ _)⟩
/-- The law MaskNested. -/
theorem maskNested_law (hTab : Go.Bi.Tab w) (hG : Good F w a n c nodes) : Pure Go.Proofs.Tryd.prog 4 #[vT o a n c] w (.bool true) := by
  refine thicketlaw13_MaskNested.calls (R := fun v' u => v' = _ ∧ Below w.heap.size w u) ?_
  unfold thicketlaw13_MaskNested thicketlaw13_MaskNested.g0
  refine box2T fun w1 _ hT hk1 => ?_
  refine E.CallsD.mono (lives_c (hTab.kept hk1)) fun v u2 ⟨hv, e2⟩ => ⟨_, hv, ob_f ?_⟩
  have k2 := Kept.trans hk1 e2
  have hT2 := hT.kept e2
  refine ⟨_, hT2.c0, _, _, _, hT2.c1, ?_⟩
  refine E.CallsD.mono (Marks_c (o := o) (hG.kept k2)) fun v u3 ⟨a3, n3, c3, hv, h3⟩ => ⟨_, _, _, _, hv, ?_⟩
  have k3 := Kept.trans k2 h3.kept
  have hT3 := hT2.kept h3.kept
  have h3l := h3.len
  have hml := marks_le hG.len hG.max
  refine onNe (fun hne => ⟨?_, k3⟩) fun h0 => ?_
  · have : marksP nodes = [] := by unfold marksP; rw [if_neg hne]
    rw [this] at h3l
    simp [h3l]
  obtain ⟨hsh, hle⟩ := lv_shape h0
  have hTr := treeP_spec hsh
  have hN := (lv_ok hsh (by omega)).2
  have hM : marksP nodes = (treeP nodes).marks 0 := by unfold marksP; rw [if_pos h0]
  refine ⟨_, hT3.c0, _, _, _, hT3.c1, ?_⟩
  refine E.CallsD.mono (Leaves_c (o := o) (hG.kept k3)) fun v u4 ⟨a4, n4, c4, hv, h4⟩ => ⟨_, _, _, _, hv, ?_⟩
  have k4 := Kept.trans k3 h4.kept
  have hT4 := hT3.kept h4.kept
  refine ⟨_, hT4.c0, _, _, _, hT4.c1, ?_⟩
  refine E.CallsD.mono (Inner_c (o := o) (hG.kept k4)) fun v u5 ⟨a5, n5, c5, hv, h5⟩ => ⟨_, _, _, _, hv, ?_⟩
  have k5 := Kept.trans k4 h5.kept
  have hT5 := hT4.kept h5.kept
  have h4l := h4.len
  have h5l := h5.len
  rw [natL_length] at h4l h5l
  have hlen : (thoseP nodes true).length = (marksP nodes).length := by
    have := congrArg List.length (marks_nodes (treeP nodes) 0 hTr.is)
    rw [List.length_map, natL_length, ← hM] at this
    rw [this]
    unfold thoseP
    rw [if_pos hsh]
  have hnl := (treeP nodes).marks_length 0
  have hnl2 := nl_those hsh
  rw [← hM] at hnl
  refine onNe_f (by omega) (nv_mk (y := (n5 : Int) + 1) (i64_id (by omega) (by omega)) (onNe_f (by omega) ?_))
  have h35 := Kept.trans h4.kept h5.kept
  have h3c : n3 ≤ c3 := by obtain ⟨g, h, _⟩ := h3; exact h.capLe
  exact ⟨n3 + 1, nest_loop (w1 := u5) (F := F) (o := o) (hG.kept k5) h0 hT5 (h3.slk.keep h35) h3c h5.sl (by omega) (fun u hu => ⟨rfl, Kept.trans k5 (From.kept hu)⟩) n3 0 u5 (by omega) (From.refl _ _)⟩
end
end Go.Mir
