/- Part of a proof of laws of the seat Ytmjlipmapfofmaa: functions' weakest preconditions, each checked by the kernel, contracts out of them, plain lemmas; no conditions. -/
import Derived.Test.YtmjlipmapfofmaaFF
import Derived.Test.YtmjlipmapfofmaaXLPlan
set_option linter.unusedVariables false
set_option linter.unusedSimpArgs false
set_option linter.unusedSectionVars false
set_option maxRecDepth 100000
namespace Go.Mir
open Go Go.E Go.RowKit Go.Tr Go.Ss Go.ChangeShapes
section
variable {w w0 u w1 wB x : World} {a a0 a1 a4 : OA} {n c n0 c0 n1 c1 n4 c4 g m d : Nat} {F F' S : Nat → Prop} {p q : Addr} {R : VP} {e : ED} {f b t : SH} {rs : List (Int × Int)} {most : Int}
theorem sumI_le {ts : List TD} (h : ∀ t ∈ ts, inn t ≤ 1048576) : sumI ts ≤ 1048576 * (ts.length : Int) := by
  induction ts with
  | nil => exact Int.le_refl _
  | cons t ts ih =>
    have h1 := ih fun x hx => h x (.tail _ hx)
    have h2 := h t (.head _)
    unfold sumI at h1 ⊢
    rw [List.map_cons, List.sum_cons, List.length_cons]
    omega
theorem inn_le {t : TD} : inn t ≤ (t.nodes.length : Int) := by
  unfold inn
  have := those_le (nodes := t.nodes) true
  omega
theorem NewA.len {α : Type} {en : α → Value} {e : Nat} {xs : List α} (h : NewA en e w u a n c xs) : n = xs.length := by
  obtain ⟨g, h1, _⟩ := h
  exact h1.len
set_option maxHeartbeats 1000000 in
theorem plan_loop {pe : Nat} (hE : GoodE F w e f b t) (h0 : planE e most = 0) (hrs : rs = planP e most) : ∀ (k i : Nat) (u : World) (a : OA) (c : Nat) (last : Int), i + k = rs.length → Kept w u → AtL u (⟨pe, 0, none⟩ : Addr) (enE e f b t) → Ls tR F' u a rs.length c rs → 0 ≤ last → last ≤ 1099511627776 →
    (0 < i → ∃ r', rs[i - 1]? = some r' ∧ last = sumI (sliT e.trees r')) → thicketlaw15_BlocksPlan.l36 (fun v' u => v' = Value.bool true ∧ Below w.heap.size w u) (k + 1) most (some ⟨pe, 0, none⟩) last a rs.length c rs.length i u := by
  obtain ⟨he, hof, hch, hok⟩ := planP_ok h0
  rw [← hrs] at hch hok
  have hl := ens_lv he
  have hruns := chainP_runs hch
  have htl := hE.ts.len
  have h65 := (ensE_ok he).2.2.2.2.1
  have hin : ∀ t ∈ e.trees, inn t ≤ 1048576 := fun t ht => by have := (hE.good t ht).1; have := inn_le (t := t); omega
  intro k
  induction k with
  | zero =>
    intro i u a c last hi hk hA hL hb0 hb1 hlast
    obtain rfl : i = rs.length := by omega
    rw [thicketlaw15_BlocksPlan.u36]; unfold thicketlaw15_BlocksPlan.g36
    refine onDec_f (by omega) ?_
    exact ⟨rfl, hk⟩
  | succ k ih =>
    intro i u a c last hi hk hA hL hb0 hb1 hlast
    rw [thicketlaw15_BlocksPlan.u36]; unfold thicketlaw15_BlocksPlan.g36
    have hrl := runsP_len hruns
    refine onDec_t (by omega) ?_
    have hri : rs[i]? = some (rs[i]'(by omega)) := List.getElem?_eq_getElem _
    generalize rs[i]'(by omega) = r at hri
    obtain ⟨q1, q2, q3⟩ := runsP_mem (Int.le_refl 0) hruns r (List.mem_of_getElem? hri)
    refine SlK.rd2 hL.slk2 (by omega) (by omega) fun r0 hr0 => ?_
    rw [Int.toNat_natCast, hri] at hr0
    obtain rfl := Option.some.inj hr0
    refine boxS (zs := (cl40 0 0).toList) (vs := enR r) rfl fun u1 hA1 _ hk1 => ?_
    have hku1 := Kept.trans hk hk1
    refine ⟨_, _, _, (hA.kept hk1) 4 _ rfl, _, hA1 0 _ rfl, _, hA1 1 _ rfl, ?_⟩
    have hcap := hE.ts.cap
    refine chk_mk ⟨by omega, by omega⟩ (chk_mk ⟨by omega, by omega⟩ ?_)
    have hsub := (hE.ts.sub (i := r.1.toNat) (j := r.2.toNat) (by omega) (by omega))
    have hT : e.trees.length - 0 = e.trees.length := rfl
    have hslen : (sliT e.trees r).length = r.2.toNat - r.1.toNat := by show ((e.trees.take r.2.toNat).drop r.1.toNat).length = _; rw [List.length_drop, List.length_take]; omega
    -- the inner loop: how many inner nodes
    have inner : ∀ (k2 j : Nat) (v : World), j + k2 = r.2.toNat - r.1.toNat → Kept u1 v → thicketlaw15_BlocksPlan.l53 (fun v' u => v' = Value.bool true ∧ Below w.heap.size w u) (thicketlaw15_BlocksPlan.l36 (fun v' u => v' = Value.bool true ∧ Below w.heap.size w u) (k + 1)) (k2 + 1) most (some ⟨pe, 0, none⟩) last i (some (na u)) (sumI ((sliT e.trees r).take j)) a rs.length c rs.length i (slA t.a t.c r.1.toNat 2) (r.2.toNat - r.1.toNat) (t.c - r.1.toNat) (((r.2.toNat - r.1.toNat) : Nat) : Int) j v := by
      intro k2
      induction k2 with
      | zero =>
        intro j v hj hkv
        obtain rfl : j = r.2.toNat - r.1.toNat := by omega
        unfold thicketlaw15_BlocksPlan.l53 thicketlaw15_BlocksPlan.g53
        refine onDec_f (by omega) ?_
        rw [List.take_of_length_le (by omega)]
        have hkwv := Kept.trans hku1 hkv
        have hAv := (hA.kept hk1).kept hkv
        have hA1v := hA1.kept hkv
        refine ⟨_, _, _, hAv 4 _ rfl, _, hA1v 0 _ rfl, ?_⟩
        refine rdTr (hE.ts.kept hkwv) (by omega) (by omega) fun x a' n' c' hx' hN => ?_
        have hxg := hE.good x (List.mem_of_getElem? hx')
        have hold : ∀ b, F b → b < v.heap.size := fun b hb => by have := hE.old b hb; have := hkwv.size; omega
        refine E.CallsD.mono (Inner_c (o := x.output) ⟨hN, hold, by rw [hN.len]; exact hxg.1, hxg.2⟩) fun vv v2 ⟨a2, n2, c2, hv, hnew⟩ => ⟨_, _, _, _, hv, ?_⟩
        have hk2 := hnew.choose_spec.2.2
        have hn2 : (n2 : Int) = inn x := by rw [NewA.len hnew]; unfold inn natL; rw [List.length_map]
        have hxe : e.trees.getD r.1.toNat default = x := by rw [List.getD_eq_getElem?_getD, hx']; rfl
        have hA1v2 := hA1v.kept hk2
        have hkn := Kept.trans hkv hk2
        have s0 := sumI_pos (sliT e.trees r)
        have s1 := sumI_le (ts := sliT e.trees r) fun y hy => hin y (List.mem_of_mem_take (List.mem_of_mem_drop hy))
        have s2 : sumI (sliT e.trees r) ≤ 1099511627776 := by rw [hslen] at s1; omega
        have hix := inn_le (t := x)
        have next : thicketlaw15_BlocksPlan.l36 (fun v' u => v' = Value.bool true ∧ Below w.heap.size w u) (k + 1) most (some ⟨pe, 0, none⟩) (sumI (sliT e.trees r)) a rs.length c rs.length ((i + 1 : Nat) : Int) v2 :=
          ih (i + 1) v2 a c _ (by omega) (Kept.trans hku1 hkn) (hAv.kept hk2) ((hL.kept hk1).kept hkn) s0 s2 fun _ => ⟨r, by rw [Nat.add_sub_cancel]; exact hri, rfl⟩
        have short : onBool (decide ((i : Int) > 0)) (nv (IntKind.i64.wrap (last + (n2 : Int))) fun e1 => onBool (decide (e1 ≤ most)) ((fun v' u => v' = Value.bool true ∧ Below w.heap.size w u) (.bool false) v2) (inc (i : Int) fun e1 => thicketlaw15_BlocksPlan.l36 (fun v' u => v' = Value.bool true ∧ Below w.heap.size w u) (k + 1) most (some ⟨pe, 0, none⟩) (sumI (sliT e.trees r)) a rs.length c rs.length e1 v2)) (inc (i : Int) fun e1 => thicketlaw15_BlocksPlan.l36 (fun v' u => v' = Value.bool true ∧ Below w.heap.size w u) (k + 1) most (some ⟨pe, 0, none⟩) (sumI (sliT e.trees r)) a rs.length c rs.length e1 v2) := by
          refine onDec (fun hi0 => ?_) fun _ => nv_succ (by omega) next
          refine nv_i64 (by omega) (by omega) (onDec_f ?_ (nv_succ (by omega) next))
          obtain ⟨r', hr', hl'⟩ := hlast (by omega)
          have := hok.two (i - 1) r r' (by rw [show i - 1 + 1 = i by omega]; exact hri) hr'
          rw [hxe] at this
          omega
        refine onDec (fun hbig => ?_) fun _ => short
        refine ⟨_, hA1v2 1 _ rfl, _, hA1v2 0 _ rfl, nv_i64 (by omega) (by omega) (onDec_f ?_ short)⟩
        rcases hok.one i r hri with h | h
        · omega
        · omega
      | succ k2 ih2 =>
        intro j v hj hkv
        unfold thicketlaw15_BlocksPlan.l53 thicketlaw15_BlocksPlan.g53
        refine onDec_t (by omega) ?_
        have hkwv := Kept.trans hku1 hkv
        refine rdTr (hsub.kept hkwv) (by omega) (by omega) fun x a' n' c' hx' hN => ?_
        rw [Int.toNat_natCast] at hx'
        have hxm : x ∈ e.trees := List.mem_of_mem_take (List.mem_of_mem_drop (List.mem_of_getElem? hx'))
        have hxg := hE.good x hxm
        refine boxS (zs := (cl43 0 none 0 0).toList) (vs := [.int .i64 x.output, .slice a' n' c']) rfl fun v1 hAx _ hk2 => ?_
        refine ⟨_, hAx 0 _ rfl, _, _, _, hAx 1 _ rfl, ?_⟩
        have hold : ∀ b, F b → b < v1.heap.size := fun b hb => by have := hE.old b hb; have := hkwv.size; have := hk2.size; omega
        refine E.CallsD.mono (Inner_c (o := x.output) ⟨hN.kept hk2, hold, by rw [hN.len]; exact hxg.1, hxg.2⟩) fun vv v2 ⟨a2, n2, c2, hv, hnew⟩ => ⟨_, _, _, _, hv, ?_⟩
        have hk3 := hnew.choose_spec.2.2
        have hn2 : (n2 : Int) = inn x := by rw [NewA.len hnew]; unfold inn natL; rw [List.length_map]
        refine onNe_f (lv_shape (hl x hxm)).1 ?_
        have htk : (sliT e.trees r).take (j + 1) = (sliT e.trees r).take j ++ [x] := by
          rw [List.take_add_one, show (sliT e.trees r)[j]? = some x from hx']; rfl
        have s0 := sumI_pos ((sliT e.trees r).take j)
        have s1 := sumI_le (ts := (sliT e.trees r).take j) fun y hy => hin y (List.mem_of_mem_take (List.mem_of_mem_drop (List.mem_of_mem_take hy)))
        have s2 : ((sliT e.trees r).take j).length ≤ 65536 := by rw [List.length_take, hslen]; omega
        have hix := inn_le (t := x)
        have hip := inn_pos x
        refine nv_mk (y := sumI ((sliT e.trees r).take (j + 1))) (by rw [htk, sumI_snoc, hn2, i64_id (by omega) (by omega)]) (nv_succ (by omega) (ih2 (j + 1) v2 (by omega) (Kept.trans hkv (Kept.trans hk2 hk3))))
    have := inner (r.2.toNat - r.1.toNat) 0 u1 (by omega) (Kept.refl _)
    exact Exists.intro _ this
theorem blocksPlan_law (hE : GoodE F w e f b t) : Pure Go.Proofs.Try.prog 4 #[vE e f b t, .int .i64 most] w (.bool true) := by
  refine thicketlaw15_BlocksPlan.calls (R := fun v' u => v' = Value.bool true ∧ Below w.heap.size w u) ?_
  unfold thicketlaw15_BlocksPlan thicketlaw15_BlocksPlan.g0
  refine boxN (cs := (enE e f b t).toArray) fun w1 hA' hk1 => ?_
  have hA : AtL w1 (na w) (enE e f b t) := hA'
  have htl := hE.ts.len
  have htm := hE.tm
  refine E.CallsD.mono lives_c fun v w2 ⟨hv, hk2⟩ => ⟨_, hv, ob_f ?_⟩
  have hA2 := hA.kept hk2
  have k12 := Kept.trans hk1 hk2
  refine ⟨_, hA2 0 _ rfl, _, _, _, hA2 1 _ rfl, _, hA2 2 _ rfl, _, _, _, hA2 3 _ rfl, _, _, _, hA2 4 _ rfl, ?_⟩
  refine E.CallsD.mono (Plan_c (most := most) (hE.kept k12)) fun v w3 ⟨a3, n3, c3, hv, h3⟩ => ⟨_, _, _, _, hv, ?_⟩
  have hk3 := h3.choose_spec.2.2
  have hA3 := hA2.kept hk3
  have k13 := Kept.trans k12 hk3
  have hn3 := h3.len
  have hpl : (planP e most).length ≤ 1048576 := by
    unfold planP
    split
    · have := planF_len' e.trees 0 0 []
      simp only [List.length_nil] at this
      omega
    · exact Nat.zero_le _
  have hls : Ls tR (fun b => b < w3.heap.size) w3 a3 n3 c3 (planP e most) := by
    obtain ⟨g3, g31, g32, _⟩ := h3
    have := ArrK.lsK (T := tR) (f := id) (en := enR) (k := 2) (F := fun b => b < w3.heap.size) (fun _ => rfl) (by omega) rfl g31 (fun b hb => by have := Row.le g31; omega) (fun x _ => rfl)
    simpa using this
  refine ⟨_, hA3 0 _ rfl, _, _, _, hA3 1 _ rfl, _, hA3 2 _ rfl, _, _, _, hA3 3 _ rfl, _, _, _, hA3 4 _ rfl, ?_⟩
  refine E.CallsD.mono (Of_c (hE.kept k13) hls (fun b hb => hb) (by omega)) fun v w4 ⟨s1, z1, hv, hin, hk4⟩ => ?_
  refine ⟨_, _, s1.a, s1.n, s1.c, z1.a, z1.n, z1.c, _, hv, ?_⟩
  refine boxS (zs := (cl36 0 0 none 0 0 none 0 0).toList) (vs := enFm (ofP e (planP e most)) s1 z1) rfl fun w5 hA5 _ hk5 => ?_
  have k35 := Kept.trans hk4 hk5
  have k15 := Kept.trans k13 k35
  have ok : (fun v' u => v' = Value.bool true ∧ Below w.heap.size w u) (.bool true) w5 := ⟨rfl, k15⟩
  have ok' : ∀ {b : Bool}, b = true → (fun v' u => v' = Value.bool true ∧ Below w.heap.size w u) (.bool b) w5 := fun h => ⟨by rw [h], k15⟩
  refine onNe (fun hne => ?_) fun h0 => ?_
  · have hn0 : n3 = 0 := by rw [hn3]; unfold planP; rw [if_neg hne]; rfl
    have key : planE e most = 2 → ¬ most < 0 → ofE e (planP e most) = planE e most := fun h2 hm => by
      unfold planE at h2
      split at h2
      · rename_i he
        unfold ofE planE
        rw [if_pos he, if_pos he]
      · exact absurd h2 (by decide)
    refine onEq_t (by omega) (onEq (fun h2 => onDec (fun _ => ok) fun hm => onEq (fun _ => ok) fun hq => absurd (key h2 hm) hq) fun h2 => onEq (fun _ => ok) fun _ => ok' (by simpa using h2))
  · obtain ⟨he, hof, hch, hok⟩ := planP_ok h0
    refine onNe_f hof ⟨_, _, _, hA5 3 _ rfl, onNe_f ?_ ?_⟩
    · rw [hin.k.len, hn3]
      unfold ofP
      rw [if_pos hof]
      unfold formP
      simp
    · rw [hn3]
      have hL5 := hls.kept k35
      rw [hn3] at hL5
      exact Exists.intro _ (plan_loop hE h0 rfl (planP e most).length 0 w5 a3 c3 0 (by omega) k15 (hA3.kept k35) hL5 (by omega) (by omega) fun h => by omega)
where planF_len' : ∀ (ts : List TD) (i : Nat) (sum : Int) (out : List (Int × Int)), (planF most ts i sum out).length ≤ out.length + ts.length
  | [], _, _, out => Nat.le_refl _
  | t :: ts, i, sum, out => by
    rw [planF_cons]
    split
    · have := planF_len' ts (i + 1) ((t.nodes.length : Int) / 2) (out ++ [(((i : Nat) : Int), ((i + 1 : Nat) : Int))])
      simp only [List.length_append, List.length_cons, List.length_nil] at this ⊢
      omega
    · have := planF_len' ts (i + 1) (sum + (t.nodes.length : Int) / 2) (lastTo out ((i + 1 : Nat) : Int))
      rw [lastTo_len] at this
      rw [List.length_cons]
      omega
end
end Go.Mir
