/- Part of a proof of laws of the seat Ytmjlipmapfofmaa: functions' weakest preconditions, each checked by the kernel, contracts out of them, plain lemmas; no conditions. -/
import Derived.Test.YtmjlipmapfofmaaFE
set_option linter.unusedVariables false
set_option linter.unusedSimpArgs false
set_option linter.unusedSectionVars false
set_option maxRecDepth 100000
namespace Go.Mir
open Go Go.E Go.RowKit Go.Tr Go.Ss Go.ChangeShapes
def lastTo (out : List (Int × Int)) (v : Int) : List (Int × Int) := out.set (out.length - 1) ((out.getD (out.length - 1) (0, 0)).1, v)
def planF (most : Int) : List TD → Nat → Int → List (Int × Int) → List (Int × Int)
  | [], _, _, out => out
  | t :: ts, i, sum, out => if i = 0 ∨ sum + (t.nodes.length : Int) / 2 > most then planF most ts (i + 1) ((t.nodes.length : Int) / 2) (out ++ [(((i : Nat) : Int), ((i + 1 : Nat) : Int))])
    else planF most ts (i + 1) (sum + (t.nodes.length : Int) / 2) (lastTo out ((i + 1 : Nat) : Int))
noncomputable def planE (e : ED) (most : Int) : Int := if ensE e ≠ 0 then ensE e else if most < 0 then 2 else 0
noncomputable def planP (e : ED) (most : Int) : List (Int × Int) := if planE e most = 0 then planF most e.trees 0 0 [] else []
section
variable {w w0 u w1 wB x : World} {a a0 a1 a4 : OA} {n c n0 c0 n1 c1 n4 c4 g : Nat} {F F' S : Nat → Prop} {p q : Addr} {B mb : Nat} {R : VP} {e : ED} {f b t : SH}
abbrev PlA (w : World) (e : ED) (most : Int) : VP := fun v u => ∃ a n c, v = .tuple #[.slice a n c, .int .i64 (planE e most)] ∧ NewRn w u a n c (planP e most)
theorem NewRn.nil (h : Kept w u) : NewRn w u none 0 0 [] := ⟨0, ArrK.nil _ _ _ _, .inl rfl, h⟩
theorem newRn_only {g1 : Nat} (h : Kept w u) (hg : g = 0 ∨ w.heap.size < g) (ho : Only g u x) : Kept w x :=
  ((Kept.mod (S := fun k => w.heap.size ≤ k) h).trans ho (U := fun k => w.heap.size ≤ k) (fun _ _ h => h) (fun k _ h => by have h' : k + 1 = g := h; show w.heap.size ≤ k; omega)).kept fun k h1 h2 => by have h2' : w.heap.size ≤ k := h2; omega
theorem plan_push {K : OA → Nat → Nat → Int → Int → World → Prop} {i : Nat} {m : Int} {xs : List (Int × Int)} (hx : ArrK 2 enR tRun' u a n c xs g) (hn : n ≤ 65536) (hi : i ≤ 65536) (hm : 0 ≤ m ∧ m ≤ 1048576)
    (hK : ∀ a' c' g' v, ArrK 2 enR tRun' v a' (n + 1) c' (xs ++ [(((i : Nat) : Int), ((i + 1 : Nat) : Int))]) g' → (g' = g ∨ u.heap.size < g') → g' ≠ 0 → (∀ B, (g = 0 ∨ B < g) → B ≤ u.heap.size → From B u v) → K a' (n + 1) c' m ((i + 1 : Nat) : Int) v) :
    nw (u.alloc (.cells (cl40 (i : Int) 0) 41)) fun u1 => rawN Go.Proofs.Try.prog (Builtin.append_ #[27, 27] 27 #[.slice a n c, .slice (some (na u)) 1 1]) u1 fun v o =>
      ∃ p q r, v = .slice p q r ∧ (nv (IntKind.i64.wrap (0 + m)) fun n => nv (IntKind.i64.wrap ((q : Int) - 1)) fun s => inc (i : Int) fun t => ix p q s fun u => st o (((u.add (s.toNat * 2)).add 1).add 0) (.int .i64 t) fun o => inc (i : Int) fun s => K p q r n s o) := by
  have hxl := ArrK.len (k := 2) (en := enR) (fun _ => rfl) (by omega) hx
  refine ArrK.pushL (P := Go.Proofs.Try.prog) (en := enR) (ys := [((i : Int), (0 : Int))]) (m := 1) S15r (fun _ => rfl) (by omega) hx enR_one rfl rfl (by omega) (by simp only [maxLen]; omega) (by omega) fun a' c' g' u2 hx2 hg' hg0 ho => ⟨_, _, _, rfl, nv_mk (y := m) (by rw [i64_id (by omega) (by omega)]; omega) (nv_mk (y := ((n : Nat) : Int)) (by rw [i64_id (by omega) (by omega)]; omega) (nv_succ (by omega) ?_))⟩
  have hl2 : (xs ++ [((i : Int), (0 : Int))])[((n : Nat) : Int).toNat]? = some ((i : Int), 0) := by rw [Int.toNat_natCast, hxl]; simp
  refine ArrK.wrSnd hx2 (i := ((n : Nat) : Int)) (by omega) (by omega) (v := ((i + 1 : Nat) : Int)) hl2 fun v hv ho2 => nv_succ (by omega) (hK a' c' g' v ?_ hg' hg0 fun B hB hBu => ?_)
  · rw [Int.toNat_natCast, hxl, List.set_append_right _ _ (Nat.le_refl _), Nat.sub_self] at hv
    exact hxl ▸ hv
  · have h1 : From B u u2 := Mod.weak ho fun k _ hk => by have hk' : k + 1 = g := hk; show B ≤ k; omega
    exact From.then h1 ho2 fun k _ hk => by have hk' : k + 1 = g' := hk; omega
end
end Go.Mir

set_option maxRecDepth 100000
namespace Go.Mir
open Go Go.E Go.RowKit Go.Tr Go.Ss Go.ChangeShapes
section
variable {w w0 u w1 wB x : World} {a a0 a1 a4 : OA} {n c n0 c0 n1 c1 n4 c4 g : Nat} {F F' S : Nat → Prop} {p q : Addr} {B mb : Nat} {R : VP} {e : ED} {f b t : SH}
theorem plan_last {K : World → Prop} {i : Nat} {xs : List (Int × Int)} (hx : ArrK 2 enR tRun' u a n c xs g) (hn : n ≤ 65536) (hn0 : 0 < n)
    (hK : ∀ v, ArrK 2 enR tRun' v a n c (lastTo xs ((i + 1 : Nat) : Int)) g → Only g u v → K v) :
    ix a n (((n - 1 : Nat) : Nat) : Int) fun q => st u (((q.add ((((n - 1 : Nat) : Nat) : Int).toNat * 2)).add 1).add 0) (.int .i64 ((i + 1 : Nat) : Int)) K := by
  have hxl := ArrK.len (k := 2) (en := enR) (fun _ => rfl) (by omega) hx
  have hlt : n - 1 < xs.length := by omega
  refine ArrK.wrSnd hx (i := ((n - 1 : Nat) : Int)) (by omega) (by omega) (v := ((i + 1 : Nat) : Int)) (x := xs[n - 1]'hlt) (by rw [Int.toNat_natCast]; exact List.getElem?_eq_getElem _) fun v hv ho => hK v ?_ ho
  rw [Int.toNat_natCast] at hv
  unfold lastTo
  rw [← hxl, List.getD_eq_getElem?_getD, List.getElem?_eq_getElem hlt]
  exact hv
theorem lastTo_len (xs : List (Int × Int)) (v : Int) : (lastTo xs v).length = xs.length := by unfold lastTo; rw [List.length_set]
theorem planF_cons (most : Int) (t : TD) (ts : List TD) (i : Nat) (sum : Int) (out : List (Int × Int)) : planF most (t :: ts) i sum out = if i = 0 ∨ sum + (t.nodes.length : Int) / 2 > most then planF most ts (i + 1) ((t.nodes.length : Int) / 2) (out ++ [(((i : Nat) : Int), ((i + 1 : Nat) : Int))]) else planF most ts (i + 1) (sum + (t.nodes.length : Int) / 2) (lastTo out ((i + 1 : Nat) : Int)) := rfl
theorem l28_Plan {most : Int} (hE : GoodE F w e f b t) (h0 : planE e most = 0) : ∀ (k i : Nat) (u : World) (a : OA) (n c g : Nat) (xs : List (Int × Int)) (sum : Int), i + k = t.n → n ≤ i → (0 < i → 0 < n) → 0 ≤ sum → sum ≤ i * 1048576 → ArrK 2 enR tRun' u a n c xs g → (g = 0 ∨ w.heap.size < g) → Kept w u →
    planF most e.trees 0 0 [] = planF most (e.trees.drop i) i sum xs → blocks_Plan.l28 (PlA w e most) (k + 1) most a n c sum t.a t.n t.c t.n i u := by
  intro k
  have htl := hE.ts.len
  have h65 : t.n ≤ 65536 := by
    have he : ensE e = 0 := Classical.byContradiction fun hn => by unfold planE at h0; rw [if_pos hn] at h0; exact hn h0
    have := (ensE_ok he).2.2.2.2.1
    omega
  induction k with
  | zero =>
    intro i u a n c g xs sum hi hni hn0 hs0 hs1 hx hg hk hp
    obtain rfl : i = t.n := by omega
    rw [blocks_Plan.u28]; unfold blocks_Plan.g28
    refine onDec_f (by omega) ?_
    refine ⟨a, n, c, by rw [h0], g, ?_, hg, hk⟩
    unfold planP
    rw [if_pos h0, hp, List.drop_eq_nil_of_le (by omega)]
    exact hx
  | succ k ih =>
    intro i u a n c g xs sum hi hni hn0 hs0 hs1 hx hg hk hp
    rw [blocks_Plan.u28]; unfold blocks_Plan.g28
    refine onDec_t (by omega) ?_
    refine rdTr (hE.ts.kept hk) (by omega) (by omega) fun x a' n' c' hx' hN => ?_
    rw [Int.toNat_natCast] at hx'
    refine boxS (zs := (cl43 0 none 0 0).toList) (vs := [.int .i64 x.output, .slice a' n' c']) rfl fun u1 hA _ hk1 => ?_
    refine ⟨_, _, _, hA 1 _ rfl, ?_⟩
    have hxg := hE.good x (List.mem_of_getElem? hx')
    have hnl := hN.len
    refine nv_div (by omega) (by omega) (by omega) ?_
    have hz := hk.size
    have hz1 := hk1.size
    have hgl := Row.le hx
    obtain ⟨hlt, hxe⟩ := List.getElem?_eq_some_iff.1 hx'
    rw [List.drop_eq_getElem_cons hlt, hxe] at hp
    rw [planF_cons, ← hnl] at hp
    have push : (i = 0 ∨ sum + (n' : Int) / 2 > most) → ∀ a2 c2 g2 v, ArrK 2 enR tRun' v a2 (n + 1) c2 (xs ++ [(((i : Nat) : Int), ((i + 1 : Nat) : Int))]) g2 → (g2 = g ∨ u1.heap.size < g2) → g2 ≠ 0 → (∀ B, (g = 0 ∨ B < g) → B ≤ u1.heap.size → From B u1 v) → blocks_Plan.l28 (PlA w e most) (k + 1) most a2 (n + 1) c2 ((n' : Int) / 2) t.a t.n t.c t.n ((i + 1 : Nat) : Int) v := fun hc a2 c2 g2 v hx2 hg2 hg0 hf => by
      rw [if_pos hc] at hp
      refine ih (i + 1) v a2 (n + 1) c2 g2 _ _ (by omega) (by omega) (by omega) (by omega) (by omega) hx2 (by omega) (From.kept (From.then (Kept.mod (S := fun k => w.heap.size ≤ k) (Kept.trans hk hk1)) (hf w.heap.size hg (by omega)) fun k _ hk => hk)) hp
    refine onEq (fun he => ?_) fun he => ?_
    · exact plan_push (hx.kept hk1) (by omega) (by omega) ⟨by omega, by omega⟩ (push (.inl (by omega)))
    · refine nv_i64 (by omega) (by omega) (onDec (fun hd => ?_) fun hd => ?_)
      · exact plan_push (hx.kept hk1) (by omega) (by omega) ⟨by omega, by omega⟩ (push (.inr hd))
      · rw [if_neg (by omega)] at hp
        have hn1 := hn0 (by omega)
        refine nv_i64 (by omega) (by omega) (nv_mk (y := ((n - 1 : Nat) : Int)) (by rw [i64_id (by omega) (by omega)]; omega) (nv_succ (by omega) ?_))
        refine plan_last (hx.kept hk1) (by omega) hn1 fun v hv ho => nv_succ (by omega) ?_
        refine ih (i + 1) v a n c g _ _ (by omega) (by omega) (by omega) (by omega) (by omega) hv hg (newRn_only (g1 := g) (Kept.trans hk hk1) hg ho) hp
theorem Plan_c {most : Int} (hE : GoodE F w e f b t) : E.CallsD Go.Proofs.Try.prog 9 #[vE e f b t, .int .i64 most] w (PlA w e most) := by
  refine blocks_Plan.calls (R := PlA w e most) ?_
  unfold blocks_Plan blocks_Plan.g0
  refine boxN (cs := (enE e f b t).toArray) fun w1 hA' hk1 => ?_
  have hA : AtL w1 (na w) (enE e f b t) := hA'
  refine ⟨_, hA 0 _ rfl, _, _, _, hA 1 _ rfl, _, hA 2 _ rfl, _, _, _, hA 3 _ rfl, _, _, _, hA 4 _ rfl, ?_⟩
  refine E.CallsD.mono (wrong_c (hE.kept hk1)) fun v w2 ⟨hv, hk2⟩ => ⟨_, hv, ?_⟩
  have k12 := Kept.trans hk1 hk2
  refine onNe (fun hne => ?_) fun h0 => ?_
  · have hp : planE e most = ensE e := by unfold planE; rw [if_pos hne]
    refine ⟨none, 0, 0, by rw [hp], ?_⟩
    unfold planP
    rw [if_neg (by omega)]
    exact NewRn.nil k12
  · refine onDec (fun hm => ?_) fun hm => ?_
    · have hp : planE e most = 2 := by unfold planE; rw [if_neg (by omega), if_pos hm]
      refine ⟨none, 0, 0, by rw [hp], ?_⟩
      unfold planP
      rw [if_neg (by omega)]
      exact NewRn.nil k12
    · have hp : planE e most = 0 := by unfold planE; rw [if_neg (by omega), if_neg hm]
      refine ⟨_, _, _, (hA.kept hk2) 4 _ rfl, ?_⟩
      exact Exists.intro (t.n + 1) (l28_Plan hE hp t.n 0 w2 none 0 0 0 [] 0 (by omega) (by omega) (by omega) (by omega) (by omega) (ArrK.nil _ _ _ _) (.inl rfl) k12 rfl)
theorem refinner_c {o : Int} {xs : List ND} (hs : Ls tN F w a n c xs) (hm : n ≤ 1048576) : Pure Go.Proofs.Try.prog 26 #[vT o a n c] w (.int .i64 ((n : Int) / 2)) := by
  refine thicketref15_inner.calls (R := fun v' u => v' = _ ∧ Below w.heap.size w u) ?_
  unfold thicketref15_inner thicketref15_inner.g0
  refine boxN (cs := #[.int .i64 o, .slice a n c]) fun u1 hA hk1 => ?_
  refine ⟨_, _, _, hA 1 _ rfl, ?_⟩
  refine nv_div (by omega) (by omega) (by omega) ?_
  exact ⟨rfl, hk1⟩
theorem l28_refPlan {most : Int} (hE : GoodE F w e f b t) (h0 : planE e most = 0) : ∀ (k i : Nat) (u : World) (a : OA) (n c g : Nat) (xs : List (Int × Int)) (sum : Int), i + k = t.n → n ≤ i → (0 < i → 0 < n) → 0 ≤ sum → sum ≤ i * 1048576 → ArrK 2 enR tRun' u a n c xs g → (g = 0 ∨ w.heap.size < g) → Kept w u →
    planF most e.trees 0 0 [] = planF most (e.trees.drop i) i sum xs → thicketref15_Plan.l28 (PlA w e most) (k + 1) most a n c sum t.a t.n t.c t.n i u := by
  intro k
  have htl := hE.ts.len
  have h65 : t.n ≤ 65536 := by
    have he : ensE e = 0 := Classical.byContradiction fun hn => by unfold planE at h0; rw [if_pos hn] at h0; exact hn h0
    have := (ensE_ok he).2.2.2.2.1
    omega
  induction k with
  | zero =>
    intro i u a n c g xs sum hi hni hn0 hs0 hs1 hx hg hk hp
    obtain rfl : i = t.n := by omega
    rw [thicketref15_Plan.u28]; unfold thicketref15_Plan.g28
    refine onDec_f (by omega) ?_
    refine ⟨a, n, c, by rw [h0], g, ?_, hg, hk⟩
    unfold planP
    rw [if_pos h0, hp, List.drop_eq_nil_of_le (by omega)]
    exact hx
  | succ k ih =>
    intro i u a n c g xs sum hi hni hn0 hs0 hs1 hx hg hk hp
    rw [thicketref15_Plan.u28]; unfold thicketref15_Plan.g28
    refine onDec_t (by omega) ?_
    refine rdTr (hE.ts.kept hk) (by omega) (by omega) fun x a' n' c' hx' hN => ?_
    rw [Int.toNat_natCast] at hx'
    refine boxS (zs := (cl43 0 none 0 0).toList) (vs := [.int .i64 x.output, .slice a' n' c']) rfl fun u1 hA _ hk1 => ?_
    have hxg := hE.good x (List.mem_of_getElem? hx')
    have hnl := hN.len
    refine ⟨_, hA 0 _ rfl, _, _, _, hA 1 _ rfl, ?_⟩
    refine E.CallsD.mono (refinner_c (o := x.output) (hN.kept hk1) (by omega)) fun v u2 ⟨hv, hk2⟩ => ⟨_, hv, ?_⟩
    have hz := hk.size
    have hz1 := hk1.size
    have hz2 := hk2.size
    have hk12 := Kept.trans hk1 hk2
    have hgl := Row.le hx
    obtain ⟨hlt, hxe⟩ := List.getElem?_eq_some_iff.1 hx'
    rw [List.drop_eq_getElem_cons hlt, hxe] at hp
    rw [planF_cons, ← hnl] at hp
    have push : (i = 0 ∨ sum + (n' : Int) / 2 > most) → thicketref15_Plan.j43 (PlA w e most) (thicketref15_Plan.l28 (PlA w e most) (k + 1)) most a n c sum i ((n' : Int) / 2) t.a t.n t.c t.n i false u2 := fun hc => by
      unfold thicketref15_Plan.j43 thicketref15_Plan.g43
      refine ob_f (nv_succ (by omega) ?_)
      refine ArrK.pushL (P := Go.Proofs.Try.prog) (en := enR) (ys := [(((i : Nat) : Int), ((i + 1 : Nat) : Int))]) (m := 1) S15r (fun _ => rfl) (by omega) (hx.kept hk12) enR_one rfl rfl (by omega) (by simp only [maxLen]; omega) (by omega) fun a2 c2 g2 v hx2 hg2 hg0 ho => ⟨_, _, _, rfl, nv_succ (by omega) ?_⟩
      rw [if_pos hc] at hp
      refine ih (i + 1) v a2 (n + 1) c2 g2 _ _ (by omega) (by omega) (by omega) (by omega) (by omega) hx2 (by omega) (newRn_only (g1 := g) (Kept.trans hk hk12) hg ho) hp
    refine onDec (fun hd => nv_i64 (by omega) (by omega) ?_) fun hd => push (.inl (Classical.byContradiction fun hi0 => by have := hn0 (by omega); omega))
    by_cases hle : sum + (n' : Int) / 2 ≤ most
    · rw [decide_eq_true hle]
      rw [if_neg (by omega)] at hp
      unfold thicketref15_Plan.j43 thicketref15_Plan.g43
      refine ob_t (nv_mk (y := ((n - 1 : Nat) : Int)) (by rw [i64_id (by omega) (by omega)]; omega) (nv_succ (by omega) ?_))
      refine plan_last (hx.kept hk12) (by omega) (by omega) fun v hv ho => nv_i64 (by omega) (by omega) (nv_succ (by omega) ?_)
      refine ih (i + 1) v a n c g _ _ (by omega) (by omega) (by omega) (by omega) (by omega) hv hg (newRn_only (g1 := g) (Kept.trans hk hk12) hg ho) hp
    · rw [decide_eq_false hle]
      exact push (.inr (by omega))
theorem refPlan_c {most : Int} (hE : GoodE F w e f b t) : E.CallsD Go.Proofs.Try.prog 10 #[vE e f b t, .int .i64 most] w (PlA w e most) := by
  refine thicketref15_Plan.calls (R := PlA w e most) ?_
  unfold thicketref15_Plan thicketref15_Plan.g0
  refine boxN (cs := (enE e f b t).toArray) fun w1 hA' hk1 => ?_
  have hA : AtL w1 (na w) (enE e f b t) := hA'
  refine ⟨_, hA 0 _ rfl, _, _, _, hA 1 _ rfl, _, hA 2 _ rfl, _, _, _, hA 3 _ rfl, _, _, _, hA 4 _ rfl, ?_⟩
  refine E.CallsD.mono (refError_c (hE.kept hk1)) fun v w2 ⟨hv, hk2⟩ => ⟨_, hv, ?_⟩
  have k12 := Kept.trans hk1 hk2
  refine onNe (fun hne => ?_) fun h0 => ?_
  · have hp : planE e most = ensE e := by unfold planE; rw [if_pos hne]
    refine ⟨none, 0, 0, by rw [hp], ?_⟩
    unfold planP
    rw [if_neg (by omega)]
    exact NewRn.nil k12
  · refine onDec (fun hm => ?_) fun hm => ?_
    · have hp : planE e most = 2 := by unfold planE; rw [if_neg (by omega), if_pos hm]
      refine ⟨none, 0, 0, by rw [hp], ?_⟩
      unfold planP
      rw [if_neg (by omega)]
      exact NewRn.nil k12
    · have hp : planE e most = 0 := by unfold planE; rw [if_neg (by omega), if_neg hm]
      refine ⟨_, _, _, (hA.kept hk2) 4 _ rfl, ?_⟩
      exact Exists.intro (t.n + 1) (l28_refPlan hE hp t.n 0 w2 none 0 0 0 [] 0 (by omega) (by omega) (by omega) (by omega) (by omega) (ArrK.nil _ _ _ _) (.inl rfl) k12 rfl)
end
end Go.Mir

set_option maxRecDepth 100000
namespace Go.Mir
open Go Go.E Go.RowKit Go.Tr Go.Ss Go.ChangeShapes
end Go.Mir

set_option maxRecDepth 100000
namespace Go.Mir
open Go Go.E Go.RowKit Go.Tr Go.Ss Go.ChangeShapes
section
variable {w w0 u w1 wB x : World} {a a0 a1 a4 : OA} {n c n0 c0 n1 c1 n4 c4 g m : Nat} {F F' S : Nat → Prop} {p q : Addr} {B : Nat} {R : VP} {f : FormD} {s t : SH}
theorem set_same {α : Type} {l : List α} {i : Nat} {x : α} (h : l[i]? = some x) : l.set i x = l := by
  obtain ⟨hlt, rfl⟩ := List.getElem?_eq_some_iff.1 h
  exact List.set_getElem_self hlt
end
end Go.Mir

set_option maxRecDepth 100000
namespace Go.Mir
open Go Go.E Go.RowKit Go.Tr Go.Ss Go.ChangeShapes
section
variable {w w0 u w1 wB x : World} {a a0 a1 a4 : OA} {n c n0 c0 n1 c1 n4 c4 g m : Nat} {F F' S : Nat → Prop} {p q : Addr} {B : Nat} {R : VP} {f : FormD} {s t : SH}
end
end Go.Mir

set_option maxRecDepth 100000
namespace Go.Mir
open Go Go.E Go.RowKit Go.Tr Go.Ss Go.ChangeShapes
section
variable {w w0 u w1 wB x : World} {a a0 a1 a4 : OA} {n c n0 c0 n1 c1 n4 c4 g m : Nat} {F F' S : Nat → Prop} {p q : Addr} {B : Nat} {R : VP} {f : FormD} {s t : SH}
end
end Go.Mir
