/- Part of a proof of laws of the seat Ytmjlipmapfofmaa: functions' weakest preconditions, each checked by the kernel, contracts out of them, plain lemmas; no conditions. -/
import Derived.Test.YtmjlipmapfofmaaFE
set_option linter.unusedVariables false
set_option linter.unusedSimpArgs false
set_option linter.unusedSectionVars false
set_option maxRecDepth 100000
namespace Go.Mir
open Go Go.E Go.RowKit Go.Tr Go.Ss Go.ChangeShapes
def lastTo (out : List (Int × Int)) (v : Int) : List (Int × Int) := out.set (out.length - 1) ((out.getD (out.length - 1) (0, 0)).1, v)
def planF (most : Int) : List TD → Nat → Int → List (Int × Int) → List (Int × Int)
  | [], _, _, out => out
  | t :: ts, i, sum, out => if i = 0 ∨ sum + (t.nodes.length : Int) / 2 > most then planF most ts (i + 1) ((t.nodes.length : Int) / 2) (out ++ [(((i : Nat) : Int), ((i + 1 : Nat) : Int))])
    else planF most ts (i + 1) (sum + (t.nodes.length : Int) / 2) (lastTo out ((i + 1 : Nat) : Int))
noncomputable def planE (e : ED) (most : Int) : Int := if ensE e ≠ 0 then ensE e else if most < 0 then 2 else 0
noncomputable def planP (e : ED) (most : Int) : List (Int × Int) := if planE e most = 0 then planF most e.trees 0 0 [] else []
section
variable {w w0 u w1 wB x : World} {a a0 a1 a4 : OA} {n c n0 c0 n1 c1 n4 c4 g : Nat} {F F' S : Nat → Prop} {p q : Addr} {B mb : Nat} {R : VP} {e : ED} {f b t : SH}
abbrev PlA (w : World) (e : ED) (most : Int) : VP := fun v u => ∃ a n c, v = .tuple #[.slice a n c, .int .i64 (planE e most)] ∧ NewRn w u a n c (planP e most)
theorem NewRn.nil (h : Kept w u) : NewRn w u none 0 0 [] := ⟨0, ArrK.nil _ _ _ _, .inl rfl, h⟩
theorem newRn_only {g1 : Nat} (h : Kept w u) (hg : g = 0 ∨ w.heap.size < g) (ho : Only g u x) : Kept w x :=
  ((Kept.mod (S := fun k => w.heap.size ≤ k) h).trans ho (U := fun k => w.heap.size ≤ k) (fun _ _ h => h) (fun k _ h => by have h' : k + 1 = g := h; show w.heap.size ≤ k; omega)).kept fun k h1 h2 => by have h2' : w.heap.size ≤ k := h2; omega
theorem plan_push {K : OA → Nat → Nat → Int → Int → World → Prop} {i : Nat} {m : Int} {xs : List (Int × Int)} (hx : ArrK 2 enR tRun' u a n c xs g) (hn : n ≤ 65536) (hi : i ≤ 65536) (hm : 0 ≤ m ∧ m ≤ 1048576)
    (hK : ∀ a' c' g' v, ArrK 2 enR tRun' v a' (n + 1) c' (xs ++ [(((i : Nat) : Int), ((i + 1 : Nat) : Int))]) g' → (g' = g ∨ u.heap.size < g') → g' ≠ 0 → (∀ B, (g = 0 ∨ B < g) → B ≤ u.heap.size → From B u v) → K a' (n + 1) c' m ((i + 1 : Nat) : Int) v) :
    nw (u.alloc (.cells (cl40 (i : Int) 0) 41)) fun u1 => rawN Go.Proofs.Try.prog (Builtin.append_ #[27, 27] 27 #[.slice a n c, .slice (some (na u)) 1 1]) u1 fun v o =>
      ∃ p q r, v = .slice p q r ∧ (nv (IntKind.i64.wrap (0 + m)) fun n => nv (IntKind.i64.wrap ((q : Int) - 1)) fun s => inc (i : Int) fun t => ix p q s fun u => st o (((u.add (s.toNat * 2)).add 1).add 0) (.int .i64 t) fun o => inc (i : Int) fun s => K p q r n s o) := by
  have hxl := ArrK.len (k := 2) (en := enR) (fun _ => rfl) (by omega) hx
  refine ArrK.pushL (P := Go.Proofs.Try.prog) (en := enR) (ys := [((i : Int), (0 : Int))]) (m := 1) S15r (fun _ => rfl) (by omega) hx enR_one rfl rfl (by omega) (by simp only [maxLen]; omega) (by omega) fun a' c' g' u2 hx2 hg' hg0 ho => ⟨_, _, _, rfl, nv_mk (y := m) (by rw [i64_id (by omega) (by omega)]; omega) (nv_mk (y := ((n : Nat) : Int)) (by rw [i64_id (by omega) (by omega)]; omega) (nv_succ (by omega) ?_))⟩
  have hl2 : (xs ++ [((i : Int), (0 : Int))])[((n : Nat) : Int).toNat]? = some ((i : Int), 0) := by rw [Int.toNat_natCast, hxl]; simp
  refine ArrK.wrSnd hx2 (i := ((n : Nat) : Int)) (by omega) (by omega) (v := ((i + 1 : Nat) : Int)) hl2 fun v hv ho2 => nv_succ (by omega) (hK a' c' g' v ?_ hg' hg0 fun B hB hBu => ?_)
  · rw [Int.toNat_natCast, hxl, List.set_append_right _ _ (Nat.le_refl _), Nat.sub_self] at hv
    exact hxl ▸ hv
  · have h1 : From B u u2 := Mod.weak ho fun k _ hk => by have hk' : k + 1 = g := hk; show B ≤ k; omega
    exact From.then h1 ho2 fun k _ hk => by have hk' : k + 1 = g' := hk; omega
end
end Go.Mir

set_option maxRecDepth 100000
namespace Go.Mir
open Go Go.E Go.RowKit Go.Tr Go.Ss Go.ChangeShapes
section
variable {w w0 u w1 wB x : World} {a a0 a1 a4 : OA} {n c n0 c0 n1 c1 n4 c4 g : Nat} {F F' S : Nat → Prop} {p q : Addr} {B mb : Nat} {R : VP} {e : ED} {f b t : SH}
theorem plan_last {K : World → Prop} {i : Nat} {xs : List (Int × Int)} (hx : ArrK 2 enR tRun' u a n c xs g) (hn : n ≤ 65536) (hn0 : 0 < n)
    (hK : ∀ v, ArrK 2 enR tRun' v a n c (lastTo xs ((i + 1 : Nat) : Int)) g → Only g u v → K v) :
    ix a n (((n - 1 : Nat) : Nat) : Int) fun q => st u (((q.add ((((n - 1 : Nat) : Nat) : Int).toNat * 2)).add 1).add 0) (.int .i64 ((i + 1 : Nat) : Int)) K := by
  have hxl := ArrK.len (k := 2) (en := enR) (fun _ => rfl) (by omega) hx
  have hlt : n - 1 < xs.length := by omega
  refine ArrK.wrSnd hx (i := ((n - 1 : Nat) : Int)) (by omega) (by omega) (v := ((i + 1 : Nat) : Int)) (x := xs[n - 1]'hlt) (by rw [Int.toNat_natCast]; exact List.getElem?_eq_getElem _) fun v hv ho => hK v ?_ ho
  rw [Int.toNat_natCast] at hv
  unfold lastTo
  rw [← hxl, List.getD_eq_getElem?_getD, List.getElem?_eq_getElem hlt]
  exact hv
theorem lastTo_len (xs : List (Int × Int)) (v : Int) : (lastTo xs v).length = xs.length := by unfold lastTo; rw [List.length_set]
theorem planF_cons (most : Int) (t : TD) (ts : List TD) (i : Nat) (sum : Int) (out : List (Int × Int)) : planF most (t :: ts) i sum out = if i = 0 ∨ sum + (t.nodes.length : Int) / 2 > most then planF most ts (i + 1) ((t.nodes.length : Int) / 2) (out ++ [(((i : Nat) : Int), ((i + 1 : Nat) : Int))]) else planF most ts (i + 1) (sum + (t.nodes.length : Int) / 2) (lastTo out ((i + 1 : Nat) : Int)) := rfl
theorem l28_Plan {most : Int} (hE : GoodE F w e f b t) (h0 : planE e most = 0) : ∀ (k i : Nat) (u : World) (a : OA) (n c g : Nat) (xs : List (Int × Int)) (sum : Int), i + k = t.n → n ≤ i → (0 < i → 0 < n) → 0 ≤ sum → sum ≤ i * 1048576 → ArrK 2 enR tRun' u a n c xs g → (g = 0 ∨ w.heap.size < g) → Kept w u →
    planF most e.trees 0 0 [] = planF most (e.trees.drop i) i sum xs → blocks_Plan.l28 (PlA w e most) (k + 1) most a n c sum t.a t.n t.c t.n i u := by
  intro k
  have htl := hE.ts.len
  have h65 : t.n ≤ 65536 := by
    have he : ensE e = 0 := Classical.byContradiction fun hn => by unfold planE at h0; rw [if_pos hn] at h0; exact hn h0
    have := (ensE_ok he).2.2.2.2.1
    omega
  induction k with
  | zero =>
    intro i u a n c g xs sum hi hni hn0 hs0 hs1 hx hg hk hp
    obtain rfl : i = t.n := by omega
    rw [blocks_Plan.u28]; unfold blocks_Plan.g28
    refine onDec_f (by omega) ?_
    refine ⟨a, n, c, by rw [h0], g, ?_, hg, hk⟩
    unfold planP
    rw [if_pos h0, hp, List.drop_eq_nil_of_le (by omega)]
    exact hx
  | succ k ih =>
    intro i u a n c g xs sum hi hni hn0 hs0 hs1 hx hg hk hp
    rw [blocks_Plan.u28]; unfold blocks_Plan.g28
    refine onDec_t (by omega) ?_
    refine rdTr (hE.ts.kept hk) (by omega) (by omega) fun x a' n' c' hx' hN => ?_
    rw [Int.toNat_natCast] at hx'
    refine boxS (zs := (cl43 0 none 0 0).toList) (vs := [.int .i64 x.output, .slice a' n' c']) rfl fun u1 hA _ hk1 => ?_
    refine ⟨_, _, _, hA 1 _ rfl, ?_⟩
    have hxg := hE.good x (List.mem_of_getElem? hx')
    have hnl := hN.len
    refine nv_div (by omega) (by omega) (by omega) ?_
    have hz := hk.size
    have hz1 := hk1.size
    have hgl := Row.le hx
    obtain ⟨hlt, hxe⟩ := List.getElem?_eq_some_iff.1 hx'
    rw [List.drop_eq_getElem_cons hlt, hxe] at hp
    rw [planF_cons, ← hnl] at hp
    have push : (i = 0 ∨ sum + (n' : Int) / 2 > most) → ∀ a2 c2 g2 v, ArrK 2 enR tRun' v a2 (n + 1) c2 (xs ++ [(((i : Nat) : Int), ((i + 1 : Nat) : Int))]) g2 → (g2 = g ∨ u1.heap.size < g2) → g2 ≠ 0 → (∀ B, (g = 0 ∨ B < g) → B ≤ u1.heap.size → From B u1 v) → blocks_Plan.l28 (PlA w e most) (k + 1) most a2 (n + 1) c2 ((n' : Int) / 2) t.a t.n t.c t.n ((i + 1 : Nat) : Int) v := fun hc a2 c2 g2 v hx2 hg2 hg0 hf => by
      rw [if_pos hc] at hp
      refine ih (i + 1) v a2 (n + 1) c2 g2 _ _ (by omega) (by omega) (by omega) (by omega) (by omega) hx2 (by omega) (From.kept (From.then (Kept.mod (S := fun k => w.heap.size ≤ k) (Kept.trans hk hk1)) (hf w.heap.size hg (by omega)) fun k _ hk => hk)) hp
    refine onEq (fun he => ?_) fun he => ?_
    · exact plan_push (hx.kept hk1) (by omega) (by omega) ⟨by omega, by omega⟩ (push (.inl (by omega)))
    · refine nv_i64 (by omega) (by omega) (onDec (fun hd => ?_) fun hd => ?_)
      · exact plan_push (hx.kept hk1) (by omega) (by omega) ⟨by omega, by omega⟩ (push (.inr hd))
      · rw [if_neg (by omega)] at hp
        have hn1 := hn0 (by omega)
        refine nv_i64 (by omega) (by omega) (nv_mk (y := ((n - 1 : Nat) : Int)) (by rw [i64_id (by omega) (by omega)]; omega) (nv_succ (by omega) ?_))
        refine plan_last (hx.kept hk1) (by omega) hn1 fun v hv ho => nv_succ (by omega) ?_
        refine ih (i + 1) v a n c g _ _ (by omega) (by omega) (by omega) (by omega) (by omega) hv hg (newRn_only (g1 := g) (Kept.trans hk hk1) hg ho) hp
theorem Plan_c {most : Int} (hE : GoodE F w e f b t) : E.CallsD Go.Proofs.Try.prog 9 #[vE e f b t, .int .i64 most] w (PlA w e most) := by
  refine blocks_Plan.calls (R := PlA w e most) ?_
  unfold blocks_Plan blocks_Plan.g0
  refine boxN (cs := (enE e f b t).toArray) fun w1 hA' hk1 => ?_
  have hA : AtL w1 (na w) (enE e f b t) := hA'
  refine ⟨_, hA 0 _ rfl, _, _, _, hA 1 _ rfl, _, hA 2 _ rfl, _, _, _, hA 3 _ rfl, _, _, _, hA 4 _ rfl, ?_⟩
  refine E.CallsD.mono (wrong_c (hE.kept hk1)) fun v w2 ⟨hv, hk2⟩ => ⟨_, hv, ?_⟩
  have k12 := Kept.trans hk1 hk2
  refine onNe (fun hne => ?_) fun h0 => ?_
  · have hp : planE e most = ensE e := by unfold planE; rw [if_pos hne]
    refine ⟨none, 0, 0, by rw [hp], ?_⟩
    unfold planP
    rw [if_neg (by omega)]
    exact NewRn.nil k12
  · refine onDec (fun hm => ?_) fun hm => ?_
    · have hp : planE e most = 2 := by unfold planE; rw [if_neg (by omega), if_pos hm]
      refine ⟨none, 0, 0, by rw [hp], ?_⟩
      unfold planP
      rw [if_neg (by omega)]
      exact NewRn.nil k12
    · have hp : planE e most = 0 := by unfold planE; rw [if_neg (by omega), if_neg hm]
      refine ⟨_, _, _, (hA.kept hk2) 4 _ rfl, ?_⟩
      exact Exists.intro (t.n + 1) (l28_Plan hE hp t.n 0 w2 none 0 0 0 [] 0 (by omega) (by omega) (by omega) (by omega) (by omega) (ArrK.nil _ _ _ _) (.inl rfl) k12 rfl)
end
end Go.Mir

set_option maxRecDepth 100000
namespace Go.Mir
open Go Go.E Go.RowKit Go.Tr Go.Ss Go.ChangeShapes
theorem BT.size_nl : ∀ T : BT, T.size + 1 = 2 * T.nl
  | .leaf _ => rfl
  | .node _ l r => by
    have h1 := BT.size_nl l
    have h2 := BT.size_nl r
    rw [BT.nl_node]
    simp only [BT.size]
    omega
noncomputable def inn (t : TD) : Int := ((thoseP t.nodes true).length : Int)
theorem inn_eq {t : TD} (h : (shapeP nanB t.nodes).1 = 0) : inn t = (t.nodes.length : Int) / 2 := by
  have h1 := thoseP_leaves h
  have h2 : (thoseP t.nodes true).length + (thoseP t.nodes false).length = t.nodes.length := by
    unfold thoseP
    rw [if_pos h, if_pos h, ← (treeP_spec h).length]
    unfold pick
    generalize (treeP t.nodes).pre = l
    induction l with
    | nil => rfl
    | cons x l ih =>
      rw [List.filter_cons, List.filter_cons]
      cases innerAt t.nodes x with
      | true =>
        rw [if_pos (by decide), if_neg (by decide), List.length_cons, List.length_cons]
        omega
      | false =>
        rw [if_neg (by decide), if_pos (by decide), List.length_cons, List.length_cons]
        omega
  have h3 : (thoseP t.nodes false).length = (treeP t.nodes).nl := by rw [h1]; rfl
  have h4 := BT.size_nl (treeP t.nodes)
  have h5 : (treeP t.nodes).size = t.nodes.length := by rw [← BT.pre_length, (treeP_spec h).length]
  unfold inn
  omega
noncomputable def sumI (ts : List TD) : Int := (ts.map inn).sum
theorem inn_pos (t : TD) : 0 ≤ inn t := by unfold inn; omega
theorem sumI_pos : ∀ ts : List TD, 0 ≤ sumI ts
  | [] => Int.le_refl _
  | t :: ts => by
    have := sumI_pos ts
    have := inn_pos t
    unfold sumI at *
    rw [List.map_cons, List.sum_cons]
    omega
theorem sumI_snoc (ts : List TD) (t : TD) : sumI (ts ++ [t]) = sumI ts + inn t := by
  unfold sumI
  rw [List.map_append, List.sum_append]
  simp
abbrev sliT (ts : List TD) (r : Int × Int) : List TD := (ts.take r.2.toNat).drop r.1.toNat
theorem sliT_snoc {ts : List TD} {s : Int} {i : Nat} {t : TD} (ht : ts[i]? = some t) (hs : 0 ≤ s) (hsi : s ≤ i) : sliT ts (s, ((i + 1 : Nat) : Int)) = sliT ts (s, ((i : Nat) : Int)) ++ [t] := by
  obtain ⟨hlt, _⟩ := List.getElem?_eq_some_iff.1 ht
  show (ts.take ((i + 1 : Nat) : Int).toNat).drop s.toNat = (ts.take ((i : Nat) : Int).toNat).drop s.toNat ++ [t]
  rw [Int.toNat_natCast, Int.toNat_natCast, List.take_add_one, ht]
  show (ts.take i ++ [t]).drop s.toNat = _
  rw [List.drop_append_of_le_length (by rw [List.length_take]; omega)]
def chainP : List (Int × Int) → Int → Int → Prop
  | [], a, b => a = b
  | r :: rs, a, b => r.1 = a ∧ r.1 < r.2 ∧ chainP rs r.2 b
theorem chainP_le : ∀ {rs : List (Int × Int)} {a b : Int}, chainP rs a b → a ≤ b
  | [], a, b, h => by have h' : a = b := h; omega
  | r :: rs, a, b, h => by have := chainP_le h.2.2; have := h.1; have := h.2.1; omega
theorem chainP_runs {n : Int} : ∀ {rs : List (Int × Int)} {a : Int}, chainP rs a n → runsP n rs a = true
  | [], a, h => by
    have h' : a = n := h
    unfold runsP
    simpa using h'
  | r :: rs, a, h => by
    have h1 := chainP_le h.2.2
    unfold runsP
    rw [chainP_runs h.2.2]
    have h2 := h.1
    have h3 := h.2.1
    simp only [Bool.and_eq_true, decide_eq_true_eq]
    exact ⟨⟨⟨h2, h3⟩, h1⟩, trivial⟩
theorem chainP_snoc {x : Int × Int} : ∀ {rs : List (Int × Int)} {a b : Int}, chainP (rs ++ [x]) a b ↔ chainP rs a x.1 ∧ x.1 < x.2 ∧ x.2 = b
  | [], a, b => by
    show (x.1 = a ∧ x.1 < x.2 ∧ x.2 = b) ↔ (a = x.1 ∧ x.1 < x.2 ∧ x.2 = b)
    constructor
    · rintro ⟨h1, h2, h3⟩; exact ⟨h1.symm, h2, h3⟩
    · rintro ⟨h1, h2, h3⟩; exact ⟨h1.symm, h2, h3⟩
  | r :: rs, a, b => by
    show (r.1 = a ∧ r.1 < r.2 ∧ chainP (rs ++ [x]) r.2 b) ↔ ((r.1 = a ∧ r.1 < r.2 ∧ chainP rs r.2 x.1) ∧ x.1 < x.2 ∧ x.2 = b)
    rw [chainP_snoc]
    constructor
    · rintro ⟨h1, h2, h3, h4, h5⟩; exact ⟨⟨h1, h2, h3⟩, h4, h5⟩
    · rintro ⟨⟨h1, h2, h3⟩, h4, h5⟩; exact ⟨h1, h2, h3, h4, h5⟩
structure PlOK (most : Int) (ts : List TD) (rs : List (Int × Int)) : Prop where
  one : ∀ (j : Nat) r, rs[j]? = some r → sumI (sliT ts r) ≤ most ∨ r.2 - r.1 ≤ 1
  two : ∀ (j : Nat) r r', rs[j + 1]? = some r → rs[j]? = some r' → sumI (sliT ts r') + inn (ts.getD r.1.toNat default) > most
theorem snoc_get {α : Type} {l : List α} {x y : α} {j : Nat} (h : (l ++ [x])[j]? = some y) : (l[j]? = some y ∧ j < l.length) ∨ (j = l.length ∧ y = x) := by
  by_cases hj : j < l.length
  · rw [List.getElem?_append_left hj] at h; exact .inl ⟨h, hj⟩
  · rw [List.getElem?_append_right (by omega)] at h
    rcases Nat.eq_zero_or_pos (j - l.length) with h0 | h0
    · rw [h0] at h
      exact .inr ⟨by omega, by simpa using h.symm⟩
    · obtain ⟨m, hm⟩ : ∃ m, j - l.length = m + 1 := ⟨j - l.length - 1, by omega⟩
      rw [hm] at h; simp at h
theorem planF_ok {most : Int} {ts : List TD} (hs : ∀ t ∈ ts, (shapeP nanB t.nodes).1 = 0) : ∀ (us : List TD) (i : Nat) (sum : Int) (out : List (Int × Int)), us = ts.drop i → i ≤ ts.length → chainP out 0 i → PlOK most ts out →
    (i = 0 ∧ out = [] ∨ ∃ pre s, out = pre ++ [(s, (i : Int))] ∧ 0 ≤ s ∧ sum = sumI (sliT ts (s, (i : Int)))) → chainP (planF most us i sum out) 0 ts.length ∧ PlOK most ts (planF most us i sum out)
  | [], i, sum, out, hu, hi, hc, hp, _ => by
    have : ts.length ≤ i := by
      have := congrArg List.length hu
      simp at this
      omega
    obtain rfl : i = ts.length := by omega
    exact ⟨hc, hp⟩
  | t :: us, i, sum, out, hu, hi, hc, hp, hl => by
    have hlt : i < ts.length := by
      have := congrArg List.length hu
      simp at this
      omega
    have ht : ts[i]? = some t := by
      have h := congrArg (fun l : List TD => l[0]?) hu
      simp at h
      exact h.symm
    have hu' : us = ts.drop (i + 1) := by
      rw [List.drop_eq_getElem_cons hlt] at hu
      exact (List.cons.inj hu).2
    have hn : (t.nodes.length : Int) / 2 = inn t := (inn_eq (hs t (List.mem_of_getElem? ht))).symm
    have hg : ts.getD ((i : Nat) : Int).toNat default = t := by rw [Int.toNat_natCast, List.getD_eq_getElem?_getD, ht]; rfl
    rw [planF_cons, hn]
    split
    · rename_i hcond
      refine planF_ok hs us (i + 1) (inn t) _ hu' hlt (chainP_snoc.2 ⟨hc, by show ((i : Nat) : Int) < ((i + 1 : Nat) : Int); omega, rfl⟩) ⟨fun j r hj => ?_, fun j r r' hj hj' => ?_⟩ (.inr ⟨out, ((i : Nat) : Int), rfl, by omega, ?_⟩)
      · rcases snoc_get hj with ⟨h, _⟩ | ⟨_, rfl⟩
        · exact hp.one j r h
        · refine .inr ?_
          show ((i + 1 : Nat) : Int) - ((i : Nat) : Int) ≤ 1
          omega
      · rcases snoc_get hj with ⟨h, h1⟩ | ⟨e, rfl⟩
        · rcases snoc_get hj' with ⟨h', _⟩ | ⟨e, _⟩
          · exact hp.two j r r' h h'
          · omega
        · rcases snoc_get hj' with ⟨h', _⟩ | ⟨e', _⟩
          · rcases hl with ⟨_, rfl⟩ | ⟨pre, s, rfl, h0, hsum⟩
            · simp at e
            · have hi0 : i ≠ 0 := by
                rintro rfl
                have := (chainP_snoc.1 hc).2.1
                have h2 : s < ((0 : Nat) : Int) := this
                omega
              have hgt : sum + inn t > most := by
                rcases hcond with h | h
                · exact absurd h hi0
                · exact h
              have hj2 : j = pre.length := by simp at e; omega
              rw [hj2] at h'
              obtain rfl : r' = (s, ((i : Nat) : Int)) := by simpa using h'.symm
              rw [← hsum]
              show sum + inn (ts.getD ((i : Nat) : Int).toNat default) > most
              rw [hg]
              exact hgt
          · omega
      · rw [sliT_snoc ht (by omega) (Int.le_refl _), sumI_snoc]
        have : sliT ts (((i : Nat) : Int), ((i : Nat) : Int)) = [] := by
          show (ts.take ((i : Nat) : Int).toNat).drop ((i : Nat) : Int).toNat = []
          rw [List.drop_eq_nil_of_le]
          rw [List.length_take]; omega
        rw [this]
        simp [sumI]
    · rename_i hcond
      rcases hl with ⟨rfl, _⟩ | ⟨pre, s, rfl, h0, hsum⟩
      · exact absurd (.inl rfl) hcond
      · obtain ⟨k1, k2, _⟩ := chainP_snoc.1 hc
        have hsi : s < ((i : Nat) : Int) := k2
        have hle : sum + inn t ≤ most := by omega
        have hnew : sumI (sliT ts (s, ((i + 1 : Nat) : Int))) = sum + inn t := by rw [sliT_snoc ht h0 (by omega), sumI_snoc, ← hsum]
        have hlast : lastTo (pre ++ [(s, ((i : Nat) : Int))]) ((i + 1 : Nat) : Int) = pre ++ [(s, ((i + 1 : Nat) : Int))] := by
          unfold lastTo
          rw [show (pre ++ [(s, ((i : Nat) : Int))]).length - 1 = pre.length by simp, List.set_append_right _ _ (Nat.le_refl _), Nat.sub_self, List.getD_eq_getElem?_getD, List.getElem?_append_right (Nat.le_refl _), Nat.sub_self]
          rfl
        rw [hlast]
        refine planF_ok hs us (i + 1) _ _ hu' hlt (chainP_snoc.2 ⟨k1, by show s < ((i + 1 : Nat) : Int); omega, rfl⟩) ⟨fun j r hj => ?_, fun j r r' hj hj' => ?_⟩ (.inr ⟨pre, s, rfl, h0, hnew.symm⟩)
        · rcases snoc_get hj with ⟨h, h1⟩ | ⟨_, rfl⟩
          · exact hp.one j r (by rw [List.getElem?_append_left h1]; exact h)
          · exact .inl (by rw [hnew]; exact hle)
        · rcases snoc_get hj' with ⟨h', h1'⟩ | ⟨e', rfl⟩
          · have hj'' : (pre ++ [(s, ((i : Nat) : Int))])[j]? = some r' := by rw [List.getElem?_append_left h1']; exact h'
            rcases snoc_get hj with ⟨h, h1⟩ | ⟨e, rfl⟩
            · exact hp.two j r r' (by rw [List.getElem?_append_left h1]; exact h) hj''
            · exact hp.two j (s, ((i : Nat) : Int)) r' (by rw [e]; simp) hj''
          · have := (List.getElem?_eq_some_iff.1 hj).1
            simp at this
            omega
theorem planP_ok {e : ED} {most : Int} (h : planE e most = 0) : ensE e = 0 ∧ ofE e (planP e most) = 0 ∧ chainP (planP e most) 0 e.trees.length ∧ PlOK most e.trees (planP e most) := by
  have he : ensE e = 0 := Classical.byContradiction fun hn => by unfold planE at h; rw [if_pos hn] at h; exact hn h
  have hk := planF_ok (most := most) (fun t ht => (lv_shape (ens_lv he t ht)).1) e.trees 0 0 [] rfl (Nat.zero_le _) rfl ⟨fun _ _ h => by simp at h, fun _ _ _ h => by simp at h⟩ (.inl ⟨rfl, rfl⟩)
  have hp : planP e most = planF most e.trees 0 0 [] := by unfold planP; rw [if_pos h]
  rw [hp]
  refine ⟨he, ?_, hk.1, hk.2⟩
  unfold ofE
  rw [if_neg (by omega), if_pos (chainP_runs hk.1)]
end Go.Mir

set_option maxRecDepth 100000
namespace Go.Mir
open Go Go.E Go.RowKit Go.Tr Go.Ss Go.ChangeShapes
section
variable {w w0 u w1 wB x : World} {a a0 a1 a4 : OA} {n c n0 c0 n1 c1 n4 c4 g m : Nat} {F F' S : Nat → Prop} {p q : Addr} {B : Nat} {R : VP} {f : FormD} {s t : SH}
theorem set_same {α : Type} {l : List α} {i : Nat} {x : α} (h : l[i]? = some x) : l.set i x = l := by
  obtain ⟨hlt, rfl⟩ := List.getElem?_eq_some_iff.1 h
  exact List.set_getElem_self hlt
end
end Go.Mir

set_option maxRecDepth 100000
namespace Go.Mir
open Go Go.E Go.RowKit Go.Tr Go.Ss Go.ChangeShapes
section
variable {w w0 u w1 wB x : World} {a a0 a1 a4 : OA} {n c n0 c0 n1 c1 n4 c4 g m : Nat} {F F' S : Nat → Prop} {p q : Addr} {B : Nat} {R : VP} {f : FormD} {s t : SH}
end
end Go.Mir

set_option maxRecDepth 100000
namespace Go.Mir
open Go Go.E Go.RowKit Go.Tr Go.Ss Go.ChangeShapes
section
variable {w w0 u w1 wB x : World} {a a0 a1 a4 : OA} {n c n0 c0 n1 c1 n4 c4 g m : Nat} {F F' S : Nat → Prop} {p q : Addr} {B : Nat} {R : VP} {f : FormD} {s t : SH}
end
end Go.Mir

set_option maxRecDepth 100000
namespace Go.Mir
open Go Go.E Go.RowKit Go.Tr Go.Ss Go.ChangeShapes
section
variable {w w0 u w1 wB x : World} {a a0 a1 a4 : OA} {n c n0 c0 n1 c1 n4 c4 g m : Nat} {F F' S : Nat → Prop} {p q : Addr} {B : Nat} {R : VP} {f : FormD} {s t : SH}
end
end Go.Mir

set_option maxRecDepth 100000
namespace Go.Mir
open Go Go.E Go.RowKit Go.Tr Go.Ss Go.ChangeShapes
section
variable {w w0 u w1 wB x : World} {a a0 a1 a4 : OA} {n c n0 c0 n1 c1 n4 c4 g m : Nat} {F F' S : Nat → Prop} {p q : Addr} {B : Nat} {R : VP} {f : FormD} {s t : SH}
end
end Go.Mir

set_option maxRecDepth 100000
namespace Go.Mir
open Go Go.E Go.RowKit Go.Tr Go.Ss Go.ChangeShapes
section
variable {w w0 u w1 wB x : World} {a a0 a1 a4 : OA} {n c n0 c0 n1 c1 n4 c4 g m : Nat} {F F' S : Nat → Prop} {p q : Addr} {B : Nat} {R : VP} {f : FormD} {s t : SH}
end
end Go.Mir
