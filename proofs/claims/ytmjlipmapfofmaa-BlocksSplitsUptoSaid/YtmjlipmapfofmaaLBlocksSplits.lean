/- Part of a proof of laws of the seat Ytmjlipmapfofmaa: functions' weakest preconditions, each checked by the kernel, contracts out of them, plain lemmas; no conditions. -/
import Derived.Laws.StructEq
import Derived.Test.YtmjlipmapfofmaaFF
import Derived.Test.YtmjlipmapfofmaaXLSplits
set_option linter.unusedVariables false
set_option linter.unusedSimpArgs false
set_option linter.unusedSectionVars false
set_option maxRecDepth 100000
namespace Go.Mir
open Go Go.E Go.RowKit Go.Tr Go.Ss Go.ChangeShapes
section
variable {w w0 u w1 wB x : World} {a a0 a1 a4 : OA} {n c n0 c0 n1 c1 n4 c4 g m d : Nat} {F F' S : Nat → Prop} {p q : Addr} {R : VP} {e : ED} {f b t : SH} {l : List (Int × Int)}
theorem part0 (a b : Int) (w : World) : (Go.part 3 #[.int .i64 a, .int .i64 b] 0).run Go.Proofs.Try.prog w = .ok (.int .i64 a) w := by kernel_rfl
theorem part1 (a b : Int) (w : World) : (Go.part 3 #[.int .i64 a, .int .i64 b] 1).run Go.Proofs.Try.prog w = .ok (.int .i64 b) w := by kernel_rfl
theorem flds (xs ys : Array Value) : Op.eqFields 9999 xs ys ((Go.Proofs.Try.prog).fieldsOf 41).toList = (do
      let a ← Go.part 3 xs 0
      let b ← Go.part 3 ys 0
      let r ← Op.equalIn 9999 3 a b
      if (!r) = true then pure false else do
      let a ← Go.part 3 xs 1
      let b ← Go.part 3 ys 1
      let r ← Op.equalIn 9999 3 a b
      if (!r) = true then pure false else pure true) := by kernel_rfl
theorem eqRun (a b c d : Int) (w : World) : (Op.equal 41 (.agg #[.int .i64 a, .int .i64 b]) (.agg #[.int .i64 c, .int .i64 d])).run Go.Proofs.Try.prog w = .ok (a == c && b == d) w := by
  unfold Op.equal
  rw [show Op.maxDepth = 9999 + 1 from rfl, run_equalIn_struct w 9999 41 _ _ (by kernel_rfl) (by kernel_rfl), flds]
  have e : ∀ a b : Int, (Op.equalIn 9999 3 (.int .i64 a) (.int .i64 b)).run Go.Proofs.Try.prog w = .ok (a == b) w := fun a b => run_equalIn_int w 9998 3 _ .i64 a b (by kernel_rfl)
  simp only [Sem.run_bind, part0, part1, Result.andThen_ok, e, Sem.run_ite, Sem.run_pure]
  cases a == c <;> cases b == d <;> rfl
theorem runs_loop {a b : OA} {R : Value → World → Prop} (h : SlK 2 enR w a n l) (h2 : SlK 2 enR w b n l) (hn : n ≤ 1099511627776) (hR : R (.bool true) w) :
    ∀ (k i : Nat), i + k = n → thicketlaw15_runs.l14 R (k + 1) a n c b n d n i w
  | 0, i, hi => by
    rw [thicketlaw15_runs.u14]; unfold thicketlaw15_runs.g14
    refine onDec_f (by omega) ?_
    exact hR
  | k + 1, i, hi => by
    rw [thicketlaw15_runs.u14]; unfold thicketlaw15_runs.g14
    refine onDec_t (by omega) ?_
    refine SlK.rd2 h (by omega) (by omega) fun r hr => SlK.rd2 h2 (by omega) (by omega) fun r2 hr2 => ⟨_, fun w => eqRun _ _ _ _ w, ?_⟩
    rw [hr] at hr2
    obtain rfl := Option.some.inj hr2
    rw [show (r.1 == r.1 && r.2 == r.2) = true from by simp]
    show onBool false _ _
    rw [onBool_f]
    refine nv_succ (by omega) ?_
    exact runs_loop h h2 hn hR k (i + 1) (by omega)
theorem runs_yes {a b : OA} (h : SlK 2 enR w a n l) (h2 : SlK 2 enR w b m l) (hn : n ≤ 1099511627776) : Pure Go.Proofs.Try.prog 12 #[.slice a n c, .slice b m d] w (.bool true) := by
  refine thicketlaw15_runs.calls (R := fun v' u => v' = _ ∧ Below w.heap.size w u) ?_
  unfold thicketlaw15_runs thicketlaw15_runs.g0
  have e1 := h.len
  have e2 := h2.len
  obtain rfl : n = m := by omega
  refine onNe_f (by omega) ?_
  exact ⟨n + 1, runs_loop h h2 hn ⟨rfl, Below.refl _ _⟩ n 0 (by omega)⟩
theorem NewRn.slk (h : NewRn w u a n c l) (hk : Kept u x) : SlK 2 enR x a n l := by
  obtain ⟨g, h1, _⟩ := h
  exact ArrK.slk2 (h1.kept hk)
theorem refSplit_c (x0 x1 : Int) : E.CallsD Go.Proofs.Try.prog 8 #[.int .i64 x0, .int .i64 x1] w fun v u => ∃ a n c, v = .tuple #[.slice a n c, .int .i64 (splitE x0 x1)] ∧ NewRn w u a n c (splitP x0 x1) := by
  refine thicketref15_Split.calls (R := fun v u => ∃ a n c, v = .tuple #[.slice a n c, .int .i64 (splitE x0 x1)] ∧ NewRn w u a n c (splitP x0 x1)) ?_
  unfold thicketref15_Split thicketref15_Split.g0
  have bad : splitE x0 x1 = 2 → ∃ a n c, Value.tuple #[.slice none 0 0, .int .i64 2] = .tuple #[.slice a n c, .int .i64 (splitE x0 x1)] ∧ NewRn w w a n c (splitP x0 x1) := fun h => by
    rw [h]
    refine ⟨none, 0, 0, rfl, ?_⟩
    unfold splitP
    rw [if_neg (by omega)]
    exact NewRn.nil (Kept.refl w)
  refine onDec (fun h1 => bad (by unfold splitE; rw [if_pos h1])) fun h1 => onDec (fun h2 => bad (by unfold splitE; rw [if_neg h1, if_pos h2])) fun h2 => onDec (fun h3 => bad (by unfold splitE; rw [if_neg h1, if_neg h2, if_pos h3])) fun h3 => onDec (fun h4 => bad (by unfold splitE; rw [if_neg h1, if_neg h2, if_neg h3, if_pos h4])) fun h4 => ?_
  have h0 : splitE x0 x1 = 0 := by unfold splitE; rw [if_neg h1, if_neg h2, if_neg h3, if_neg h4]
  rw [h0]
  have hP : splitP x0 x1 = splitF x0 x1 (x0.toNat + 1) 0 := by unfold splitP; rw [if_pos h0]
  rw [hP]
  refine ⟨x0.toNat + 1, ?_⟩
  have key : ∀ (k : Nat) (at_ : Int) (u : World) (a : OA) (n c g : Nat) (xs : List (Int × Int)), 0 ≤ at_ → x0 - at_ ≤ (k : Int) → (n : Int) ≤ at_ → at_ ≤ 131072 → ArrK 2 enR tRun' u a n c xs g → (g = 0 ∨ w.heap.size < g) → Kept w u → splitF x0 x1 (x0.toNat + 1) 0 = xs ++ splitF x0 x1 (k + 1) at_ →
      thicketref15_Split.l16 (fun v u => ∃ a n c, v = .tuple #[.slice a n c, .int .i64 0] ∧ NewRn w u a n c (splitF x0 x1 (x0.toNat + 1) 0)) (k + 1) x0 x1 a n c at_ u := by
    intro k
    induction k with
    | zero =>
      intro at_ u a n c g xs h0 hk hn hm hxs hg hkw he
      rw [thicketref15_Split.u16]; unfold thicketref15_Split.g16
      have hge : ¬ at_ < x0 := by omega
      refine onDec_f hge ⟨_, _, _, rfl, g, ?_, hg, hkw⟩
      rw [he, splitF, if_neg hge, List.append_nil]
      exact hxs
    | succ k ih =>
      intro at_ u a n c g xs h0 hk hn hm hxs hg hkw he
      rw [thicketref15_Split.u16]; unfold thicketref15_Split.g16
      have hsz := hkw.size
      refine onDec (fun hlt => ?_) fun hge => ?_
      · have next : ∀ to_, to_ = (if x0 < at_ + x1 then x0 else at_ + x1) → ∀ a' c' g' u2, ArrK 2 enR tRun' u2 a' (n + 1) c' (xs ++ [(at_, to_)]) g' → (g' = g ∨ u.heap.size < g') → Only g u u2 → thicketref15_Split.l16 (fun v u => ∃ a n c, v = .tuple #[.slice a n c, .int .i64 0] ∧ NewRn w u a n c (splitF x0 x1 (x0.toNat + 1) 0)) (k + 1) x0 x1 a' (n + 1) c' (at_ + x1) u2 := fun to_ hto a' c' g' u2 hx2 hg' ho => by
          refine ih (at_ + x1) u2 a' (n + 1) c' g' _ (by omega) (by omega) (by omega) (by omega) hx2 (by omega) (newRn_only (g1 := g) hkw hg ho) ?_
          rw [he, splitF, if_pos hlt, ← hto]; simp
        refine nv_i64 (by omega) (by omega) (onDec (fun hd => ?_) fun hd => ?_)
        · refine ArrK.pushL (P := Go.Proofs.Try.prog) (en := enR) (ys := [(at_, x0)]) (m := 1) S15r (fun _ => rfl) (by omega) hxs enR_one rfl rfl (by omega) (by simp only [maxLen]; omega) (by omega) fun a' c' g' u2 hx2 hg' _ ho => ⟨_, _, _, rfl, nv_i64 (by omega) (by omega) (next x0 (by rw [if_pos (by omega)]) a' c' g' u2 hx2 hg' ho)⟩
        · refine ArrK.pushL (P := Go.Proofs.Try.prog) (en := enR) (ys := [(at_, at_ + x1)]) (m := 1) S15r (fun _ => rfl) (by omega) hxs enR_one rfl rfl (by omega) (by simp only [maxLen]; omega) (by omega) fun a' c' g' u2 hx2 hg' _ ho => ⟨_, _, _, rfl, nv_i64 (by omega) (by omega) (next (at_ + x1) (by rw [if_neg (by omega)]) a' c' g' u2 hx2 hg' ho)⟩
      · refine ⟨_, _, _, rfl, g, ?_, hg, hkw⟩
        rw [he, splitF, if_neg hge, List.append_nil]
        exact hxs
  exact key x0.toNat 0 w none 0 0 0 [] (by omega) (by omega) (by omega) (by omega) (ArrK.nil _ _ _ _) (.inl rfl) (Kept.refl w) (by simp)
theorem splitP_len (x0 x1 : Int) : (splitP x0 x1).length ≤ 65537 := by
  unfold splitP
  split
  · rename_i h
    have := splitE_ok h
    have := splitF_len (n := x0) (b := x1) (by omega) (x0.toNat + 1) 0
    omega
  · exact Nat.zero_le _
theorem planF_len {most : Int} : ∀ (ts : List TD) (i : Nat) (sum : Int) (out : List (Int × Int)), (planF most ts i sum out).length ≤ out.length + ts.length
  | [], _, _, out => Nat.le_refl _
  | t :: ts, i, sum, out => by
    rw [planF_cons]
    split
    · have := planF_len (most := most) ts (i + 1) ((t.nodes.length : Int) / 2) (out ++ [(((i : Nat) : Int), ((i + 1 : Nat) : Int))])
      simp only [List.length_append, List.length_cons, List.length_nil] at this ⊢
      omega
    · have := planF_len (most := most) ts (i + 1) (sum + (t.nodes.length : Int) / 2) (lastTo out ((i + 1 : Nat) : Int))
      rw [lastTo_len] at this
      rw [List.length_cons]
      omega
theorem planP_len {e : ED} {most : Int} (h : e.trees.length ≤ 1048576) : (planP e most).length ≤ 1048576 := by
  unfold planP
  split
  · have := planF_len (most := most) e.trees 0 0 []
    simp only [List.length_nil] at this
    omega
  · exact Nat.zero_le _
theorem blocksSplits_law {k m : Int} (hE : GoodE F w e f b t) : Pure Go.Proofs.Try.prog 3 #[vE e f b t, .int .i64 k, .int .i64 m] w (.bool true) := by
  refine thicketlaw15_BlocksSplits.calls (R := fun v u => v = .bool true ∧ Below w.heap.size w u) ?_
  unfold thicketlaw15_BlocksSplits thicketlaw15_BlocksSplits.g0
  refine boxN (cs := (enE e f b t).toArray) fun w1 hA' hk1 => ?_
  have hA : AtL w1 (na w) (enE e f b t) := hA'
  have htl := hE.ts.len
  have htm := hE.tm
  refine E.CallsD.mono (Split_c k m) fun v w2 ⟨a2, n2, c2, hv, h2⟩ => ⟨_, _, _, _, hv, ?_⟩
  refine E.CallsD.mono (refSplit_c k m) fun v w3 ⟨a3, n3, c3, hv, h3⟩ => ⟨_, _, _, _, hv, ?_⟩
  have hk2 := h2.choose_spec.2.2
  have hk3 := h3.choose_spec.2.2
  have hA3 := hA.kept (Kept.trans hk2 hk3)
  have k13 := Kept.trans hk1 (Kept.trans hk2 hk3)
  refine ⟨_, hA3 0 _ rfl, _, _, _, hA3 1 _ rfl, _, hA3 2 _ rfl, _, _, _, hA3 3 _ rfl, _, _, _, hA3 4 _ rfl, ?_⟩
  refine E.CallsD.mono (Plan_c (most := m) (hE.kept k13)) fun v w4 ⟨a4, n4, c4, hv, h4⟩ => ⟨_, _, _, _, hv, ?_⟩
  have hk4 := h4.choose_spec.2.2
  have hA4 := hA3.kept hk4
  refine ⟨_, hA4 0 _ rfl, _, _, _, hA4 1 _ rfl, _, hA4 2 _ rfl, _, _, _, hA4 3 _ rfl, _, _, _, hA4 4 _ rfl, ?_⟩
  refine E.CallsD.mono (refPlan_c (most := m) (hE.kept (Kept.trans k13 hk4))) fun v w5 ⟨a5, n5, c5, hv, h5⟩ => ⟨_, _, _, _, hv, ?_⟩
  have hk5 := h5.choose_spec.2.2
  refine E.CallsD.mono lives_c fun v w6 ⟨hv, hk6⟩ => ⟨_, hv, ob_t ?_⟩
  have k36 := Kept.trans hk4 (Kept.trans hk5 hk6)
  have l2 := h2.len
  have l4 := h4.len
  have := splitP_len k m
  have := planP_len (e := e) (most := m) (by omega)
  refine E.CallsD.mono (runs_yes (l := splitP k m) (h2.slk (Kept.trans hk3 k36)) (h3.slk k36) (by omega)) fun v w7 ⟨hv, hk7⟩ => ⟨_, hv, ob_t (onEq_t rfl ?_)⟩
  refine E.CallsD.mono (runs_yes (l := planP e m) (h4.slk (Kept.trans hk5 (Kept.trans hk6 hk7))) (h5.slk (Kept.trans hk6 hk7)) (by omega)) fun v w8 ⟨hv, hk8⟩ => ⟨_, hv, ob_t ⟨?_, Kept.trans k13 (Kept.trans k36 (Kept.trans hk7 hk8))⟩⟩
  simp
end
end Go.Mir
