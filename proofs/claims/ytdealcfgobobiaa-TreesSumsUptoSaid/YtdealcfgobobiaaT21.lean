/- Part of a proof of laws of the seat Ytdealcfgobobiaa: functions' weakest preconditions, each checked by the kernel, contracts out of them, plain lemmas; no conditions. -/
import Derived.Test.YtdealcfgobobiaaTC
set_option linter.unusedVariables false
set_option linter.unusedSimpArgs false
set_option maxRecDepth 100000
namespace Go.Mir
open Go Go.E Go.RowKit Go.Tr
noncomputable def depthP (nodes : List ND) : Int := if (shapeP nanB nodes).1 = 0 then ((treeP nodes).depth : Int) else 0
theorem maxL_snoc (m : Nat) (l : List Nat) (x : Nat) : maxL m (l ++ [x]) = max (maxL m l) x := by rw [maxL_append]; rfl
section
variable {w w1 : World} {p : Addr} {o : Int} {a a1 : Option Addr} {n c n1 c1 : Nat} {F : Nat → Prop} {nodes : List ND} {xs : List Nat}
theorem Depth_c (hG : Good F w a n c nodes) : Pure Go.Proofs.Try.prog 29 #[vT o a n c] w (.tuple #[.int .i64 (depthP nodes), .int .i64 (shapeP nanB nodes).1]) := by
  refine trees_Depth.calls (R := fun v' u => v' = _ ∧ Below w.heap.size w u) ?_
  unfold trees_Depth trees_Depth.g0
  refine box2T fun w1 _ hT1 hk1 => ⟨_, hT1.c0, _, _, _, hT1.c1, ?_⟩
  have hG1 := hG.kept hk1
  refine E.CallsD.mono (Shape_c (o := o) hG1.max hG1.short hG1.ls hG1.old) fun v w2 ⟨hv, hk2⟩ => ⟨_, _, hv, ?_⟩
  have hk12 := Kept.trans hk1 hk2
  refine onNe (fun hne => ⟨by unfold depthP; rw [if_neg hne], hk12⟩) fun h0 => ?_
  have hTr := treeP_spec h0
  obtain ⟨T, hTe⟩ : ∃ T, treeP nodes = T := ⟨_, rfl⟩
  rw [hTe] at hTr
  refine box1 fun w3 hb3 _ hk3 => ?_
  refine hb3.wr (by simp) fun w4 hb4 ho4 => ?_
  have hk24 : Kept w2 w4 := From.kept (hk3.fr.only ho4 (.inr (by omega)))
  have hT4 := hT1.kept (Kept.trans hk2 hk24)
  refine ⟨_, hT4.c0, _, _, _, hT4.c1, ?_⟩
  refine E.CallsD.mono (all_c hT4) fun v w5 ⟨hv, hTit, hk5⟩ => ⟨_, rfl, ?_⟩
  subst hv
  have hk15 := Kept.trans hk12 (Kept.trans hk24 hk5)
  have hb45 := hb4.mod (Kept.mod (S := fun _ => False) hk5) (fun h => h)
  have hG5 := hG.kept hk15
  have s1 := hk1.size
  have s2 := hk2.size
  have s4 := hk24.size
  have s5 := hk5.size
  have l2 : w2.heap.size < w4.heap.size := hb4.lt
  have hn := hG.len
  have hm := hG.max
  obtain ⟨X, hX⟩ : ∃ X, intP (T.preD 0) = X := ⟨_, rfl⟩
  have hXl : X.length = (T.preD 0).length := by rw [← hX, intP_length]
  obtain ⟨J, hJ⟩ : ∃ J : Nat → Nat → World → Prop, J = fun k g u => Blk u w2.heap.size #[.int .i64 ((maxL 0 (((T.preD 0).take k).map (·.2)) : Nat) : Int)] 3 ∧ g = 0 ∧ Mod (fun b => b = w2.heap.size ∨ w5.heap.size ≤ b) w5 u := ⟨_, rfl⟩
  refine ⟨70, #[.pointer (some (na w4))], X, fun b => b = w2.heap.size, J, rfl, by kernel_rfl, fun b hb => by omega, ?_, ?_, ?_, ?_, ?_, ?_⟩
  · rw [← hX]
    refine all1_iter (o := o) (F := F) hG5 hTr hTit (fun b hb => by omega) ?_ (fun b hb h => ?_)
    · show ¬ (w4.heap.size = w2.heap.size); omega
    · have := hG.old b hb
      omega
  · intro k g u u' h hmod
    rw [hJ] at h ⊢
    obtain ⟨h1, h3, h4⟩ := h
    exact ⟨h1.mod hmod (fun h => by omega), h3, h4.trans hmod (fun _ _ h => h) (fun b _ h => .inr h.1)⟩
  · intro k g u h
    rw [hJ] at h
    obtain ⟨h1, h3, h4⟩ := h
    exact ⟨.inl h3, by omega, h4.size⟩
  · rw [hJ]
    exact ⟨hb45, rfl, Mod.refl _⟩
  · intro k g x u hx h
    rw [hJ] at h ⊢
    obtain ⟨h1, h3, h4⟩ := h
    rw [← hX] at hx
    unfold intP at hx
    rw [List.getElem?_map] at hx
    obtain ⟨y, hy, rfl⟩ := Option.map_eq_some_iff.1 hx
    have hts := take_snoc hy
    refine ⟨_, blk_one h1, nv_mk rfl ?_⟩
    refine h1.wr (by simp) fun u2 hu2 ho2 => ?_
    have h5 := h4.size
    refine ⟨0, ⟨?_, rfl, h4.trans ho2 (fun _ _ h => h) (fun b _ h => .inl (by omega))⟩, .inl h3.symm, ho2.weak fun b _ h => .inl (by omega)⟩
    rw [hts, List.map_append, List.map_cons, List.map_nil, maxL_snoc]
    have e : (if ((maxL 0 (((T.preD 0).take k).map (·.2)) : Nat) : Int) < (y.2 : Int) then (y.2 : Int) else ((maxL 0 (((T.preD 0).take k).map (·.2)) : Nat) : Int)) = ((max (maxL 0 (((T.preD 0).take k).map (·.2))) y.2 : Nat) : Int) := by split <;> omega
    rw [e] at hu2
    exact hu2
  · intro g D u h hD1 hD2 hDg hD
    rw [hJ] at h
    obtain ⟨h1, h3, h4⟩ := h
    refine ⟨_, blk_one h1, hD, nw_mk ⟨?_, ?_⟩⟩
    · unfold depthP
      rw [if_pos h0, hXl, List.take_length, BT.preD_max, hTe, h0]
      simp
    · exact keptAfter hk15 (h4.trans (Mod.put (S := fun b => b = D) u (.deferred none) rfl) (U := fun b => w.heap.size ≤ b) (fun b _ h => by omega) (fun b _ h => by omega)) (fun b h => h)

/-! ### the document's Depth -/
def leavesD : BT → Nat → List Nat
  | .leaf _, d => [d]
  | .node _ l r, d => leavesD l (d + 1) ++ leavesD r (d + 1)
theorem leavesD_max : ∀ (T : BT) (d m : Nat), maxL m (leavesD T d) = max m (d + T.depth)
  | .leaf _, d, m => by simp [leavesD, maxL, BT.depth]
  | .node _ l r, d, m => by
    simp only [leavesD, maxL_append, leavesD_max l, leavesD_max r, BT.depth]
    omega
theorem refdepth_loop {R : Value → World → Prop} {T : BT} {D : Nat} (hG : Good F w1 a n c nodes) (hTr : Tree nanB nodes T) (hT : At2 w1 p o a n c) {a2 : Option Addr} {c2 g2 : Nat}
    (hend : ∀ u, From w1.heap.size w1 u → R (.tuple #[.int .i64 D, .int .i64 0]) u) {a6 : Option Addr} {c6 g6 : Nat} (hg6 : w1.heap.size < g6) (hg26 : g2 ≠ g6) :
    ∀ (m : Nat) (Ts : List BD) (out : List Nat) (dl : List Int) (best : Nat) (w : World), sumD Ts ≤ m → T.pre = out ++ Ts.flatMap (fun U => U.1.pre) → (∀ U ∈ Ts, Is nodes U.1 ∧ dl[U.1.root]? = some (U.2 : Int) ∧ U.2 + U.1.size ≤ n + 1) → maxL best (Ts.flatMap fun U => leavesD U.1 U.2) = D →
      From w1.heap.size w1 w → Arr enI 3 w a2 n c2 (natL T.pre) g2 → Arr enI 3 w a6 n c6 dl g6 → thicketref07_Depth.l20 R (m + 1) (some p) a6 n c6 best a2 n c2 n out.length w := by
  have hn := hG.len
  have hmx := hG.max
  intro m
  induction m with
  | zero =>
    intro Ts out dl best w hm hpre hIs hD hw h2 h6
    have := len_le_sumD Ts
    obtain rfl : Ts = [] := List.eq_nil_of_length_eq_zero (by omega)
    unfold thicketref07_Depth.l20 thicketref07_Depth.g20
    simp only [List.flatMap_nil, List.append_nil, maxL] at hpre hD
    have hl : out.length = n := by rw [← hpre, hTr.length, hn]
    subst hD
    refine onDec_f (by omega) ?_
    exact hend w hw
  | succ m ih =>
    intro Ts out dl best w hm hpre hIs hD hw h2 h6
    unfold thicketref07_Depth.l20 thicketref07_Depth.g20
    cases Ts with
    | nil =>
      simp only [List.flatMap_nil, List.append_nil, maxL] at hpre hD
      have hl : out.length = n := by rw [← hpre, hTr.length, hn]
      subst hD
      refine onDec_f (by omega) ?_
      exact hend w hw
    | cons U Ts =>
      obtain ⟨U, d⟩ := U
      obtain ⟨hIU, hdU, hUs⟩ := hIs (U, d) (by simp)
      simp only at hIU hdU hUs
      have hroot := hIU.root_lt
      have hnext : T.pre[out.length]? = some U.root := by
        rw [hpre, List.getElem?_append_right (Nat.le_refl _), Nat.sub_self]
        cases U <;> simp [BT.pre, BT.root]
      have hlt : out.length < n := by rw [hn, ← hTr.length]; exact (List.getElem?_eq_some_iff.1 hnext).1
      have hnd := hTr.nodup
      rw [hpre] at hnd
      refine onDec_t (by omega) ?_
      refine h2.sl.rdI (k := .i64) (by omega) (by omega) fun y hy => ?_
      rw [Int.toNat_natCast, natL_get hnext] at hy
      obtain rfl : y = (U.root : Int) := by simpa using hy.symm
      refine optN_mk ⟨_, _, _, (hT.from hw).c1, ?_⟩
      refine (hG.from hw).ls.rdN (by omega) (by omega) fun x a5 n5 c5 hx _ => ?_
      rw [Int.toNat_natCast] at hx
      refine box8z fun u2 _ hb hk => ⟨_, hb.c0, ?_⟩
      have hu2 := hw.keptThen hk
      have h62 := h6.kept hk
      have hrd : ∀ {K : Int → Prop}, K (d : Int) → optN a6 fun q => chk ((0 : Int) ≤ (U.root : Int) ∧ (U.root : Int) < (n : Int)) (∃ y : Int, u2.cell? (q.add ((U.root : Int).toNat * 1)) = some (.int .i64 y) ∧ K y) := fun {K} hK => by
        refine h62.sl.rdI (k := .i64) (by omega) (by omega) fun z hz => ?_
        rw [Int.toNat_natCast, hdU] at hz
        have hz' : (d : Int) = z := by simpa using hz
        rwa [← hz']
      cases U with
      | leaf i =>
        obtain ⟨y, hy, hyi⟩ := hIU
        have : x = y := by have hx' : nodes[i]? = some x := hx; rw [hy] at hx'; simpa using hx'.symm
        subst this
        refine onNe_f (Classical.byContradiction fun h => by have := (kd_of hTr hy).1 h; rw [hyi] at this; cases this) ?_
        have hD' : maxL (max best d) (Ts.flatMap fun U => leavesD U.1 U.2) = D := by
          rw [← hD, List.flatMap_cons]; rfl
        have hpre' : T.pre = (out ++ [i]) ++ Ts.flatMap (fun U => U.1.pre) := by rw [hpre]; simp [BT.pre]
        have hol : (out ++ [i]).length = out.length + 1 := by simp
        have hgo := ih Ts (out ++ [i]) dl (max best d) u2 (by rw [sumD_cons] at hm; simp only [BT.size] at hm; omega) hpre' (fun V hV => hIs V (by simp [hV])) hD' hu2 (h2.kept hk) h62
        rw [hol] at hgo
        refine hrd ((onBool_iff _ _ _).2 ⟨fun hb => hrd ?_, fun hb => ?_⟩)
        · have hb' := of_decide_eq_true hb
          refine nv_succ (by omega) ?_
          rw [show max best d = d by omega] at hgo
          exact hgo
        · have hb' := of_decide_eq_false hb
          refine nv_succ (by omega) ?_
          rw [show max best d = best by omega] at hgo
          exact hgo
      | node i l r =>
        obtain ⟨y, hy, hyi, hl, hr, hIl, hIr⟩ := hIU
        have : x = y := by have hx' : nodes[i]? = some x := hx; rw [hy] at hx'; simpa using hx'.symm
        subst this
        refine onNe ?_ fun h => absurd h ((kd_of hTr hy).2 hyi)
        intro _
        have hll := hIl.root_lt
        have hrl := hIr.root_lt
        have hdl := h6.len
        rw [List.flatMap_cons] at hnd
        simp only [BT.pre, List.nodup_append, List.nodup_cons, List.mem_append, List.mem_cons, List.mem_flatMap, not_or] at hnd
        obtain ⟨_, ⟨⟨hi1, hlr1, hlr2, hlr⟩, hrest, hap⟩, _⟩ := hnd
        have il : i ≠ l.root := fun e => hi1.1 (by rw [e]; exact l.root_mem)
        have ir : i ≠ r.root := fun e => hi1.2 (by rw [e]; exact r.root_mem)
        have lr : l.root ≠ r.root := hlr _ l.root_mem _ r.root_mem
        have lV : ∀ V ∈ Ts, V.1.root ≠ l.root ∧ V.1.root ≠ r.root := fun V hV => ⟨fun e => hap l.root (.inr (.inl l.root_mem)) _ ⟨V, hV, V.1.root_mem⟩ e.symm, fun e => hap r.root (.inr (.inr r.root_mem)) _ ⟨V, hV, V.1.root_mem⟩ e.symm⟩
        have z1 := l.size_pos
        have z2 := r.size_pos
        simp only [BT.size] at hm hUs
        refine ⟨_, hb.c6, hrd ?_⟩
        refine nv_i64 (by omega) (by omega) ?_
        rw [hl]
        refine h62.wr (by omega) (by omega) (x := (d : Int) + 1) rfl fun u3 h63 ho3 => ?_
        have hu3 := hu2.only ho3 (.inr hg6)
        have hb3 := hb.mod ho3 (fun h => by
          have h1 : w.heap.size + 1 = g6 := h
          have h2 := h6.le
          omega)
        refine ⟨_, hb3.c7, ?_⟩
        rw [Int.toNat_natCast] at h63
        refine h63.sl.rdI (k := .i64) (by omega) (by omega) fun z hz => ?_
        obtain rfl : z = (d : Int) := by
          have hz' : (dl.set l.root ((d : Int) + 1))[i]? = some z := hz
          have hdU' : dl[i]? = some (d : Int) := hdU
          rw [List.getElem?_set_ne (fun e => il e.symm), hdU'] at hz'
          simpa using hz'.symm
        refine nv_i64 (by omega) (by omega) ?_
        rw [hr]
        refine h63.wr (by omega) (by omega) (x := (d : Int) + 1) rfl fun u4 h64 ho4 => ?_
        have hu4 := hu3.only ho4 (.inr hg6)
        rw [Int.toNat_natCast] at h64
        refine nv_succ (by omega) ?_
        have hol : (out ++ [i]).length = out.length + 1 := by simp
        have hgo := ih ((l, d + 1) :: (r, d + 1) :: Ts) (out ++ [i]) _ best u4 (by rw [sumD_cons] at hm; simp only [BT.size] at hm; rw [sumD_cons, sumD_cons]; simp only; omega) (by rw [hpre]; simp [BT.pre]) (fun V hV => ?_) (by rw [← hD]; simp [leavesD]) hu4 ((((h2.kept hk).mod ho3 fun k h1 h2 => by omega)).mod ho4 fun k h1 h2 => by omega) h64
        · rw [hol] at hgo
          exact hgo
        · simp only [List.mem_cons] at hV
          rcases hV with h | h | h
          · subst h
            refine ⟨hIl, ?_, by simp only; omega⟩
            simp only
            rw [List.getElem?_set_ne lr.symm, List.getElem?_set_self (by omega)]
            rfl
          · subst h
            refine ⟨hIr, ?_, by simp only; omega⟩
            simp only
            rw [List.getElem?_set_self (by rw [List.length_set]; omega)]
            rfl
          · obtain ⟨g1, g2, g3⟩ := hIs V (by simp [h])
            obtain ⟨v1, v2⟩ := lV V h
            refine ⟨g1, ?_, g3⟩
            rw [List.getElem?_set_ne (fun e => v2 e.symm), List.getElem?_set_ne (fun e => v1 e.symm)]
            exact g2
theorem refDepth_c (hG : Good F w a n c nodes) : Pure Go.Proofs.Try.prog 32 #[vT o a n c] w (.tuple #[.int .i64 (depthP nodes), .int .i64 (shapeP nanB nodes).1]) := by
  refine thicketref07_Depth.calls (R := fun v' u => v' = _ ∧ Below w.heap.size w u) ?_
  unfold thicketref07_Depth thicketref07_Depth.g0
  refine box2T fun w1 _ hT1 hk1 => ⟨_, hT1.c0, _, _, _, hT1.c1, ?_⟩
  have hG1 := hG.kept hk1
  have hn := hG.len
  have hmx := hG.max
  refine E.CallsD.mono (refShape_c (o := o) hG1.max hG1.short hG1.ls hG1.old) fun v w2 ⟨hv, hk2⟩ => ⟨_, _, hv, ?_⟩
  have hk12 := Kept.trans hk1 hk2
  refine onNe (fun hne => ⟨by unfold depthP; rw [if_neg hne], hk12⟩) fun h0 => ?_
  have hTr := treeP_spec h0
  have hT2 := hT1.kept hk2
  refine ⟨_, _, _, hT2.c1, ?_⟩
  refine Arr.make (en := enI) (x := 0) rfl (by omega) (by omega) (by omega) fun w3 h3 hk3 => ?_
  have hT3 := hT2.kept hk3
  refine ⟨_, hT3.c0, _, _, _, hT3.c1, ?_⟩
  have hk13 := Kept.trans hk12 hk3
  refine E.CallsD.mono (Order_c (o := o) (hG.kept hk13) hTr) fun v w4 ⟨a4, c4, hv, ⟨g4, h4, hg4, hk4⟩⟩ => ⟨_, _, _, hv, ?_⟩
  have e1 : ((n : Int)).toNat = n := by omega
  rw [e1] at h3 ⊢
  have hk24 := Kept.trans hk3 hk4
  have hsz : (treeP nodes).size = n := by rw [← BT.pre_length, hTr.length, hn]
  have z3 := h3.le
  exact ⟨_, refdepth_loop (w1 := w2) (p := na w) (o := o) (F := F) (T := treeP nodes) (D := (treeP nodes).depth) (R := fun v' u => v' = _ ∧ Below w.heap.size w u) (hG.kept hk12) hTr hT2 (fun u hu => ⟨by unfold depthP; rw [if_pos h0, h0], Kept.trans hk12 (From.kept hu)⟩) (g6 := w2.heap.size + 1) (by omega) (by omega) (sumD [(treeP nodes, 0)]) [(treeP nodes, 0)] [] (List.replicate n 0) 0 w4 (Nat.le_refl _) (by simp) (fun U hU => by
    simp only [List.mem_singleton] at hU
    subst hU
    refine ⟨hTr.is, ?_, by simp only; omega⟩
    simp only
    rw [hTr.root, List.getElem?_replicate, if_pos (by have := hTr.right.pos; omega)]
    rfl) (by simp [leavesD_max]) hk24.fr h4 (h3.kept hk4)⟩
end
end Go.Mir
