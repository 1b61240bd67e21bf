/- Part of a proof of laws of the seat Ytdealcfgobobiaa: functions' weakest preconditions, each checked by the kernel, contracts out of them, plain lemmas; no conditions. -/
import Derived.Test.YtdealcfgobobiaaTC
import Derived.Test.YtdealcfgobobiaaTPA
set_option linter.unusedVariables false
set_option linter.unusedSimpArgs false
set_option maxRecDepth 100000
namespace Go.Mir
open Go Go.E Go.RowKit Go.Tr
noncomputable def depthP (nodes : List ND) : Int := if (shapeP nanB nodes).1 = 0 then ((treeP nodes).depth : Int) else 0
theorem maxL_snoc (m : Nat) (l : List Nat) (x : Nat) : maxL m (l ++ [x]) = max (maxL m l) x := by rw [maxL_append]; rfl
section
variable {w w1 : World} {p : Addr} {o : Int} {a a1 : Option Addr} {n c n1 c1 : Nat} {F : Nat → Prop} {nodes : List ND} {xs : List Nat}
theorem Depth_c (hG : Good F w a n c nodes) : Pure Go.Proofs.Try.prog 29 #[vT o a n c] w (.tuple #[.int .i64 (depthP nodes), .int .i64 (shapeP nanB nodes).1]) := by
  refine trees_Depth.calls (R := fun v' u => v' = _ ∧ Below w.heap.size w u) ?_
  unfold trees_Depth trees_Depth.g0
  refine box2T fun w1 _ hT1 hk1 => ⟨_, hT1.c0, _, _, _, hT1.c1, ?_⟩
  have hG1 := hG.kept hk1
  refine E.CallsD.mono (Shape_c (o := o) hG1.max hG1.short hG1.ls hG1.old) fun v w2 ⟨hv, hk2⟩ => ⟨_, _, hv, ?_⟩
  have hk12 := Kept.trans hk1 hk2
  refine onNe (fun hne => ⟨by unfold depthP; rw [if_neg hne], hk12⟩) fun h0 => ?_
  have hTr := treeP_spec h0
  obtain ⟨T, hTe⟩ : ∃ T, treeP nodes = T := ⟨_, rfl⟩
  rw [hTe] at hTr
  refine box1 fun w3 hb3 _ hk3 => ?_
  refine hb3.wr (by simp) fun w4 hb4 ho4 => ?_
  have hk24 : Kept w2 w4 := From.kept (hk3.fr.only ho4 (.inr (by omega)))
  have hT4 := hT1.kept (Kept.trans hk2 hk24)
  refine ⟨_, hT4.c0, _, _, _, hT4.c1, ?_⟩
  refine E.CallsD.mono (all_c hT4) fun v w5 ⟨hv, hTit, hk5⟩ => ⟨_, rfl, ?_⟩
  subst hv
  have hk15 := Kept.trans hk12 (Kept.trans hk24 hk5)
  have hb45 := hb4.mod (Kept.mod (S := fun _ => False) hk5) (fun h => h)
  have hG5 := hG.kept hk15
  have s1 := hk1.size
  have s2 := hk2.size
  have s4 := hk24.size
  have s5 := hk5.size
  have l2 : w2.heap.size < w4.heap.size := hb4.lt
  have hn := hG.len
  have hm := hG.max
  obtain ⟨X, hX⟩ : ∃ X, intP (T.preD 0) = X := ⟨_, rfl⟩
  have hXl : X.length = (T.preD 0).length := by rw [← hX, intP_length]
  obtain ⟨J, hJ⟩ : ∃ J : Nat → Nat → World → Prop, J = fun k g u => Blk u w2.heap.size #[.int .i64 ((maxL 0 (((T.preD 0).take k).map (·.2)) : Nat) : Int)] 3 ∧ g = 0 ∧ Mod (fun b => b = w2.heap.size ∨ w5.heap.size ≤ b) w5 u := ⟨_, rfl⟩
  refine ⟨70, #[.pointer (some (na w4))], X, fun b => b = w2.heap.size, J, rfl, by kernel_rfl, fun b hb => by omega, ?_, ?_, ?_, ?_, ?_, ?_⟩
  · rw [← hX]
    refine all1_iter (o := o) (F := F) hG5 hTr hTit (fun b hb => by omega) ?_ (fun b hb h => ?_)
    · show ¬ (w4.heap.size = w2.heap.size); omega
    · have := hG.old b hb
      omega
  · intro k g u u' h hmod
    rw [hJ] at h ⊢
    obtain ⟨h1, h3, h4⟩ := h
    exact ⟨h1.mod hmod (fun h => by omega), h3, h4.trans hmod (fun _ _ h => h) (fun b _ h => .inr h.1)⟩
  · intro k g u h
    rw [hJ] at h
    obtain ⟨h1, h3, h4⟩ := h
    exact ⟨.inl h3, by omega, h4.size⟩
  · rw [hJ]
    exact ⟨hb45, rfl, Mod.refl _⟩
  · intro k g x u hx h
    rw [hJ] at h ⊢
    obtain ⟨h1, h3, h4⟩ := h
    rw [← hX] at hx
    unfold intP at hx
    rw [List.getElem?_map] at hx
    obtain ⟨y, hy, rfl⟩ := Option.map_eq_some_iff.1 hx
    have hts := take_snoc hy
    refine ⟨_, blk_one h1, nv_mk rfl ?_⟩
    refine h1.wr (by simp) fun u2 hu2 ho2 => ?_
    have h5 := h4.size
    refine ⟨0, ⟨?_, rfl, h4.trans ho2 (fun _ _ h => h) (fun b _ h => .inl (by omega))⟩, .inl h3.symm, ho2.weak fun b _ h => .inl (by omega)⟩
    rw [hts, List.map_append, List.map_cons, List.map_nil, maxL_snoc]
    have e : (if ((maxL 0 (((T.preD 0).take k).map (·.2)) : Nat) : Int) < (y.2 : Int) then (y.2 : Int) else ((maxL 0 (((T.preD 0).take k).map (·.2)) : Nat) : Int)) = ((max (maxL 0 (((T.preD 0).take k).map (·.2))) y.2 : Nat) : Int) := by split <;> omega
    rw [e] at hu2
    exact hu2
  · intro g D u h hD1 hD2 hDg hD
    rw [hJ] at h
    obtain ⟨h1, h3, h4⟩ := h
    refine ⟨_, blk_one h1, hD, nw_mk ⟨?_, ?_⟩⟩
    · unfold depthP
      rw [if_pos h0, hXl, List.take_length, BT.preD_max, hTe, h0]
      simp
    · exact keptAfter hk15 (h4.trans (Mod.put (S := fun b => b = D) u (.deferred none) rfl) (U := fun b => w.heap.size ≤ b) (fun b _ h => by omega) (fun b _ h => by omega)) (fun b h => h)

/-! ### the document's Depth -/
def leavesD : BT → Nat → List Nat
  | .leaf _, d => [d]
  | .node _ l r, d => leavesD l (d + 1) ++ leavesD r (d + 1)
theorem leavesD_max : ∀ (T : BT) (d m : Nat), maxL m (leavesD T d) = max m (d + T.depth)
  | .leaf _, d, m => by simp [leavesD, maxL, BT.depth]
  | .node _ l r, d, m => by
    simp only [leavesD, maxL_append, leavesD_max l, leavesD_max r, BT.depth]
    omega
theorem refdepth_loop {R : Value → World → Prop} {T : BT} {D : Nat} (hG : Good F w1 a n c nodes) (hTr : Tree nanB nodes T) (hT : At2 w1 p o a n c) {a2 : Option Addr} {c2 g2 : Nat}
    (hend : ∀ u, From w1.heap.size w1 u → R (.tuple #[.int .i64 D, .int .i64 0]) u) {a6 : Option Addr} {c6 g6 : Nat} (hg6 : w1.heap.size < g6) (hg26 : g2 ≠ g6) :
    ∀ (m : Nat) (Ts : List BD) (out : List Nat) (dl : List Int) (best : Nat) (w : World), sumD Ts ≤ m → T.pre = out ++ Ts.flatMap (fun U => U.1.pre) → (∀ U ∈ Ts, Is nodes U.1 ∧ dl[U.1.root]? = some (U.2 : Int) ∧ U.2 + U.1.size ≤ n + 1) → maxL best (Ts.flatMap fun U => leavesD U.1 U.2) = D →
      From w1.heap.size w1 w → Arr enI 3 w a2 n c2 (natL T.pre) g2 → Arr enI 3 w a6 n c6 dl g6 → thicketref07_Depth.l20 R (m + 1) (some p) a6 n c6 best a2 n c2 n out.length w := by
  have hn := hG.len
  have hmx := hG.max
  intro m
  induction m with
  | zero =>
    intro Ts out dl best w hm hpre hIs hD hw h2 h6
    have := len_le_sumD Ts
    obtain rfl : Ts = [] := List.eq_nil_of_length_eq_zero (by omega)
    unfold thicketref07_Depth.l20 thicketref07_Depth.g20
    simp only [List.flatMap_nil, List.append_nil, maxL] at hpre hD
    have hl : out.length = n := by rw [← hpre, hTr.length, hn]
    subst hD
    refine onDec_f (by omega) ?_
    exact hend w hw
  | succ m ih =>
    intro Ts out dl best w hm hpre hIs hD hw h2 h6
    unfold thicketref07_Depth.l20 thicketref07_Depth.g20
    cases Ts with
    | nil =>
      simp only [List.flatMap_nil, List.append_nil, maxL] at hpre hD
      have hl : out.length = n := by rw [← hpre, hTr.length, hn]
      subst hD
      refine onDec_f (by omega) ?_
      exact hend w hw
    | cons U Ts =>
      obtain ⟨U, d⟩ := U
      obtain ⟨hIU, hdU, hUs⟩ := hIs (U, d) (by simp)
      simp only at hIU hdU hUs
      have hroot := hIU.root_lt
      have hnext : T.pre[out.length]? = some U.root := by
        rw [hpre, List.getElem?_append_right (Nat.le_refl _), Nat.sub_self]
        cases U <;> simp [BT.pre, BT.root]
      have hlt : out.length < n := by rw [hn, ← hTr.length]; exact (List.getElem?_eq_some_iff.1 hnext).1
      have hnd := hTr.nodup
      rw [hpre] at hnd
      refine onDec_t (by omega) ?_
      refine h2.sl.rdI (k := .i64) (by omega) (by omega) fun y hy => ?_
      rw [Int.toNat_natCast, natL_get hnext] at hy
      obtain rfl : y = (U.root : Int) := by simpa using hy.symm
      refine optN_mk ⟨_, _, _, (hT.from hw).c1, ?_⟩
      refine (hG.from hw).ls.rdN (by omega) (by omega) fun x a5 n5 c5 hx _ => ?_
      rw [Int.toNat_natCast] at hx
      refine box8z fun u2 _ hb hk => ⟨_, hb.c0, ?_⟩
      have hu2 := hw.keptThen hk
      have h62 := h6.kept hk
      have hrd : ∀ {K : Int → Prop}, K (d : Int) → optN a6 fun q => chk ((0 : Int) ≤ (U.root : Int) ∧ (U.root : Int) < (n : Int)) (∃ y : Int, u2.cell? (q.add ((U.root : Int).toNat * 1)) = some (.int .i64 y) ∧ K y) := fun {K} hK => by
        refine h62.sl.rdI (k := .i64) (by omega) (by omega) fun z hz => ?_
        rw [Int.toNat_natCast, hdU] at hz
        have hz' : (d : Int) = z := by simpa using hz
        rwa [← hz']
      cases U with
      | leaf i =>
        obtain ⟨y, hy, hyi⟩ := hIU
        have : x = y := by have hx' : nodes[i]? = some x := hx; rw [hy] at hx'; simpa using hx'.symm
        subst this
        refine onNe_f (Classical.byContradiction fun h => by have := (kd_of hTr hy).1 h; rw [hyi] at this; cases this) ?_
        have hD' : maxL (max best d) (Ts.flatMap fun U => leavesD U.1 U.2) = D := by
          rw [← hD, List.flatMap_cons]; rfl
        have hpre' : T.pre = (out ++ [i]) ++ Ts.flatMap (fun U => U.1.pre) := by rw [hpre]; simp [BT.pre]
        have hol : (out ++ [i]).length = out.length + 1 := by simp
        have hgo := ih Ts (out ++ [i]) dl (max best d) u2 (by rw [sumD_cons] at hm; simp only [BT.size] at hm; omega) hpre' (fun V hV => hIs V (by simp [hV])) hD' hu2 (h2.kept hk) h62
        rw [hol] at hgo
        refine hrd ((onBool_iff _ _ _).2 ⟨fun hb => hrd ?_, fun hb => ?_⟩)
        · have hb' := of_decide_eq_true hb
          refine nv_succ (by omega) ?_
          rw [show max best d = d by omega] at hgo
          exact hgo
        · have hb' := of_decide_eq_false hb
          refine nv_succ (by omega) ?_
          rw [show max best d = best by omega] at hgo
          exact hgo
      | node i l r =>
        obtain ⟨y, hy, hyi, hl, hr, hIl, hIr⟩ := hIU
        have : x = y := by have hx' : nodes[i]? = some x := hx; rw [hy] at hx'; simpa using hx'.symm
        subst this
        refine onNe ?_ fun h => absurd h ((kd_of hTr hy).2 hyi)
        intro _
        have hll := hIl.root_lt
        have hrl := hIr.root_lt
        have hdl := h6.len
        rw [List.flatMap_cons] at hnd
        simp only [BT.pre, List.nodup_append, List.nodup_cons, List.mem_append, List.mem_cons, List.mem_flatMap, not_or] at hnd
        obtain ⟨_, ⟨⟨hi1, hlr1, hlr2, hlr⟩, hrest, hap⟩, _⟩ := hnd
        have il : i ≠ l.root := fun e => hi1.1 (by rw [e]; exact l.root_mem)
        have ir : i ≠ r.root := fun e => hi1.2 (by rw [e]; exact r.root_mem)
        have lr : l.root ≠ r.root := hlr _ l.root_mem _ r.root_mem
        have lV : ∀ V ∈ Ts, V.1.root ≠ l.root ∧ V.1.root ≠ r.root := fun V hV => ⟨fun e => hap l.root (.inr (.inl l.root_mem)) _ ⟨V, hV, V.1.root_mem⟩ e.symm, fun e => hap r.root (.inr (.inr r.root_mem)) _ ⟨V, hV, V.1.root_mem⟩ e.symm⟩
        have z1 := l.size_pos
        have z2 := r.size_pos
        simp only [BT.size] at hm hUs
        refine ⟨_, hb.c6, hrd ?_⟩
        refine nv_i64 (by omega) (by omega) ?_
        rw [hl]
        refine h62.wr (by omega) (by omega) (x := (d : Int) + 1) rfl fun u3 h63 ho3 => ?_
        have hu3 := hu2.only ho3 (.inr hg6)
        have hb3 := hb.mod ho3 (fun h => by
          have h1 : w.heap.size + 1 = g6 := h
          have h2 := h6.le
          omega)
        refine ⟨_, hb3.c7, ?_⟩
        rw [Int.toNat_natCast] at h63
        refine h63.sl.rdI (k := .i64) (by omega) (by omega) fun z hz => ?_
        obtain rfl : z = (d : Int) := by
          have hz' : (dl.set l.root ((d : Int) + 1))[i]? = some z := hz
          have hdU' : dl[i]? = some (d : Int) := hdU
          rw [List.getElem?_set_ne (fun e => il e.symm), hdU'] at hz'
          simpa using hz'.symm
        refine nv_i64 (by omega) (by omega) ?_
        rw [hr]
        refine h63.wr (by omega) (by omega) (x := (d : Int) + 1) rfl fun u4 h64 ho4 => ?_
        have hu4 := hu3.only ho4 (.inr hg6)
        rw [Int.toNat_natCast] at h64
        refine nv_succ (by omega) ?_
        have hol : (out ++ [i]).length = out.length + 1 := by simp
        have hgo := ih ((l, d + 1) :: (r, d + 1) :: Ts) (out ++ [i]) _ best u4 (by rw [sumD_cons] at hm; simp only [BT.size] at hm; rw [sumD_cons, sumD_cons]; simp only; omega) (by rw [hpre]; simp [BT.pre]) (fun V hV => ?_) (by rw [← hD]; simp [leavesD]) hu4 ((((h2.kept hk).mod ho3 fun k h1 h2 => by omega)).mod ho4 fun k h1 h2 => by omega) h64
        · rw [hol] at hgo
          exact hgo
        · simp only [List.mem_cons] at hV
          rcases hV with h | h | h
          · subst h
            refine ⟨hIl, ?_, by simp only; omega⟩
            simp only
            rw [List.getElem?_set_ne lr.symm, List.getElem?_set_self (by omega)]
            rfl
          · subst h
            refine ⟨hIr, ?_, by simp only; omega⟩
            simp only
            rw [List.getElem?_set_self (by rw [List.length_set]; omega)]
            rfl
          · obtain ⟨g1, g2, g3⟩ := hIs V (by simp [h])
            obtain ⟨v1, v2⟩ := lV V h
            refine ⟨g1, ?_, g3⟩
            rw [List.getElem?_set_ne (fun e => v2 e.symm), List.getElem?_set_ne (fun e => v1 e.symm)]
            exact g2
theorem refDepth_c (hG : Good F w a n c nodes) : Pure Go.Proofs.Try.prog 32 #[vT o a n c] w (.tuple #[.int .i64 (depthP nodes), .int .i64 (shapeP nanB nodes).1]) := by
  refine thicketref07_Depth.calls (R := fun v' u => v' = _ ∧ Below w.heap.size w u) ?_
  unfold thicketref07_Depth thicketref07_Depth.g0
  refine box2T fun w1 _ hT1 hk1 => ⟨_, hT1.c0, _, _, _, hT1.c1, ?_⟩
  have hG1 := hG.kept hk1
  have hn := hG.len
  have hmx := hG.max
  refine E.CallsD.mono (refShape_c (o := o) hG1.max hG1.short hG1.ls hG1.old) fun v w2 ⟨hv, hk2⟩ => ⟨_, _, hv, ?_⟩
  have hk12 := Kept.trans hk1 hk2
  refine onNe (fun hne => ⟨by unfold depthP; rw [if_neg hne], hk12⟩) fun h0 => ?_
  have hTr := treeP_spec h0
  have hT2 := hT1.kept hk2
  refine ⟨_, _, _, hT2.c1, ?_⟩
  refine Arr.make (en := enI) (x := 0) rfl (by omega) (by omega) (by omega) fun w3 h3 hk3 => ?_
  have hT3 := hT2.kept hk3
  refine ⟨_, hT3.c0, _, _, _, hT3.c1, ?_⟩
  have hk13 := Kept.trans hk12 hk3
  refine E.CallsD.mono (Order_c (o := o) (hG.kept hk13) hTr) fun v w4 ⟨a4, c4, hv, ⟨g4, h4, hg4, hk4⟩⟩ => ⟨_, _, _, hv, ?_⟩
  have e1 : ((n : Int)).toNat = n := by omega
  rw [e1] at h3 ⊢
  have hk24 := Kept.trans hk3 hk4
  have hsz : (treeP nodes).size = n := by rw [← BT.pre_length, hTr.length, hn]
  have z3 := h3.le
  exact ⟨_, refdepth_loop (w1 := w2) (p := na w) (o := o) (F := F) (T := treeP nodes) (D := (treeP nodes).depth) (R := fun v' u => v' = _ ∧ Below w.heap.size w u) (hG.kept hk12) hTr hT2 (fun u hu => ⟨by unfold depthP; rw [if_pos h0, h0], Kept.trans hk12 (From.kept hu)⟩) (g6 := w2.heap.size + 1) (by omega) (by omega) (sumD [(treeP nodes, 0)]) [(treeP nodes, 0)] [] (List.replicate n 0) 0 w4 (Nat.le_refl _) (by simp) (fun U hU => by
    simp only [List.mem_singleton] at hU
    subst hU
    refine ⟨hTr.is, ?_, by simp only; omega⟩
    simp only
    rw [hTr.root, List.getElem?_replicate, if_pos (by have := hTr.right.pos; omega)]
    rfl) (by simp [leavesD_max]) hk24.fr h4 (h3.kept hk4)⟩
end
end Go.Mir

set_option maxRecDepth 100000
namespace Go.Mir
open Go Go.E Go.RowKit Go.Tr
theorem S_N : SliceT Go.Proofs.Try.prog 31 27 8 80 := sliceT (by kernel_rfl)
theorem S_T : SliceT Go.Proofs.Try.prog 44 33 2 32 := sliceT (by kernel_rfl)
def fresh (B g : Nat) : Prop := g = 0 ∨ B < g
/-- The blocks that are turned have other element types than these. -/
def Apart (S : Nat → Prop) (w : World) (es : List Nat) : Prop := ∀ k cs e, S k → Blk w k cs e → e ∉ es
section
variable {w u w1 : World} {p : Addr} {o : Int} {a a1 : Option Addr} {n c n1 c1 g B B' : Nat} {F S : Nat → Prop} {nodes : List ND} {xs : List Nat} {ts : List TD} {e : ED} {f b t : SH}
theorem Row.modS {e size : Nat} {cs : List Value} {es : List Nat} (h : Row w e size a n c cs g) (hm : Mod S w u) (hS : Apart S w es) (he : e ∈ es) : Row u e size a n c cs g := by
  refine ⟨h.1, ?_⟩
  rcases h.2 with h0 | ⟨b, cur, rfl, h1, hb, h2⟩
  · exact .inl h0
  · exact .inr ⟨b, cur, rfl, h1, hb.mod hm (fun hs => hS b cur e hs hb he), h2⟩
theorem Row.apart {e' size : Nat} {cs : List Value} {es : List Nat} (h : Row w e' size a n c cs g) (he : e' ∉ es) : Apart (fun k => k + 1 = g) w es := by
  intro k cs' e hk hb
  rcases h.2 with ⟨rfl, _⟩ | ⟨b, cur, rfl, _, hb', _⟩
  · cases hk
  · obtain rfl : k = b := by have hk' : k + 1 = b + 1 := hk; omega
    unfold Blk at hb hb'
    rw [hb] at hb'
    cases hb'
    exact he
theorem Blk.apartS {k0 e' : Nat} {cs : Array Value} {es : List Nat} (h : Blk w k0 cs e') (he : e' ∉ es) : Apart (fun k => k + 1 = k0 + 1) w es := by
  intro k cs' e hk hb
  obtain rfl : k = k0 := by have hk' : k + 1 = k0 + 1 := hk; omega
  unfold Blk at hb h
  rw [hb] at h
  cases h
  exact he
/-- Nodes in new memory. -/
def OwnN (B : Nat) (w : World) (a : Option Addr) (n c : Nat) (nodes : List ND) : Prop := ∃ g l, ArrK 8 enH 27 w a n c l g ∧ fresh B g ∧ nodes = l.map (·.1) ∧ ∀ x ∈ l, ∃ gx, Arr enI 3 w x.2.a x.2.n x.2.c x.1.cats gx ∧ fresh B gx
theorem OwnN.modS (h : OwnN B w a n c nodes) (hm : Mod S w u) (hS : Apart S w [27, 3]) : OwnN B u a n c nodes := by
  obtain ⟨g, l, h1, h2, h3, h4⟩ := h
  exact ⟨g, l, Row.modS h1 hm hS (by simp), h2, h3, fun x hx => let ⟨gx, k1, k2⟩ := h4 x hx; ⟨gx, Row.modS k1 hm hS (by simp), k2⟩⟩
theorem OwnN.kept (h : OwnN B w a n c nodes) (hk : Kept w u) : OwnN B u a n c nodes := h.modS (S := fun _ => False) (Kept.mod hk) (fun _ _ _ h => h.elim)
theorem OwnN.weak (h : OwnN B w a n c nodes) (hB : B' ≤ B) : OwnN B' w a n c nodes := by
  obtain ⟨g, l, h1, h2, h3, h4⟩ := h
  exact ⟨g, l, h1, h2.imp id (fun h => Nat.lt_of_le_of_lt hB h), h3, fun x hx => let ⟨gx, k1, k2⟩ := h4 x hx; ⟨gx, k1, k2.imp id (fun h => Nat.lt_of_le_of_lt hB h)⟩⟩
def newB (B : Nat) (w : World) (b : Nat) : Prop := B ≤ b ∧ b < w.heap.size
theorem OwnN.ls (h : OwnN B w a n c nodes) : Ls tN (newB B w) w a n c nodes := by
  obtain ⟨g, l, h1, h2, rfl, h4⟩ := h
  have l1 := h1.le
  refine h1.lsN (fun b hb => ⟨?_, ?_⟩) fun x hx => ?_
  · unfold fresh at h2; omega
  · omega
  · obtain ⟨gx, k1, k2⟩ := h4 x hx
    have l2 := k1.le
    refine (k1.ls (h1 := fun _ => rfl)).mono fun b hb => ⟨?_, ?_⟩
    · unfold fresh at k2; omega
    · omega
theorem OwnN.len (h : OwnN B w a n c nodes) : n = nodes.length := h.ls.len
theorem OwnN.good (h : OwnN B w a n c nodes) (hn : n ≤ 1048576) (hs : Short 1048576 nodes) : Good (newB B w) w a n c nodes := ⟨h.ls, fun b hb => hb.2, hn, hs⟩
theorem OwnN.nil (B : Nat) (w : World) (a : Option Addr) (c : Nat) (h : a = none ∧ c = 0) : OwnN B w a 0 c [] := by
  obtain ⟨rfl, rfl⟩ := h
  exact ⟨0, [], ArrK.nil _ _ _ _, .inl rfl, rfl, fun x hx => by cases hx⟩
/-- Trees in new memory. -/
def OwnT (B : Nat) (w : World) (a : Option Addr) (n c : Nat) (ts : List TD) : Prop := ∃ g l, ArrK 2 enTH 33 w a n c l g ∧ fresh B g ∧ ts = l.map (·.1) ∧ ∀ x ∈ l, OwnN B w x.2.a x.2.n x.2.c x.1.nodes
theorem OwnT.modS (h : OwnT B w a n c ts) (hm : Mod S w u) (hS : Apart S w [33, 27, 3]) : OwnT B u a n c ts := by
  obtain ⟨g, l, h1, h2, h3, h4⟩ := h
  exact ⟨g, l, Row.modS h1 hm hS (by simp), h2, h3, fun x hx => (h4 x hx).modS hm fun k cs e hk hb he => hS k cs e hk hb (by simp only [List.mem_cons] at he ⊢; exact .inr he)⟩
theorem OwnT.kept (h : OwnT B w a n c ts) (hk : Kept w u) : OwnT B u a n c ts := h.modS (S := fun _ => False) (Kept.mod hk) (fun _ _ _ h => h.elim)
theorem OwnT.weak (h : OwnT B w a n c ts) (hB : B' ≤ B) : OwnT B' w a n c ts := by
  obtain ⟨g, l, h1, h2, h3, h4⟩ := h
  exact ⟨g, l, h1, h2.imp id (fun h => Nat.lt_of_le_of_lt hB h), h3, fun x hx => (h4 x hx).weak hB⟩
theorem OwnT.ls (h : OwnT B w a n c ts) : Ls tT (newB B w) w a n c ts := by
  obtain ⟨g, l, h1, h2, rfl, h4⟩ := h
  have l1 := h1.le
  refine h1.lsT (fun b hb => ⟨?_, ?_⟩) fun x hx => (h4 x hx).ls
  · unfold fresh at h2; omega
  · omega
/-- An ensemble in new memory. -/
structure OwnE (B : Nat) (w : World) (e : ED) (f b t : SH) : Prop where
  fs : ∃ g, Arr enS 9 w f.a f.n f.c e.features g ∧ fresh B g
  bs : ∃ g, Arr enI 2 w b.a b.n b.c e.base g ∧ fresh B g
  ts : OwnT B w t.a t.n t.c e.trees
theorem OwnE.modS (h : OwnE B w e f b t) (hm : Mod S w u) (hS : Apart S w [9, 2, 33, 27, 3]) : OwnE B u e f b t :=
  ⟨let ⟨g, h1, h2⟩ := h.fs; ⟨g, Row.modS h1 hm hS (by simp), h2⟩, let ⟨g, h1, h2⟩ := h.bs; ⟨g, Row.modS h1 hm hS (by simp), h2⟩, h.ts.modS hm fun k cs e hk hb he => hS k cs e hk hb (by simp only [List.mem_cons] at he ⊢; exact .inr (.inr he))⟩
theorem OwnE.kept (h : OwnE B w e f b t) (hk : Kept w u) : OwnE B u e f b t := h.modS (S := fun _ => False) (Kept.mod hk) (fun _ _ _ h => h.elim)
theorem OwnE.weak (h : OwnE B w e f b t) (hB : B' ≤ B) : OwnE B' w e f b t :=
  ⟨let ⟨g, h1, h2⟩ := h.fs; ⟨g, h1, h2.imp id (fun h => Nat.lt_of_le_of_lt hB h)⟩, let ⟨g, h1, h2⟩ := h.bs; ⟨g, h1, h2.imp id (fun h => Nat.lt_of_le_of_lt hB h)⟩, h.ts.weak hB⟩
theorem arr_new {α : Type} {en : α → Value} {h1 : ∀ x, (en x).oneCell' = true} {e : Nat} {ys : List α} (h : Arr en e w a n c ys g) (hg : fresh B g) : Ls (Ty.flat en h1) (newB B w) w a n c ys := by
  have l2 := h.le
  refine h.ls.mono fun b hb => ⟨?_, ?_⟩
  · unfold fresh at hg; omega
  · omega
/-- What is known of an ensemble's sizes. -/
structure Sized (e : ED) : Prop where
  fm : e.features.length ≤ 1048576
  bm : e.base.length ≤ 1048576
  tm : e.trees.length ≤ 1048576
  good : ∀ x ∈ e.trees, x.nodes.length ≤ 1048576 ∧ Short 1048576 x.nodes
theorem GoodE.sized (h : GoodE F w e f b t) : Sized e := ⟨by rw [← h.fs.len]; exact h.fm, by rw [← h.bs.len]; exact h.bm, by rw [← h.ts.len]; exact h.tm, h.good⟩
theorem OwnE.good (h : OwnE B w e f b t) (hs : Sized e) : GoodE (newB B w) w e f b t := by
  obtain ⟨g1, h1, k1⟩ := h.fs
  obtain ⟨g2, h2, k2⟩ := h.bs
  have l3 := h.ts.ls
  exact ⟨arr_new h1 k1, arr_new h2 k2, l3, fun b hb => hb.2, by rw [h1.len]; exact hs.fm, by rw [h2.len]; exact hs.bm, by rw [l3.len]; exact hs.tm, hs.good⟩
theorem NewA.own {α : Type} {en : α → Value} {e : Nat} {ys : List α} (h : NewA en e w u a n c ys) : ∃ g, Arr en e u a n c ys g ∧ fresh w.heap.size g := let ⟨g, h1, h2, _⟩ := h; ⟨g, h1, h2⟩

/-! ### clones -/
theorem cloneI_c {ys : List Int} (hs : Sl enI w a n ys) (hm : n ≤ 1048576) : E.CallsD Go.Proofs.Try.prog 60 #[.slice a n c] w fun v u => ∃ a' c', v = .slice a' n c' ∧ NewA enI 3 w u a' n c' ys := by
  refine slices_Clone_int.calls ?_
  unfold slices_Clone_int slices_Clone_int.g0
  refine cloneA (R := fun v u => ∃ a' c', v = .slice a' n c' ∧ NewA enI 3 w u a' n c' ys) S_I (fun _ => rfl) hs (by simp only [maxLen]; omega) (by omega) (fun h1 h2 => ?_) fun a' c' u h => ⟨_, _, _, rfl, _, _, rfl, h⟩
  have hl := hs.len
  subst h2
  simp only [List.length_nil] at hl
  subst hl
  exact ⟨_, _, rfl, 0, Arr.nil _ _ _, .inl rfl, Kept.refl _⟩
theorem cloneS_c {ys : List ByteArray} (hs : Sl enS w a n ys) (hm : n ≤ 1048576) : E.CallsD Go.Proofs.Try.prog 58 #[.slice a n c] w fun v u => ∃ a' c', v = .slice a' n c' ∧ NewA enS 9 w u a' n c' ys := by
  refine slices_Clone_str.calls ?_
  unfold slices_Clone_str slices_Clone_str.g0
  refine cloneA (R := fun v u => ∃ a' c', v = .slice a' n c' ∧ NewA enS 9 w u a' n c' ys) S_str (fun _ => rfl) hs (by simp only [maxLen]; omega) (by omega) (fun h1 h2 => ?_) fun a' c' u h => ⟨_, _, _, rfl, _, _, rfl, h⟩
  have hl := hs.len
  subst h2
  simp only [List.length_nil] at hl
  subst hl
  exact ⟨_, _, rfl, 0, Arr.nil _ _ _, .inl rfl, Kept.refl _⟩
/-- An own row of nodes takes one more. -/
theorem enH_one (x : ND × SH) : ∀ v ∈ enH x, v.oneCell' = true := by
  intro v hv
  simp only [enH, enN, List.mem_cons, List.not_mem_nil, or_false] at hv
  rcases hv with h | h | h | h | h | h | h | h <;> subst h <;> rfl
theorem enTH_one (x : TD × SH) : ∀ v ∈ enTH x, v.oneCell' = true := by
  intro v hv
  simp only [enTH, List.mem_cons, List.not_mem_nil, or_false] at hv
  rcases hv with h | h <;> subst h <;> rfl
theorem fresh_mono {B B' g : Nat} (h : fresh B g) (hB : B' ≤ B) : fresh B' g := h.imp id fun h => Nat.lt_of_le_of_lt hB h
theorem mem_take_snoc {α : Type} {l : List α} {x y : α} (h : y ∈ l ++ [x]) : y ∈ l ∨ y = x := by simpa using h

/-! ### the document's Nodes -/
theorem refnodes_loop {R : Value → World → Prop} (hG : Good F w1 a n c nodes) (hend : ∀ u a' c', From w1.heap.size w1 u → OwnN w1.heap.size u a' n c' nodes → R (.slice a' n c') u) :
    ∀ (k i : Nat) (w : World) (l : List (ND × SH)) (a3 : Option Addr) (c3 g3 : Nat), i + k = n → From w1.heap.size w1 w → ArrK 8 enH 27 w a3 i c3 l g3 → fresh w1.heap.size g3 → l.map (·.1) = nodes.take i → (∀ x ∈ l, ∃ gx, Arr enI 3 w x.2.a x.2.n x.2.c x.1.cats gx ∧ fresh w1.heap.size gx) → thicketref07_Nodes.l8 R (k + 1) a3 i c3 a n c n i w := by
  have hn := hG.len
  have hmx := hG.max
  intro k
  induction k with
  | zero =>
    intro i w l a3 c3 g3 hi hw h3 hg3 hl hx
    unfold thicketref07_Nodes.l8 thicketref07_Nodes.g8
    refine onDec_f (by omega) ?_
    rw [List.take_of_length_le (by omega)] at hl
    obtain rfl : i = n := by omega
    exact hend w a3 c3 hw ⟨g3, l, h3, hg3, hl.symm, hx⟩
  | succ k ih =>
    intro i w l a3 c3 g3 hi hw h3 hg3 hl hx
    unfold thicketref07_Nodes.l8 thicketref07_Nodes.g8
    refine onDec_t (by omega) ?_
    refine (hG.from hw).ls.rdN (by omega) (by omega) fun x a5 n5 c5 hxi hcs => ?_
    rw [Int.toNat_natCast] at hxi
    have hsx := hG.short x (List.mem_of_getElem? hxi)
    have hc5 := hcs.len
    refine box8z fun u2 hb2 hb8 hk2 => ⟨_, _, _, hb8.c4, ?_⟩
    refine Arr.pushes S_I (Arr.nil enI 3 u2) (fun _ => rfl) (hcs.kept hk2).sl (by simp only [maxLen]; omega) (by omega) fun a6 c6 g6 u3 h6 hg6 ho => ⟨_, _, _, rfl, ?_⟩
    simp only [Nat.zero_add, List.nil_append] at h6 ⊢
    have hk3 : Kept u2 u3 := Mod.kept (S := fun k => k + 1 = 0) ho (fun k _ h => by omega)
    have hb3 := hb2.mod (Kept.mod (S := fun _ => False) hk3) (fun h => h)
    refine hb3.wr0 (by simp [enN]) fun u4 hb4 ho4 => ?_
    have hb84 : At8 u4 (na w) x a6 n5 c6 := .of_blk hb4
    refine hb84.ld ?_
    have s2 := hk2.size
    have s3 := hk3.size
    have l3 := h3.le
    have l6 := h6.le
    have hw4 : From w1.heap.size w1 u4 := ((hw.keptThen hk2).keptThen hk3).only ho4 (.inr (by have := hw.size; omega))
    have hk23 := Kept.trans hk2 hk3
    have h34 : ArrK 8 enH 27 u4 a3 i c3 l g3 := (h3.kept hk23).mod ho4 fun k h1 h2 => by omega
    have s1 := hw.size
    have ap4 : Apart (fun k => k + 1 = w.heap.size + 1) u3 [3] := Blk.apartS hb3 (by decide)
    refine ArrK.push (k := 8) (en := enH) S_N (fun _ => rfl) (by omega) h34 (x := (x, ⟨a6, n5, c6⟩)) rfl (enH_one _) (by simp only [maxLen]; omega) (by omega) fun a7 c7 g7 u5 h7 hg7 hg70 ho5 => ⟨_, _, _, rfl, ?_⟩
    refine nv_succ (by omega) ?_
    have ap5 : Apart (fun k => k + 1 = g3) u4 [3] := Row.apart h34 (by decide)
    have s4 := ho4.size
    refine ih (i + 1) u5 (l ++ [(x, ⟨a6, n5, c6⟩)]) a7 c7 g7 (by omega) (hw4.only ho5 hg3) h7 (by unfold fresh at hg3 ⊢; omega) (by rw [List.map_append, hl, take_snoc hxi]; rfl) fun y hy => ?_
    rcases mem_take_snoc hy with h | h
    · obtain ⟨gx, k1, k2⟩ := hx y h
      exact ⟨gx, Row.modS (Row.modS (k1.kept hk23) ho4 ap4 (by simp)) ho5 ap5 (by simp), k2⟩
    · subst h
      exact ⟨g6, Row.modS (Row.modS h6 ho4 ap4 (by simp)) ho5 ap5 (by simp), by unfold fresh; omega⟩
theorem refNodes_c (hG : Good F w a n c nodes) : E.CallsD Go.Proofs.Try.prog 50 #[.slice a n c] w fun v u => ∃ a' c', v = .slice a' n c' ∧ OwnN w.heap.size u a' n c' nodes ∧ Kept w u := by
  refine thicketref07_Nodes.calls ?_
  unfold thicketref07_Nodes thicketref07_Nodes.g0
  exact ⟨n + 1, refnodes_loop (w1 := w) hG (fun u a' c' hu ho => ⟨_, _, rfl, ho, From.kept hu⟩) n 0 w [] none 0 0 (by omega) (From.refl _ _) (ArrK.nil _ _ _ _) (.inl rfl) (by simp) (fun x hx => by cases hx)⟩
end
end Go.Mir

set_option maxRecDepth 100000
namespace Go.Mir
open Go Go.E Go.RowKit Go.Tr
section
variable {w u w1 : World} {p : Addr} {o : Int} {a a1 : Option Addr} {n c n1 c1 g B B' : Nat} {F S : Nat → Prop} {nodes : List ND} {xs : List Nat} {ts : List TD} {e : ED} {f b t : SH}
/-- What is known of a call's new nodes. -/
def FNo (j B n : Nat) (nodes : List ND) : Nat → Value → World → Prop := fun i v u => i = j → ∃ a c, v = .slice a n c ∧ OwnN B u a n c nodes
theorem FNo.keep {j B n : Nat} {nodes : List ND} (i : Nat) (v : Value) (u u' : World) (h : FNo j B n nodes i v u) (hk : Below u.heap.size u u') : FNo j B n nodes i v u' := fun hi => by
  obtain ⟨a, c, h1, h2⟩ := h hi
  exact ⟨a, c, h1, h2.kept hk⟩
theorem copied_c (hG : Good F w a n c nodes) : E.CallsD Go.Proofs.Try.prog 39 #[vT o a n c] w fun v u => ∃ a' c', v = vT o a' n c' ∧ OwnN w.heap.size u a' n c' nodes ∧ Kept w u := by
  refine thicketlaw07_copied.calls ?_
  unfold thicketlaw07_copied thicketlaw07_copied.g0
  refine box2T fun w1 _ hT1 hk1 => box2T (o := 0) (a := none) (n := 0) (c := 0) fun w2 hb2 _ hk2 => ?_
  have hT2 := hT1.kept hk2
  have hk12 := Kept.trans hk1 hk2
  have s1 := hk1.size
  refine ⟨FNo 4 w.heap.size n nodes, FNo.keep, _, hT2.c0, _, _, _, hT2.c1, fun u hu => ?_, fun a3 n3 c3 _ u hu hF => ?_⟩
  · refine E.CallsD.mono (refNodes_c (hG.kept (Kept.trans hk12 hu))) fun v u' ⟨a', c', hv, ho, hk⟩ => ⟨_, _, _, hv, fun _ => ⟨_, _, rfl, ho.weak (Kept.trans hk12 hu).size⟩, hk⟩
  · obtain ⟨a', c', hv, ho⟩ := hF rfl
    simp only [Value.slice.injEq] at hv
    obtain ⟨rfl, rfl, rfl⟩ := hv
    have hb3 := hb2.mod (Kept.mod (S := fun _ => False) hu) (fun h => h)
    refine hb3.wr (by simp) fun u1 hb4 ho4 => hb4.wr (by simp) fun u2 hb5 ho5 => ?_
    have ap : ∀ {u0 : World} {cs : Array Value}, Blk u0 w1.heap.size cs 33 → Apart (fun k => k + 1 = w1.heap.size + 1) u0 [27, 3] := fun h => Blk.apartS h (by decide)
    have hon := (ho.modS ho4 (ap hb3)).modS ho5 (ap hb4)
    refine ⟨_, hb5.rd rfl, _, _, _, hb5.rd rfl, _, _, rfl, hon, ?_⟩
    have := (((Kept.trans hk12 hu).fr.only ho4 (.inr (by omega))).only ho5 (.inr (by omega)))
    exact From.kept this

/-! ### the document's Copy -/
/-- What is known of the new nodes (5), and of the new tree (7). -/
def FTo (B n : Nat) (x : TD) : Nat → Value → World → Prop := fun i v u => (i = 5 → ∃ a c, v = .slice a n c ∧ OwnN B u a n c x.nodes) ∧ (i = 7 → ∃ q a c, v = .slice (some q) 1 1 ∧ At2 u q x.output a n c ∧ OwnN B u a n c x.nodes)
theorem FTo.keep {B n : Nat} {x : TD} (i : Nat) (v : Value) (u u' : World) (h : FTo B n x i v u) (hk : Below u.heap.size u u') : FTo B n x i v u' := ⟨fun hi => by
  obtain ⟨a, c, h1, h2⟩ := h.1 hi
  exact ⟨a, c, h1, h2.kept hk⟩, fun hi => by
  obtain ⟨q, a, c, h1, h2, h3⟩ := h.2 hi
  exact ⟨q, a, c, h1, h2.kept hk, h3.kept hk⟩⟩
theorem GoodE.at (hE : GoodE F w e f b t) {i : Nat} {x : TD} {a' : Option Addr} {n' c' : Nat} (hx : e.trees[i]? = some x) (hL : Ls tN F w a' n' c' x.nodes) : Good F w a' n' c' x.nodes := by
  obtain ⟨hg1, hg2⟩ := hE.good x (List.mem_of_getElem? hx)
  exact ⟨hL, hE.old, by rw [hL.len]; exact hg1, hg2⟩
theorem refcopy_loop {R : Value → World → Prop} {p2 p6 : Addr} {f' b' : SH} {cs2 : Array Value} {B2 B6 : World} (hp2 : p2 = na B2) (hp6 : p6 = na B6) (hne : B2.heap.size ≠ B6.heap.size) (hE : GoodE F w1 e f b t) (hb2 : Blk w1 B2.heap.size cs2 46) (hc2 : cs2.size = 5) (hb6 : Blk w1 B6.heap.size (enE e f' b' t).toArray 46)
    (hf : ∃ g, Arr enS 9 w1 f'.a f'.n f'.c e.features g ∧ fresh B g) (hb : ∃ g, Arr enI 2 w1 b'.a b'.n b'.c e.base g ∧ fresh B g) (hB : B ≤ w1.heap.size) (hB2 : B ≤ B2.heap.size) (hB6 : B ≤ B6.heap.size)
    (hend : ∀ u t', From B w1 u → OwnE B u e f' b' t' → t'.n = t.n → R (vE e f' b' t') u) :
    ∀ (k i : Nat) (w : World) (l : List (TD × SH)) (a5 : Option Addr) (c5 g5 : Nat), i + k = t.n → From w1.heap.size w1 w → ArrK 2 enTH 33 w a5 i c5 l g5 → fresh w1.heap.size g5 → l.map (·.1) = e.trees.take i → (∀ x ∈ l, OwnN w1.heap.size w x.2.a x.2.n x.2.c x.1.nodes) → thicketref07_Copy.l18 R (k + 1) (some p2) a5 i c5 (some p6) t.a t.n t.c t.n i w := by
  subst hp2 hp6
  have htn := hE.ts.len
  have htm := hE.tm
  intro k
  induction k with
  | zero =>
    intro i w l a5 c5 g5 hi hw h5 hg5 hl hx
    unfold thicketref07_Copy.l18 thicketref07_Copy.g18
    refine onDec_f (by omega) ?_
    rw [List.take_of_length_le (by omega)] at hl
    obtain rfl : i = t.n := by omega
    have hb6w := hb6.mod hw (fun h => by have := hb6.lt; have h' : w1.heap.size ≤ B6.heap.size := h; omega)
    have hb2w := hb2.mod hw (fun h => by have := hb2.lt; have h' : w1.heap.size ≤ B2.heap.size := h; omega)
    refine optN_mk (hb6w.wr0 (by simp [enE]) fun u1 hb61 ho1 => ?_)
    have h55 : At5 u1 (na B6) e f' b' ⟨a5, t.n, c5⟩ := .of_blk hb61
    refine optN_mk (h55.ld ?_)
    have hb21 := hb2w.mod ho1 (fun h => hne (by have h' : B2.heap.size + 1 = B6.heap.size + 1 := h; omega))
    refine optN_mk (hb21.wr (by omega) fun u2 hb22 ho2 => hb22.wr (by simp; omega) fun u3 hb23 ho3 => hb23.wr (by simp; omega) fun u4 hb24 ho4 => hb24.wr (by simp; omega) fun u5 hb25 ho5 => hb25.wr (by simp; omega) fun u6 hb26 ho6 => ?_)
    have h56 : At5 u6 (na B2) e f' b' ⟨a5, t.n, c5⟩ := by
      refine ⟨hb26.rd ?_, hb26.rd ?_, hb26.rd ?_, hb26.rd ?_, hb26.rd ?_⟩ <;> simp [Array.getElem?_setIfInBounds, hc2]
    refine optN_mk (h56.ld ?_)
    have hm : Mod (fun k => k = B6.heap.size ∨ k = B2.heap.size) w u6 :=
      ((((((Mod.refl w).trans ho1 (fun _ _ h => h) (fun k _ h => .inl (by omega))).trans ho2 (fun _ _ h => h) (fun k _ h => .inr (by omega))).trans ho3 (fun _ _ h => h) (fun k _ h => .inr (by omega))).trans ho4 (fun _ _ h => h) (fun k _ h => .inr (by omega))).trans ho5 (fun _ _ h => h) (fun k _ h => .inr (by omega))).trans ho6 (fun _ _ h => h) (fun k _ h => .inr (by omega))
    have hap : Apart (fun k => k = B6.heap.size ∨ k = B2.heap.size) w [9, 2, 33, 27, 3] := by
      intro k cs e' hk hb'
      rcases hk with rfl | rfl
      · exact Blk.apartS hb6w (es := [9, 2, 33, 27, 3]) (by decide) _ cs e' rfl hb'
      · exact Blk.apartS hb2w (es := [9, 2, 33, 27, 3]) (by decide) _ cs e' rfl hb'
    refine hend u6 ⟨a5, t.n, c5⟩ ?_ ?_ rfl
    · exact (Mod.weak (hw.trans hm (U := fun k => B ≤ k) (fun k _ h => by have h' : w1.heap.size ≤ k := h; show B ≤ k; omega) (fun k _ h => by show B ≤ k; rcases h with h | h <;> omega)) (fun _ _ h => h))
    · obtain ⟨gf, hf1, hf2⟩ := hf
      obtain ⟨gb, hb1, hb2'⟩ := hb
      have own : OwnE B w e f' b' ⟨a5, t.n, c5⟩ := ⟨⟨gf, hf1.mod hw (fun k h1 h2 => by have := hf1.le; have h2' : w1.heap.size ≤ k := h2; omega), hf2⟩, ⟨gb, hb1.mod hw (fun k h1 h2 => by have := hb1.le; have h2' : w1.heap.size ≤ k := h2; omega), hb2'⟩, g5, l, h5, fresh_mono hg5 hB, hl.symm, fun x hx' => (hx x hx').weak hB⟩
      exact own.modS hm hap
  | succ k ih =>
    intro i w l a5 c5 g5 hi hw h5 hg5 hl hx
    unfold thicketref07_Copy.l18 thicketref07_Copy.g18
    refine onDec_t (by omega) ?_
    have hEw := hE.from hw
    refine hEw.ts.rdT (by omega) (by omega) fun x a' n' c' hxi hL => ?_
    rw [Int.toNat_natCast] at hxi
    have hGx := hEw.at hxi hL
    refine box2Tz fun w2 hb2' hT2 hk2 => ?_
    have hw2 := hw.keptThen hk2
    have s1 := hw.size
    have s2 := hk2.size
    refine ⟨FTo w1.heap.size n' x, FTo.keep, _, hT2.c0, _, _, _, hT2.c1, fun u hu => ?_, fun a3 n3 c3 _ => ⟨fun u hu hF => ⟨fun h => by omega, fun _ => ?_⟩, fun q _ u hu hF5 hF7 => ?_⟩⟩
    · refine E.CallsD.mono (refNodes_c (hGx.kept (Kept.trans hk2 hu))) fun v u' ⟨a', c', hv, ho, hk⟩ => ⟨_, _, _, hv, ⟨fun _ => ⟨_, _, rfl, ho.weak (by have := hu.size; omega)⟩, fun h => by omega⟩, hk⟩
    · obtain ⟨a4, c4, hv, ho⟩ := hF.1 rfl
      simp only [Value.slice.injEq] at hv
      obtain ⟨rfl, rfl, rfl⟩ := hv
      have b0 := Blk.new u #[.int .i64 x.output, .slice a3 n3 c3] 33
      exact ⟨_, _, _, rfl, ⟨b0.rd rfl, b0.rd rfl⟩, ho.kept (Kept.new u _)⟩
    · obtain ⟨q', a4, c4, hv, hT4, ho4⟩ := hF7.2 rfl
      simp only [Value.slice.injEq, Option.some.injEq] at hv
      obtain ⟨rfl, _, _⟩ := hv
      have hk2u := Kept.trans hk2 hu
      refine ArrK.pushAt (k := 2) (en := enTH) S_T (fun _ => rfl) (by omega) (h5.kept hk2u) (x := (x, ⟨a4, n', c4⟩)) (fun j v hj => ?_) (enTH_one _) (by simp only [maxLen]; omega) (by omega) fun a6 c6 g6 u2 h6 hg6 hg60 ho6 => ⟨_, _, _, rfl, ?_⟩
      · match j, hj with
        | 0, hj => cases hj; exact hT4.c0
        | 1, hj => cases hj; exact hT4.c1
        | j + 2, hj => cases hj
      refine nv_succ (by omega) ?_
      have ap : Apart (fun k => k + 1 = g5) u [27, 3] := Row.apart (h5.kept hk2u) (by decide)
      have s3 := hu.size
      refine ih (i + 1) u2 (l ++ [(x, ⟨a4, n', c4⟩)]) a6 c6 g6 (by omega) ((hw2.keptThen hu).only ho6 hg5) h6 (by unfold fresh at hg5 ⊢; omega) (by rw [List.map_append, hl, take_snoc hxi]; rfl) fun y hy => ?_
      rcases mem_take_snoc hy with h | h
      · exact ((hx y h).kept hk2u).modS ho6 ap
      · subst h
        exact ho4.modS ho6 ap
theorem refCopy_c (hE : GoodE F w e f b t) : E.CallsD Go.Proofs.Try.prog 20 #[vE e f b t] w fun v u => ∃ f' b' t', v = vE e f' b' t' ∧ OwnE w.heap.size u e f' b' t' ∧ Kept w u := by
  refine thicketref07_Copy.calls ?_
  unfold thicketref07_Copy thicketref07_Copy.g0
  refine box5 fun w1 _ h5 hk1 => box5 (e := ⟨⟨#[]⟩, [], 0, [], []⟩) (f := ⟨none, 0, 0⟩) (b := ⟨none, 0, 0⟩) (t := ⟨none, 0, 0⟩) fun w2 hbr _ hk2 => ?_
  have h52 := h5.kept hk2
  refine h52.ld ?_
  refine box5z (f := f) (b := b) (t := t) fun w3 hbo _ hk3 => ?_
  have h53 := h52.kept hk3
  have hk13 := Kept.trans hk1 (Kept.trans hk2 hk3)
  have hE3 := hE.kept hk13
  have hfm := hE.fm
  have hbm := hE.bm
  have s1 := hk1.size
  have s2 := hk2.size
  have s3 := hk3.size
  have l1 := h5.lt
  have e1 : (na w).block = w.heap.size := rfl
  have hbr3 := hbr.mod (Kept.mod (S := fun _ => False) hk3) (fun h => h)
  have lr := hbr.lt
  have lo := hbo.lt
  refine ⟨_, _, _, h53.c1, ?_⟩
  refine Arr.pushes S_str (Arr.nil enS 9 w3) (fun _ => rfl) hE3.fs.sl (by simp only [maxLen]; omega) (by omega) fun a6 c6 g6 w4 h6 hg6 ho => ⟨_, _, _, rfl, ?_⟩
  simp only [Nat.zero_add, List.nil_append] at h6 ⊢
  have hk4 : Kept w3 w4 := Mod.kept (S := fun k => k + 1 = 0) ho (fun k _ h => by omega)
  refine (hbo.mod (Kept.mod (S := fun _ => False) hk4) (fun h => h)).wr0 (by simp [enE]) fun w5 hbo5 ho5 => ?_
  have hbo5' : Blk w5 w2.heap.size (enE e ⟨a6, f.n, c6⟩ b t).toArray 46 := hbo5
  have f5 : From w2.heap.size w2 w5 := (Kept.trans hk3 hk4).fr.only ho5 (.inr (by omega))
  have h55 := h52.from f5
  have hE5 := hE.kept (Kept.trans (Kept.trans hk1 hk2) (From.kept f5))
  refine ⟨_, _, _, h55.c3, ?_⟩
  refine Arr.pushes S_I64 (Arr.nil enI 2 w5) (fun _ => rfl) hE5.bs.sl (by simp only [maxLen]; omega) (by omega) fun a7 c7 g7 w6 h7 hg7 ho7 => ⟨_, _, _, rfl, ?_⟩
  simp only [Nat.zero_add, List.nil_append] at h7 ⊢
  have hk6 : Kept w5 w6 := Mod.kept (S := fun k => k + 1 = 0) ho7 (fun k _ h => by omega)
  have hbo6 := hbo5'.mod (Kept.mod (S := fun _ => False) hk6) (fun h => h)
  refine hbo6.wr0 (by simp [enE]) fun w7 hbo7 ho8 => ?_
  have hbo7' : Blk w7 w2.heap.size (enE e ⟨a6, f.n, c6⟩ ⟨a7, b.n, c7⟩ t).toArray 46 := hbo7
  have f7 : From w2.heap.size w2 w7 := (f5.keptThen hk6).only ho8 (.inr (by omega))
  have h57 := h52.from f7
  have hE7 := hE.kept (Kept.trans (Kept.trans hk1 hk2) (From.kept f7))
  refine ⟨_, _, _, h57.c4, ?_⟩
  have s4 := hk4.size
  have s5 := ho5.size
  have s6 := hk6.size
  have s7 := ho8.size
  have hbr7 := hbr.mod (Kept.mod (S := fun _ => False) (From.kept f7)) (fun h => h)
  have h67 := (((Row.mod h6 ho5 fun k h1 h2 => by omega).kept hk6).mod ho8 fun k h1 h2 => by omega)
  have h77 := Row.mod h7 ho8 fun k h1 h2 => by omega
  have k07 := Kept.trans (Kept.trans hk1 hk2) (From.kept f7)
  have s07 := k07.size
  refine ⟨t.n + 1, refcopy_loop (w1 := w7) (B := w.heap.size) (B2 := w1) (B6 := w2) (f' := ⟨a6, f.n, c6⟩) (b' := ⟨a7, b.n, c7⟩) (e := e) (cs2 := (enE ⟨⟨#[]⟩, [], 0, [], []⟩ ⟨none, 0, 0⟩ ⟨none, 0, 0⟩ ⟨none, 0, 0⟩).toArray) rfl rfl (by omega) hE7 hbr7 (by simp [enE]) hbo7' ⟨g6, h67, by unfold fresh; omega⟩ ⟨g7, h77, by unfold fresh; omega⟩ s07 (by omega) (by omega) (fun u t' hu ho hn => ⟨_, _, _, rfl, ho, ?_⟩) t.n 0 w7 [] none 0 0 (by omega) (From.refl _ _) (ArrK.nil _ _ _ _) (.inl rfl) (by simp) (fun x hx => by cases hx)⟩
  exact keptAfter k07 hu (fun b h => h)
end
end Go.Mir

set_option maxRecDepth 100000
namespace Go.Mir
open Go Go.E Go.RowKit Go.Tr
def F1 (j : Nat) (Q : Value → World → Prop) : Nat → Value → World → Prop := fun i v u => i = j → Q v u
theorem F1.keep {j : Nat} {Q : Value → World → Prop} (hQ : ∀ v u u', Q v u → Kept u u' → Q v u') (i : Nat) (v : Value) (u u' : World) (h : F1 j Q i v u) (hk : Below u.heap.size u u') : F1 j Q i v u' := fun hi => hQ _ _ _ (h hi) hk
/-- A list in new memory. -/
def NewQ {α : Type} (en : α → Value) (e B n : Nat) (xs : List α) (v : Value) (u : World) : Prop := ∃ a c, v = .slice a n c ∧ ∃ g, Arr en e u a n c xs g ∧ fresh B g
theorem NewQ.keep {α : Type} {en : α → Value} {e B n : Nat} {xs : List α} (v : Value) (u u' : World) (h : NewQ en e B n xs v u) (hk : Kept u u') : NewQ en e B n xs v u' := by
  obtain ⟨a, c, h1, g, h2, h3⟩ := h
  exact ⟨a, c, h1, g, h2.kept hk, h3⟩
section
variable {w u w1 : World} {p : Addr} {o : Int} {a a1 : Option Addr} {n c n1 c1 g B B' : Nat} {F S : Nat → Prop} {nodes : List ND} {xs : List Nat} {ts : List TD} {e : ED} {f b t : SH}
/-- A clone of nodes: their categories are the old ones. -/
theorem cloneN_c (hG : Good F w a n c nodes) : E.CallsD Go.Proofs.Try.prog 59 #[.slice a n c] w fun v u => ∃ a' c' g l, v = .slice a' n c' ∧ ArrK 8 enH 27 u a' n c' l g ∧ fresh w.heap.size g ∧ l.map (·.1) = nodes ∧ (∀ x ∈ l, Ls (tInt .i64) F u x.2.a x.2.n x.2.c x.1.cats) ∧ Kept w u := by
  refine Clone_node.calls ?_
  unfold Clone_node Clone_node.g0
  obtain ⟨l, h1, h2, h3⟩ := hG.ls.flatN
  have hmx := hG.max
  refine cloneK (k := 8) (en := enH) (R := fun v u => ∃ a' c' g l, v = .slice a' n c' ∧ ArrK 8 enH 27 u a' n c' l g ∧ fresh w.heap.size g ∧ l.map (·.1) = nodes ∧ (∀ x ∈ l, Ls (tInt .i64) F u x.2.a x.2.n x.2.c x.1.cats) ∧ Kept w u) S_N (fun _ => rfl) (by omega) enH_one h2 (by simp only [maxLen]; omega) (by omega) (fun ha hl => ?_) fun a' c' g' u hr hg hk => ⟨_, _, _, rfl, _, _, _, _, rfl, hr, .inr hg, h1, fun x hx => (h3 x hx).kept hk, hk⟩
  have hl0 := h2.len
  subst hl
  simp only [List.length_nil] at hl0
  subst hl0
  exact ⟨_, _, 0, [], rfl, ArrK.nil _ _ _ _, .inl rfl, h1, fun x hx => (by cases hx), Kept.refl _⟩
theorem copy_inner {R : Value → World → Prop} {b12 : (Option Addr) → (Option Addr) → (Option Addr) → Nat → Nat → (Option Addr) → Nat → Nat → Int → Int → World → Prop} {p1 p2 a3 a20 a' : Option Addr} {n3 c3 n20 c20 n' c' g' : Nat} {x21 x22 : Int} {W0 Bp : World} {o : Int}
    (hm : n' ≤ 1048576) (hs : Short 1048576 nodes) (hB : B ≤ W0.heap.size) (hF : ∀ b, F b → b < B) (hbx : Blk W0 Bp.heap.size #[.int .i64 o, .slice a' n' c'] 33) (hne : Bp.heap.size + 1 ≠ g') (hg' : fresh B g')
    (hend : ∀ u, Mod (fun b => b + 1 = g' ∨ W0.heap.size ≤ b) W0 u → OwnN B u a' n' c' nodes → trees_Copy.l29 R b12 1 p1 p2 a3 n3 c3 (some (na Bp)) a20 n20 c20 x21 x22 n' n' u) :
    ∀ (k i : Nat) (w : World) (l : List (ND × SH)), i + k = n' → Mod (fun b => b + 1 = g' ∨ W0.heap.size ≤ b) W0 w → ArrK 8 enH 27 w a' n' c' l g' → l.map (·.1) = nodes → (∀ (j : Nat) x, l[j]? = some x → (j < i → ∃ gx, Arr enI 3 w x.2.a x.2.n x.2.c x.1.cats gx ∧ fresh B gx) ∧ (i ≤ j → Ls (tInt .i64) F w x.2.a x.2.n x.2.c x.1.cats)) →
      trees_Copy.l29 R b12 (k + 1) p1 p2 a3 n3 c3 (some (na Bp)) a20 n20 c20 x21 x22 n' i w := by
  intro k
  induction k with
  | zero =>
    intro i w l hi hw hA hl hx
    obtain rfl : i = n' := by omega
    refine hend w hw ⟨g', l, hA, hg', hl.symm, fun x hx' => ?_⟩
    obtain ⟨j, hj⟩ := List.getElem?_of_mem hx'
    have hlt := (List.getElem?_eq_some_iff.1 hj).1
    exact (hx j x hj).1 (by have := hA.lenH; omega)
  | succ k ih =>
    intro i w l hi hw hA hl hx
    unfold trees_Copy.l29 trees_Copy.g29
    refine onDec_t (by omega) ?_
    have hln := hA.lenH
    have hxi : l[i]? = some (l[i]'(by omega)) := List.getElem?_eq_getElem _
    obtain ⟨x, hxe⟩ : ∃ x, l[i]'(by omega) = x := ⟨_, rfl⟩
    rw [hxe] at hxi
    have hcs := (hx i x hxi).2 (Nat.le_refl _)
    have hxn : x.1 ∈ nodes := by rw [← hl]; exact List.mem_map.2 ⟨x, List.mem_of_getElem? hxi, rfl⟩
    have hcl := hcs.len
    have hsx := hs x.1 hxn
    have hbw := hbx.mod hw (fun h => by have := hbx.lt; rcases h with h | h <;> omega)
    refine ⟨F1 9 (NewQ enI 3 B x.2.n x.1.cats), F1.keep NewQ.keep, optN_mk ⟨_, _, _, hbw.rd rfl, optN_mk ⟨_, _, _, hbw.rd rfl, ?_⟩⟩⟩
    have e0 : ((i : Int)).toNat = i := by omega
    have hcell : ∃ q, a' = some q ∧ w.cell? ((q.add (i * 8)).add 4) = some (.slice x.2.a x.2.n x.2.c) := by
      obtain ⟨p, hp, hc⟩ := (ArrK.slk (k := 8) (en := enH) (fun _ => rfl) (by omega) hA).get i x hxi
      exact ⟨p, hp, by rw [add_add]; exact hc 4 _ rfl⟩
    obtain ⟨q, rfl, hq⟩ := hcell
    refine optN_mk (chk_mk ⟨by omega, by omega⟩ ⟨_, _, _, by rw [e0]; exact hq, fun u hu => ?_, fun a4 n4 c4 _ => optN_mk (chk_mk ⟨by omega, by omega⟩ fun u hu hF9 => ?_)⟩)
    · refine E.CallsD.mono (cloneI_c (hcs.kept hu).sl (by omega)) fun v u' ⟨a5, c5, hv, hn5⟩ => ⟨_, _, _, hv, fun _ => ?_, hn5.kept⟩
      obtain ⟨g5, h5, hg5⟩ := Go.Mir.NewA.own hn5
      have := hw.size
      have := hu.size
      exact ⟨_, _, rfl, g5, h5, fresh_mono hg5 (by omega)⟩
    · obtain ⟨a5, c5, hv, g5, h5, hg5⟩ := hF9 rfl
      simp only [Value.slice.injEq] at hv
      obtain ⟨rfl, rfl, rfl⟩ := hv
      obtain ⟨q', hq', hw2⟩ := ArrK.wrCell (k := 8) (en := enH) (fun _ => rfl) (hA.kept hu) (i := i) (j := 4) (x := x) (y := (x.1, ⟨a4, x.2.n, c4⟩)) (v := .slice a4 x.2.n c4) hxi (by omega) (by omega) rfl (K := fun w133 => nv (IntKind.i64.wrap ((i : Int) + 1)) fun t134 => trees_Copy.l29 R b12 (k + 1) p1 p2 a3 n3 c3 (some (na Bp)) a20 n20 c20 x21 x22 n' t134 w133) fun u2 hA2 ho2 => by
        have ap : Apart (fun k => k + 1 = g') u [3] := Row.apart (hA.kept hu) (by decide)
        refine nv_succ (by omega) ?_
        refine ih (i + 1) u2 _ (by omega) ((hw.trans (Kept.mod (S := fun _ => False) hu) (U := fun b => b + 1 = g' ∨ W0.heap.size ≤ b) (fun _ _ h => h) (fun _ _ h => h.elim)).trans ho2 (fun _ _ h => h) (fun _ _ h => .inl h)) hA2 ?_ fun j y hy => ?_
        · rw [← hl, List.map_set]
          apply List.ext_getElem?
          intro j
          by_cases hj : i = j
          · subst hj
            rw [List.getElem?_set_self (by rw [List.length_map]; omega), List.getElem?_map, hxi]; rfl
          · rw [List.getElem?_set_ne hj]
        · by_cases hj : i = j
          · subst hj
            rw [List.getElem?_set_self (by omega)] at hy
            obtain rfl : (x.1, (⟨a4, x.2.n, c4⟩ : SH)) = y := by simpa using hy
            exact ⟨fun _ => ⟨g5, Row.modS h5 ho2 ap (by simp), hg5⟩, fun h => by omega⟩
          · rw [List.getElem?_set_ne hj] at hy
            obtain ⟨h1, h2⟩ := hx j y hy
            refine ⟨fun h => ?_, fun h => ?_⟩
            · obtain ⟨gx, k1, k2⟩ := h1 (by omega)
              exact ⟨gx, Row.modS (k1.kept hu) ho2 ap (by simp), k2⟩
            · refine ((h2 (by omega)).kept hu).mod ho2 fun b hb h => ?_
              have h3 : b + 1 = g' := h
              have h4 := hF b hb
              unfold fresh at hg'
              omega
      cases hq'
      rw [e0]
      exact hw2
/-- What the loop of Copy leaves as it is. -/
structure CInv (B : Nat) (B1 B2 : World) (e : ED) (f b t : SH) (cs2 : Array Value) (w : World) : Prop where
  fs : ∃ g, Arr enS 9 w f.a f.n f.c e.features g ∧ fresh B g
  bs : ∃ g, Arr enI 2 w b.a b.n b.c e.base g ∧ fresh B g
  b1 : Blk w B1.heap.size (enE e f b t).toArray 46
  b2 : Blk w B2.heap.size cs2 46
theorem CInv.modS {B1 B2 : World} {cs2 : Array Value} (h : CInv B B1 B2 e f b t cs2 w) (hm : Mod S w u) (hS : Apart S w [9, 2, 46]) : CInv B B1 B2 e f b t cs2 u :=
  ⟨let ⟨g, h1, h2⟩ := h.fs; ⟨g, Row.modS h1 hm hS (by simp), h2⟩, let ⟨g, h1, h2⟩ := h.bs; ⟨g, Row.modS h1 hm hS (by simp), h2⟩, h.b1.mod hm (fun hs => hS _ _ _ hs h.b1 (by simp)), h.b2.mod hm (fun hs => hS _ _ _ hs h.b2 (by simp))⟩
theorem CInv.kept {B1 B2 : World} {cs2 : Array Value} (h : CInv B B1 B2 e f b t cs2 w) (hk : Kept w u) : CInv B B1 B2 e f b t cs2 u := h.modS (S := fun _ => False) (Kept.mod hk) (fun _ _ _ h => h.elim)
theorem GoodE.fromB (hE : GoodE F w e f b t) (hF : ∀ b, F b → b < B) (hm : From B w u) : GoodE F u e f b t :=
  ⟨From.ls hE.fs hm hF, From.ls hE.bs hm hF, From.ls hE.ts hm hF, fun b hb => Nat.lt_of_lt_of_le (hE.old b hb) hm.size, hE.fm, hE.bm, hE.tm, hE.good⟩
theorem copy_loop {R : Value → World → Prop} {f' b' : SH} {cs2 : Array Value} {B1 B2 : World} (hne : B1.heap.size ≠ B2.heap.size) (hE : GoodE F w1 e f b t) (hF : ∀ b, F b → b < B) (hc2 : cs2.size = 5) (hB : B ≤ w1.heap.size) (hB1 : B ≤ B1.heap.size) (hB2 : B ≤ B2.heap.size)
    (hend : ∀ u t', From B w1 u → OwnE B u e f' b' t' → t'.n = t.n → R (vE e f' b' t') u) :
    ∀ (k i : Nat) (w : World) (l : List (TD × SH)) (a3 : Option Addr) (c3 g3 : Nat), i + k = t.n → From B w1 w → CInv B B1 B2 e f' b' t cs2 w → ArrK 2 enTH 33 w a3 i c3 l g3 → fresh B g3 → l.map (·.1) = e.trees.take i → (∀ x ∈ l, OwnN B w x.2.a x.2.n x.2.c x.1.nodes) → trees_Copy.l12 R (k + 1) (some (na B1)) (some (na B2)) a3 i c3 t.a t.n t.c t.n i w := by
  have htn := hE.ts.len
  have htm := hE.tm
  intro k
  induction k with
  | zero =>
    intro i w l a3 c3 g3 hi hw hI h5 hg5 hl hx
    unfold trees_Copy.l12 trees_Copy.g12
    refine onDec_f (by omega) ?_
    rw [List.take_of_length_le (by omega)] at hl
    obtain rfl : i = t.n := by omega
    refine optN_mk (hI.b1.wr0 (by simp [enE]) fun u1 hb11 ho1 => ?_)
    have h55 : At5 u1 (na B1) e f' b' ⟨a3, t.n, c3⟩ := .of_blk hb11
    refine optN_mk (h55.ld ?_)
    have hb21 := hI.b2.mod ho1 (fun h => hne (by have h' : B2.heap.size + 1 = B1.heap.size + 1 := h; omega))
    refine optN_mk (hb21.wr (by omega) fun u2 hb22 ho2 => hb22.wr (by simp; omega) fun u3 hb23 ho3 => hb23.wr (by simp; omega) fun u4 hb24 ho4 => hb24.wr (by simp; omega) fun u5 hb25 ho5 => hb25.wr (by simp; omega) fun u6 hb26 ho6 => ?_)
    have h56 : At5 u6 (na B2) e f' b' ⟨a3, t.n, c3⟩ := by
      refine ⟨hb26.rd ?_, hb26.rd ?_, hb26.rd ?_, hb26.rd ?_, hb26.rd ?_⟩ <;> simp [hc2]
    refine optN_mk (h56.ld ?_)
    have hm : Mod (fun k => k = B1.heap.size ∨ k = B2.heap.size) w u6 :=
      ((((((Mod.refl w).trans ho1 (fun _ _ h => h) (fun k _ h => .inl (by omega))).trans ho2 (fun _ _ h => h) (fun k _ h => .inr (by omega))).trans ho3 (fun _ _ h => h) (fun k _ h => .inr (by omega))).trans ho4 (fun _ _ h => h) (fun k _ h => .inr (by omega))).trans ho5 (fun _ _ h => h) (fun k _ h => .inr (by omega))).trans ho6 (fun _ _ h => h) (fun k _ h => .inr (by omega))
    have hap : Apart (fun k => k = B1.heap.size ∨ k = B2.heap.size) w [9, 2, 33, 27, 3] := by
      intro k cs e' hk hb'
      rcases hk with rfl | rfl
      · exact Blk.apartS hI.b1 (es := [9, 2, 33, 27, 3]) (by decide) _ cs e' rfl hb'
      · exact Blk.apartS hI.b2 (es := [9, 2, 33, 27, 3]) (by decide) _ cs e' rfl hb'
    refine hend u6 ⟨a3, t.n, c3⟩ ?_ ?_ rfl
    · exact hw.trans hm (U := fun k => B ≤ k) (fun k _ h => h) (fun k _ h => by show B ≤ k; rcases h with h | h <;> omega)
    · have own : OwnE B w e f' b' ⟨a3, t.n, c3⟩ := ⟨hI.fs, hI.bs, g3, l, h5, hg5, hl.symm, hx⟩
      exact own.modS hm hap
  | succ k ih =>
    intro i w l a3 c3 g3 hi hw hI h5 hg5 hl hx
    unfold trees_Copy.l12 trees_Copy.g12
    refine onDec_t (by omega) ?_
    have hEw := GoodE.fromB hE hF hw
    refine hEw.ts.rdT (by omega) (by omega) fun x a' n' c' hxi hL => ?_
    rw [Int.toNat_natCast] at hxi
    have hGx := Go.Mir.GoodE.at hEw hxi hL
    refine box2Tz fun w2 hb2' hT2 hk2 => ⟨_, _, _, hT2.c1, ?_⟩
    have s1 := hw.size
    have s2 := hk2.size
    refine E.CallsD.mono (cloneN_c (hGx.kept hk2)) fun v w3 ⟨a4, c4, g4, l4, hv, h4, hg4, hl4, hx4, hk3⟩ => ⟨_, _, _, hv, ?_⟩
    have s3 := hk3.size
    have lb := hb2'.lt
    have l4' := h4.le
    have hb3 := hb2'.mod (Kept.mod (S := fun _ => False) hk3) (fun h => h)
    refine hb3.wr0 (by simp) fun w4 hb4 ho4 => ?_
    have hb4' : Blk w4 w.heap.size #[.int .i64 x.output, .slice a4 n' c4] 33 := hb4
    have hk24 : From w.heap.size w w4 := ((Kept.trans hk2 hk3).fr).only ho4 (.inr (by omega))
    have s4 := ho4.size
    have ap4 : Apart (fun k => k + 1 = w.heap.size + 1) w3 [27, 3] := Blk.apartS hb3 (by decide)
    refine ⟨_, _, _, hb4'.rd rfl, ?_⟩
    have hmx := hGx.max
    have hsh := hGx.short
    refine ⟨n' + 1, copy_inner (B := w.heap.size) (F := F) (W0 := w4) (Bp := w) (o := x.output) (g' := g4) hmx hsh (by omega) (fun b hb => by have := hF b hb; omega) hb4' (by unfold fresh at hg4; omega) (fresh_mono hg4 (by omega)) (fun u hu ho => ?_) n' 0 w4 l4 (by omega) (Mod.refl _) (Row.modS h4 ho4 ap4 (by simp)) hl4 fun j y hy => ⟨fun h => by omega, fun _ => (hx4 y (List.mem_of_getElem? hy)).mod ho4 fun b hb h => by have := hF b hb; have h' : b + 1 = w.heap.size + 1 := h; omega⟩⟩
    have hku : Kept w u := by
      have hfr : From w.heap.size w u := hk24.trans hu (U := fun k => w.heap.size ≤ k) (fun _ _ h => h) (fun k _ h => by show w.heap.size ≤ k; unfold fresh at hg4; omega)
      exact From.kept hfr
    have su := hu.size
    have hbu := hb4'.mod hu (fun h => by unfold fresh at hg4; omega)
    unfold trees_Copy.l29 trees_Copy.g29
    refine onDec_f (by omega) ?_
    refine optN_mk ⟨_, hbu.rd rfl, _, _, _, hbu.rd rfl, ?_⟩
    have h5u := h5.kept hku
    refine ArrK.push (k := 2) (en := enTH) S_T (fun _ => rfl) (by omega) h5u (x := (x, ⟨a4, n', c4⟩)) rfl (enTH_one _) (by simp only [maxLen]; omega) (by omega) fun a6 c6 g6 u2 h6 hg6 hg60 ho6 => ⟨_, _, _, rfl, ?_⟩
    refine nv_succ (by omega) ?_
    have ap6 : ∀ {es : List Nat}, 33 ∉ es → Apart (fun k => k + 1 = g3) u es := fun hes => Row.apart h5u hes
    have sk := hku.size
    refine ih (i + 1) u2 (l ++ [(x, ⟨a4, n', c4⟩)]) a6 c6 g6 (by omega) ((hw.keptThen hku).only ho6 hg5) ((hI.kept hku).modS ho6 (ap6 (by decide))) h6 (by unfold fresh at hg5 ⊢; omega) (by rw [List.map_append, hl, take_snoc hxi]; rfl) fun y hy => ?_
    rcases mem_take_snoc hy with h | h
    · exact ((hx y h).kept hku).modS ho6 (ap6 (by decide))
    · subst h
      exact (ho.weak (by omega)).modS ho6 (ap6 (by decide))
theorem Copy_c (hE : GoodE F w e f b t) : E.CallsD Go.Proofs.Try.prog 34 #[vE e f b t] w fun v u => ∃ f' b' t', v = vE e f' b' t' ∧ OwnE w.heap.size u e f' b' t' ∧ Kept w u := by
  refine trees_Copy.calls ?_
  unfold trees_Copy trees_Copy.g0
  refine box5 fun w1 hba h5 hk1 => box5 (e := ⟨⟨#[]⟩, [], 0, [], []⟩) (f := ⟨none, 0, 0⟩) (b := ⟨none, 0, 0⟩) (t := ⟨none, 0, 0⟩) fun w2 hbr _ hk2 => ?_
  have h52 := h5.kept hk2
  have hk12 := Kept.trans hk1 hk2
  have hE2 := hE.kept hk12
  have hfm := hE.fm
  have hbm := hE.bm
  have htm := hE.tm
  have s1 := hk1.size
  have s2 := hk2.size
  have la := hba.lt
  have lr := hbr.lt
  refine ⟨_, _, _, h52.c1, ?_⟩
  refine E.CallsD.mono (cloneS_c hE2.fs.sl hfm) fun v w3 ⟨a6, c6, hv, hn6⟩ => ⟨_, _, _, hv, ?_⟩
  obtain ⟨g6, h6, hg6⟩ := Go.Mir.NewA.own hn6
  have hk3 := hn6.kept
  have s3 := hk3.size
  have hba3 := hba.mod (Kept.mod (S := fun _ => False) (Kept.trans hk2 hk3)) (fun h => h)
  refine hba3.wr0 (by simp [enE]) fun w4 hba4 ho4 => ?_
  have hba4' : Blk w4 w.heap.size (enE e ⟨a6, f.n, c6⟩ b t).toArray 46 := hba4
  have f4 : From w.heap.size w w4 := ((Kept.trans hk12 hk3).fr).only ho4 (.inr (by omega))
  have h54 : At5 w4 (na w) e ⟨a6, f.n, c6⟩ b t := .of_blk hba4'
  have hE4 := hE.kept (From.kept f4)
  refine ⟨_, _, _, h54.c3, ?_⟩
  refine E.CallsD.mono (cloneI64_c hE4.bs.sl hbm) fun v w5 ⟨a7, n7, c7, hv, hn7, _⟩ => ⟨_, _, _, hv, ?_⟩
  have hn7l : n7 = b.n := by rw [hn7.len]; exact hE.bs.len.symm
  subst hn7l
  obtain ⟨g7, h7, hg7⟩ := Go.Mir.NewA.own hn7
  have hk5 := hn7.kept
  have s4 := ho4.size
  have s5 := hk5.size
  have hba5 := hba4'.mod (Kept.mod (S := fun _ => False) hk5) (fun h => h)
  refine hba5.wr0 (by simp [enE]) fun w6 hba6 ho6 => ?_
  have hba6' : Blk w6 w.heap.size (enE e ⟨a6, f.n, c6⟩ ⟨a7, b.n, c7⟩ t).toArray 46 := hba6
  have f6 : From w.heap.size w w6 := (f4.keptThen hk5).only ho6 (.inr (by omega))
  have h56 : At5 w6 (na w) e ⟨a6, f.n, c6⟩ ⟨a7, b.n, c7⟩ t := .of_blk hba6'
  have s6 := ho6.size
  refine ⟨_, _, _, h56.c4, ?_⟩
  refine ArrK.make0 (k := 2) (en := enTH) rfl (by omega) (by omega) (by omega) fun w7 h8 hk7 => ?_
  have h57 := h56.kept hk7
  have s7 := hk7.size
  refine ⟨_, _, _, h57.c4, ?_⟩
  have e1 : ((t.n : Int)).toNat = t.n := by omega
  rw [e1] at h8 ⊢
  have f7 := f6.keptThen hk7
  have hE7 := hE.kept (From.kept f7)
  have apE : ∀ {u0 : World} {cs : Array Value}, Blk u0 w.heap.size cs 46 → Apart (fun k => k + 1 = w.heap.size + 1) u0 [9, 2] := fun h => Blk.apartS h (by decide)
  have h67 := (Row.modS ((Row.modS h6 ho4 (apE hba3) (by simp)).kept hk5) ho6 (apE hba5) (by simp)).kept hk7
  have h77 := (Row.modS h7 ho6 (apE hba5) (by simp)).kept hk7
  have hbr7 : Blk w7 w1.heap.size _ 46 := ((((hbr.mod (Kept.mod (S := fun _ => False) hk3) (fun h => h)).mod ho4 (fun h => by have h' : w1.heap.size + 1 = w.heap.size + 1 := h; omega)).mod (Kept.mod (S := fun _ => False) hk5) (fun h => h)).mod ho6 (fun h => by have h' : w1.heap.size + 1 = w.heap.size + 1 := h; omega)).mod (Kept.mod (S := fun _ => False) hk7) (fun h => h)
  refine ⟨t.n + 1, copy_loop (w1 := w7) (B := w.heap.size) (B1 := w) (B2 := w1) (f' := ⟨a6, f.n, c6⟩) (b' := ⟨a7, b.n, c7⟩) (cs2 := (enE ⟨⟨#[]⟩, [], 0, [], []⟩ ⟨none, 0, 0⟩ ⟨none, 0, 0⟩ ⟨none, 0, 0⟩).toArray) (by omega) hE7 hE.old (by simp [enE]) (by omega) (Nat.le_refl _) s1 (fun u t' hu ho hn => ⟨_, _, _, rfl, ho, ?_⟩) t.n 0 w7 [] (some (na w6)) t.n (w6.heap.size + 1) (by omega) (Mod.refl _) ⟨⟨g6, h67, fresh_mono hg6 (by omega)⟩, ⟨g7, h77, fresh_mono hg7 (by omega)⟩, hba6'.mod (Kept.mod (S := fun _ => False) hk7) (fun h => h), hbr7⟩ h8 (.inr (by omega)) (by simp) (fun x hx => by cases hx)⟩
  exact From.kept (f7.trans hu (U := fun k => w.heap.size ≤ k) (fun _ _ h => h) (fun _ _ h => h))
end
end Go.Mir

set_option maxRecDepth 100000
namespace Go.Mir
open Go Go.E Go.RowKit Go.Tr
section
variable {w u w1 : World} {p : Addr} {o o1 : Int} {a a1 b1 : Option Addr} {n c n1 c1 m d g B B' : Nat} {F F' S : Nat → Prop} {nodes nodes' : List ND} {xs ys : List Int} {ss rs : List ByteArray} {ts ts' : List TD} {e e' : ED} {f b t f' b' t' : SH} {x y : ND}
theorem ne_of_get {α : Type} {l r : List α} {i : Nat} {x y : α} (hx : l[i]? = some x) (hy : r[i]? = some y) (h : x ≠ y) : l ≠ r := fun e => by subst e; rw [hx] at hy; exact h (by simpa using hy)
theorem eqi_loop {R : Value → World → Prop} (hn : n = xs.length) (hm : n ≤ 16777216) (he : xs.length = ys.length) (hs : Sl enI w a n xs) (ht : Sl enI w a1 m ys) (hR : R (.bool (decB (xs = ys))) w) : ∀ (k i : Nat), i + k = n → xs.take i = ys.take i → slices_Equal_int.l14 R (k + 1) a n c a1 m d n i w
  | 0, i, hi, hp => by
    unfold slices_Equal_int.l14 slices_Equal_int.g14
    refine onDec_f (by omega) ?_
    rw [List.take_of_length_le (by omega), List.take_of_length_le (by omega)] at hp
    rw [decB_t hp] at hR
    exact hR
  | k + 1, i, hi, hp => by
    unfold slices_Equal_int.l14 slices_Equal_int.g14
    refine onDec_t (by omega) ?_
    have hml := ht.len
    refine hs.rdI (k := .i64) (by omega) (by omega) fun x hx => ?_
    refine ht.rdI (k := .i64) (by omega) (by omega) fun y hy => ?_
    rw [Int.toNat_natCast] at hx hy
    refine onNe (fun h => ?_) fun h => ?_
    · rw [decB_f (ne_of_get hx hy h)] at hR
      exact hR
    · subst h
      refine nv_succ (by omega) ?_
      exact eqi_loop hn hm he hs ht hR k (i + 1) (by omega) (by rw [take_snoc hx, take_snoc hy, hp])
theorem EqualI_c (hs : Sl enI w a n xs) (ht : Sl enI w a1 m ys) (hm : n ≤ 16777216) : Pure Go.Proofs.Try.prog 64 #[.slice a n c, .slice a1 m d] w (.bool (decB (xs = ys))) := by
  refine slices_Equal_int.calls (R := fun v' u => v' = _ ∧ Below w.heap.size w u) ?_
  unfold slices_Equal_int slices_Equal_int.g0
  have hl := hs.len
  have hl2 := ht.len
  refine onNe (fun h => ⟨by rw [decB_f]; intro e; subst e; omega, Below.refl _ _⟩) fun h => ?_
  exact ⟨n + 1, eqi_loop hl hm (by omega) hs ht ⟨rfl, Below.refl _ _⟩ n 0 (by omega) rfl⟩
theorem eqj_loop {R : Value → World → Prop} (hn : n = xs.length) (hm : n ≤ 16777216) (he : xs.length = ys.length) (hs : Sl enI w a n xs) (ht : Sl enI w a1 m ys) (hR : R (.bool (decB (xs = ys))) w) : ∀ (k i : Nat), i + k = n → xs.take i = ys.take i → slices_Equal_i64.l14 R (k + 1) a n c a1 m d n i w
  | 0, i, hi, hp => by
    unfold slices_Equal_i64.l14 slices_Equal_i64.g14
    refine onDec_f (by omega) ?_
    rw [List.take_of_length_le (by omega), List.take_of_length_le (by omega)] at hp
    rw [decB_t hp] at hR
    exact hR
  | k + 1, i, hi, hp => by
    unfold slices_Equal_i64.l14 slices_Equal_i64.g14
    refine onDec_t (by omega) ?_
    have hml := ht.len
    refine hs.rdI (k := .i64) (by omega) (by omega) fun x hx => ?_
    refine ht.rdI (k := .i64) (by omega) (by omega) fun y hy => ?_
    rw [Int.toNat_natCast] at hx hy
    refine onNe (fun h => ?_) fun h => ?_
    · rw [decB_f (ne_of_get hx hy h)] at hR
      exact hR
    · subst h
      refine nv_succ (by omega) ?_
      exact eqj_loop hn hm he hs ht hR k (i + 1) (by omega) (by rw [take_snoc hx, take_snoc hy, hp])
theorem EqualJ_c (hs : Sl enI w a n xs) (ht : Sl enI w a1 m ys) (hm : n ≤ 16777216) : Pure Go.Proofs.Try.prog 66 #[.slice a n c, .slice a1 m d] w (.bool (decB (xs = ys))) := by
  refine slices_Equal_i64.calls (R := fun v' u => v' = _ ∧ Below w.heap.size w u) ?_
  unfold slices_Equal_i64 slices_Equal_i64.g0
  have hl := hs.len
  have hl2 := ht.len
  refine onNe (fun h => ⟨by rw [decB_f]; intro e; subst e; omega, Below.refl _ _⟩) fun h => ?_
  exact ⟨n + 1, eqj_loop hl hm (by omega) hs ht ⟨rfl, Below.refl _ _⟩ n 0 (by omega) rfl⟩
theorem rdS (h : Sl enS w a n ss) {i : Int} {K : ByteArray → Prop} (h0 : 0 ≤ i) (hi : i < n) (hk : ∀ x, ss[i.toNat]? = some x → K x) :
    optN a fun q => chk (0 ≤ i ∧ i < (n : Int)) (∃ y : ByteArray, w.cell? (q.add (i.toNat * 1)) = some (.string y) ∧ K y) := h.rd (f := fun y => .string y) (sel := fun x => x) (fun _ => rfl) h0 hi hk
theorem onStr {s r : ByteArray} {t f : Prop} (ht : s = r → t) (hf : s ≠ r → f) : onBool (s.toList == r.toList) t f := by
  rw [str_eq]
  by_cases h : s = r
  · rw [decB_t h]; exact ht h
  · rw [decB_f h]; exact hf h
theorem onStrN {s r : ByteArray} {t f : Prop} (ht : s ≠ r → t) (hf : s = r → f) : onBool (!(s.toList == r.toList)) t f := by
  rw [str_eq]
  by_cases h : s = r
  · rw [decB_t h]; exact hf h
  · rw [decB_f h]; exact ht h
theorem eqs_loop {R : Value → World → Prop} (hn : n = ss.length) (hm : n ≤ 16777216) (he : ss.length = rs.length) (hs : Sl enS w a n ss) (ht : Sl enS w a1 m rs) (hR : R (.bool (decB (ss = rs))) w) : ∀ (k i : Nat), i + k = n → ss.take i = rs.take i → slices_Equal_str.l14 R (k + 1) a n c a1 m d n i w
  | 0, i, hi, hp => by
    unfold slices_Equal_str.l14 slices_Equal_str.g14
    refine onDec_f (by omega) ?_
    rw [List.take_of_length_le (by omega), List.take_of_length_le (by omega)] at hp
    rw [decB_t hp] at hR
    exact hR
  | k + 1, i, hi, hp => by
    unfold slices_Equal_str.l14 slices_Equal_str.g14
    refine onDec_t (by omega) ?_
    have hml := ht.len
    refine rdS hs (by omega) (by omega) fun x hx => ?_
    refine rdS ht (by omega) (by omega) fun y hy => ?_
    rw [Int.toNat_natCast] at hx hy
    refine onStrN (fun h => ?_) fun h => ?_
    · rw [decB_f (ne_of_get hx hy h)] at hR
      exact hR
    · subst h
      refine nv_succ (by omega) ?_
      exact eqs_loop hn hm he hs ht hR k (i + 1) (by omega) (by rw [take_snoc hx, take_snoc hy, hp])
theorem EqualS_c (hs : Sl enS w a n ss) (ht : Sl enS w a1 m rs) (hm : n ≤ 16777216) : Pure Go.Proofs.Try.prog 65 #[.slice a n c, .slice a1 m d] w (.bool (decB (ss = rs))) := by
  refine slices_Equal_str.calls (R := fun v' u => v' = _ ∧ Below w.heap.size w u) ?_
  unfold slices_Equal_str slices_Equal_str.g0
  have hl := hs.len
  have hl2 := ht.len
  refine onNe (fun h => ⟨by rw [decB_f]; intro e; subst e; omega, Below.refl _ _⟩) fun h => ?_
  exact ⟨n + 1, eqs_loop hl hm (by omega) hs ht ⟨rfl, Below.refl _ _⟩ n 0 (by omega) rfl⟩

/-! ### nodes -/
theorem ND_eq (h0 : x.kind = y.kind) (h1 : x.value = y.value) (h2 : x.feature = y.feature) (h3 : x.thr = y.thr) (h4 : x.cats = y.cats) (h5 : x.missing = y.missing) (h6 : x.left = y.left) (h7 : x.right = y.right) : x = y := by
  cases x; cases y; simp_all
theorem alike1_c (hs : Sl enI w a n x.cats) (ht : Sl enI w a1 m y.cats) (hm : n ≤ 16777216) : Pure Go.Proofs.Try.prog 62 #[vN x a n c, vN y a1 m d] w (.bool (decB (x = y))) := by
  refine trees_Alike_1.calls (R := fun v' u => v' = _ ∧ Below w.heap.size w u) ?_
  unfold trees_Alike_1 trees_Alike_1.g0
  refine box8 fun w1 _ hx1 hk1 => box8 fun w2 _ hy hk2 => ?_
  have hx := hx1.kept hk2
  have hk := Kept.trans hk1 hk2
  have no : x ≠ y → ∀ u, Below w2.heap.size w2 u → (Value.bool false = .bool (decB (x = y)) ∧ Below w.heap.size w u) := fun h u hu => ⟨by rw [decB_f h], Kept.trans hk hu⟩
  refine ⟨_, hx.c0, _, hy.c0, onEq (fun e0 => ?_) fun e0 => no fun h => e0 (by rw [h])⟩
  refine ⟨_, hx.c1, _, hy.c1, onEq (fun e1 => ?_) fun e0 => no fun h => e0 (by rw [h])⟩
  refine ⟨_, hx.c2, _, hy.c2, onEq (fun e2 => ?_) fun e0 => no fun h => e0 (by rw [h])⟩
  refine ⟨_, hx.c3, _, fb _ _, _, hy.c3, _, fb _ _, onEq (fun e3 => ?_) fun e0 => no fun h => e0 (by rw [h])⟩
  refine ⟨_, _, _, hx.c4, _, _, _, hy.c4, decB (x.cats = y.cats), fun u hu => pq (EqualI_c (hs.keep (Kept.trans hk hu)) (ht.keep (Kept.trans hk hu)) hm) hu, ?_⟩
  refine (onBool_iff _ _ _).2 ⟨fun e4 => ?_, fun e4 => no fun h => by rw [decB_t (by rw [h])] at e4; cases e4⟩
  refine ⟨_, hx.c5, _, hy.c5, onEq (fun e5 => ?_) fun e0 => no fun h => e0 (by rw [h])⟩
  refine ⟨_, hx.c6, _, hy.c6, onEq (fun e6 => ?_) fun e0 => no fun h => e0 (by rw [h])⟩
  refine ⟨_, hx.c7, _, hy.c7, fun u hu => ⟨?_, Kept.trans hk hu⟩⟩
  have h4 : x.cats = y.cats := Classical.byContradiction fun h => by rw [decB_f h] at e4; cases e4
  by_cases e7 : x.right = y.right
  · rw [decB_t (ND_eq e0 e1 e2 (by omega) h4 e5 e6 e7), e7]; simp
  · rw [decB_f (fun h => e7 (by rw [h]))]; simp [e7]
theorem eqn_loop {R : Value → World → Prop} (hG : Good F w1 a n c nodes) (hG' : Good F' w1 a1 m d nodes') (he : n = m) (hR : ∀ u, From w1.heap.size w1 u → R (.bool (decB (nodes = nodes'))) u) : ∀ (k i : Nat) (w : World), i + k = n → From w1.heap.size w1 w → nodes.take i = nodes'.take i → Equal_node.l14 R (k + 1) a1 m d a n c n i w
  | 0, i, w, hi, hw, hp => by
    have hn := hG.len
    have hn' := hG'.len
    unfold Equal_node.l14 Equal_node.g14
    refine onDec_f (by omega) ?_
    rw [List.take_of_length_le (by omega), List.take_of_length_le (by omega)] at hp
    have := hR w hw
    rw [decB_t hp] at this
    exact this
  | k + 1, i, w, hi, hw, hp => by
    have hn := hG.len
    have hn' := hG'.len
    have hmx := hG.max
    unfold Equal_node.l14 Equal_node.g14
    refine onDec_t (by omega) ?_
    refine (hG.from hw).ls.rdN (by omega) (by omega) fun x a5 n5 c5 hx hcs => ?_
    rw [Int.toNat_natCast] at hx
    refine box8z fun u _ hb hk => ?_
    have hu := hw.keptThen hk
    refine (hG'.from hu).ls.rdN (by omega) (by omega) fun y a6 n6 c6 hy hcs' => ?_
    rw [Int.toNat_natCast] at hy
    refine box8z fun u2 _ hb2 hk2 => ?_
    have hb' := hb.kept hk2
    refine hb'.ld (hb2.ld ?_)
    have hs5 := hG.short x (List.mem_of_getElem? hx)
    have hl5 := hcs.len
    refine E.CallsD.mono (alike1_c (x := x) (y := y) (hcs.kept (Kept.trans hk hk2)).sl (hcs'.kept hk2).sl (by omega)) fun v u3 ⟨hv, hk3⟩ => ⟨_, hv, ?_⟩
    have hu3 := (hu.keptThen hk2).keptThen hk3
    by_cases h : x = y
    · rw [decB_t h]
      subst h
      refine ob_f ?_
      refine nv_succ (by omega) ?_
      exact eqn_loop hG hG' he hR k (i + 1) u3 (by omega) hu3 (by rw [take_snoc hx, take_snoc hy, hp])
    · rw [decB_f h]
      refine ob_t ?_
      have := hR u3 hu3
      rw [decB_f (ne_of_get hx hy h)] at this
      exact this
theorem EqualN_c (hG : Good F w a n c nodes) (hG' : Good F' w a1 m d nodes') : Pure Go.Proofs.Try.prog 61 #[.slice a n c, .slice a1 m d, .func (.func 62) #[] #[]] w (.bool (decB (nodes = nodes'))) := by
  refine Equal_node.calls (R := fun v' u => v' = _ ∧ Below w.heap.size w u) ?_
  unfold Equal_node Equal_node.g0
  have hl := hG.len
  have hl2 := hG'.len
  refine onNe (fun h => ⟨by rw [decB_f]; intro e; subst e; omega, Below.refl _ _⟩) fun h => ?_
  exact ⟨n + 1, eqn_loop hG hG' (by omega) (fun u hu => ⟨rfl, From.kept hu⟩) n 0 w (by omega) (From.refl _ _) rfl⟩
theorem Alike_c (hG : Good F w a n c nodes) (hG' : Good F' w a1 m d nodes') : Pure Go.Proofs.Try.prog 38 #[vT o a n c, vT o1 a1 m d] w (.bool (decB (o = o1 ∧ nodes = nodes'))) := by
  refine trees_Alike.calls (R := fun v' u => v' = _ ∧ Below w.heap.size w u) ?_
  unfold trees_Alike trees_Alike.g0
  refine box2T fun w1 _ hT1 hk1 => box2T fun w2 _ hT2 hk2 => ?_
  have hT := hT1.kept hk2
  have hk := Kept.trans hk1 hk2
  refine ⟨_, hT.c0, _, hT2.c0, onEq (fun e0 => ?_) fun e0 => ⟨by rw [decB_f (fun h => e0 h.1)], hk⟩⟩
  refine ⟨_, _, _, hT.c1, _, _, _, hT2.c1, ?_⟩
  refine E.CallsD.mono (EqualN_c (hG.kept hk) (hG'.kept hk)) fun v u ⟨hv, hk3⟩ => ⟨_, hv, ?_, Kept.trans hk hk3⟩
  rw [decB_eq (p := nodes = nodes') (q := o = o1 ∧ nodes = nodes') ⟨fun h => ⟨e0, h⟩, fun h => h.2⟩]
theorem refalike_loop {R : Value → World → Prop} (hG : Good F w1 a n c nodes) (hG' : Good F' w1 a1 m d nodes') (hT : At2 w1 p o1 a1 m d) (he : n = m) (hR : ∀ u, From w1.heap.size w1 u → R (.bool (decB (nodes = nodes'))) u) : ∀ (k i : Nat) (w : World), i + k = n → From w1.heap.size w1 w → nodes.take i = nodes'.take i → thicketref07_Alike.l14 R (k + 1) (some p) a n c n i w
  | 0, i, w, hi, hw, hp => by
    have hn := hG.len
    have hn' := hG'.len
    unfold thicketref07_Alike.l14 thicketref07_Alike.g14
    refine onDec_f (by omega) ?_
    rw [List.take_of_length_le (by omega), List.take_of_length_le (by omega)] at hp
    have := hR w hw
    rw [decB_t hp] at this
    exact this
  | k + 1, i, w, hi, hw, hp => by
    have hn := hG.len
    have hn' := hG'.len
    have hmx := hG.max
    unfold thicketref07_Alike.l14 thicketref07_Alike.g14
    refine onDec_t (by omega) ?_
    refine (hG.from hw).ls.rdN (by omega) (by omega) fun x a5 n5 c5 hx hcs => ?_
    rw [Int.toNat_natCast] at hx
    refine box8z fun u _ hb hk => ?_
    have hu := hw.keptThen hk
    refine optN_mk ⟨_, _, _, (hT.from hu).c1, ?_⟩
    refine (hG'.from hu).ls.rdN (by omega) (by omega) fun y a6 n6 c6 hy hcs' => ?_
    rw [Int.toNat_natCast] at hy
    refine box8z fun u2 _ hb2 hk2 => ?_
    have hb' := hb.kept hk2
    have hs5 := hG.short x (List.mem_of_getElem? hx)
    have hl5 := hcs.len
    have hu2 := hu.keptThen hk2
    have no : x ≠ y → ∀ u, Below u2.heap.size u2 u → R (.bool false) u := fun h u hu => by
      have := hR u (hu2.keptThen hu)
      rw [decB_f (ne_of_get hx hy h)] at this
      exact this
    refine ⟨_, hb'.c0, _, hb2.c0, onNe (fun e0 => no fun h => e0 (by rw [h])) fun e0 => ?_⟩
    refine ⟨_, hb'.c1, _, hb2.c1, onNe (fun e0 => no fun h => e0 (by rw [h])) fun e1 => ?_⟩
    refine ⟨_, hb'.c2, _, hb2.c2, onNe (fun e0 => no fun h => e0 (by rw [h])) fun e2 => ?_⟩
    refine ⟨_, hb'.c3, _, fb _ _, _, hb2.c3, _, fb _ _, onNe (fun e0 => no fun h => e0 (by rw [h])) fun e3 => ?_⟩
    refine ⟨_, _, _, hb'.c4, _, _, _, hb2.c4, decide (x.cats = y.cats), fun u hu => pq (Ints_c (hcs.kept (Kept.trans hk (Kept.trans hk2 hu))).sl (hcs'.kept (Kept.trans hk2 hu)).sl (by omega)) hu, ?_⟩
    by_cases e4 : x.cats = y.cats
    · rw [decide_eq_true e4]
      refine ob_f ?_
      refine ⟨_, hb'.c5, _, hb2.c5, onNe (fun e0 => no fun h => e0 (by rw [h])) fun e5 => ?_⟩
      refine ⟨_, hb'.c6, _, hb2.c6, onNe (fun e0 => no fun h => e0 (by rw [h])) fun e6 => ?_⟩
      refine ⟨_, hb'.c7, _, hb2.c7, fun u3 hu3 => onNe (fun e0 => no (fun h => e0 (by rw [h])) u3 hu3) fun e7 => ?_⟩
      have h := ND_eq e0 e1 e2 (by omega) e4 e5 e6 e7
      subst h
      refine nv_succ (by omega) ?_
      exact refalike_loop hG hG' hT he hR k (i + 1) u3 (by omega) (hu2.keptThen hu3) (by rw [take_snoc hx, take_snoc hy, hp])
    · rw [decide_eq_false e4]
      exact ob_t (no fun h => e4 (by rw [h]))
theorem refAlike_c (hG : Good F w a n c nodes) (hG' : Good F' w a1 m d nodes') : Pure Go.Proofs.Try.prog 42 #[vT o a n c, vT o1 a1 m d] w (.bool (decB (o = o1 ∧ nodes = nodes'))) := by
  refine thicketref07_Alike.calls (R := fun v' u => v' = _ ∧ Below w.heap.size w u) ?_
  unfold thicketref07_Alike thicketref07_Alike.g0
  refine box2T fun w1 _ hT1 hk1 => box2T fun w2 _ hT2 hk2 => ?_
  have hT := hT1.kept hk2
  have hk := Kept.trans hk1 hk2
  have hl := hG.len
  have hl2 := hG'.len
  refine ⟨_, hT.c0, _, hT2.c0, onNe (fun e0 => ⟨by rw [decB_f (fun h => e0 h.1)], hk⟩) fun e0 => ?_⟩
  refine ⟨_, _, _, hT.c1, _, _, _, hT2.c1, onNe (fun e1 => ⟨by rw [decB_f (fun h => e1 (by rw [hl, hl2, h.2]))], hk⟩) fun e1 => ⟨_, _, _, hT.c1, ?_⟩⟩
  exact ⟨n + 1, refalike_loop (w1 := w2) (hG.kept hk) (hG'.kept hk) hT2 (by omega) (fun u hu => ⟨by rw [decB_eq (p := nodes = nodes') (q := o = o1 ∧ nodes = nodes') ⟨fun h => ⟨e0, h⟩, fun h => h.2⟩], Kept.trans hk (From.kept hu)⟩) n 0 w2 (by omega) (From.refl _ _) rfl⟩
end
end Go.Mir

set_option maxRecDepth 100000
namespace Go.Mir
open Go Go.E Go.RowKit Go.Tr
section
variable {w u w1 : World} {p q : Addr} {o o1 : Int} {a a1 b1 : Option Addr} {n c n1 c1 m d g B B' : Nat} {F F' S : Nat → Prop} {nodes nodes' : List ND} {ts ts' : List TD} {e e' : ED} {f b t f' b' t' : SH} {x y : TD}
theorem TD_iff : x = y ↔ (x.output = y.output ∧ x.nodes = y.nodes) := by
  constructor
  · intro h; rw [h]; exact ⟨rfl, rfl⟩
  · intro h; cases x; cases y; simp_all
theorem ED_eq (h0 : e.name = e'.name) (h1 : e.features = e'.features) (h2 : e.outputs = e'.outputs) (h3 : e.base = e'.base) (h4 : e.trees = e'.trees) : e = e' := by
  cases e; cases e'; simp_all
theorem eqt_loop {R : Value → World → Prop} (hE : GoodE F w1 e f b t) (hE' : GoodE F' w1 e' f' b' t') (he : t.n = t'.n) (hR : ∀ u, From w1.heap.size w1 u → R (.bool (decB (e.trees = e'.trees))) u) : ∀ (k i : Nat) (w : World), i + k = t.n → From w1.heap.size w1 w → e.trees.take i = e'.trees.take i → Equal_tree.l14 R (k + 1) t'.a t'.n t'.c t.a t.n t.c t.n i w
  | 0, i, w, hi, hw, hp => by
    have hn := hE.ts.len
    have hn' := hE'.ts.len
    unfold Equal_tree.l14 Equal_tree.g14
    refine onDec_f (by omega) ?_
    rw [List.take_of_length_le (by omega), List.take_of_length_le (by omega)] at hp
    have := hR w hw
    rw [decB_t hp] at this
    exact this
  | k + 1, i, w, hi, hw, hp => by
    have hn := hE.ts.len
    have hn' := hE'.ts.len
    have hmx := hE.tm
    unfold Equal_tree.l14 Equal_tree.g14
    refine onDec_t (by omega) ?_
    have hEw := hE.from hw
    refine hEw.ts.rdT (by omega) (by omega) fun x a5 n5 c5 hx hL => ?_
    rw [Int.toNat_natCast] at hx
    have hGx := Go.Mir.GoodE.at hEw hx hL
    refine box2Tz fun u _ hb hk => ?_
    have hu := hw.keptThen hk
    have hEu := hE'.from hu
    refine hEu.ts.rdT (by omega) (by omega) fun y a6 n6 c6 hy hL' => ?_
    rw [Int.toNat_natCast] at hy
    have hGy := Go.Mir.GoodE.at hEu hy hL'
    refine box2Tz fun u2 _ hb2 hk2 => ?_
    have hb' := hb.kept hk2
    refine ⟨_, hb'.c0, _, _, _, hb'.c1, _, hb2.c0, _, _, _, hb2.c1, ?_⟩
    refine E.CallsD.mono (Alike_c (o := x.output) (o1 := y.output) (hGx.kept (Kept.trans hk hk2)) (hGy.kept hk2)) fun v u3 ⟨hv, hk3⟩ => ⟨_, hv, ?_⟩
    have hu3 := (hu.keptThen hk2).keptThen hk3
    rw [decB_eq TD_iff.symm]
    by_cases h : x = y
    · rw [decB_t h]
      subst h
      refine ob_f ?_
      refine nv_succ (by omega) ?_
      exact eqt_loop hE hE' he hR k (i + 1) u3 (by omega) hu3 (by rw [take_snoc hx, take_snoc hy, hp])
    · rw [decB_f h]
      refine ob_t ?_
      have := hR u3 hu3
      rw [decB_f (ne_of_get hx hy h)] at this
      exact this
theorem EqualT_c (hE : GoodE F w e f b t) (hE' : GoodE F' w e' f' b' t') : Pure Go.Proofs.Try.prog 67 #[.slice t.a t.n t.c, .slice t'.a t'.n t'.c, .func (.func 38) #[] #[]] w (.bool (decB (e.trees = e'.trees))) := by
  refine Equal_tree.calls (R := fun v' u => v' = _ ∧ Below w.heap.size w u) ?_
  unfold Equal_tree Equal_tree.g0
  have hl := hE.ts.len
  have hl2 := hE'.ts.len
  refine onNe (fun h => ⟨by rw [decB_f]; intro h'; rw [h'] at hl; omega, Below.refl _ _⟩) fun h => ?_
  exact ⟨t.n + 1, eqt_loop hE hE' (by omega) (fun u hu => ⟨rfl, From.kept hu⟩) t.n 0 w (by omega) (From.refl _ _) rfl⟩
theorem Same_c (hE : GoodE F w e f b t) (hE' : GoodE F' w e' f' b' t') : Pure Go.Proofs.Try.prog 40 #[vE e f b t, vE e' f' b' t'] w (.bool (decB (e = e'))) := by
  refine trees_Same.calls (R := fun v' u => v' = _ ∧ Below w.heap.size w u) ?_
  unfold trees_Same trees_Same.g0
  refine box5 fun w1 _ h51 hk1 => box5 fun w2 _ h52 hk2 => ?_
  have h5 := h51.kept hk2
  have hk := Kept.trans hk1 hk2
  have no : ∀ u, e ≠ e' → Kept w u → (Value.bool false = .bool (decB (e = e')) ∧ Below w.heap.size w u) := fun u h hu => ⟨by rw [decB_f h], hu⟩
  refine ⟨_, h5.c0, _, h52.c0, onStr (fun e0 => ?_) fun e0 => no _ (fun h => e0 (by rw [h])) hk⟩
  refine ⟨_, _, _, h5.c1, _, _, _, h52.c1, ?_⟩
  have hE2 := hE.kept hk
  have hE2' := hE'.kept hk
  have hfm := hE.fm
  refine E.CallsD.mono (EqualS_c hE2.fs.sl hE2'.fs.sl (by omega)) fun v w3 ⟨hv, hk3⟩ => ⟨_, hv, ?_⟩
  have k3 := Kept.trans hk hk3
  refine (onBool_iff _ _ _).2 ⟨fun e1 => ?_, fun e1 => no _ (fun h => by rw [decB_t (by rw [h])] at e1; cases e1) k3⟩
  have e1' : e.features = e'.features := Classical.byContradiction fun h => by rw [decB_f h] at e1; cases e1
  have h53 := h5.kept hk3
  have h53' := h52.kept hk3
  refine ⟨_, h53.c2, _, h53'.c2, onEq (fun e2 => ?_) fun e0 => no _ (fun h => e0 (by rw [h])) k3⟩
  refine ⟨_, _, _, h53.c3, _, _, _, h53'.c3, ?_⟩
  have hbm := hE.bm
  refine E.CallsD.mono (EqualJ_c (hE.kept k3).bs.sl (hE'.kept k3).bs.sl (by omega)) fun v w4 ⟨hv, hk4⟩ => ⟨_, hv, ?_⟩
  have k4 := Kept.trans k3 hk4
  refine (onBool_iff _ _ _).2 ⟨fun e3 => ?_, fun e1 => no _ (fun h => by rw [decB_t (by rw [h])] at e1; cases e1) k4⟩
  have e3' : e.base = e'.base := Classical.byContradiction fun h => by rw [decB_f h] at e3; cases e3
  have h54 := h53.kept hk4
  have h54' := h53'.kept hk4
  refine ⟨_, _, _, h54.c4, _, _, _, h54'.c4, ?_⟩
  refine E.CallsD.mono (EqualT_c (hE.kept k4) (hE'.kept k4)) fun v w5 ⟨hv, hk5⟩ => ⟨_, hv, ?_, Kept.trans k4 hk5⟩
  rw [decB_eq (p := e.trees = e'.trees) (q := e = e') ⟨fun h => ED_eq e0 e1' e2 e3' h, fun h => by rw [h]⟩]
/-! ### the document's Same -/
theorem refsame_l3 {R : Value → World → Prop} (hE : GoodE F w1 e f b t) (hE' : GoodE F' w1 e' f' b' t') (h5 : At5 w1 p e f b t) (h5' : At5 w1 q e' f' b' t') (he : t.n = t'.n) (hR : ∀ u, From w1.heap.size w1 u → R (.bool (decB (e.trees = e'.trees))) u) : ∀ (k i : Nat) (w : World), i + k = t.n → From w1.heap.size w1 w → e.trees.take i = e'.trees.take i → thicketref07_Same.l60 R (k + 1) (some p) (some q) t.n i w
  | 0, i, w, hi, hw, hp => by
    have hn := hE.ts.len
    have hn' := hE'.ts.len
    unfold thicketref07_Same.l60 thicketref07_Same.g60
    refine onDec_f (by omega) ?_
    rw [List.take_of_length_le (by omega), List.take_of_length_le (by omega)] at hp
    have := hR w hw
    rw [decB_t hp] at this
    exact this
  | k + 1, i, w, hi, hw, hp => by
    have hn := hE.ts.len
    have hn' := hE'.ts.len
    have hmx := hE.tm
    unfold thicketref07_Same.l60 thicketref07_Same.g60
    refine onDec_t (by omega) ?_
    have hEw := hE.from hw
    have hEw' := hE'.from hw
    refine optN_mk ⟨_, _, _, (h5.from hw).c4, ?_⟩
    refine hEw.ts.rdT (by omega) (by omega) fun x a5 n5 c5 hx hL => ?_
    rw [Int.toNat_natCast] at hx
    refine optN_mk ⟨_, _, _, (h5'.from hw).c4, ?_⟩
    refine hEw'.ts.rdT (by omega) (by omega) fun y a6 n6 c6 hy hL' => ?_
    rw [Int.toNat_natCast] at hy
    refine E.CallsD.mono (refAlike_c (o := x.output) (o1 := y.output) (Go.Mir.GoodE.at hEw hx hL) (Go.Mir.GoodE.at hEw' hy hL')) fun v u3 ⟨hv, hk3⟩ => ⟨_, hv, ?_⟩
    have hu3 := hw.keptThen hk3
    rw [decB_eq TD_iff.symm]
    by_cases h : x = y
    · rw [decB_t h]
      subst h
      refine ob_f ?_
      refine nv_succ (by omega) ?_
      exact refsame_l3 hE hE' h5 h5' he hR k (i + 1) u3 (by omega) hu3 (by rw [take_snoc hx, take_snoc hy, hp])
    · rw [decB_f h]
      refine ob_t ?_
      have := hR u3 hu3
      rw [decB_f (ne_of_get hx hy h)] at this
      exact this
theorem refsame_l2 {R : Value → World → Prop} (hE : GoodE F w1 e f b t) (hE' : GoodE F' w1 e' f' b' t') (h5 : At5 w1 p e f b t) (h5' : At5 w1 q e' f' b' t') (he : b.n = b'.n) (hno : e.base ≠ e'.base → R (.bool false) w1) (hyes : e.base = e'.base → thicketref07_Same.e60 R (some p) (some q) t.n 0 w1) : ∀ (k i : Nat), i + k = b.n → e.base.take i = e'.base.take i → thicketref07_Same.l37 R (k + 1) (some p) (some q) b.n i w1
  | 0, i, hi, hp => by
    have hn := hE.bs.len
    have hn' := hE'.bs.len
    unfold thicketref07_Same.l37 thicketref07_Same.g37
    refine onDec_f (by omega) ?_
    rw [List.take_of_length_le (by omega), List.take_of_length_le (by omega)] at hp
    exact optN_mk ⟨_, _, _, h5.c4, hyes hp⟩
  | k + 1, i, hi, hp => by
    have hn := hE.bs.len
    have hn' := hE'.bs.len
    have hmx := hE.bm
    unfold thicketref07_Same.l37 thicketref07_Same.g37
    refine onDec_t (by omega) ?_
    refine optN_mk ⟨_, _, _, h5.c3, ?_⟩
    refine hE.bs.sl.rdI (k := .i64) (by omega) (by omega) fun x hx => optN_mk ⟨_, _, _, h5'.c3, ?_⟩
    refine hE'.bs.sl.rdI (k := .i64) (by omega) (by omega) fun y hy => ?_
    rw [Int.toNat_natCast] at hx hy
    refine onNe (fun h => hno (ne_of_get hx hy h)) fun h => ?_
    subst h
    refine nv_succ (by omega) ?_
    exact refsame_l2 hE hE' h5 h5' he hno hyes k (i + 1) (by omega) (by rw [take_snoc hx, take_snoc hy, hp])
theorem refsame_l1 {R : Value → World → Prop} (hE : GoodE F w1 e f b t) (hE' : GoodE F' w1 e' f' b' t') (h5 : At5 w1 p e f b t) (h5' : At5 w1 q e' f' b' t') (he : f.n = f'.n) (hno : e.features ≠ e'.features → R (.bool false) w1) (hyes : e.features = e'.features → thicketref07_Same.e37 R (some p) (some q) b.n 0 w1) : ∀ (k i : Nat), i + k = f.n → e.features.take i = e'.features.take i → thicketref07_Same.l14 R (k + 1) (some p) (some q) f.n i w1
  | 0, i, hi, hp => by
    have hn := hE.fs.len
    have hn' := hE'.fs.len
    unfold thicketref07_Same.l14 thicketref07_Same.g14
    refine onDec_f (by omega) ?_
    rw [List.take_of_length_le (by omega), List.take_of_length_le (by omega)] at hp
    exact optN_mk ⟨_, _, _, h5.c3, hyes hp⟩
  | k + 1, i, hi, hp => by
    have hn := hE.fs.len
    have hn' := hE'.fs.len
    have hmx := hE.fm
    unfold thicketref07_Same.l14 thicketref07_Same.g14
    refine onDec_t (by omega) ?_
    refine optN_mk ⟨_, _, _, h5.c1, ?_⟩
    refine rdS hE.fs.sl (by omega) (by omega) fun x hx => optN_mk ⟨_, _, _, h5'.c1, ?_⟩
    refine rdS hE'.fs.sl (by omega) (by omega) fun y hy => ?_
    rw [Int.toNat_natCast] at hx hy
    refine onStrN (fun h => hno (ne_of_get hx hy h)) fun h => ?_
    subst h
    refine nv_succ (by omega) ?_
    exact refsame_l1 hE hE' h5 h5' he hno hyes k (i + 1) (by omega) (by rw [take_snoc hx, take_snoc hy, hp])
theorem refSame_c (hE : GoodE F w e f b t) (hE' : GoodE F' w e' f' b' t') : Pure Go.Proofs.Try.prog 24 #[vE e f b t, vE e' f' b' t'] w (.bool (decB (e = e'))) := by
  refine thicketref07_Same.calls (R := fun v' u => v' = _ ∧ Below w.heap.size w u) ?_
  unfold thicketref07_Same thicketref07_Same.g0
  refine box5 fun w1 _ h51 hk1 => box5 fun w2 _ h52 hk2 => ?_
  have h5 := h51.kept hk2
  have hk := Kept.trans hk1 hk2
  have no : e ≠ e' → (Value.bool false = .bool (decB (e = e')) ∧ Below w.heap.size w w2) := fun h => ⟨by rw [decB_f h], hk⟩
  have hE2 := hE.kept hk
  have hE2' := hE'.kept hk
  have l1 := hE.fs.len
  have l1' := hE'.fs.len
  have l2 := hE.bs.len
  have l2' := hE'.bs.len
  have l3 := hE.ts.len
  have l3' := hE'.ts.len
  refine ⟨_, h5.c0, _, h52.c0, onStrN (fun e0 => no fun h => e0 (by rw [h])) fun e0 => ?_⟩
  refine ⟨_, h5.c2, _, h52.c2, onNe (fun e0 => no fun h => e0 (by rw [h])) fun e2 => ?_⟩
  refine ⟨_, _, _, h5.c1, _, _, _, h52.c1, onNe (fun e0 => no fun h => e0 (by rw [l1, l1', h])) fun n1 => ?_⟩
  refine ⟨_, _, _, h5.c3, _, _, _, h52.c3, onNe (fun e0 => no fun h => e0 (by rw [l2, l2', h])) fun n2 => ?_⟩
  refine ⟨_, _, _, h5.c4, _, _, _, h52.c4, onNe (fun e0 => no fun h => e0 (by rw [l3, l3', h])) fun n3 => ⟨_, _, _, h5.c1, ?_⟩⟩
  refine ⟨f.n + 1, refsame_l1 hE2 hE2' h5 h52 (by omega) (fun h => no fun h' => h (by rw [h'])) (fun e1 => ?_) f.n 0 (by omega) rfl⟩
  refine ⟨b.n + 1, refsame_l2 hE2 hE2' h5 h52 (by omega) (fun h => no fun h' => h (by rw [h'])) (fun e3 => ?_) b.n 0 (by omega) rfl⟩
  exact ⟨t.n + 1, refsame_l3 (w1 := w2) hE2 hE2' h5 h52 (by omega) (fun u hu => ⟨by rw [decB_eq (p := e.trees = e'.trees) (q := e = e') ⟨fun h => ED_eq e0 e1 e2 e3 h, fun h => by rw [h]⟩], Kept.trans hk (From.kept hu)⟩) t.n 0 w2 (by omega) (From.refl _ _) rfl⟩
end
end Go.Mir

set_option maxRecDepth 100000
namespace Go.Mir
open Go Go.E Go.RowKit Go.Tr
/-- The places, when so many are known. -/
def placeK (pre : List Nat) (k n : Nat) : List Int := (List.range n).map fun j => if pre.idxOf j < k then (pre.idxOf j : Int) else 0
theorem placeK_len (pre : List Nat) (k n : Nat) : (placeK pre k n).length = n := by simp [placeK]
theorem placeK_get {pre : List Nat} {k n j : Nat} (hj : j < n) : (placeK pre k n)[j]? = some (if pre.idxOf j < k then (pre.idxOf j : Int) else 0) := by simp [placeK, hj]
theorem placeK_zero (pre : List Nat) (n : Nat) : placeK pre 0 n = List.replicate n 0 := by
  apply List.ext_getElem?
  intro i
  by_cases hi : i < n
  · rw [placeK_get hi, List.getElem?_replicate, if_pos hi]; simp
  · rw [List.getElem?_eq_none (by rw [placeK_len]; omega), List.getElem?_eq_none (by simp; omega)]
theorem placeK_succ {pre : List Nat} {k n i : Nat} (hnd : pre.Nodup) (hi : pre[k]? = some i) (hin : i < n) : (placeK pre k n).set i (k : Int) = placeK pre (k + 1) n := by
  have hx : pre.idxOf i = k := by
    obtain ⟨hlt, rfl⟩ := List.getElem?_eq_some_iff.1 hi
    exact hnd.idxOf_getElem k hlt
  apply List.ext_getElem?
  intro j
  by_cases hj : j < n
  · rw [placeK_get hj]
    by_cases hij : i = j
    · subst hij
      rw [List.getElem?_set_self (by rw [placeK_len]; exact hin), hx, if_pos (by omega)]
    · rw [List.getElem?_set_ne hij, placeK_get hj]
      have hne : pre.idxOf j ≠ k := fun e => by
        by_cases hm : j ∈ pre
        · have := idx_get hm
          rw [e, hi] at this
          exact hij (by simpa using this)
        · rw [List.idxOf_eq_length hm] at e
          have := (List.getElem?_eq_some_iff.1 hi).1
          omega
      by_cases h : pre.idxOf j < k
      · rw [if_pos h, if_pos (by omega)]
      · rw [if_neg h, if_neg (by omega)]
  · rw [List.getElem?_eq_none (by rw [List.length_set, placeK_len]; omega), List.getElem?_eq_none (by rw [placeK_len]; omega)]
noncomputable def canonP (nodes : List ND) : List ND := if (shapeP nanB nodes).1 = 0 then canonN (treeP nodes).pre nodes else []
noncomputable def canonO (o : Int) (nodes : List ND) : Int := if (shapeP nanB nodes).1 = 0 then o else 0
section
variable {w u w1 : World} {p : Addr} {o : Int} {a a1 : Option Addr} {n c n1 c1 m d g B B' : Nat} {F F' S : Nat → Prop} {nodes : List ND}
theorem placeK_rd {T : BT} (hTr : Tree nanB nodes T) (hn : n = nodes.length) {j : Int} (h0 : 0 ≤ j) (hj : j < n) : (placeK T.pre n n)[j.toNat]? = some (T.pre.idxOf j.toNat : Int) := by
  rw [placeK_get (by omega), if_pos]
  rw [hn, ← hTr.length]
  exact List.idxOf_lt_length_iff.2 ((hTr.mem _).2 (by omega))
theorem refcanon_l2 {R : Value → World → Prop} {T : BT} {p1 p2 : Addr} {B2 : World} {cs2 : Array Value} {a7 a6 : Option Addr} {c7 g7 c6 g6 : Nat} (hp2 : p2 = na B2) (hG : Good F w1 a n c nodes) (hTr : Tree nanB nodes T) (hT : At2 w1 p1 o a n c) (hb2 : Blk w1 B2.heap.size cs2 33) (hc2 : cs2.size = 2) (hB : B ≤ B2.heap.size) (hB1 : B ≤ w1.heap.size)
    (h7 : Arr enI 3 w1 a7 n c7 (placeK T.pre n n) g7) (h6 : Arr enI 3 w1 a6 n c6 (natL T.pre) g6)
    (hend : ∀ u a' c', From B w1 u → OwnN B u a' n c' (canonN T.pre nodes) → R (.tuple #[vT o a' n c', .int .i64 0]) u) :
    ∀ (k i : Nat) (w : World) (l : List (ND × SH)) (a3 : Option Addr) (c3 g3 : Nat), i + k = n → From w1.heap.size w1 w → Blk w w1.heap.size #[.int .i64 o, .slice a3 i c3] 33 → ArrK 8 enH 27 w a3 i c3 l g3 → fresh w1.heap.size g3 → l.map (·.1) = (canonN T.pre nodes).take i → (∀ x ∈ l, ∃ gx, Arr enI 3 w x.2.a x.2.n x.2.c x.1.cats gx ∧ fresh w1.heap.size gx) → thicketref07_Canon.l39 R (k + 1) (some p1) (some p2) a7 n c7 (some (na w1)) a6 n c6 n i w := by
  subst hp2
  have hn := hG.len
  have hmx := hG.max
  intro k
  induction k with
  | zero =>
    intro i w l a3 c3 g3 hi hw hb hA hg3 hl hx
    unfold thicketref07_Canon.l39 thicketref07_Canon.g39
    refine onDec_f (by omega) ?_
    obtain rfl : i = n := by omega
    rw [List.take_of_length_le (by rw [canonN_length, hTr.length]; omega)] at hl
    have l2 := hb2.lt
    refine optN_mk ⟨_, hb.rd rfl, _, _, _, hb.rd rfl, ?_⟩
    have hb2w := hb2.mod hw (fun h => by have h' : w1.heap.size ≤ B2.heap.size := h; omega)
    refine optN_mk (hb2w.wr (by omega) fun u1 hb3 ho3 => hb3.wr (by simp; omega) fun u2 hb4 ho4 => ?_)
    have r0 : u2.cell? ((na B2).add 0) = some (.int .i64 o) := hb4.rd (by simp [hc2])
    have r1 : u2.cell? ((na B2).add 1) = some (.slice a3 i c3) := hb4.rd (by simp [hc2])
    refine optN_mk ⟨_, r0, _, _, _, r1, ?_⟩
    have ap : ∀ {u0 : World} {cs : Array Value}, Blk u0 B2.heap.size cs 33 → Apart (fun k => k + 1 = B2.heap.size + 1) u0 [27, 3] := fun h => Blk.apartS h (by decide)
    have own : OwnN B w a3 i c3 (canonN T.pre nodes) := ⟨g3, l, hA, fresh_mono hg3 hB1, hl.symm, fun x hx' => let ⟨gx, k1, k2⟩ := hx x hx'; ⟨gx, k1, fresh_mono k2 hB1⟩⟩
    refine hend u2 a3 c3 ?_ ((own.modS ho3 (ap hb2w)).modS ho4 (ap hb3))
    exact ((hw.trans ho3 (U := fun k => B ≤ k) (fun k _ h => by have h' : w1.heap.size ≤ k := h; show B ≤ k; omega) (fun k _ h => by show B ≤ k; omega)).trans ho4 (fun _ _ h => h) (fun k _ h => by show B ≤ k; omega))
  | succ k ih =>
    intro i w l a3 c3 g3 hi hw hb hA hg3 hl hx
    unfold thicketref07_Canon.l39 thicketref07_Canon.g39
    refine onDec_t (by omega) ?_
    have hkl : i < T.pre.length := by rw [hTr.length]; omega
    have hj : T.pre[i]? = some (T.pre[i]'hkl) := List.getElem?_eq_getElem _
    obtain ⟨j, hje⟩ : ∃ j, T.pre[i]'hkl = j := ⟨_, rfl⟩
    rw [hje] at hj
    have hjm := List.mem_of_getElem? hj
    have hjn : j < n := by rw [hn]; exact (hTr.mem j).1 hjm
    have l6 := h6.le
    have l7 := h7.le
    have h6w := h6.mod hw (fun k h1 h2 => by have h' : w1.heap.size ≤ k := h2; omega)
    have h7w := h7.mod hw (fun k h1 h2 => by have h' : w1.heap.size ≤ k := h2; omega)
    refine h6w.sl.rdI (k := .i64) (by omega) (by omega) fun y hy => ?_
    rw [Int.toNat_natCast, natL_get hj] at hy
    obtain rfl : y = (j : Int) := by simpa using hy.symm
    have hGw := hG.from hw
    refine optN_mk ⟨_, _, _, (hT.from hw).c1, ?_⟩
    refine nv_i64 (by omega) (by omega) ?_
    have hcap := hGw.ls.cap
    refine chk_mk ⟨by omega, by omega⟩ (chk_mk ⟨by omega, by omega⟩ ?_)
    have e1 : ((j : Int) + 1).toNat = j + 1 := by omega
    rw [e1, Int.toNat_natCast]
    have hxj : nodes[j]? = some (nodes[j]'(by omega)) := List.getElem?_eq_getElem _
    obtain ⟨x, hxe⟩ : ∃ x, nodes[j]'(by omega) = x := ⟨_, rfl⟩
    rw [hxe] at hxj
    have hsub := hGw.ls.sub (i := j) (j := j + 1) (by omega) (by omega)
    have hone : (nodes.take (j + 1)).drop j = [x] := by
      rw [take_snoc hxj, List.drop_append, List.drop_of_length_le (by rw [List.length_take]; omega), List.nil_append, List.length_take, show j - min j nodes.length = 0 by omega]; rfl
    rw [hone] at hsub
    have hn1 : j + 1 - j = 1 := by omega
    rw [hn1] at hsub ⊢
    have hshx := hG.short x (List.mem_of_getElem? hxj)
    refine E.CallsD.mono (refNodes_c (F := F) (nodes := [x]) ⟨hsub, hGw.old, by omega, fun y hy => by simp at hy; subst hy; exact hshx⟩) fun v w2 ⟨a2, c2, hv, ⟨g2, l2, k1, k2, k3, k4⟩, hk2⟩ => ⟨_, _, _, hv, ?_⟩
    have hl2 := k1.lenH
    match l2, hl2, k3, k1, k4 with
    | [y], _, k3, k1, k4 =>
    have hy : y.1 = x := by simpa using k3.symm
    obtain ⟨gy, k5, k6⟩ := k4 y (by simp)
    refine (ArrK.slk (k := 8) (en := enH) (fun _ => rfl) (by omega) k1).rdH (i := 0) (by omega) (by omega) fun z hz => ?_
    have hzy : z = y := by simpa using hz.symm
    subst hzy
    rw [hy] at k5 ⊢
    refine box8z fun w3 hb3 hb8 hk3 => ⟨_, hb8.c0, ?_⟩
    have s0 := hw.size
    have s2 := hk2.size
    have s3 := hk3.size
    have lb := hb.lt
    have lb3 := hb3.lt
    have hk23 := Kept.trans hk2 hk3
    have hw3 := hw.keptThen hk23
    have lA := hA.le
    have hnext : (canonN T.pre nodes)[i]? = some (renum T.pre x) := by
      unfold canonN
      rw [List.getElem?_map, hj]
      simp only [Option.map_some]
      rw [List.getD_eq_getElem?_getD, hxj]; rfl
    -- how a round ends
    have fin : ∀ (w5 : World) (x' : ND), x' = renum T.pre x → At8 w5 (na w2) x' z.2.a z.2.n z.2.c → Mod (fun k => k = w2.heap.size) w3 w5 →
        optN (some (na w1)) fun q151 => ∃ ya_152 : Option Addr, ∃ yn_152 : Nat, ∃ yc_152 : Nat, w5.cell? (q151.add 1) = some (.slice ya_152 yn_152 yc_152) ∧ (∃ yx_153 : Int, w5.cell? ((na w2).add 0) = some (.int .u8 yx_153) ∧ (∃ yx_154 : Int, w5.cell? ((na w2).add 1) = some (.int .i64 yx_154) ∧ (∃ yx_155 : Int, w5.cell? ((na w2).add 2) = some (.int .i64 yx_155) ∧ (∃ yf_156 : Nat, w5.cell? ((na w2).add 3) = some (.float .f64 yf_156) ∧
          (∃ ya_157 : Option Addr, ∃ yn_157 : Nat, ∃ yc_157 : Nat, w5.cell? ((na w2).add 4) = some (.slice ya_157 yn_157 yc_157) ∧ (∃ yx_158 : Int, w5.cell? ((na w2).add 5) = some (.int .u8 yx_158) ∧ (∃ yx_159 : Int, w5.cell? ((na w2).add 6) = some (.int .i64 yx_159) ∧ (∃ yx_160 : Int, w5.cell? ((na w2).add 7) = some (.int .i64 yx_160) ∧
            (nw (w5.alloc (.cells #[.int .u8 yx_153, .int .i64 yx_154, .int .i64 yx_155, .float .f64 yf_156, .slice ya_157 yn_157 yc_157, .int .u8 yx_158, .int .i64 yx_159, .int .i64 yx_160] 27)) fun w161 =>
              rawN Go.Proofs.Try.prog (Builtin.append_ #[31, 31] 31 #[.slice ya_152 yn_152 yc_152, .slice (some (na w5)) 1 1]) w161 fun yv162 u163 =>
                ∃ ya_164 : Option Addr, ∃ yn_164 : Nat, ∃ yc_164 : Nat, yv162 = .slice ya_164 yn_164 yc_164 ∧ (optN (some (na w1)) fun q165 => okSt u163 ((q165.add 1).add 0) ∧ (nw (u163.setCell ((q165.add 1).add 0) (.slice ya_164 yn_164 yc_164)) fun w166 => nv (IntKind.i64.wrap ((i : Int) + 1)) fun t167 =>
                  thicketref07_Canon.l39 R (k + 1) (some p1) (some (na B2)) a7 n c7 (some (na w1)) a6 n c6 n t167 w166))))))))))) := by
      intro w5 x' hx' h85 hm5
      have s5 := hm5.size
      have hkw5 : From w.heap.size w w5 := (hk23.fr).trans hm5 (U := fun k => w.heap.size ≤ k) (fun _ _ h => h) (fun k _ h => by show w.heap.size ≤ k; omega)
      have hk5 := From.kept hkw5
      have hb5 := hb.mod (Kept.mod (S := fun _ => False) hk5) (fun h => h)
      refine optN_mk ⟨_, _, _, hb5.rd rfl, h85.ld ?_⟩
      refine ArrK.push (k := 8) (en := enH) S_N (fun _ => rfl) (by omega) (hA.kept hk5) (x := (x', z.2)) rfl (enH_one _) (by simp only [maxLen]; omega) (by omega) fun a7' c7' g7' u5 h7' hg7' hg70 ho5 => ⟨_, _, _, rfl, ?_⟩
      have hbu := hb5.mod ho5 (fun h => Row.apart (es := [33]) (hA.kept hk5) (by decide) _ _ _ h hb5 (List.mem_singleton.2 rfl))
      refine optN_mk (hbu.wr0 (by simp) fun u6 hb6 ho6 => ?_)
      refine nv_succ (by omega) ?_
      have ap5 : ∀ {es : List Nat}, 27 ∉ es → Apart (fun k => k + 1 = g3) w5 es := fun hes => Row.apart (hA.kept hk5) hes
      have ap6 : ∀ {es : List Nat}, 33 ∉ es → Apart (fun k => k + 1 = w1.heap.size + 1) u5 es := fun hes => Blk.apartS hbu hes
      have s6 := ho5.size
      have hw6 : From w1.heap.size w1 u6 := ((hw.keptThen hk5).only ho5 hg3).only ho6 (.inr (by omega))
      refine ih (i + 1) u6 (l ++ [(x', z.2)]) a7' c7' g7' (by omega) hw6 hb6 (Row.modS h7' ho6 (ap6 (es := [27]) (by decide)) (by simp)) (by unfold fresh at hg3 ⊢; omega) (by rw [List.map_append, hl, take_snoc hnext, hx']; rfl) fun y hy => ?_
      rcases mem_take_snoc hy with h | h
      · obtain ⟨gx, q1, q2⟩ := hx y h
        exact ⟨gx, Row.modS (Row.modS (q1.kept hk5) ho5 (ap5 (es := [3]) (by decide)) (by simp)) ho6 (ap6 (es := [3]) (by decide)) (by simp), q2⟩
      · subst h
        have q1 : Arr enI 3 w5 z.2.a z.2.n z.2.c x'.cats gy := by
          rw [hx', renum_cats]
          exact (k5.kept hk3).mod hm5 (fun k h1 h2 => by have := k5.le; omega)
        exact ⟨gy, Row.modS (Row.modS q1 ho5 (ap5 (es := [3]) (by decide)) (by simp)) ho6 (ap6 (es := [3]) (by decide)) (by simp), fresh_mono k6 (by omega)⟩
    have hok := hTr.right.ok j x hxj
    refine onNe (fun hki => ?_) fun hki => ?_
    · have hin := (kd_of hTr hxj).1 hki
      obtain ⟨b1, b2, b3, b4, _⟩ := okNode_inner hok hin
      have h73 := h7w.kept hk23
      refine ⟨_, hb8.c6, ?_⟩
      refine h73.sl.rdI (k := .i64) (by omega) (by omega) fun y hy => ?_
      obtain rfl : y = (T.pre.idxOf x.left.toNat : Int) := by
        rw [placeK_rd hTr hn (by omega) (by omega)] at hy; simpa using hy.symm
      refine hb3.wr0 (by simp [enN]) fun w4 hb4 ho4 => ?_
      have h84 : At8 w4 (na w2) { x with left := (T.pre.idxOf x.left.toNat : Int) } z.2.a z.2.n z.2.c := .of_blk hb4
      have h84r : w4.cell? ((na w2).add 7) = some (.int .i64 x.right) := h84.c7
      refine ⟨_, h84r, ?_⟩
      have h74 := h73.mod ho4 (fun k h1 h2 => by omega)
      refine h74.sl.rdI (k := .i64) (by omega) (by omega) fun y hy => ?_
      obtain rfl : y = (T.pre.idxOf x.right.toNat : Int) := by
        rw [placeK_rd hTr hn (by omega) (by omega)] at hy; simpa using hy.symm
      refine hb4.wr0 (by simp [enN]) fun w5 hb5 ho5 => ?_
      have h85 : At8 w5 (na w2) { x with left := (T.pre.idxOf x.left.toNat : Int), right := (T.pre.idxOf x.right.toNat : Int) } z.2.a z.2.n z.2.c := .of_blk hb5
      exact fin w5 _ (by unfold renum; rw [if_pos hin]) h85 (ho4.trans ho5 (U := fun k => k = w2.heap.size) (fun k _ h => by show k = w2.heap.size; omega) (fun k _ h => by show k = w2.heap.size; omega))
    · have hin : x.inner = false := by
        cases h : x.inner with
        | false => rfl
        | true => exact absurd hki ((kd_of hTr hxj).2 h)
      exact fin w3 x (by unfold renum; rw [if_neg (by simp [hin])]) hb8 (Mod.refl _)
theorem refcanon_l1 {R : Value → World → Prop} {T : BT} {p1 p2 : Addr} {a7 a6 : Option Addr} {c7 g7 c6 g6 : Nat} (hn : n = nodes.length) (hmx : n ≤ 1048576) (hTr : Tree nanB nodes T) (hT : At2 w1 p1 o a n c) (hg7 : w1.heap.size < g7) (hne : g6 ≠ g7)
    (hend : ∀ u, From w1.heap.size w1 u → Arr enI 3 u a7 n c7 (placeK T.pre n n) g7 → Arr enI 3 u a6 n c6 (natL T.pre) g6 →
      (nw (u.alloc (.cells #[.int .i64 0, .slice none 0 0] 33)) fun w113 => okSt w113 ((na u).add 0) ∧ (nw (w113.setCell ((na u).add 0) (.int .i64 o)) fun w114 => okSt w114 ((na u).add 1) ∧ (nw (w114.setCell ((na u).add 1) (.slice none 0 0)) fun w115 =>
        thicketref07_Canon.e39 R (some p1) (some p2) a7 n c7 (some (na u)) a6 n c6 (n : Int) 0 w115)))) :
    ∀ (k i : Nat) (w : World), i + k = n → From w1.heap.size w1 w → Arr enI 3 w a7 n c7 (placeK T.pre i n) g7 → Arr enI 3 w a6 n c6 (natL T.pre) g6 → thicketref07_Canon.l20 R (k + 1) (some p1) (some p2) a6 n c6 a7 n c7 a6 n c6 n i w
  | 0, i, w, hi, hw, h7, h6 => by
    unfold thicketref07_Canon.l20 thicketref07_Canon.g20
    refine onDec_f (by omega) ?_
    obtain rfl : i = n := by omega
    exact optN_mk ⟨_, (hT.from hw).c0, hend w hw h7 h6⟩
  | k + 1, i, w, hi, hw, h7, h6 => by
    unfold thicketref07_Canon.l20 thicketref07_Canon.g20
    refine onDec_t (by omega) ?_
    have hkl : i < T.pre.length := by rw [hTr.length]; omega
    have hj : T.pre[i]? = some (T.pre[i]'hkl) := List.getElem?_eq_getElem _
    obtain ⟨j, hje⟩ : ∃ j, T.pre[i]'hkl = j := ⟨_, rfl⟩
    rw [hje] at hj
    have hjn : j < n := by rw [hn]; exact (hTr.mem j).1 (List.mem_of_getElem? hj)
    refine h6.sl.rdI (k := .i64) (by omega) (by omega) fun y hy => ?_
    rw [Int.toNat_natCast, natL_get hj] at hy
    obtain rfl : y = (j : Int) := by simpa using hy.symm
    refine h7.wr (by omega) (by omega) (x := (i : Int)) rfl fun u h7' ho => ?_
    rw [Int.toNat_natCast, placeK_succ hTr.nodup hj hjn] at h7'
    refine nv_succ (by omega) ?_
    exact refcanon_l1 hn hmx hTr hT hg7 hne hend k (i + 1) u (by omega) (hw.only ho (.inr hg7)) h7' (h6.mod ho fun k h1 h2 => by omega)
theorem canonP_ok (h : (shapeP nanB nodes).1 = 0) : canonP nodes = canonN (treeP nodes).pre nodes := by unfold canonP; rw [if_pos h]
theorem canonP_no (h : (shapeP nanB nodes).1 ≠ 0) : canonP nodes = [] := by unfold canonP; rw [if_neg h]
theorem refCanon_c (hG : Good F w a n c nodes) : E.CallsD Go.Proofs.Try.prog 41 #[vT o a n c] w fun v u => ∃ a' n' c', v = .tuple #[vT (canonO o nodes) a' n' c', .int .i64 (shapeP nanB nodes).1] ∧ OwnN w.heap.size u a' n' c' (canonP nodes) ∧ Kept w u := by
  refine thicketref07_Canon.calls ?_
  unfold thicketref07_Canon thicketref07_Canon.g0
  refine box2T fun w1 _ hT1 hk1 => box2T (o := 0) (a := none) (n := 0) (c := 0) fun w2 hbr _ hk2 => ?_
  have hT2 := hT1.kept hk2
  have hk12 := Kept.trans hk1 hk2
  have s1 := hk1.size
  have s2 := hk2.size
  have lr := hbr.lt
  have l1 := hT1.lt
  have hn := hG.len
  have hmx := hG.max
  refine ⟨_, hT2.c0, _, _, _, hT2.c1, ?_⟩
  have hG2 := hG.kept hk12
  refine E.CallsD.mono (refShape_c (o := o) hG2.max hG2.short hG2.ls hG2.old) fun v w3 ⟨hv, hk3⟩ => ⟨_, _, hv, ?_⟩
  have hk13 := Kept.trans hk12 hk3
  have hbr3 := hbr.mod (Kept.mod (S := fun _ => False) hk3) (fun h => h)
  have s3 := hk3.size
  refine onNe (fun hne => ?_) fun h0 => ?_
  · refine hbr3.wr (by simp) fun u1 hb4 ho4 => hb4.wr (by simp) fun u2 hb5 ho5 => ⟨_, hb5.rd rfl, _, _, _, hb5.rd rfl, _, _, _, ?_, OwnN.nil _ _ _ _ ⟨rfl, rfl⟩ |> fun h => (canonP_no hne).symm ▸ h, ?_⟩
    · unfold canonO; rw [if_neg hne]
    · exact From.kept ((hk13.fr.only ho4 (.inr (by omega))).only ho5 (.inr (by omega)))
  have hTr := treeP_spec h0
  have hT3 := hT2.kept hk3
  refine ⟨_, hT3.c0, _, _, _, hT3.c1, ?_⟩
  refine E.CallsD.mono (Order_c (o := o) (hG.kept hk13) hTr) fun v w4 ⟨a4, c4, hv, ⟨g4, h4, hg4, hk4⟩⟩ => ⟨_, _, _, hv, ?_⟩
  have s4 := hk4.size
  refine Arr.make (en := enI) (x := 0) rfl (by omega) (by omega) (by omega) fun w5 h5 hk5 => ?_
  have s5 := hk5.size
  have e1 : ((n : Int)).toNat = n := by omega
  rw [e1] at h5 ⊢
  have hk14 := Kept.trans hk13 hk4
  have hT4 := hT3.kept hk4
  have l4 := h4.le
  rw [← placeK_zero (treeP nodes).pre n] at h5
  refine ⟨n + 1, refcanon_l1 (w1 := w4) (o := o) (a := a) (c := c) (T := treeP nodes) (p1 := na w) (p2 := na w1) hn hmx hTr hT4 (by omega) (by omega) (fun u hu h7 h6 => ?_) n 0 w5 (by omega) hk5.fr h5 (h4.kept hk5)⟩
  refine box2Tz (o := o) (a := none) (n := 0) (c := 0) fun w6 hb6 _ hk6 => ?_
  have hku := From.kept hu
  have hk15 := Kept.trans hk14 hku
  have hbru := hbr3.mod (Kept.mod (S := fun _ => False) (Kept.trans hk4 hku)) (fun h => h)
  have su := hku.size
  refine ⟨n + 1, refcanon_l2 (w1 := u) (B := w.heap.size) (F := F) (a := a) (n := n) (c := c) (nodes := nodes) (T := treeP nodes) (p1 := na w) (p2 := na w1) (B2 := w1) (cs2 := #[.int .i64 0, .slice none 0 0]) rfl (hG.kept hk15) hTr (hT4.kept hku) hbru rfl (by omega) (by omega) h7 h6 (fun x a' c' hx ho => ⟨a', n, c', ?_, ?_, keptAfter hk15 hx (fun b h => h)⟩) n 0 w6 [] none 0 0 (by omega) hk6.fr hb6 (ArrK.nil _ _ _ _) (.inl rfl) (by simp) (fun x hx => by cases hx)⟩
  · unfold canonO; rw [if_pos h0, h0]
  · rw [canonP_ok h0]; exact ho
end
end Go.Mir

set_option maxRecDepth 100000
namespace Go.Mir
open Go Go.E Go.RowKit Go.Tr
def ndZ : ND := ⟨0, 0, 0, 0, [], 0, 0, 0⟩
/-- What is known of the drawn values: new nodes (3), a new tree (5). -/
def FCn (B n : Nat) : Nat → Value → World → Prop := fun i v u => (i = 3 → ∃ b, v = .slice (some ⟨b, 0, none⟩) n n ∧ ArrK 8 enH 27 u (some ⟨b, 0, none⟩) n n (List.replicate n (ndZ, ⟨none, 0, 0⟩)) (b + 1) ∧ B ≤ b) ∧ (i = 5 → ∃ Bw : World, v = .pointer (some (na Bw)) ∧ Blk u Bw.heap.size #[.int .i64 0, .slice none 0 0] 33 ∧ B ≤ Bw.heap.size)
theorem FCn.keep {B n : Nat} (i : Nat) (v : Value) (u u' : World) (h : FCn B n i v u) (hk : Below u.heap.size u u') : FCn B n i v u' := ⟨fun hi => by
  obtain ⟨b, h1, h2, h3⟩ := h.1 hi
  exact ⟨b, h1, h2.kept hk, h3⟩, fun hi => by
  obtain ⟨b, h1, h2, h3⟩ := h.2 hi
  exact ⟨b, h1, h2.mod (Kept.mod (S := fun _ => False) hk) (fun h => h), h3⟩⟩
section
variable {w u w1 W : World} {p : Addr} {o : Int} {a a1 : Option Addr} {n c n1 c1 m d g B B' : Nat} {F F' S : Nat → Prop} {nodes : List ND}
/-- What the loop of Canon holds. -/
structure CnI (B : Nat) (pre : List Nat) (nodes : List ND) (i : Nat) (w : World) (ao : Option Addr) (n go : Nat) (l : List (ND × SH)) : Prop where
  row : ArrK 8 enH 27 w ao n n l go
  own : ∀ x ∈ l, ∃ gx, Arr enI 3 w x.2.a x.2.n x.2.c x.1.cats gx ∧ fresh B gx
  done : ∀ (j : Nat) x, j < i → nodes[j]? = some x → ∃ sh, l[pre.idxOf j]? = some (renum pre x, sh)
theorem Good.modS (h : Good F w a n c nodes) (hm : Mod S w u) (hS : ∀ b, F b → ¬ S b) : Good F u a n c nodes := ⟨h.ls.mod hm hS, fun b hb => Nat.lt_of_lt_of_le (h.old b hb) hm.size, h.max, h.short⟩
theorem CnI.kept {pre : List Nat} {i : Nat} {ao : Option Addr} {go : Nat} {l : List (ND × SH)} (h : CnI B pre nodes i w ao n go l) (hk : Kept w u) : CnI B pre nodes i u ao n go l :=
  ⟨h.row.kept hk, fun x hx => let ⟨gx, h1, h2⟩ := h.own x hx; ⟨gx, h1.kept hk, h2⟩, h.done⟩
/-- At the end all nodes stand. -/
theorem CnI.all {T : BT} {ao : Option Addr} {go : Nat} {l : List (ND × SH)} (hTr : Tree nanB nodes T) (hn : n = nodes.length) (h : CnI B T.pre nodes n w ao n go l) : l.map (·.1) = canonN T.pre nodes := by
  have hl := h.row.lenH
  apply List.ext_getElem?
  intro j
  by_cases hj : j < n
  · have hjp : j < T.pre.length := by rw [hTr.length]; omega
    obtain ⟨i, hie⟩ : ∃ i, T.pre[j]'hjp = i := ⟨_, rfl⟩
    have hi : T.pre[j]? = some i := by rw [← hie]; exact List.getElem?_eq_getElem _
    have hin : i < nodes.length := (hTr.mem i).1 (List.mem_of_getElem? hi)
    have hx : nodes[i]? = some nodes[i] := List.getElem?_eq_getElem hin
    obtain ⟨sh, hs⟩ := h.done i _ (by omega) hx
    have e1 : T.pre.idxOf i = j := by rw [← hie]; exact hTr.nodup.idxOf_getElem j hjp
    rw [e1] at hs
    have e2 := hTr.canon_get hx
    rw [e1] at e2
    rw [e2, List.getElem?_map, hs]
    rfl
  · rw [List.getElem?_eq_none (by rw [List.length_map]; omega), List.getElem?_eq_none (by rw [canonN_length, hTr.length]; omega)]
theorem canon_loop {R : Value → World → Prop} {T : BT} {B2 Bp Bo : World} {cs2 : Array Value} {ap ao : Option Addr} {cp gp go D : Nat} {l0 : List (ND × SH)} (hG : Good F W a n c nodes) (hTr : Tree nanB nodes T) (hA0 : ArrK 8 enH 27 W ao n n l0 go)
    (hb2 : Blk W B2.heap.size cs2 33) (hc2 : cs2.size = 2) (hbp : Blk W Bp.heap.size #[.slice ap n cp] 24) (hp : Arr enI 3 W ap n cp (placeK T.pre n n) gp) (hbo : Blk W Bo.heap.size #[.int .i64 o, .slice ao n n] 33) (hne : B2.heap.size ≠ Bo.heap.size)
    (hD : W.heap[D]? = some (.deferred (some []))) (hB2 : B ≤ B2.heap.size) (hBD : B ≤ D) (hgo : B < go) (hBW : B ≤ W.heap.size) (hFg : ∀ b, F b → b < B)
    (hend : ∀ u, From B W u → OwnN B u ao n n (canonN T.pre nodes) → R (.tuple #[vT o ao n n, .int .i64 0]) u) :
    ∀ (k i : Nat) (w : World) (l : List (ND × SH)), i + k = n → Mod (fun b => b + 1 = go ∨ W.heap.size ≤ b) W w → CnI B T.pre nodes i w ao n go l → trees_Canon.l32 R (k + 1) (some (na B2)) (some (na Bp)) (some (na Bo)) a n c n i D w := by
  have hn := hG.len
  have hmx := hG.max
  have l2 := hb2.lt
  have lp := hbp.lt
  have lo := hbo.lt
  have lgp := hp.le
  have hDl : D < W.heap.size := (Array.getElem?_eq_some_iff.1 hD).1
  have d2 : B2.heap.size + 1 ≠ go := fun h => Row.apart (es := [33]) hA0 (by decide) _ _ _ h hb2 (by simp)
  have dp : Bp.heap.size + 1 ≠ go := fun h => Row.apart (es := [24]) hA0 (by decide) _ _ _ h hbp (by simp)
  have do_ : Bo.heap.size + 1 ≠ go := fun h => Row.apart (es := [33]) hA0 (by decide) _ _ _ h hbo (by simp)
  have dgp : gp = 0 ∨ gp ≠ go := by
    rcases hp.2 with ⟨h0, _⟩ | ⟨b, cur', h0, _, hb, _⟩
    · exact .inl h0
    · exact .inr fun h => Row.apart (es := [3]) hA0 (by decide) b _ _ (by show b + 1 = go; omega) hb (by simp)
  have dD : D + 1 ≠ go := by
    intro h
    rcases hA0.2 with ⟨h0, _⟩ | ⟨b, cur', h0, _, hb, _⟩
    · omega
    · obtain rfl : b = D := by omega
      unfold Blk at hb
      rw [hD] at hb; cases hb
  intro k
  induction k with
  | zero =>
    intro i w l hi hw hI
    unfold trees_Canon.l32 trees_Canon.g32
    refine onDec_f (by omega) ?_
    obtain rfl : i = n := by omega
    have hbow := hbo.mod hw (fun h => by rcases h with h | h <;> omega)
    have hb2w := hb2.mod hw (fun h => by rcases h with h | h <;> omega)
    refine optN_mk ⟨_, hbow.rd rfl, _, _, _, hbow.rd rfl, ?_⟩
    refine optN_mk (hb2w.wr (by omega) fun u1 hb3 ho3 => hb3.wr (by simp; omega) fun u2 hb4 ho4 => ?_)
    have hDw : w.heap[D]? = some (.deferred (some [])) := (hw.block D hDl (fun h => by rcases h with h | h <;> omega)).trans hD
    have s1 := hw.size
    have dD2 : D ≠ B2.heap.size := by
      intro h
      have hb2' : W.heap[B2.heap.size]? = some (.cells cs2 33 (0, 0)) := hb2
      rw [← h, hD] at hb2'; cases hb2'
    have hD1 : u1.heap[D]? = some (.deferred (some [])) := (ho3.block D (by omega) (fun h => by have h' : D + 1 = B2.heap.size + 1 := h; omega)).trans hDw
    have s3 := ho3.size
    have hD2 : u2.heap[D]? = some (.deferred (some [])) := (ho4.block D (by omega) (fun h => by have h' : D + 1 = B2.heap.size + 1 := h; omega)).trans hD1
    have mp := Mod.put (S := fun b => b = D) u2 (.deferred none) rfl
    refine ⟨hD2, nw_mk ?_⟩
    have hb5 := hb4.mod mp (fun h => by have h' : B2.heap.size = D := h; omega)
    have r0 : (u2.putObj D (.deferred none)).cell? ((na B2).add 0) = some (.int .i64 o) := hb5.rd (by simp [hc2])
    have r1 : (u2.putObj D (.deferred none)).cell? ((na B2).add 1) = some (.slice ao i i) := hb5.rd (by simp [hc2])
    refine optN_mk ⟨_, r0, _, _, _, r1, ?_⟩
    have apb : ∀ {u0 : World} {cs : Array Value}, Blk u0 B2.heap.size cs 33 → Apart (fun k => k + 1 = B2.heap.size + 1) u0 [27, 3] := fun h => Blk.apartS h (by decide)
    have apD : Apart (fun b => b = D) u2 [27, 3] := fun b cs e hb hbl => by
      subst hb; unfold Blk at hbl; rw [hD2] at hbl; cases hbl
    have own : OwnN B w ao i i (canonN T.pre nodes) := ⟨go, l, hI.row, .inr hgo, (hI.all hTr hn).symm, hI.own⟩
    refine hend _ ?_ (((own.modS ho3 (apb hb2w)).modS ho4 (apb hb3)).modS mp apD)
    exact (((hw.trans ho3 (U := fun k => B ≤ k) (fun k _ h => by show B ≤ k; rcases h with h | h <;> omega) (fun k _ h => by show B ≤ k; omega)).trans ho4 (fun _ _ h => h) (fun k _ h => by show B ≤ k; omega)).trans mp (fun _ _ h => h) (fun k _ h => by show B ≤ k; omega))
  | succ k ih =>
    intro i w l hi hw hI
    unfold trees_Canon.l32 trees_Canon.g32
    refine onDec_t (by omega) ?_
    have hGw := Good.modS hG hw (fun b hb h => by have := hFg b hb; have := hG.old b hb; rcases h with h | h <;> omega)
    refine hGw.ls.rdN (by omega) (by omega) fun x a5 n5 c5 hx hcs => ?_
    rw [Int.toNat_natCast] at hx
    have hsx := hG.short x (List.mem_of_getElem? hx)
    have hcl := hcs.len
    have s1 := hw.size
    refine box8z fun w2 hb hb8 hk2 => ⟨_, _, _, hb8.c4, ?_⟩
    have lb := hb.lt
    have s2 := hk2.size
    refine E.CallsD.mono (cloneI_c (hcs.kept hk2).sl (by omega)) fun v w3 ⟨a6, c6, hv, hn6⟩ => ⟨_, _, _, hv, ?_⟩
    obtain ⟨g6, h6, hg6⟩ := Go.Mir.NewA.own hn6
    have hk3 := hn6.kept
    have s3 := hk3.size
    have hb3 := hb.mod (Kept.mod (S := fun _ => False) hk3) (fun h => h)
    refine hb3.wr0 (by simp [enN]) fun w4 hb4 ho4 => ?_
    have s4 := ho4.size
    have h84 : At8 w4 (na w) x a6 n5 c6 := .of_blk hb4
    have hk4 : Kept w w4 := From.kept (((Kept.trans hk2 hk3).fr).only ho4 (.inr (by omega)))
    have ap4 : ∀ {w0 : World} {cs : Array Value}, Blk w0 w.heap.size cs 27 → Apart (fun k => k + 1 = w.heap.size + 1) w0 [3] := fun h => Blk.apartS h (by decide)
    have h64 := Row.modS h6 ho4 (ap4 hb3) (by simp)
    refine h84.ld ?_
    refine E.CallsD.mono (inner_c w4 x a6 n5 c6) fun v w5 ⟨hv, hk5⟩ => ⟨_, hv, ?_⟩
    have hk5' := Kept.trans hk4 hk5
    have s5 := hk5.size
    have hb5 : Blk w5 w.heap.size (enN x a6 n5 c6).toArray 27 := (show Blk w4 w.heap.size (enN x a6 n5 c6).toArray 27 from hb4).mod (Kept.mod (S := fun _ => False) hk5) (fun h => h)
    have h65 : Arr enI 3 w5 a6 n5 c6 x.cats g6 := Row.kept h64 hk5
    have hok := hTr.right.ok i x hx
    have him : i ∈ T.pre := (hTr.mem i).2 (by omega)
    have hil : T.pre.idxOf i < n := by rw [hn, ← hTr.length]; exact List.idxOf_lt_length_iff.2 him
    have hbp5 := hbp.mod (hw.trans (Kept.mod (S := fun _ => False) hk5') (U := fun b => b + 1 = go ∨ W.heap.size ≤ b) (fun _ _ h => h) (fun _ _ h => h.elim)) (fun h => by rcases h with h | h <;> omega)
    have hp5 := hp.mod (hw.trans (Kept.mod (S := fun _ => False) hk5') (U := fun b => b + 1 = go ∨ W.heap.size ≤ b) (fun _ _ h => h) (fun _ _ h => h.elim)) (fun b h1 h => by rcases h with h | h <;> omega)
    -- how a round ends
    have fin : ∀ (w7 : World) (x' : ND), x' = renum T.pre x → Blk w7 w.heap.size (enN x' a6 n5 c6).toArray 27 → Mod (fun k => k = w.heap.size) w5 w7 → trees_Canon.j51 R (trees_Canon.l32 R (k + 1)) (some (na B2)) (some (na Bp)) (some (na Bo)) i (some (na w)) a n c n i D w7 := by
      intro w7 x' hx' hb7 hm7
      have s7 := hm7.size
      unfold trees_Canon.j51 trees_Canon.g51
      have hk7 : Kept w w7 := From.kept ((hk5'.fr).trans hm7 (U := fun k => w.heap.size ≤ k) (fun _ _ h => h) (fun k _ h => by show w.heap.size ≤ k; omega))
      have hw7 : Mod (fun b => b + 1 = go ∨ W.heap.size ≤ b) W w7 := hw.trans (Kept.mod (S := fun _ => False) hk7) (U := fun b => b + 1 = go ∨ W.heap.size ≤ b) (fun _ _ h => h) (fun _ _ h => h.elim)
      have hI7 := hI.kept hk7
      have hbo7 := hbo.mod hw7 (fun h => by rcases h with h | h <;> omega)
      have hbp7 := hbp.mod hw7 (fun h => by rcases h with h | h <;> omega)
      have hp7 := hp.mod hw7 (fun b h1 h => by rcases h with h | h <;> omega)
      have h87 : At8 w7 (na w) x' a6 n5 c6 := .of_blk hb7
      refine optN_mk ⟨_, _, _, hbo7.rd rfl, optN_mk ⟨_, _, _, blk_one hbp7, ?_⟩⟩
      refine hp7.sl.rdI (k := .i64) (by omega) (by omega) fun y0 hy0 => ?_
      obtain rfl : y0 = (T.pre.idxOf i : Int) := by
        have := placeK_rd hTr hn (j := (i : Int)) (by omega) (by omega)
        rw [Int.toNat_natCast] at this hy0
        rw [this] at hy0; simpa using hy0.symm
      clear hy0
      refine optN_mk (h87.ld ?_)
      refine hI7.row.wrN (by omega) (by omega) (x := (x', ⟨a6, n5, c6⟩)) fun u8 h8 ho8 => ?_
      rw [Int.toNat_natCast] at h8
      have ap8 : Apart (fun k => k + 1 = go) w7 [3] := Row.apart hI7.row (by decide)
      refine nv_succ (by omega) ?_
      have hll := hI.row.lenH
      refine ih (i + 1) u8 _ (by omega) (hw7.trans ho8 (fun _ _ h => h) (fun _ _ h => .inl h)) ⟨h8, fun y hy => ?_, fun j y hj hy => ?_⟩
      · rcases List.mem_or_eq_of_mem_set hy with h | h
        · obtain ⟨gx, q1, q2⟩ := hI7.own y h
          exact ⟨gx, Row.modS q1 ho8 ap8 (by simp), q2⟩
        · subst h
          have q1 : Arr enI 3 w7 a6 n5 c6 x'.cats g6 := by
            rw [hx', renum_cats]
            refine h65.mod hm7 (fun k h1 h2 => ?_)
            have h2' : k = w.heap.size := h2
            unfold fresh at hg6
            omega
          exact ⟨g6, Row.modS q1 ho8 ap8 (by simp), fresh_mono hg6 (by omega)⟩
      · by_cases hji : j = i
        · subst hji
          rw [hx] at hy
          obtain rfl : x = y := by simpa using hy
          exact ⟨⟨a6, n5, c6⟩, by rw [List.getElem?_set_self (by omega), hx']⟩
        · obtain ⟨sh, hs⟩ := hI.done j y (by omega) hy
          refine ⟨sh, ?_⟩
          rw [List.getElem?_set_ne (fun e => hji ?_)]
          · exact hs
          · have h1 := idx_get him
            have h2 := idx_get ((hTr.mem j).2 (List.getElem?_eq_some_iff.1 hy).1)
            rw [e, h2] at h1
            simpa using h1
    have h85 : At8 w5 (na w) x a6 n5 c6 := .of_blk hb5
    cases hin : x.inner with
    | false => exact ob_f (fin w5 x (by unfold renum; rw [if_neg (by simp [hin])]) hb5 (Mod.refl _))
    | true =>
      obtain ⟨b1, b2, b3, b4, _⟩ := okNode_inner hok hin
      have ck : ∀ {v : World}, Mod (fun b => w.heap.size ≤ b) w v → CK w v := fun hm a v hc => hm.cell (fun h => by have := block_lt_of_cell hc; omega) hc
      have hbpw := hbp.mod hw (fun h => by rcases h with h | h <;> omega)
      have hpw := hp.mod hw (fun b h1 h => by rcases h with h | h <;> omega)
      refine ob_t ⟨w, ck hk5'.fr, optN_mk ⟨_, _, _, blk_one hbp5, _, h85.c6, ?_⟩⟩
      refine hp5.sl.rdI (k := .i64) (by omega) (by omega) fun y hy => ?_
      obtain rfl : y = (T.pre.idxOf x.left.toNat : Int) := by
        rw [placeK_rd hTr hn (by omega) (by omega)] at hy; simpa using hy.symm
      refine optN_mk ⟨_, _, _, blk_one hbpw, _, h85.c7, ?_⟩
      refine hpw.sl.rdI (k := .i64) (by omega) (by omega) fun y hy => ?_
      obtain rfl : y = (T.pre.idxOf x.right.toNat : Int) := by
        rw [placeK_rd hTr hn (by omega) (by omega)] at hy; simpa using hy.symm
      refine hb5.wr0 (by simp [enN]) fun w6 hb6 ho6 => ⟨ck (hk5'.fr.only ho6 (.inr (by omega))), hb6.wr0 (by simp [enN]) fun w7 hb7 ho7 => ?_⟩
      exact fin w7 { x with left := (T.pre.idxOf x.left.toNat : Int), right := (T.pre.idxOf x.right.toNat : Int) } (by unfold renum; rw [if_pos hin]) hb7 (ho6.trans ho7 (U := fun k => k = w.heap.size) (fun k _ h => by show k = w.heap.size; omega) (fun k _ h => by show k = w.heap.size; omega))
theorem Canon_c (hG : Good F w a n c nodes) : E.CallsD Go.Proofs.Try.prog 37 #[vT o a n c] w fun v u => ∃ a' n' c', v = .tuple #[vT (canonO o nodes) a' n' c', .int .i64 (shapeP nanB nodes).1] ∧ OwnN w.heap.size u a' n' c' (canonP nodes) ∧ Kept w u := by
  refine trees_Canon.calls ?_
  unfold trees_Canon trees_Canon.g0
  refine box2T fun w1 _ hT1 hk1 => box2T (o := 0) (a := none) (n := 0) (c := 0) fun w2 hbr _ hk2 => ?_
  have hT2 := hT1.kept hk2
  have hk12 := Kept.trans hk1 hk2
  have s1 := hk1.size
  have s2 := hk2.size
  have lr := hbr.lt
  have l1 := hT1.lt
  have hn := hG.len
  have hmx := hG.max
  refine ⟨_, hT2.c0, _, _, _, hT2.c1, ?_⟩
  have hG2 := hG.kept hk12
  refine E.CallsD.mono (Shape_c (o := o) hG2.max hG2.short hG2.ls hG2.old) fun v w3 ⟨hv, hk3⟩ => ⟨_, _, hv, ?_⟩
  have hk13 := Kept.trans hk12 hk3
  have hbr3 := hbr.mod (Kept.mod (S := fun _ => False) hk3) (fun h => h)
  have s3 := hk3.size
  refine onNe (fun hne => ?_) fun h0 => ?_
  · refine hbr3.wr (by simp) fun u1 hb4 ho4 => hb4.wr (by simp) fun u2 hb5 ho5 => ⟨_, hb5.rd rfl, _, _, _, hb5.rd rfl, _, _, _, ?_, OwnN.nil _ _ _ _ ⟨rfl, rfl⟩ |> fun h => (canonP_no hne).symm ▸ h, ?_⟩
    · unfold canonO; rw [if_neg hne]
    · exact From.kept ((hk13.fr.only ho4 (.inr (by omega))).only ho5 (.inr (by omega)))
  have hTr := treeP_spec h0
  obtain ⟨T, hTe⟩ : ∃ T, treeP nodes = T := ⟨_, rfl⟩
  rw [hTe] at hTr
  have hT3 := hT2.kept hk3
  refine ⟨_, _, _, hT3.c1, ?_⟩
  refine Arr.make (en := enI) (x := 0) rfl (by omega) (by omega) (by omega) fun w4 h4 hk4 => ?_
  have e1 : ((n : Int)).toNat = n := by omega
  rw [e1] at h4 ⊢
  have s4 := hk4.size
  have l4 := h4.le
  refine box1 fun w5 hb5 _ hk5 => hb5.wr (by simp) fun w6 hb6 ho6 => ?_
  have hb6' : Blk w6 w4.heap.size #[.slice (some (na w3)) n n] 24 := hb6
  have s5 := hk5.size
  have s6 := ho6.size
  have l5 := hb5.lt
  refine box1 fun w7 hb7 _ hk7 => hb7.wr (by simp) fun w8 hb8 ho8 => ?_
  have hb8' : Blk w8 w6.heap.size #[.int .i64 0] 3 := hb8
  have s7 := hk7.size
  have s8 := ho8.size
  have l7 := hb7.lt
  have k34 : Kept w3 w8 := From.kept ((((hk4.fr.keptThen hk5).only ho6 (.inr (by omega))).keptThen hk7).only ho8 (.inr (by omega)))
  have hk18 := Kept.trans hk13 k34
  have hT8 := hT3.kept k34
  have h48 : Arr enI 3 w8 (some (na w3)) n n (List.replicate n 0) (w3.heap.size + 1) := ((((Row.kept h4 hk5).mod ho6 (fun k h1 h2 => by omega)).kept hk7).mod ho8 (fun k h1 h2 => by omega))
  have hb68 := (hb6'.mod (Kept.mod (S := fun _ => False) hk7) (fun h => h)).mod ho8 (fun h => by have h' : w4.heap.size + 1 = w6.heap.size + 1 := h; omega)
  refine ⟨_, hT8.c0, _, _, _, hT8.c1, ?_⟩
  refine E.CallsD.mono (all_c hT8) fun v w9 ⟨hv, hTit, hk9⟩ => ⟨_, rfl, ?_⟩
  subst hv
  have s9 := hk9.size
  have hk19 := Kept.trans hk18 hk9
  have hG9 := hG.kept hk19
  have hT9 := hT8.kept hk9
  have hbr9 := hbr3.mod (Kept.mod (S := fun _ => False) (Kept.trans k34 hk9)) (fun h => h)
  have hb69 := hb68.mod (Kept.mod (S := fun _ => False) hk9) (fun h => h)
  have hb89 := hb8'.mod (Kept.mod (S := fun _ => False) hk9) (fun h => h)
  have h49 := h48.kept hk9
  rw [← placeK_zero T.pre n] at h49
  obtain ⟨X, hX⟩ : ∃ X, intP (T.preD 0) = X := ⟨_, rfl⟩
  have hXl : X.length = n := by rw [← hX, intP_length, BT.preD_length, ← BT.pre_length, hTr.length, hn]
  obtain ⟨J, hJ⟩ : ∃ J : Nat → Nat → World → Prop, J = fun (k g : Nat) (u : World) => Blk u w6.heap.size #[.int .i64 (k : Int)] 3 ∧ Arr enI 3 u (some (na w3)) n n (placeK T.pre k n) (w3.heap.size + 1) ∧ g = 0 ∧ Mod (fun b => (b = w3.heap.size ∨ b = w6.heap.size) ∨ w9.heap.size ≤ b) w9 u := ⟨_, rfl⟩
  refine ⟨70, #[.pointer (some (na w8))], X, fun b => b = w3.heap.size ∨ b = w6.heap.size, J, rfl, by kernel_rfl, fun b hb => by omega, ?_, ?_, ?_, ?_, ?_, ?_⟩
  · rw [← hX]
    refine all1_iter (o := o) (F := F) hG9 hTr hTit (fun b hb => by omega) (fun h => ?_) (fun b hb h => ?_)
    · have h' : w8.heap.size = w3.heap.size ∨ w8.heap.size = w6.heap.size := h
      omega
    · have := hG.old b hb
      omega
  · intro k g u u' h hmod
    rw [hJ] at h ⊢
    obtain ⟨h1, h2, h3, h4⟩ := h
    exact ⟨h1.mod hmod (fun h => by omega), h2.mod hmod (fun k e h => by omega), h3, h4.trans hmod (fun _ _ h => h) (fun b _ h => .inr h.1)⟩
  · intro k g u h
    rw [hJ] at h
    obtain ⟨h1, h2, h3, h4⟩ := h
    exact ⟨.inl h3, by omega, h4.size⟩
  · rw [hJ]
    exact ⟨hb89, h49, rfl, Mod.refl _⟩
  · intro k g x u hx h
    rw [hJ] at h ⊢
    obtain ⟨h1, h2, h3, h4'⟩ := h
    have hkn : k < n := by rw [← hXl]; exact (List.getElem?_eq_some_iff.1 hx).1
    rw [← hX] at hx
    unfold intP at hx
    rw [List.getElem?_map] at hx
    obtain ⟨y, hy, rfl⟩ := Option.map_eq_some_iff.1 hx
    have hyp : T.pre[k]? = some y.1 := by rw [← T.preD_fst 0, List.getElem?_map, hy]; rfl
    have hyn : y.1 < n := by rw [hn]; exact (hTr.mem _).1 (List.mem_of_getElem? hyp)
    have z := h4'.size
    have hbp := hb69.mod h4' (fun h => by omega)
    refine ⟨_, _, _, blk_one hbp, _, blk_one h1, ?_⟩
    refine h2.wr (by simp only; omega) (by simp only; omega) (x := (k : Int)) rfl fun u2 h22 ho2 => ?_
    rw [show ((y.1 : Int)).toNat = y.1 by omega, placeK_succ hTr.nodup hyp (by omega)] at h22
    have hb12 := h1.mod ho2 (fun h => by omega)
    refine ⟨_, blk_one hb12, ?_⟩
    refine nv_succ (by omega) ?_
    refine hb12.wr (by simp) fun u3 hb13 ho3 => ?_
    refine ⟨0, ⟨hb13, h22.mod ho3 (fun k h1 h2 => by omega), rfl, (h4'.trans ho2 (fun _ _ h => h) (fun b _ h => .inl (.inl (by omega)))).trans ho3 (fun _ _ h => h) (fun b _ h => .inl (.inr (by omega)))⟩, .inl h3.symm, (ho2.trans ho3 (U := fun b => (b = w3.heap.size ∨ b = w6.heap.size) ∨ b + 1 = g) (fun b _ h => .inl (.inl (by omega))) (fun b _ h => .inl (.inr (by omega))))⟩
  · intro g D u h hD1 hD2 hDg hD
    rw [hJ] at h
    obtain ⟨h1, h2, h3, h4'⟩ := h
    rw [hXl] at h1 h2
    have su := h4'.size
    have hTu := hT9.mod h4' (fun h => by have e : (na w).block = w.heap.size := rfl; omega)
    have hbpu := hb69.mod h4' (fun h => by omega)
    have hbru := hbr9.mod h4' (fun h => by omega)
    have hGu := Good.modS hG9 h4' (fun b hb h => by have := hG.old b hb; omega)
    refine ⟨FCn u.heap.size n, FCn.keep, _, hTu.c0, _, blk_one h1, chk_mk ⟨by omega, by omega, by omega, by omega⟩ ⟨fun u1 hu1 => ⟨fun _ => ?_, fun h => by omega⟩, fun q3 n3 c3 _ => ⟨fun u1 hu1 => ⟨fun h => by omega, fun _ => ⟨u1, rfl, Blk.new u1 _ _, hu1.size⟩⟩, fun q5 _ u1 hu1 hF3 hF5 => ?_⟩⟩⟩
    · rw [e1]
      exact ⟨u1.heap.size, rfl, ArrK.made (k := 8) (en := enH) (x := (ndZ, ⟨none, 0, 0⟩)) (fun _ => rfl) (by omega) rfl 27 u1 n (by simp only [maxLen]; omega), hu1.size⟩
    · obtain ⟨b3, e3, h3r, hb3⟩ := hF3.1 rfl
      simp only [Value.slice.injEq, Option.some.injEq] at e3
      obtain ⟨rfl, rfl, rfl⟩ := e3
      obtain ⟨Bw, e5, h5b, hB5⟩ := hF5.2 rfl
      simp only [Value.pointer.injEq, Option.some.injEq] at e5
      subst e5
      have z1 := hu1.size
      have l5b := h5b.lt
      have hlr := h3r.le
      refine h5b.wr (by simp) fun u2 hb2' ho2 => hb2'.wr (by simp) fun u3 hb3' ho3 => ?_
      have hb3'' : Blk u3 Bw.heap.size #[.int .i64 o, .slice (some ⟨b3, 0, none⟩) c3 c3] 33 := hb3'
      have hdb : Bw.heap.size ≠ b3 := fun h => Row.apart (es := [33]) h3r (by decide) Bw.heap.size _ _ (by show Bw.heap.size + 1 = b3 + 1; omega) h5b (by simp)
      have f3 : From u.heap.size u u3 := ((Kept.fr hu1).only ho2 (.inr (by omega))).only ho3 (.inr (by omega))
      have hku3 := From.kept f3
      have z2 := ho2.size
      have z3 := ho3.size
      have hTu3 := hTu.kept hku3
      have h3r3 : ArrK 8 enH 27 u3 (some ⟨b3, 0, none⟩) c3 c3 (List.replicate c3 (ndZ, ⟨none, 0, 0⟩)) (b3 + 1) := (h3r.mod ho2 (fun k h1 h2 => by omega)).mod ho3 (fun k h1 h2 => by omega)
      have hDu3 : u3.heap[D]? = some (.deferred (some [])) := (hku3.block D hD2).trans hD
      refine ⟨_, _, _, hTu3.c1, ?_⟩
      refine ⟨c3 + 1, canon_loop (W := u3) (B := w.heap.size) (F := F) (o := o) (nodes := nodes) (T := T) (B2 := w1) (Bp := w4) (Bo := Bw) (cs2 := #[.int .i64 0, .slice none 0 0]) (ap := some (na w3)) (cp := c3) (gp := w3.heap.size + 1) (go := b3 + 1) (D := D) (hGu.kept hku3) hTr h3r3 (hbru.mod (Kept.mod (S := fun _ => False) hku3) (fun h => h)) rfl (hbpu.mod (Kept.mod (S := fun _ => False) hku3) (fun h => h)) (h2.kept hku3) hb3'' (by omega) hDu3 (by omega) (by omega) (by omega) (by omega) (fun b hb => hG.old b hb) (fun x hx ho => ⟨some ⟨b3, 0, none⟩, c3, c3, ?_, ?_, ?_⟩) c3 0 u3 _ (by omega) (Mod.refl _) ⟨h3r3, fun y hy => ?_, fun j y hj _ => by omega⟩⟩
      · obtain ⟨_, rfl⟩ := List.mem_replicate.1 hy
        exact ⟨0, Arr.nil _ _ _, .inl rfl⟩
      · unfold canonO; rw [if_pos h0, h0]
      · rw [canonP_ok h0, hTe]; exact ho
      · have f19 : From w.heap.size w u := hk19.fr.trans h4' (U := fun k => w.heap.size ≤ k) (fun _ _ h => h) (fun b _ h => by show w.heap.size ≤ b; omega)
        exact From.kept ((f19.keptThen hku3).trans hx (U := fun k => w.heap.size ≤ k) (fun _ _ h => h) (fun _ _ h => h))
end
end Go.Mir
