/- Part of a proof of laws of the seat Ytdealcfgobobiaa: functions' weakest preconditions, each checked by the kernel, contracts out of them, plain lemmas; no conditions. -/
import Derived.Test.YtdealcfgobobiaaTA
set_option linter.unusedVariables false
set_option linter.unusedSimpArgs false
set_option maxRecDepth 100000
namespace Go.Mir
open Go Go.E Go.RowKit Go.Tr
section
variable {w : World} {p : Addr} {o : Int} {a : Option Addr} {n c : Nat} {F : Nat → Prop} {nodes : List ND}
noncomputable def treeP (nodes : List ND) : BT := open Classical in if h : (shapeP nanB nodes).1 = 0 then Classical.choose (tree_of h) else .leaf 0
theorem treeP_spec (h : (shapeP nanB nodes).1 = 0) : Tree nanB nodes (treeP nodes) := by
  unfold treeP
  rw [dif_pos h]
  exact Classical.choose_spec (tree_of h)
def innerAt (nodes : List ND) (i : Nat) : Bool := (nodes[i]?.map ND.inner).getD false
def pick (nodes : List ND) (b : Bool) (l : List Nat) : List Nat := l.filter fun i => innerAt nodes i == b
/-- The leaves, or the others. -/
noncomputable def thoseP (nodes : List ND) (b : Bool) : List Nat := if (shapeP nanB nodes).1 = 0 then pick nodes b (treeP nodes).pre else []
theorem all_c (hw : At2 w p o a n c) : E.CallsD Go.Proofs.Try.prog 55 #[vT o a n c] w fun v u => v = .func (.func 70) #[] #[.pointer (some (na w))] ∧ At2 u (na w) o a n c ∧ Kept w u := by
  refine trees_all.calls ?_
  unfold trees_all trees_all.g0
  exact box2T fun u _ hT hk => ⟨rfl, hT, hk⟩
theorem keptAfter {S : Nat → Prop} {w u x : World} (h : Kept w u) (k : Mod S u x) (hS : ∀ b, S b → w.heap.size ≤ b) : Kept w x :=
  ((Kept.mod (S := fun _ => False) h).trans k (U := fun b => w.heap.size ≤ b) (fun _ _ h => h.elim) (fun b _ h => hS b h)).kept (fun b h1 h2 => by omega)
/-- A variable in a block of its own. -/
theorem box1 {e : Nat} {v : Value} {w : World} {K : World → Prop} (hk : ∀ u, Blk u w.heap.size #[v] e → u.cell? (na w) = some v → Kept w u → K u) : nw (w.alloc (.cells #[v] e)) K := by
  have b := Blk.new w #[v] e
  exact nw_mk (hk _ b (by have := b.rd (b := w) (i := 0) (v := v) rfl; rwa [add_zero] at this) (Kept.new w _))
theorem blk_one {w u : World} {v : Value} {e : Nat} (h : Blk u w.heap.size #[v] e) : u.cell? (na w) = some v := by have := h.rd (b := w) (i := 0) (v := v) rfl; rwa [add_zero] at this
theorem Arr_cast {u : World} {a' : Option Addr} {n' c' g : Nat} {xs ys : List Int} (h : Arr enI 3 u a' n' c' xs g) (e : xs = ys) : Arr enI 3 u a' n' c' ys g := e ▸ h

theorem those_c (b : Bool) (hG : Good F w a n c nodes) : E.CallsD Go.Proofs.Try.prog 54 #[vT o a n c, .bool b] w fun v u => ∃ a' n' c', v = .tuple #[.slice a' n' c', .int .i64 (shapeP nanB nodes).1] ∧ NewA enI 3 w u a' n' c' (natL (thoseP nodes b)) := by
  refine trees_those.calls ?_
  unfold trees_those trees_those.g0
  refine box2T fun w1 _ hT1 hk1 => box1 fun w2 hb2 _ hk2 => ?_
  have hT2 := hT1.kept hk2
  have hk12 := Kept.trans hk1 hk2
  have hG2 := hG.kept hk12
  refine ⟨_, hT2.c0, _, _, _, hT2.c1, ?_⟩
  refine E.CallsD.mono (Shape_c (o := o) hG2.max hG2.short hG2.ls hG2.old) fun v w3 ⟨hv, hk3⟩ => ⟨_, _, hv, ?_⟩
  have hk13 := Kept.trans hk12 hk3
  refine onNe (fun hne => ⟨_, _, _, rfl, 0, ?_, .inl rfl, hk13⟩) fun h0 => ?_
  · have : thoseP nodes b = [] := by unfold thoseP; rw [if_neg hne]
    rw [this]
    exact Arr.nil _ _ _
  have hTr := treeP_spec h0
  obtain ⟨T, hTe⟩ : ∃ T, treeP nodes = T := ⟨_, rfl⟩
  rw [hTe] at hTr
  have hthose : thoseP nodes b = pick nodes b T.pre := by unfold thoseP; rw [if_pos h0, hTe]
  refine box1 fun w4 hb4 _ hk4 => ?_
  have hT4 := hT2.kept (Kept.trans hk3 hk4)
  refine ⟨_, hT4.c0, _, _, _, hT4.c1, ?_⟩
  refine E.CallsD.mono (all_c hT4) fun v w5 ⟨hv, hTit, hk5⟩ => ⟨_, rfl, ?_⟩
  subst hv
  have hk25 := Kept.trans (Kept.trans hk3 hk4) hk5
  have hk15 := Kept.trans hk12 hk25
  have hT5 := hT2.kept hk25
  have hb25 := hb2.mod (Kept.mod (S := fun _ => False) hk25) (fun h => h)
  have hb45 := hb4.mod (Kept.mod (S := fun _ => False) hk5) (fun h => h)
  have hG5 := hG.kept hk15
  have s1 := hk1.size
  have s2 := hk2.size
  have s3 := hk3.size
  have s4 := hk4.size
  have s5 := hk5.size
  have l4 : w3.heap.size < w4.heap.size := hb4.lt
  have l2 : w1.heap.size < w2.heap.size := hb2.lt
  have l1 : w.heap.size < w1.heap.size := hT1.lt
  have hn := hG.len
  have hm := hG.max
  obtain ⟨X, hX⟩ : ∃ X, intP (T.preD 0) = X := ⟨_, rfl⟩
  have hXl : X.length = n := by rw [← hX, intP_length, BT.preD_length, ← BT.pre_length, hTr.length, hn]
  have hXf : ∀ (k : Nat) (x : Int × Int), X[k]? = some x → ∃ i, T.pre[k]? = some i ∧ x.1 = (i : Int) := by
    intro k x hx
    rw [← hX] at hx
    unfold intP at hx
    rw [List.getElem?_map] at hx
    obtain ⟨y, hy, rfl⟩ := Option.map_eq_some_iff.1 hx
    exact ⟨y.1, by rw [← T.preD_fst 0, List.getElem?_map, hy]; rfl, rfl⟩
  obtain ⟨J, hJ⟩ : ∃ J : Nat → Nat → World → Prop, J = fun k g u => (∃ a' n' c', Blk u w3.heap.size #[.slice a' n' c'] 24 ∧ Arr enI 3 u a' n' c' (natL (pick nodes b (T.pre.take k))) g) ∧ (g = 0 ∨ w5.heap.size < g) ∧ Mod (fun b => b = w3.heap.size ∨ w5.heap.size ≤ b) w5 u := ⟨_, rfl⟩
  refine ⟨70, #[.pointer (some (na w4))], X, fun b => b = w3.heap.size, J, rfl, by kernel_rfl, fun b hb => by omega, ?_, ?_, ?_, ?_, ?_, ?_⟩
  · rw [← hX]
    refine all1_iter (o := o) (F := F) hG5 hTr hTit (fun b hb => by omega) ?_ (fun b hb h => ?_)
    · show ¬ (w4.heap.size = w3.heap.size); omega
    · have := hG.old b hb; omega
  · intro k g u u' h hmod
    rw [hJ] at h ⊢
    obtain ⟨⟨a', n', c', h1, h2⟩, h3, h4⟩ := h
    exact ⟨⟨a', n', c', h1.mod hmod (fun h => by omega), h2.mod hmod (fun k e h => h.2 e)⟩, h3, h4.trans hmod (fun _ _ h => h) (fun b _ h => .inr h.1)⟩
  · intro k g u h
    rw [hJ] at h
    obtain ⟨⟨a', n', c', h1, h2⟩, h3, h4⟩ := h
    exact ⟨h3, h2.le, h4.size⟩
  · rw [hJ]
    exact ⟨⟨none, 0, 0, hb45, Arr.nil _ _ _⟩, .inl rfl, Mod.refl _⟩
  · intro k g x u hx h
    obtain ⟨i, hi, hxi⟩ := hXf k x hx
    rw [hJ] at h ⊢
    obtain ⟨⟨a', n', c', h1, h2⟩, h3, h4⟩ := h
    have hin : i < n := by rw [hn]; exact (hTr.mem i).1 (List.mem_of_getElem? hi)
    have hTu := hT5.mod h4 (fun h => by have e : (na w).block = w.heap.size := rfl; omega)
    have hLu := hG5.ls.mod h4 (fun b hb h => by have := hG.old b hb; omega)
    have hbu := hb25.mod h4 (fun h => by omega)
    have hlen : n' = (pick nodes b (T.pre.take k)).length := by rw [h2.len, natL_length]
    have hle : (pick nodes b (T.pre.take k)).length ≤ n := by
      have := List.length_filter_le (fun i => innerAt nodes i == b) (T.pre.take k)
      have h7 : (T.pre.take k).length ≤ T.pre.length := by rw [List.length_take]; omega
      rw [hTr.length, ← hn] at h7
      exact Nat.le_trans this h7
    refine ⟨_, _, _, hTu.c1, ?_⟩
    refine hLu.rdN (by omega) (by omega) fun y a5 n5 c5 hy hcs => ⟨y.inner, fun u1 hu1 => E.CallsD.mono (inner_c u1 y a5 n5 c5) fun v u2 ⟨hv, hk⟩ => ⟨hv, Kept.trans hu1 hk⟩, b, blk_one hbu, fun u1 hu1 => ?_⟩
    rw [hxi, Int.toNat_natCast] at hy
    have hia : innerAt nodes i = y.inner := by unfold innerAt; rw [hy]; rfl
    have hts := take_snoc hi
    have z1 := h4.size
    have h1' := h1.mod (Kept.mod (S := fun _ => False) hu1) (fun h => h)
    refine (onBool_iff _ _ _).2 ⟨fun hb => ?_, fun hb => ?_⟩
    · refine ⟨_, _, _, blk_one h1', ?_⟩
      have hp1 : pick nodes b (T.pre.take (k + 1)) = pick nodes b (T.pre.take k) ++ [i] := by
        rw [hts]; unfold pick
        rw [List.filter_append, List.filter_cons_of_pos (by rw [hia]; exact hb)]; rfl
      rw [hxi]
      refine (h2.kept hu1).push S_I (x := (i : Int)) rfl rfl (by simp only [maxLen]; omega) (by omega) fun a6 c6 g6 u3 h6 hg6 hg60 ho => ⟨_, _, _, rfl, ?_⟩
      have h13 := h1'.mod ho (fun h => by omega)
      rw [na_add]
      refine ⟨h13.ok (by simp), nw_mk ?_⟩
      have hs := h13.set 0 (.slice a6 (n' + 1) c6)
      have hz := hu1.size
      have hz3 := ho.size
      have ho2 := Only.set u3 w3.heap.size 0 (.slice a6 (n' + 1) c6)
      refine ⟨g6, ⟨⟨a6, n' + 1, c6, hs, ?_⟩, by omega, ?_⟩, by omega, ?_⟩
      · rw [hp1, natL_append]
        exact h6.mod ho2 fun k e h => by omega
      · refine ((h4.trans (Kept.mod (S := fun _ => False) hu1) (U := fun b => b = w3.heap.size ∨ w5.heap.size ≤ b) (fun _ _ h => h) (fun _ _ h => h.elim)).trans ho (fun _ _ h => h) (fun b _ h => .inr (by omega))).trans ho2 (fun _ _ h => h) (fun b _ h => .inl (by omega))
      · refine ((Kept.mod (S := fun _ => False) hu1).trans ho (U := fun b => b = w3.heap.size ∨ b + 1 = g) (fun _ _ h => h.elim) (fun b _ h => .inr h)).trans ho2 (fun _ _ h => h) (fun b _ h => .inl (by omega))
    · have hp1 : pick nodes b (T.pre.take (k + 1)) = pick nodes b (T.pre.take k) := by
        rw [hts]; unfold pick
        rw [List.filter_append, List.filter_cons_of_neg (by rw [hia, hb]; simp)]; simp
      exact ⟨g, ⟨⟨a', n', c', h1', by rw [hp1]; exact h2.kept hu1⟩, h3, h4.trans (Kept.mod (S := fun _ => False) hu1) (fun _ _ h => h) (fun _ _ h => h.elim)⟩, .inl rfl, Kept.mod hu1⟩
  · intro g D u h hD1 hD2 hDg hD
    rw [hJ] at h
    obtain ⟨⟨a', n', c', h1, h2⟩, h3, h4⟩ := h
    refine ⟨_, _, _, blk_one h1, hD, nw_mk ⟨a', n', c', by rw [h0], g, ?_, by omega, ?_⟩⟩
    · rw [hXl, List.take_of_length_le (by rw [hTr.length, hn]; exact Nat.le_refl _), ← hthose] at h2
      exact h2.mod (Mod.put (S := fun b => b = D) u _ rfl) fun k e h => by omega
    · exact keptAfter hk15 (h4.trans (Mod.put (S := fun b => b = D) u (.deferred none) rfl) (U := fun b => w.heap.size ≤ b) (fun b _ h => by omega) (fun b _ h => by omega)) (fun b h => h)
theorem Leaves_c (hG : Good F w a n c nodes) : E.CallsD Go.Proofs.Try.prog 27 #[vT o a n c] w fun v u => ∃ a' n' c', v = .tuple #[.slice a' n' c', .int .i64 (shapeP nanB nodes).1] ∧ NewA enI 3 w u a' n' c' (natL (thoseP nodes false)) := by
  refine trees_Leaves.calls ?_
  unfold trees_Leaves trees_Leaves.g0
  refine box2T fun w1 _ hT hk => ⟨_, hT.c0, _, _, _, hT.c1, ?_⟩
  exact E.CallsD.mono (those_c (o := o) false (hG.kept hk)) fun v u ⟨a', n', c', hv, hn⟩ => ⟨_, _, _, _, hv, a', n', c', rfl, hn.ahead hk⟩
theorem Inner_c (hG : Good F w a n c nodes) : E.CallsD Go.Proofs.Try.prog 28 #[vT o a n c] w fun v u => ∃ a' n' c', v = .tuple #[.slice a' n' c', .int .i64 (shapeP nanB nodes).1] ∧ NewA enI 3 w u a' n' c' (natL (thoseP nodes true)) := by
  refine trees_Inner.calls ?_
  unfold trees_Inner trees_Inner.g0
  refine box2T fun w1 _ hT hk => ⟨_, hT.c0, _, _, _, hT.c1, ?_⟩
  exact E.CallsD.mono (those_c (o := o) true (hG.kept hk)) fun v u ⟨a', n', c', hv, hn⟩ => ⟨_, _, _, _, hv, a', n', c', rfl, hn.ahead hk⟩
end
end Go.Mir

set_option maxRecDepth 100000
namespace Go.Mir
open Go Go.E Go.RowKit Go.Tr
section
variable {w w1 : World} {p : Addr} {o : Int} {a : Option Addr} {n c : Nat} {F : Nat → Prop} {nodes : List ND}
theorem pick_snoc {T : BT} {k i : Nat} {b : Bool} (hi : T.pre[k]? = some i) : pick nodes b (T.pre.take (k + 1)) = if innerAt nodes i == b then pick nodes b (T.pre.take k) ++ [i] else pick nodes b (T.pre.take k) := by
  rw [take_snoc hi]
  unfold pick
  rw [List.filter_append]
  split
  · rename_i h; simp [h]
  · rename_i h; simp [h]
theorem pick_le (b : Bool) (l : List Nat) : (pick nodes b l).length ≤ l.length := List.length_filter_le _ _
theorem natL_get {l : List Nat} {k : Nat} {i : Nat} (h : l[k]? = some i) : (natL l)[k]? = some (i : Int) := by simp [natL, h]
theorem kind_loop {R : Value → World → Prop} {T : BT} {lf : Bool} (hG : Good F w1 a n c nodes) (hTr : Tree nanB nodes T) (hT : At2 w1 p o a n c) {a2 : Option Addr} {c2 : Nat}
    (hend : ∀ w a' n' c' g, From w1.heap.size w1 w → Arr enI 3 w a' n' c' (natL (pick nodes (!lf) T.pre)) g → (g = 0 ∨ w1.heap.size < g) → R (.tuple #[.slice a' n' c', .int .i64 0]) w) :
    ∀ (m k : Nat) (w : World) (a8 : Option Addr) (n8 c8 g8 : Nat), k + m = n → From w1.heap.size w1 w → Sl enI w a2 n (natL T.pre) → Arr enI 3 w a8 n8 c8 (natL (pick nodes (!lf) (T.pre.take k))) g8 → (g8 = 0 ∨ w1.heap.size < g8) → (∀ b, (∃ i, a2 = some ⟨b, i, none⟩) → b + 1 ≠ g8) → Sl enI w1 a2 n (natL T.pre) → thicketref07_kind.l18 R (m + 1) lf (some p) a8 n8 c8 a2 n c2 n k w
  | 0, k, w, a8, n8, c8, g8, hk, hw, h2, h8, hg8, hd, h21 => by
    unfold thicketref07_kind.l18 thicketref07_kind.g18
    refine onDec_f (by omega) ?_
    rw [List.take_of_length_le (by rw [hTr.length, ← hG.len]; omega)] at h8
    exact hend w a8 n8 c8 g8 hw h8 hg8
  | m + 1, k, w, a8, n8, c8, g8, hk, hw, h2, h8, hg8, hd, h21 => by
    unfold thicketref07_kind.l18 thicketref07_kind.g18
    refine onDec_t (by omega) ?_
    have hn := hG.len
    have hmx := hG.max
    have hkl : k < T.pre.length := by rw [hTr.length, ← hn]; omega
    have hi : T.pre[k]? = some (T.pre[k]'hkl) := List.getElem?_eq_getElem _
    obtain ⟨i, hie⟩ : ∃ i, T.pre[k]'hkl = i := ⟨_, rfl⟩
    rw [hie] at hi
    have hin : i < n := by rw [hn]; exact (hTr.mem i).1 (List.mem_of_getElem? hi)
    refine h2.rdI (k := .i64) (by omega) (by omega) fun y hy => ?_
    rw [Int.toNat_natCast, natL_get hi] at hy
    obtain rfl : y = (i : Int) := by simpa using hy.symm
    refine optN_mk ⟨_, _, _, (hT.from hw).c1, ?_⟩
    have hGw := hG.from hw
    refine hGw.ls.rdF (by omega) (by omega) fun q x a' n' c' hx _ h8x => ⟨_, h8x.c0, ?_⟩
    rw [Int.toNat_natCast] at hx
    have hia : innerAt nodes i = x.inner := by unfold innerAt; rw [hx]; rfl
    have hki : (x.kind == 1) = !x.inner := by
      have := kd_of hTr hx
      cases hxi : x.inner with
      | true => have := this.2 hxi; simpa using this
      | false =>
        have h1 : x.kind = 1 := Classical.byContradiction fun h => by have := this.1 h; rw [hxi] at this; cases this
        simp [h1]
    have hp := pick_snoc (nodes := nodes) (b := !lf) hi
    rw [hia] at hp
    have hc : ((x.kind == 1) == lf) = (x.inner == !lf) := by rw [hki]; cases x.inner <;> cases lf <;> rfl
    have h8l : n8 = (pick nodes (!lf) (T.pre.take k)).length := by rw [h8.len, natL_length]
    have hple := pick_le (nodes := nodes) (!lf) (T.pre.take k)
    rw [List.length_take] at hple
    rw [hc]
    refine (onBool_iff _ _ _).2 ⟨fun hb => ?_, fun hb => ?_⟩
    · rw [if_pos hb] at hp
      refine h8.push S_I (x := (i : Int)) rfl rfl (by simp only [maxLen]; omega) (by omega) fun a6 c6 g6 u3 h6 hg6 hg60 ho => ⟨_, _, _, rfl, ?_⟩
      refine nv_succ (by omega) ?_
      have hu := hw.only ho hg8
      have hz := hw.size
      refine kind_loop hG hTr hT hend m (k + 1) u3 a6 (n8 + 1) c6 g6 (by omega) hu (h21.from hu) (by rw [hp, natL_append]; exact h6) (by omega) (fun b hb => ?_) h21
      obtain ⟨i0, rfl⟩ := hb
      have hlt : b < w1.heap.size := by
        obtain ⟨q, hq, hcq⟩ := h21.at (i := k) (by omega)
        cases hq
        have := block_lt_of_cell hcq
        rwa [add_block] at this
      omega
    · rw [if_neg (by simp [hb])] at hp
      refine nv_succ (by omega) ?_
      rw [← hp] at h8
      exact kind_loop hG hTr hT hend m (k + 1) w a8 n8 c8 g8 (by omega) hw h2 h8 hg8 hd h21
theorem refkind_c (lf : Bool) (hG : Good F w a n c nodes) : E.CallsD Go.Proofs.Try.prog 56 #[vT o a n c, .bool lf] w fun v u => ∃ a' n' c', v = .tuple #[.slice a' n' c', .int .i64 (shapeP nanB nodes).1] ∧ NewA enI 3 w u a' n' c' (natL (thoseP nodes (!lf))) := by
  refine thicketref07_kind.calls ?_
  unfold thicketref07_kind thicketref07_kind.g0
  refine box2T fun w1 _ hT1 hk1 => ⟨_, hT1.c0, _, _, _, hT1.c1, ?_⟩
  have hG1 := hG.kept hk1
  refine E.CallsD.mono (refShape_c (o := o) hG1.max hG1.short hG1.ls hG1.old) fun v w2 ⟨hv, hk2⟩ => ⟨_, _, hv, ?_⟩
  have hk12 := Kept.trans hk1 hk2
  refine onNe (fun hne => ⟨_, _, _, rfl, 0, ?_, .inl rfl, hk12⟩) fun h0 => ?_
  · have : thoseP nodes (!lf) = [] := by unfold thoseP; rw [if_neg hne]
    rw [this]
    exact Arr.nil _ _ _
  have hTr := treeP_spec h0
  have hT2 := hT1.kept hk2
  have hG2 := hG.kept hk12
  refine ⟨_, hT2.c0, _, _, _, hT2.c1, ?_⟩
  refine E.CallsD.mono (Order_c (o := o) hG2 hTr) fun v w3 ⟨a3, c3, hv, hn3⟩ => ⟨_, _, _, hv, ?_⟩
  have hk13 := Kept.trans hk12 hn3.kept
  have hs3 := hn3.sl
  have s := hk13.size
  refine ⟨n + 1, kind_loop (w1 := w3) (p := na w) (o := o) (F := F) (hG.kept hk13) hTr (hT2.kept hn3.kept) (fun u a' n' c' g hu h hg => ⟨_, _, _, by rw [h0], g, ?_, by omega, Kept.trans hk13 (From.kept hu)⟩) n 0 w3 none 0 0 0 (by omega) (From.refl _ _) hs3 (Arr.nil _ _ _) (.inl rfl) (fun b _ => by omega) hs3⟩
  unfold thoseP
  rw [if_pos h0]
  exact h
theorem refLeaves_c (hG : Good F w a n c nodes) : E.CallsD Go.Proofs.Try.prog 30 #[vT o a n c] w fun v u => ∃ a' n' c', v = .tuple #[.slice a' n' c', .int .i64 (shapeP nanB nodes).1] ∧ NewA enI 3 w u a' n' c' (natL (thoseP nodes false)) := by
  refine thicketref07_Leaves.calls ?_
  unfold thicketref07_Leaves thicketref07_Leaves.g0
  refine box2T fun w1 _ hT hk => ⟨_, hT.c0, _, _, _, hT.c1, ?_⟩
  exact E.CallsD.mono (refkind_c (o := o) true (hG.kept hk)) fun v u ⟨a', n', c', hv, hn⟩ => ⟨_, _, _, _, hv, a', n', c', rfl, hn.ahead hk⟩
theorem refInner_c (hG : Good F w a n c nodes) : E.CallsD Go.Proofs.Try.prog 31 #[vT o a n c] w fun v u => ∃ a' n' c', v = .tuple #[.slice a' n' c', .int .i64 (shapeP nanB nodes).1] ∧ NewA enI 3 w u a' n' c' (natL (thoseP nodes true)) := by
  refine thicketref07_Inner.calls ?_
  unfold thicketref07_Inner thicketref07_Inner.g0
  refine box2T fun w1 _ hT hk => ⟨_, hT.c0, _, _, _, hT.c1, ?_⟩
  exact E.CallsD.mono (refkind_c (o := o) false (hG.kept hk)) fun v u ⟨a', n', c', hv, hn⟩ => ⟨_, _, _, _, hv, a', n', c', rfl, hn.ahead hk⟩
end
end Go.Mir

set_option maxRecDepth 100000
namespace Go.Mir
open Go Go.E Go.RowKit Go.Tr
abbrev enF (f : Nat) : Value := .float .f64 f
def goesAt (nodes : List ND) (xs : List Nat) (i : Nat) : Bool := match nodes[i]? with
  | some x => goesP x (xs.getD x.feature.toNat 0) == 1
  | none => false
def fitsN (d : Int) (x : ND) : Bool := !x.inner || decide (x.feature < d)
def fitsP (nodes : List ND) (d : Int) : Bool := nodes.all (fitsN d)
def wayE (nodes : List ND) (d : Int) : Int := if (shapeP nanB nodes).1 = 0 then (if fitsP nodes d then 0 else 72) else (shapeP nanB nodes).1
noncomputable def wayP (nodes : List ND) (xs : List Nat) : List Nat := if wayE nodes xs.length = 0 then (treeP nodes).way (goesAt nodes xs) else []
section
variable {w w1 : World} {p : Addr} {o : Int} {a a1 : Option Addr} {n c n1 c1 : Nat} {F : Nat → Prop} {nodes : List ND} {xs : List Nat}
theorem fits_all {d : Int} (h : fitsP nodes d = true) {i : Nat} {x : ND} (hx : nodes[i]? = some x) (hi : x.inner = true) : x.feature < d := by
  have := List.all_eq_true.1 h x (List.mem_of_getElem? hx)
  unfold fitsN at this
  rw [hi] at this
  simpa using this
theorem rdX (hx : Sl enF w a1 n1 xs) {i : Int} {K : Nat → Prop} (h0 : 0 ≤ i) (hi : i < n1) (hk : K (xs.getD i.toNat 0)) :
    optN a1 fun q => chk (0 ≤ i ∧ i < (n1 : Int)) (∃ y : Nat, w.cell? (q.add (i.toNat * 1)) = some (.float .f64 y) ∧ K y) := by
  refine hx.rd (f := fun y => .float .f64 y) (sel := fun x => x) (fun _ => rfl) h0 hi fun y hy => ?_
  rw [List.getD_eq_getElem?_getD, hy] at hk
  exact hk
theorem way_loop {R : Value → World → Prop} {T : BT} (hG : Good F w1 a n c nodes) (hTr : Tree nanB nodes T) (hT : At2 w1 p o a n c) (hx : Sl enF w1 a1 n1 xs) (hxm : n1 = xs.length) (hfit : fitsP nodes n1 = true)
    (hend : ∀ u a' c' n' g, From w1.heap.size w1 u → Arr enI 3 u a' n' c' (natL (T.way (goesAt nodes xs))) g → (g = 0 ∨ w1.heap.size < g) → R (.tuple #[.slice a' n' c', .int .i64 0]) u) :
    ∀ (U : BT) (k : Nat) (pre : List Nat) (w : World) (a11 : Option Addr) (c11 g : Nat), U.size ≤ k → Is nodes U → T.way (goesAt nodes xs) = pre ++ U.way (goesAt nodes xs) → pre.length + U.size ≤ n → From w1.heap.size w1 w → Arr enI 3 w a11 (pre.length + 1) c11 (natL (pre ++ [U.root])) g → (g = 0 ∨ w1.heap.size < g) → trees_Way.l41 R k a1 n1 c1 (some p) (U.root : Int) a11 (pre.length + 1) c11 w := by
  intro U
  induction U with
  | leaf i =>
    intro k pre w a11 c11 g hk hI hw0 hpl hw h11 hg
    obtain ⟨k, rfl⟩ : ∃ k', k = k' + 1 := ⟨k - 1, by simp [BT.size] at hk; omega⟩
    unfold trees_Way.l41 trees_Way.g41
    have hin := hI.root_lt
    have hn := hG.len
    refine optN_mk ⟨_, _, _, (hT.from hw).c1, ?_⟩
    have hGw := hG.from hw
    refine hGw.ls.rdN (by omega) (by omega) fun x a' n' c' hxi _ => ?_
    rw [Int.toNat_natCast] at hxi
    refine E.CallsD.mono (inner_c w x a' n' c') fun v u ⟨hv, hk⟩ => ⟨_, hv, ?_⟩
    obtain ⟨y, hy, hyi⟩ := hI
    have : x = y := by have hx' : nodes[i]? = some x := hxi; rw [hy] at hx'; simpa using hx'.symm
    subst this
    rw [hyi]
    refine ob_f ?_
    exact hend u a11 c11 _ g (hw.keptThen hk) ((by rw [hw0]; exact h11.kept hk)) hg
  | node i l r ihl ihr =>
    intro k pre w a11 c11 g hk hI hw0 hpl hw h11 hg
    obtain ⟨k, rfl⟩ : ∃ k', k = k' + 1 := ⟨k - 1, by simp [BT.size] at hk; omega⟩
    unfold trees_Way.l41 trees_Way.g41
    have hin := hI.root_lt
    have hn := hG.len
    have hmx := hG.max
    refine optN_mk ⟨_, _, _, (hT.from hw).c1, ?_⟩
    have hGw := hG.from hw
    refine hGw.ls.rdN (by omega) (by omega) fun x a' n' c' hxi _ => ?_
    rw [Int.toNat_natCast] at hxi
    refine E.CallsD.mono (inner_c w x a' n' c') fun v u ⟨hv, hk1⟩ => ⟨_, hv, ?_⟩
    obtain ⟨y, hy, hyi, hl, hr, hIl, hIr⟩ := hI
    have : x = y := by have hx' : nodes[i]? = some x := hxi; rw [hy] at hx'; simpa using hx'.symm
    subst this
    rw [hyi]
    refine ob_t ?_
    have hu := hw.keptThen hk1
    have hGu := hG.from hu
    refine optN_mk ⟨_, _, _, (hT.from hu).c1, ?_⟩
    refine hGu.ls.rdN (by omega) (by omega) fun x' a' n' c' hxi' hcs => ?_
    have : x = x' := by rw [Int.toNat_natCast] at hxi'; have hx' : nodes[i]? = some x' := hxi'; rw [hy] at hx'; simpa using hx'
    subst this
    have hn' : n' ≤ 16777216 := by rw [hcs.len]; have := hG.short x (List.mem_of_getElem? hy); omega
    obtain ⟨b1, b2, b3, b4, b5, b6, _⟩ := okNode_inner (hTr.right.ok i x hy) hyi
    have hft := fits_all hfit hy hyi
    refine box8z fun u2 _ hb hk2 => ⟨_, hb.c7, hb.ld ⟨_, hb.c2, ?_⟩⟩
    have hu2 := hu.keptThen hk2
    refine rdX (hx.from hu2) (by omega) (by omega) ?_
    refine E.CallsD.mono (Goes_c (x := x) hn' (hcs.kept hk2).sl) fun v u3 ⟨hv, hk3⟩ => ⟨_, hv, ?_⟩
    have hb3 := hb.kept hk3
    have hu3 := hu2.keptThen hk3
    have hgo : goesAt nodes xs i = (goesP x (xs.getD x.feature.toNat 0) == 1) := by unfold goesAt; rw [hy]
    have h113 := h11.kept (Kept.trans (Kept.trans hk1 hk2) hk3)
    have z1 := l.size_pos
    have z2 := r.size_pos
    simp only [BT.size] at hk hpl
    simp only [BT.way, BT.root] at hw0 h113
    have hpl1 : (pre ++ [i]).length = pre.length + 1 := by simp
    refine onEq (fun he => ⟨_, hb3.c6, ?_⟩) fun he => ?_
    · rw [if_pos (by rw [hgo, he]; rfl)] at hw0
      rw [hl]
      refine h113.push S_I (x := (l.root : Int)) rfl rfl (by simp only [maxLen]; omega) (by omega) fun a6 c6 g6 u4 h6 hg6 hg60 ho => ⟨_, _, _, rfl, ?_⟩
      have hz := hu3.size
      have := ihl k (pre ++ [i]) u4 a6 c6 g6 (by omega) hIl (by rw [hw0]; simp) (by rw [hpl1]; omega) (hu3.only ho hg) (by rw [hpl1, natL_append]; exact h6) (by omega)
      rwa [hpl1] at this
    · rw [if_neg (by rw [hgo]; simpa using he)] at hw0
      rw [hr]
      refine h113.push S_I (x := (r.root : Int)) rfl rfl (by simp only [maxLen]; omega) (by omega) fun a6 c6 g6 u4 h6 hg6 hg60 ho => ⟨_, _, _, rfl, ?_⟩
      have hz := hu3.size
      have := ihr k (pre ++ [i]) u4 a6 c6 g6 (by omega) hIr (by rw [hw0]; simp) (by rw [hpl1]; omega) (hu3.only ho hg) (by rw [hpl1, natL_append]; exact h6) (by omega)
      rwa [hpl1] at this
theorem fits_loop {R : Value → World → Prop} (hG : Good F w1 a n c nodes) (hbad : ∀ u, fitsP nodes n1 = false → From w1.heap.size w1 u → R (.tuple #[.slice none 0 0, .int .i64 72]) u)
    (hend : ∀ u, fitsP nodes n1 = true → From w1.heap.size w1 u → nw (u.alloc (.cells #[.int .i64 0] 3)) fun w133 => trees_Way.e41 R a1 n1 c1 (some p) 0 (some (na u)) 1 1 w133) :
    ∀ (k i : Nat) (w : World), i + k = n → From w1.heap.size w1 w → fitsP nodes n1 = (nodes.drop i).all (fitsN n1) → trees_Way.l16 R (k + 1) a1 n1 c1 (some p) a n c n i w
  | 0, i, w, hi, hw, he => by
    unfold trees_Way.l16 trees_Way.g16
    refine onDec_f (by omega) ?_
    rw [List.drop_eq_nil_of_le (by rw [← hG.len]; omega)] at he
    exact hend w he hw
  | k + 1, i, w, hi, hw, he => by
    unfold trees_Way.l16 trees_Way.g16
    refine onDec_t (by omega) ?_
    have hn := hG.len
    have hmx := hG.max
    refine (hG.from hw).ls.rdN (by omega) (by omega) fun x a' n' c' hx _ => ?_
    rw [Int.toNat_natCast] at hx
    rw [drop_cons hx, List.all_cons] at he
    refine box8z fun u _ hb hk => hb.ld ?_
    refine E.CallsD.mono (inner_c u x a' n' c') fun v u2 ⟨hv, hk2⟩ => ⟨_, hv, ?_⟩
    have hb2 := hb.kept hk2
    have hu2 := hw.keptThen (Kept.trans hk hk2)
    unfold fitsN at he
    refine (onBool_iff _ _ _).2 ⟨fun hin => ⟨_, hb2.c2, ?_⟩, fun hin => ?_⟩
    · rw [hin] at he
      refine (onBool_iff _ _ _).2 ⟨fun hge => ?_, fun hge => ?_⟩
      · have := of_decide_eq_true hge
        exact hbad u2 (by rw [he, decide_eq_false (by omega)]; rfl) hu2
      · have := of_decide_eq_false hge
        rw [decide_eq_true (by omega), Bool.or_true, Bool.true_and] at he
        refine nv_succ (by omega) ?_
        exact fits_loop hG hbad hend k (i + 1) u2 (by omega) hu2 he
    · rw [hin] at he
      simp only [Bool.not_false, Bool.true_or, Bool.true_and] at he
      refine nv_succ (by omega) ?_
      exact fits_loop hG hbad hend k (i + 1) u2 (by omega) hu2 he
theorem wayE_bad (h : (shapeP nanB nodes).1 ≠ 0) (d : Int) : wayE nodes d = (shapeP nanB nodes).1 := by unfold wayE; rw [if_neg h]
theorem wayE_no {d : Int} (h : (shapeP nanB nodes).1 = 0) (hf : fitsP nodes d = false) : wayE nodes d = 72 := by unfold wayE; rw [if_pos h, hf]; rfl
theorem wayE_ok {d : Int} (h : (shapeP nanB nodes).1 = 0) (hf : fitsP nodes d = true) : wayE nodes d = 0 := by unfold wayE; rw [if_pos h, hf]; rfl
theorem wayP_no (h : wayE nodes xs.length ≠ 0) : wayP nodes xs = [] := by unfold wayP; rw [if_neg h]
theorem wayP_ok (h : wayE nodes xs.length = 0) : wayP nodes xs = (treeP nodes).way (goesAt nodes xs) := by unfold wayP; rw [if_pos h]
theorem Way_c (hG : Good F w a n c nodes) (hx : Sl enF w a1 n1 xs) (hm1 : n1 ≤ 1048576) : E.CallsD Go.Proofs.Try.prog 15 #[vT o a n c, .slice a1 n1 c1] w fun v u => ∃ a' n' c', v = .tuple #[.slice a' n' c', .int .i64 (wayE nodes xs.length)] ∧ NewA enI 3 w u a' n' c' (natL (wayP nodes xs)) := by
  refine trees_Way.calls ?_
  unfold trees_Way trees_Way.g0
  refine box2T fun w1 _ hT1 hk1 => ⟨_, hT1.c0, _, _, _, hT1.c1, ?_⟩
  have hG1 := hG.kept hk1
  refine E.CallsD.mono (Shape_c (o := o) hG1.max hG1.short hG1.ls hG1.old) fun v w2 ⟨hv, hk2⟩ => ⟨_, _, hv, ?_⟩
  have hk12 := Kept.trans hk1 hk2
  have hxl := hx.len
  refine onNe (fun hne => ⟨_, _, _, by rw [wayE_bad hne], 0, ?_, .inl rfl, hk12⟩) fun h0 => ⟨_, _, _, (hT1.kept hk2).c1, ?_⟩
  · rw [wayP_no (by rw [wayE_bad hne]; exact hne)]
    exact Arr.nil _ _ _
  have hTr := treeP_spec h0
  have hT2 := hT1.kept hk2
  have hG2 := hG.kept hk12
  have s := hk12.size
  refine ⟨n + 1, fits_loop (w1 := w2) (F := F) hG2 (fun u hf hu => ?_) (fun u hf hu => ?_) n 0 w2 (by omega) (From.refl _ _) rfl⟩
  · rw [hxl] at hf
    exact ⟨_, _, _, by rw [wayE_no h0 hf], 0, by rw [wayP_no (by rw [wayE_no h0 hf]; omega)]; exact Arr.nil _ _ _, .inl rfl, Kept.trans hk12 (From.kept hu)⟩
  · refine nw_mk ?_
    have hf' := hf
    rw [hxl] at hf'
    have h11 := Arr.new enI 3 u [0] #[.int .i64 0] rfl (by simp [maxLen])
    have hku := Kept.new u (.cells #[.int .i64 0] 3)
    have hsz : (treeP nodes).size = n := by rw [← BT.pre_length, hTr.length, hG.len]
    have hroot := hTr.root
    have hs2 := hu.size
    have := way_loop (w1 := w2) (p := na w) (o := o) (F := F) (a1 := a1) (n1 := n1) (c1 := c1) (xs := xs) (R := fun v u => ∃ a' n' c', v = .tuple #[.slice a' n' c', .int .i64 (wayE nodes xs.length)] ∧ NewA enI 3 w u a' n' c' (natL (wayP nodes xs))) hG2 hTr hT2 (hx.keep hk12) hxl hf
      (fun u a' c' n' g hu h hg => ⟨_, _, _, by rw [wayE_ok h0 hf'], g, by rw [wayP_ok (wayE_ok h0 hf')]; exact h, by omega, Kept.trans hk12 (From.kept hu)⟩) (treeP nodes) (treeP nodes).size [] _ (some (na u)) 1 (u.heap.size + 1) (Nat.le_refl _) hTr.is (by simp) (by simp; omega) (hu.keptThen hku) (by rw [hroot]; exact h11) (by omega)
    rw [hroot] at this
    exact ⟨_, this⟩
end
end Go.Mir

set_option maxRecDepth 100000
namespace Go.Mir
open Go Go.E Go.RowKit Go.Tr
section
variable {w w1 : World} {p : Addr} {o : Int} {a a1 : Option Addr} {n c n1 c1 : Nat} {F : Nat → Prop} {nodes : List ND} {xs : List Nat}
theorem refway_loop {R : Value → World → Prop} {T : BT} (hG : Good F w1 a n c nodes) (hTr : Tree nanB nodes T) (hT : At2 w1 p o a n c) (hx : Sl enF w1 a1 n1 xs) (hxm : n1 = xs.length) (hfit : fitsP nodes n1 = true)
    (hend : ∀ u a' c' n' g, From w1.heap.size w1 u → Arr enI 3 u a' n' c' (natL (T.way (goesAt nodes xs))) g → (g = 0 ∨ w1.heap.size < g) → R (.tuple #[.slice a' n' c', .int .i64 0]) u) :
    ∀ (U : BT) (k : Nat) (pre : List Nat) (w : World) (a11 : Option Addr) (c11 g : Nat), U.size ≤ k → Is nodes U → T.way (goesAt nodes xs) = pre ++ U.way (goesAt nodes xs) → pre.length + U.size ≤ n → From w1.heap.size w1 w → Arr enI 3 w a11 (pre.length + 1) c11 (natL (pre ++ [U.root])) g → (g = 0 ∨ w1.heap.size < g) → thicketref07_Way.l26 R k a1 n1 c1 (some p) a11 (pre.length + 1) c11 (U.root : Int) w := by
  intro U
  induction U with
  | leaf i =>
    intro k pre w a11 c11 g hk hI hw0 hpl hw h11 hg
    obtain ⟨k, rfl⟩ : ∃ k', k = k' + 1 := ⟨k - 1, by simp [BT.size] at hk; omega⟩
    unfold thicketref07_Way.l26 thicketref07_Way.g26
    have hin := hI.root_lt
    have hn := hG.len
    refine optN_mk ⟨_, _, _, (hT.from hw).c1, ?_⟩
    have hGw := hG.from hw
    refine hGw.ls.rdF (by omega) (by omega) fun q x a' n' c' hxi _ h8x => ⟨_, h8x.c0, ?_⟩
    rw [Int.toNat_natCast] at hxi
    obtain ⟨y, hy, hyi⟩ := hI
    have : x = y := by have hx' : nodes[i]? = some x := hxi; rw [hy] at hx'; simpa using hx'.symm
    subst this
    refine onNe_f (Classical.byContradiction fun h => by have := (kd_of hTr hy).1 h; rw [hyi] at this; cases this) ?_
    exact hend w a11 c11 _ g hw (by rw [hw0]; exact h11) hg
  | node i l r ihl ihr =>
    intro k pre w a11 c11 g hk hI hw0 hpl hw h11 hg
    obtain ⟨k, rfl⟩ : ∃ k', k = k' + 1 := ⟨k - 1, by simp [BT.size] at hk; omega⟩
    unfold thicketref07_Way.l26 thicketref07_Way.g26
    have hin := hI.root_lt
    have hn := hG.len
    have hmx := hG.max
    refine optN_mk ⟨_, _, _, (hT.from hw).c1, ?_⟩
    have hGw := hG.from hw
    refine hGw.ls.rdF (by omega) (by omega) fun q x a' n' c' hxi _ h8x => ⟨_, h8x.c0, ?_⟩
    rw [Int.toNat_natCast] at hxi
    obtain ⟨y, hy, hyi, hl, hr, hIl, hIr⟩ := hI
    have : x = y := by have hx' : nodes[i]? = some x := hxi; rw [hy] at hx'; simpa using hx'.symm
    subst this
    refine onNe ?_ fun h => absurd h ((kd_of hTr hy).2 hyi)
    intro _
    have hu := hw
    have hGu := hG.from hu
    refine optN_mk ⟨_, _, _, (hT.from hu).c1, ?_⟩
    refine hGu.ls.rdN (by omega) (by omega) fun x' a' n' c' hxi' hcs => ?_
    have : x = x' := by rw [Int.toNat_natCast] at hxi'; have hx' : nodes[i]? = some x' := hxi'; rw [hy] at hx'; simpa using hx'
    subst this
    have hn' : n' ≤ 16777216 := by rw [hcs.len]; have := hG.short x (List.mem_of_getElem? hy); omega
    obtain ⟨b1, b2, b3, b4, b5, b6, _⟩ := okNode_inner (hTr.right.ok i x hy) hyi
    have hft := fits_all hfit hy hyi
    refine box8z fun u2 _ hb hk2 => ⟨_, hb.c7, hb.ld ⟨_, hb.c2, ?_⟩⟩
    have hu2 := hu.keptThen hk2
    refine rdX (hx.from hu2) (by omega) (by omega) ?_
    refine E.CallsD.mono (refGoes_c (x := x) hn' (hcs.kept hk2).sl) fun v u3 ⟨hv, hk3⟩ => ⟨_, hv, ?_⟩
    have hb3 := hb.kept hk3
    have hu3 := hu2.keptThen hk3
    have hgo : goesAt nodes xs i = (goesP x (xs.getD x.feature.toNat 0) == 1) := by unfold goesAt; rw [hy]
    have h113 := h11.kept (Kept.trans hk2 hk3)
    have z1 := l.size_pos
    have z2 := r.size_pos
    simp only [BT.size] at hk hpl
    simp only [BT.way, BT.root] at hw0 h113
    have hpl1 : (pre ++ [i]).length = pre.length + 1 := by simp
    refine onEq (fun he => ⟨_, hb3.c6, ?_⟩) fun he => ?_
    · rw [if_pos (by rw [hgo, he]; rfl)] at hw0
      rw [hl]
      refine h113.push S_I (x := (l.root : Int)) rfl rfl (by simp only [maxLen]; omega) (by omega) fun a6 c6 g6 u4 h6 hg6 hg60 ho => ⟨_, _, _, rfl, ?_⟩
      have hz := hu3.size
      have := ihl k (pre ++ [i]) u4 a6 c6 g6 (by omega) hIl (by rw [hw0]; simp) (by rw [hpl1]; omega) (hu3.only ho hg) (by rw [hpl1, natL_append]; exact h6) (by omega)
      rwa [hpl1] at this
    · rw [if_neg (by rw [hgo]; simpa using he)] at hw0
      rw [hr]
      refine h113.push S_I (x := (r.root : Int)) rfl rfl (by simp only [maxLen]; omega) (by omega) fun a6 c6 g6 u4 h6 hg6 hg60 ho => ⟨_, _, _, rfl, ?_⟩
      have hz := hu3.size
      have := ihr k (pre ++ [i]) u4 a6 c6 g6 (by omega) hIr (by rw [hw0]; simp) (by rw [hpl1]; omega) (hu3.only ho hg) (by rw [hpl1, natL_append]; exact h6) (by omega)
      rwa [hpl1] at this
theorem reffits_loop {R : Value → World → Prop} {d : Int} (hG : Good F w1 a n c nodes) (hkd : ∀ (i : Nat) x, nodes[i]? = some x → (x.kind ≠ 1 ↔ x.inner = true)) (hend : ∀ u, From w1.heap.size w1 u → R (.bool (fitsP nodes d)) u) :
    ∀ (k i : Nat) (w : World), i + k = n → From w1.heap.size w1 w → fitsP nodes d = (nodes.drop i).all (fitsN d) → thicketref07_Fits.l6 R (k + 1) d a n c n i w
  | 0, i, w, hi, hw, he => by
    unfold thicketref07_Fits.l6 thicketref07_Fits.g6
    refine onDec_f (by omega) ?_
    rw [List.drop_eq_nil_of_le (by rw [← hG.len]; omega)] at he
    have := hend w hw
    rw [he] at this
    exact this
  | k + 1, i, w, hi, hw, he => by
    unfold thicketref07_Fits.l6 thicketref07_Fits.g6
    refine onDec_t (by omega) ?_
    have hn := hG.len
    have hmx := hG.max
    refine (hG.from hw).ls.rdN (by omega) (by omega) fun x a' n' c' hx _ => ?_
    rw [Int.toNat_natCast] at hx
    rw [drop_cons hx, List.all_cons] at he
    refine box8z fun u _ hb hk => ⟨_, hb.c0, ?_⟩
    have hu := hw.keptThen hk
    unfold fitsN at he
    refine onNe (fun hin => ⟨_, hb.c2, ?_⟩) fun hin => ?_
    · rw [(hkd i x hx).1 hin] at he
      refine (onBool_iff _ _ _).2 ⟨fun hge => ?_, fun hge => ?_⟩
      · have := of_decide_eq_true hge
        have h2 := hend u hu
        rw [he, decide_eq_false (by omega)] at h2
        exact h2
      · have := of_decide_eq_false hge
        rw [decide_eq_true (by omega), Bool.or_true, Bool.true_and] at he
        refine nv_succ (by omega) ?_
        exact reffits_loop hG hkd hend k (i + 1) u (by omega) hu he
    · have hf : x.inner = false := by
        cases h : x.inner with
        | false => rfl
        | true => exact absurd hin ((hkd i x hx).2 h)
      rw [hf] at he
      simp only [Bool.not_false, Bool.true_or, Bool.true_and] at he
      refine nv_succ (by omega) ?_
      exact reffits_loop hG hkd hend k (i + 1) u (by omega) hu he
theorem refFits_c {d : Int} (hG : Good F w a n c nodes) (hkd : ∀ (i : Nat) x, nodes[i]? = some x → (x.kind ≠ 1 ↔ x.inner = true)) : Pure Go.Proofs.Try.prog 48 #[vT o a n c, .int .i64 d] w (.bool (fitsP nodes d)) := by
  refine thicketref07_Fits.calls (R := fun v' u => v' = _ ∧ Below w.heap.size w u) ?_
  unfold thicketref07_Fits thicketref07_Fits.g0
  refine box2T fun w1 _ hT hk => ⟨_, _, _, hT.c1, n + 1, ?_⟩
  exact reffits_loop (w1 := w1) (F := F) (hG.kept hk) hkd (fun u hu => ⟨rfl, Kept.trans hk (From.kept hu)⟩) n 0 w1 (by omega) (From.refl _ _) rfl
theorem refWay_c (hG : Good F w a n c nodes) (hx : Sl enF w a1 n1 xs) (hm1 : n1 ≤ 1048576) : E.CallsD Go.Proofs.Try.prog 16 #[vT o a n c, .slice a1 n1 c1] w fun v u => ∃ a' n' c', v = .tuple #[.slice a' n' c', .int .i64 (wayE nodes xs.length)] ∧ NewA enI 3 w u a' n' c' (natL (wayP nodes xs)) := by
  refine thicketref07_Way.calls ?_
  unfold thicketref07_Way thicketref07_Way.g0
  refine box2T fun w1 _ hT1 hk1 => ⟨_, hT1.c0, _, _, _, hT1.c1, ?_⟩
  have hG1 := hG.kept hk1
  refine E.CallsD.mono (refShape_c (o := o) hG1.max hG1.short hG1.ls hG1.old) fun v w2 ⟨hv, hk2⟩ => ⟨_, _, hv, ?_⟩
  have hk12 := Kept.trans hk1 hk2
  have hxl := hx.len
  refine onNe (fun hne => ⟨_, _, _, by rw [wayE_bad hne], 0, ?_, .inl rfl, hk12⟩) fun h0 => ?_
  · rw [wayP_no (by rw [wayE_bad hne]; exact hne)]
    exact Arr.nil _ _ _
  have hTr := treeP_spec h0
  have hT2 := hT1.kept hk2
  have hG2 := hG.kept hk12
  refine ⟨_, hT2.c0, _, _, _, hT2.c1, ?_⟩
  refine E.CallsD.mono (refFits_c (o := o) (d := n1) hG2 (fun i x hx => kd_of hTr hx)) fun v w3 ⟨hv, hk3⟩ => ⟨_, hv, ?_⟩
  have hk13 := Kept.trans hk12 hk3
  have hG3 := hG.kept hk13
  have hT3 := hT2.kept hk3
  refine (onBool_iff _ _ _).2 ⟨fun hf => ?_, fun hf => nw_mk ?_⟩
  · have hf' : fitsP nodes xs.length = false := by rw [← hxl]; simpa using hf
    exact ⟨_, _, _, by rw [wayE_no h0 hf'], 0, by rw [wayP_no (by rw [wayE_no h0 hf']; omega)]; exact Arr.nil _ _ _, .inl rfl, hk13⟩
  · have hf0 : fitsP nodes n1 = true := by simpa using hf
    have hf' := hf0
    rw [hxl] at hf'
    have h11 := Arr.new enI 3 w3 [0] #[.int .i64 0] rfl (by simp [maxLen])
    have hku := Kept.new w3 (.cells #[.int .i64 0] 3)
    have hsz : (treeP nodes).size = n := by rw [← BT.pre_length, hTr.length, hG.len]
    have hroot := hTr.root
    have s := hk13.size
    have := refway_loop (w1 := w3) (p := na w) (o := o) (F := F) (a1 := a1) (n1 := n1) (c1 := c1) (xs := xs) (R := fun v u => ∃ a' n' c', v = .tuple #[.slice a' n' c', .int .i64 (wayE nodes xs.length)] ∧ NewA enI 3 w u a' n' c' (natL (wayP nodes xs))) hG3 hTr hT3 (hx.keep hk13) hxl hf0
      (fun u a' c' n' g hu h hg => ⟨_, _, _, by rw [wayE_ok h0 hf'], g, by rw [wayP_ok (wayE_ok h0 hf')]; exact h, by omega, Kept.trans hk13 (From.kept hu)⟩) (treeP nodes) (treeP nodes).size [] _ (some (na w3)) 1 (w3.heap.size + 1) (Nat.le_refl _) hTr.is (by simp) (by simp; omega) (Kept.mod hku) (by rw [hroot]; exact h11) (by omega)
    rw [hroot] at this
    exact ⟨_, this⟩
end
end Go.Mir

set_option maxRecDepth 100000
namespace Go.Mir
open Go Go.E Go.RowKit Go.Tr
def idxI (y : Int) : Nat → List Int → Int
  | _, [] => -1
  | i, c :: l => if y = c then (i : Int) else idxI y (i + 1) l
def valAt (nodes : List ND) (i : Nat) : Int := ((nodes[i]?).map ND.value).getD 0
noncomputable def endP (nodes : List ND) (xs : List Nat) : Nat := (treeP nodes).end_ (goesAt nodes xs)
noncomputable def leafK (nodes : List ND) (xs : List Nat) : Int := if wayE nodes xs.length = 0 then idxI (endP nodes xs) 0 (natL (thoseP nodes false)) else 0
noncomputable def leafV (nodes : List ND) (xs : List Nat) : Int := if wayE nodes xs.length = 0 then valAt nodes (endP nodes xs) else 0
section
variable {w w1 : World} {p : Addr} {o : Int} {a a1 : Option Addr} {n c n1 c1 : Nat} {F : Nat → Prop} {nodes : List ND} {xs : List Nat} {ys : List Int}
theorem index_loop {R : Value → World → Prop} {y : Int} (hn : n = ys.length) (hm : n ≤ 16777216) (hs : Sl enI w a n ys) (hR : R (.int .i64 (idxI y 0 ys)) w) : ∀ (k i : Nat), i + k = n → idxI y 0 ys = idxI y i (ys.drop i) → slices_Index.l6 R (k + 1) a n c y n i w
  | 0, i, hi, he => by
    unfold slices_Index.l6 slices_Index.g6
    refine onDec_f (by omega) ?_
    rw [he, List.drop_eq_nil_of_le (by omega)] at hR
    exact hR
  | k + 1, i, hi, he => by
    unfold slices_Index.l6 slices_Index.g6
    refine onDec_t (by omega) ?_
    refine hs.rdI (k := .i64) (by omega) (by omega) fun z hz => ?_
    rw [Int.toNat_natCast] at hz
    rw [drop_cons hz, show ∀ l, idxI y i (z :: l) = if y = z then (i : Int) else idxI y (i + 1) l from fun _ => rfl] at he
    refine onEq (fun h => ?_) fun h => ?_
    · rw [if_pos h] at he
      rw [he] at hR
      exact hR
    · rw [if_neg h] at he
      refine nv_succ (by omega) ?_
      exact index_loop hn hm hs hR k (i + 1) (by omega) he
theorem Index_c {y : Int} (hm : n ≤ 16777216) (hs : Sl enI w a n ys) : Pure Go.Proofs.Try.prog 49 #[.slice a n c, .int .i64 y] w (.int .i64 (idxI y 0 ys)) := by
  refine slices_Index.calls (R := fun v' u => v' = _ ∧ Below w.heap.size w u) ?_
  unfold slices_Index slices_Index.g0
  exact ⟨n + 1, index_loop hs.len hm hs ⟨rfl, Below.refl _ _⟩ n 0 (by omega) rfl⟩
theorem wayE_split {d : Int} (h : wayE nodes d = 0) : (shapeP nanB nodes).1 = 0 ∧ fitsP nodes d = true := by
  unfold wayE at h
  split at h
  · rename_i h0
    refine ⟨h0, ?_⟩
    split at h
    · rename_i hf; exact hf
    · cases h
  · rename_i h0; exact absurd h h0
theorem wayP_last (h : wayE nodes xs.length = 0) : (natL (wayP nodes xs))[(wayP nodes xs).length - 1]? = some (endP nodes xs : Int) ∧ 0 < (wayP nodes xs).length ∧ endP nodes xs < nodes.length ∧ (wayP nodes xs).length ≤ nodes.length := by
  have hTr := treeP_spec (wayE_split h).1
  rw [wayP_ok h]
  have hl := (treeP nodes).way_last (goesAt nodes xs)
  rw [List.getLast?_eq_getElem?] at hl
  have hne := (treeP nodes).way_ne (goesAt nodes xs)
  have hmem : endP nodes xs ∈ (treeP nodes).way (goesAt nodes xs) := List.mem_of_getElem? hl
  refine ⟨natL_get hl, by cases h : (treeP nodes).way (goesAt nodes xs) with
    | nil => exact absurd h hne
    | cons x l => simp, (hTr.mem _).1 ((treeP nodes).way_sub _ hmem), ?_⟩
  rw [← hTr.length]
  have : ∀ (c : Nat → Bool) (T : BT), (T.way c).length ≤ T.pre.length := by
    intro c T
    induction T with
    | leaf i => simp [BT.way, BT.pre]
    | node i l r ihl ihr =>
      simp only [BT.way, BT.pre, List.length_cons, List.length_append]
      split <;> omega
  exact this _ _
theorem those_le (b : Bool) : (thoseP nodes b).length ≤ nodes.length := by
  unfold thoseP
  split
  · rename_i h
    rw [← (treeP_spec h).length]
    exact pick_le _ _
  · simp
theorem Leaf_c (hG : Good F w a n c nodes) (hx : Sl enF w a1 n1 xs) (hm1 : n1 ≤ 1048576) : Pure Go.Proofs.Try.prog 17 #[vT o a n c, .slice a1 n1 c1] w (.tuple #[.int .i64 (leafK nodes xs), .int .i64 (leafV nodes xs), .int .i64 (wayE nodes xs.length)]) := by
  refine trees_Leaf.calls (R := fun v' u => v' = _ ∧ Below w.heap.size w u) ?_
  unfold trees_Leaf trees_Leaf.g0
  refine box2T fun w1 _ hT1 hk1 => ⟨_, hT1.c0, _, _, _, hT1.c1, ?_⟩
  have hG1 := hG.kept hk1
  have hmx := hG.max
  have hn := hG.len
  refine E.CallsD.mono (Way_c (o := o) (c1 := c1) hG1 (hx.keep hk1) hm1) fun v w2 ⟨a2, n2, c2, hv, hn2⟩ => ⟨_, _, _, _, hv, ?_⟩
  have hk12 := Kept.trans hk1 hn2.kept
  unfold leafK leafV
  refine onNe (fun hne => ⟨by rw [if_neg hne, if_neg hne], hk12⟩) fun h0 => ?_
  rw [if_pos h0, if_pos h0, h0]
  obtain ⟨hlast, hpos, hend, hwl⟩ := wayP_last h0
  have hT2 := hT1.kept hn2.kept
  refine ⟨_, hT2.c0, _, _, _, hT2.c1, ?_⟩
  refine E.CallsD.mono (Leaves_c (o := o) (hG.kept hk12)) fun v w3 ⟨a3, n3, c3, hv, hn3⟩ => ⟨_, _, _, _, hv, ?_⟩
  have hk13 := Kept.trans hk12 hn3.kept
  have hl2 : n2 = (wayP nodes xs).length := by rw [hn2.len, natL_length]
  have hl3 : n3 = (thoseP nodes false).length := by rw [hn3.len, natL_length]
  have hth := those_le (nodes := nodes) false
  refine nv_i64 (by omega) (by omega) ?_
  refine (hn2.sl.keep hn3.kept).rdI (k := .i64) (by omega) (by omega) fun y hy => ?_
  obtain rfl : y = (endP nodes xs : Int) := by
    rw [show ((n2 : Int) - 1).toNat = (wayP nodes xs).length - 1 by omega, hlast] at hy
    simpa using hy.symm
  refine ⟨_, fun u hu => E.CallsD.mono (Index_c (c := c3) (y := (endP nodes xs : Int)) (by omega) (hn3.sl.keep hu)) fun v u2 ⟨hv, hk⟩ => ⟨hv, Kept.trans hu hk⟩, _, _, _, (hT2.kept hn3.kept).c1, ?_⟩
  refine (hG.kept hk13).ls.rdF (by omega) (by omega) fun q x a' n' c' hx _ h8 => ⟨_, h8.c1, fun u hu => ⟨?_, Kept.trans hk13 hu⟩⟩
  rw [Int.toNat_natCast] at hx
  have : valAt nodes (endP nodes xs) = x.value := by unfold valAt; rw [hx]; rfl
  rw [this]
theorem idx_mem {y : Int} : ∀ {l : List Int} (i : Nat), y ∈ l → ∃ k, l[k]? = some y ∧ (∀ j z, j < k → l[j]? = some z → z ≠ y) ∧ idxI y i l = ((i + k : Nat) : Int)
  | z :: l, i, h => by
    by_cases hz : y = z
    · subst hz; exact ⟨0, rfl, fun j z hj => by omega, by unfold idxI; rw [if_pos rfl]; rfl⟩
    · have h' : y ∈ l := by simpa [hz] using h
      obtain ⟨k, h1, h2, h3⟩ := idx_mem (i + 1) h'
      refine ⟨k + 1, by simpa using h1, fun j x hj hx => ?_, by unfold idxI; rw [if_neg hz, h3]; congr 1; omega⟩
      cases j with
      | zero => simp at hx; subst hx; exact fun e => hz e.symm
      | succ j => exact h2 j x (by omega) (by simpa using hx)
theorem leaves_pick {T : BT} (hI : Is nodes T) : T.leaves = pick nodes false T.pre := by
  rw [hI.leaves]
  unfold pick innerAt
  congr 1
  funext i
  cases (Option.map ND.inner nodes[i]?).getD false <;> rfl
theorem end_mem (h : wayE nodes xs.length = 0) : (endP nodes xs : Int) ∈ natL (thoseP nodes false) := by
  have h0 := (wayE_split h).1
  unfold thoseP
  rw [if_pos h0, ← leaves_pick (treeP_spec h0).is]
  exact List.mem_map.2 ⟨_, (treeP nodes).end_leaf _, rfl⟩
theorem refleaf_loop {R : Value → World → Prop} {a7 a27 : Option Addr} {n7 c7 n27 c27 kk : Nat} {ws ls : List Int} {e : Nat} (hG : Good F w a n c nodes) (hT : At2 w p o a n c) (h7 : Sl enI w a7 n7 ws) (h7l : ws[n7 - 1]? = some (e : Int)) (h7p : 0 < n7) (h7m : n7 ≤ 16777216) (h27 : Sl enI w a27 n27 ls) (h27m : n27 ≤ 16777216) (he : e < n)
    (hkk : ls[kk]? = some (e : Int)) (hfirst : ∀ j z, j < kk → ls[j]? = some z → z ≠ (e : Int)) (hR : R (.tuple #[.int .i64 kk, .int .i64 (valAt nodes e), .int .i64 0]) w) :
    ∀ (m i : Nat), i + m = kk → thicketref07_Leaf.l18 R (m + 1) (some p) a7 n7 c7 a27 n27 c27 n27 i w := by
  have hlt : kk < n27 := by rw [h27.len]; exact (List.getElem?_eq_some_iff.1 hkk).1
  intro m
  induction m with
  | zero =>
    intro i hi
    unfold thicketref07_Leaf.l18 thicketref07_Leaf.g18
    obtain rfl : i = kk := by omega
    refine onDec_t (by omega) ?_
    refine h27.rdI (k := .i64) (by omega) (by omega) fun z hz => ?_
    rw [Int.toNat_natCast, hkk] at hz
    obtain rfl : z = (e : Int) := by simpa using hz.symm
    refine nv_i64 (by omega) (by omega) ?_
    refine h7.rdI (k := .i64) (by omega) (by omega) fun z hz => ?_
    rw [show ((n7 : Int) - 1).toNat = n7 - 1 by omega, h7l] at hz
    obtain rfl : z = (e : Int) := by simpa using hz.symm
    refine onEq_t (by omega) ?_
    refine optN_mk ⟨_, _, _, hT.c1, ?_⟩
    refine hG.ls.rdF (by omega) (by omega) fun q x a' n' c' hx _ h8 => ⟨_, h8.c1, ?_⟩
    rw [Int.toNat_natCast] at hx
    have : valAt nodes e = x.value := by unfold valAt; rw [hx]; rfl
    rw [← this]
    exact hR
  | succ m ih =>
    intro i hi
    unfold thicketref07_Leaf.l18 thicketref07_Leaf.g18
    refine onDec_t (by omega) ?_
    refine h27.rdI (k := .i64) (by omega) (by omega) fun y hy => ?_
    rw [Int.toNat_natCast] at hy
    have hne := hfirst i y (by omega) hy
    refine nv_i64 (by omega) (by omega) ?_
    refine h7.rdI (k := .i64) (by omega) (by omega) fun z hz => ?_
    rw [show ((n7 : Int) - 1).toNat = n7 - 1 by omega, h7l] at hz
    obtain rfl : z = (e : Int) := by simpa using hz.symm
    refine onEq_f hne ?_
    refine nv_succ (by omega) ?_
    exact ih (i + 1) (by omega)
theorem refLeaf_c (hG : Good F w a n c nodes) (hx : Sl enF w a1 n1 xs) (hm1 : n1 ≤ 1048576) : Pure Go.Proofs.Try.prog 18 #[vT o a n c, .slice a1 n1 c1] w (.tuple #[.int .i64 (leafK nodes xs), .int .i64 (leafV nodes xs), .int .i64 (wayE nodes xs.length)]) := by
  refine thicketref07_Leaf.calls (R := fun v' u => v' = _ ∧ Below w.heap.size w u) ?_
  unfold thicketref07_Leaf thicketref07_Leaf.g0
  refine box2T fun w1 _ hT1 hk1 => ⟨_, hT1.c0, _, _, _, hT1.c1, ?_⟩
  have hG1 := hG.kept hk1
  have hmx := hG.max
  have hn := hG.len
  refine E.CallsD.mono (refWay_c (o := o) (c1 := c1) hG1 (hx.keep hk1) hm1) fun v w2 ⟨a2, n2, c2, hv, hn2⟩ => ⟨_, _, _, _, hv, ?_⟩
  have hk12 := Kept.trans hk1 hn2.kept
  unfold leafK leafV
  refine onNe (fun hne => ⟨by rw [if_neg hne, if_neg hne], hk12⟩) fun h0 => ?_
  rw [if_pos h0, if_pos h0, h0]
  obtain ⟨hlast, hpos, hend, hwl⟩ := wayP_last h0
  have hT2 := hT1.kept hn2.kept
  refine ⟨_, hT2.c0, _, _, _, hT2.c1, ?_⟩
  refine E.CallsD.mono (refLeaves_c (o := o) (hG.kept hk12)) fun v w3 ⟨a3, n3, c3, hv, hn3⟩ => ⟨_, _, _, _, hv, ?_⟩
  have hk13 := Kept.trans hk12 hn3.kept
  have hl2 : n2 = (wayP nodes xs).length := by rw [hn2.len, natL_length]
  have hl3 : n3 = (thoseP nodes false).length := by rw [hn3.len, natL_length]
  have hth := those_le (nodes := nodes) false
  obtain ⟨k, e1, e2, e3⟩ := idx_mem 0 (end_mem h0)
  rw [e3, Nat.zero_add]
  exact ⟨k + 1, refleaf_loop (F := F) (o := o) (hG.kept hk13) (hT2.kept hn3.kept) (hn2.sl.keep hn3.kept) (by rw [hl2]; exact hlast) (by omega) (by omega) hn3.sl (by omega) (by omega) e1 e2 ⟨rfl, hk13⟩ k 0 (by omega)⟩
end
end Go.Mir
