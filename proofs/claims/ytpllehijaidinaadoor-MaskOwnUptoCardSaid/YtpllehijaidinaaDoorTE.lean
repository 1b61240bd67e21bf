/- Part of a proof of laws of the seat YtpllehijaidinaaDoor: functions' weakest preconditions, each checked by the kernel, contracts out of them, plain lemmas; no conditions. -/
import Derived.Test.YtpllehijaidinaaDoorTD
set_option linter.unusedVariables false
set_option linter.unusedSimpArgs false
set_option maxRecDepth 100000
namespace Go.Mir
open Go Go.E Go.RowKit Go.Tr
theorem canon_len (nodes : List ND) : (canonP nodes).length ≤ nodes.length := by
  by_cases h : (shapeP nanB nodes).1 = 0
  · rw [canonP_ok h, canonN_length, (treeP_spec h).length]; exact Nat.le_refl _
  · rw [canonP_no h]; simp
theorem canon_short {nodes : List ND} {N : Nat} (hs : Short N nodes) : Short N (canonP nodes) := by
  by_cases h : (shapeP nanB nodes).1 = 0
  · rw [canonP_ok h]
    intro y hy
    unfold canonN at hy
    obtain ⟨i, hi, rfl⟩ := List.mem_map.1 hy
    have hlt := ((treeP_spec h).mem i).1 hi
    rw [renum_cats, List.getD_eq_getElem?_getD, List.getElem?_eq_getElem hlt]
    exact hs _ (List.getElem_mem hlt)
  · rw [canonP_no h]; intro y hy; cases hy
theorem bool_true {b : Bool} (h : Value.bool b = .bool true) : b = true := by simpa using h
section
variable {w u w1 : World} {p : Addr} {o : Int} {a a1 : Option Addr} {n c n1 c1 g B B' : Nat} {F S : Nat → Prop} {nodes : List ND} {xs : List Nat} {ts : List TD} {e : ED} {f b t : SH}
theorem OwnN.goodS (h : OwnN B w a n c nodes) {nodes0 : List ND} (hl : nodes.length ≤ nodes0.length) (hm : nodes0.length ≤ 1048576) (hs : Short 1048576 nodes) : Good (newB B w) w a n c nodes := h.good (by rw [h.len]; omega) hs
end
end Go.Mir

set_option maxRecDepth 100000
namespace Go.Mir
open Go Go.E Go.RowKit Go.Tr
/-- The first error among trees. -/
def modelE : List TD → Int
  | [] => 0
  | t :: ts => if (shapeP nanB t.nodes).1 ≠ 0 then (shapeP nanB t.nodes).1 else modelE ts
noncomputable def canonT (t : TD) : TD := ⟨t.output, canonP t.nodes⟩
def edZ : ED := ⟨⟨#[]⟩, [], 0, [], []⟩
noncomputable def modelP (e : ED) : ED := if modelE e.trees = 0 then ⟨e.name, e.features, e.outputs, e.base, e.trees.map canonT⟩ else edZ
theorem modelE_cons (t : TD) (ts : List TD) : modelE (t :: ts) = if (shapeP nanB t.nodes).1 ≠ 0 then (shapeP nanB t.nodes).1 else modelE ts := rfl
section
variable {w u w1 : World} {p : Addr} {o : Int} {a a1 : Option Addr} {n c n1 c1 g B B' : Nat} {F S : Nat → Prop} {nodes : List ND} {xs : List Nat} {ts : List TD} {e : ED} {f b t : SH}
theorem model_sized (h : Sized e) : Sized (modelP e) := by
  unfold modelP
  split
  · refine ⟨h.fm, h.bm, by simpa using h.tm, fun x hx => ?_⟩
    obtain ⟨y, hy, rfl⟩ := List.mem_map.1 hx
    obtain ⟨h1, h2⟩ := h.good y hy
    exact ⟨Nat.le_trans (canon_len y.nodes) h1, canon_short h2⟩
  · exact ⟨by simp [edZ], by simp [edZ], by simp [edZ], fun x hx => by cases hx⟩
end
end Go.Mir

set_option maxRecDepth 100000
namespace Go.Mir
open Go Go.E Go.RowKit Go.Tr
section
variable {w u w1 : World} {p : Addr} {o : Int} {a a1 : Option Addr} {n c n1 c1 g B B' : Nat} {F S : Nat → Prop} {nodes : List ND} {xs : List Nat} {ts : List TD} {e : ED} {f b t : SH}
end
end Go.Mir

set_option maxRecDepth 100000
namespace Go.Mir
open Go Go.E Go.RowKit Go.Tr
/-! ### plain facts of ways and leaves -/
theorem way_head (c : Nat → Bool) : ∀ U : BT, (U.way c)[0]? = some U.root
  | .leaf _ => rfl
  | .node _ _ _ => rfl
theorem way_step {nodes : List ND} (c : Nat → Bool) : ∀ {U : BT}, Is nodes U → ∀ {i a b : Nat}, (U.way c)[i]? = some a → (U.way c)[i + 1]? = some b → ∃ x, nodes[a]? = some x ∧ x.inner = true ∧ (c a = true → x.left = (b : Int)) ∧ (c a = false → x.right = (b : Int))
  | .leaf j, _, i, a, b, h1, h2 => by simp [BT.way] at h2
  | .node j l r, ⟨x, hx, hn, hl, hr, hIl, hIr⟩, i, a, b, h1, h2 => by
    cases i with
    | zero =>
      simp only [BT.way, List.getElem?_cons_zero, Option.some.injEq, List.getElem?_cons_succ] at h1 h2
      subst h1
      refine ⟨x, hx, hn, fun hc => ?_, fun hc => ?_⟩
      · rw [if_pos hc, way_head] at h2
        have h2' : l.root = b := by simpa using h2
        rw [hl, h2']
      · rw [if_neg (by simp [hc]), way_head] at h2
        have h2' : r.root = b := by simpa using h2
        rw [hr, h2']
    | succ i =>
      simp only [BT.way, List.getElem?_cons_succ] at h1 h2
      by_cases hc : c j = true
      · rw [if_pos hc] at h1 h2; exact way_step c hIl h1 h2
      · rw [if_neg hc] at h1 h2; exact way_step c hIr h1 h2
theorem idxI_mem {e : Int} : ∀ {l : List Int} {i : Nat}, e ∈ l → ∃ k, idxI e i l = (i + k : Nat) ∧ l[k]? = some e
  | [], _, h => by cases h
  | y :: l, i, h => by
    unfold idxI
    by_cases hy : e = y
    · rw [if_pos hy]; exact ⟨0, by simp, by rw [hy]; rfl⟩
    · rw [if_neg hy]
      obtain ⟨k, h1, h2⟩ := idxI_mem (l := l) (i := i + 1) (by rcases List.mem_cons.1 h with h | h
                                                               · exact absurd h hy
                                                               · exact h)
      exact ⟨k + 1, by rw [h1]; congr 1; omega, by simpa using h2⟩
theorem idxI_map {f : Nat → Nat} {e : Nat} : ∀ {l : List Nat} {i : Nat}, (∀ x ∈ l, f x = f e → x = e) → idxI (f e : Int) i (natL (l.map f)) = idxI (e : Int) i (natL l)
  | [], _, _ => rfl
  | y :: l, i, h => by
    have h1 : natL ((y :: l).map f) = (f y : Int) :: natL (l.map f) := rfl
    have h2 : natL (y :: l) = (y : Int) :: natL l := rfl
    rw [h1, h2]
    unfold idxI
    by_cases hy : e = y
    · subst hy; rw [if_pos rfl, if_pos rfl]
    · rw [if_neg (fun h' => hy (h y (by simp) (by omega)).symm), if_neg (by omega)]
      exact idxI_map fun x hx => h x (by simp [hx])
section
variable {nodes : List ND} {xs : List Nat} {o : Int}
theorem thoseP_leaves (h : (shapeP nanB nodes).1 = 0) : thoseP nodes false = (treeP nodes).leaves := by
  unfold thoseP
  rw [if_pos h, (treeP_spec h).is.leaves]
  unfold pick
  apply List.filter_congr
  intro i _
  unfold innerAt
  cases (nodes[i]?.map ND.inner).getD false <;> rfl
theorem leaf_facts (h : wayE nodes xs.length = 0) : ∃ k : Nat, leafK nodes xs = (k : Int) ∧ (thoseP nodes false)[k]? = some (endP nodes xs) ∧ ∃ x, nodes[endP nodes xs]? = some x ∧ x.kind = 1 ∧ leafV nodes xs = x.value := by
  obtain ⟨h0, hf⟩ := wayE_split h
  have hTr := treeP_spec h0
  have hmem : endP nodes xs ∈ (treeP nodes).leaves := (treeP nodes).end_leaf _
  have hth := thoseP_leaves h0
  obtain ⟨k, hk1, hk2⟩ := idxI_mem (e := (endP nodes xs : Int)) (l := natL (thoseP nodes false)) (i := 0) (by rw [hth]; exact List.mem_map.2 ⟨_, hmem, rfl⟩)
  have hpre : endP nodes xs ∈ (treeP nodes).pre ∧ innerAt nodes (endP nodes xs) = false := by
    rw [← hth] at hmem
    unfold thoseP at hmem
    rw [if_pos h0] at hmem
    unfold pick at hmem
    rw [List.mem_filter] at hmem
    exact ⟨hmem.1, by simpa using hmem.2⟩
  have hlt := (hTr.mem _).1 hpre.1
  have hx : nodes[endP nodes xs]? = some (nodes[endP nodes xs]'hlt) := List.getElem?_eq_getElem hlt
  refine ⟨k, ?_, ?_, _, hx, ?_, ?_⟩
  · unfold leafK; rw [if_pos h, hk1, Nat.zero_add]
  · unfold natL at hk2
    rw [List.getElem?_map] at hk2
    obtain ⟨y, hy, e⟩ := Option.map_eq_some_iff.1 hk2
    rw [hy]; congr 1; omega
  · have hin : (nodes[endP nodes xs]'hlt).inner = false := by have := hpre.2; unfold innerAt at this; rw [hx] at this; exact this
    exact Classical.byContradiction fun hk => by have := (kd_of hTr hx).1 hk; rw [hin] at this; cases this
  · unfold leafV; rw [if_pos h]; unfold valAt; rw [hx]; rfl
/-! ### the same tree, numbered anew -/
theorem goesP_renum (pre : List Nat) (x : ND) (f : Nat) : goesP (renum pre x) f = goesP x f := by
  unfold goesP
  rw [renum_kind, renum_missing, renum_thr, renum_cats]
theorem canonP_shape (h : (shapeP nanB nodes).1 = 0) : shapeP nanB (canonP nodes) = (0, 0) := by rw [canonP_ok h]; exact (treeP_spec h).canon_shape
theorem treeP_canon (h : (shapeP nanB nodes).1 = 0) : treeP (canonP nodes) = (treeP nodes).mapN (treeP nodes).pre.idxOf := by
  have hTr := treeP_spec h
  have h2 := treeP_spec (nodes := canonP nodes) (by rw [canonP_shape h])
  have h3 := hTr.canon_is hTr.is
  rw [← canonP_ok h] at h3
  exact Is.uniq h2.is h3 (by rw [h2.root, BT.mapN_root, hTr.root, hTr.idx_zero])
theorem canon_wayE {d : Int} (h : wayE nodes d = 0) : wayE (canonP nodes) d = 0 := by
  obtain ⟨h0, hf⟩ := wayE_split h
  refine wayE_ok (by rw [canonP_shape h0]) ?_
  rw [canonP_ok h0]
  unfold fitsP canonN
  rw [List.all_eq_true]
  intro y hy
  obtain ⟨i, hi, rfl⟩ := List.mem_map.1 hy
  have hlt := ((treeP_spec h0).mem i).1 hi
  unfold fitsN
  rw [renum_inner, renum_feature, List.getD_eq_getElem?_getD, List.getElem?_eq_getElem hlt]
  exact List.all_eq_true.1 hf _ (List.getElem_mem hlt)
theorem canon_end (h : (shapeP nanB nodes).1 = 0) : endP (canonP nodes) xs = (treeP nodes).pre.idxOf (endP nodes xs) := by
  have hTr := treeP_spec h
  unfold endP
  rw [treeP_canon h]
  refine BT.mapN_end _ fun i hi => ?_
  have hlt := (hTr.mem i).1 hi
  have hx : nodes[i]? = some nodes[i] := List.getElem?_eq_getElem hlt
  unfold goesAt
  rw [canonP_ok h, hTr.canon_get hx, hx]
  simp only [goesP_renum, renum_feature]
theorem canon_leaf (h : wayE nodes xs.length = 0) : leafK (canonP nodes) xs = leafK nodes xs ∧ leafV (canonP nodes) xs = leafV nodes xs := by
  obtain ⟨h0, hf⟩ := wayE_split h
  have hTr := treeP_spec h0
  have hw := canon_wayE h
  have hend : endP nodes xs ∈ (treeP nodes).pre := by
    have := (treeP nodes).end_leaf (goesAt nodes xs)
    rw [hTr.is.leaves] at this
    exact (List.mem_filter.1 this).1
  constructor
  · unfold leafK
    rw [if_pos h, if_pos hw, canon_end h0, thoseP_leaves h0, thoseP_leaves (by rw [canonP_shape h0]), treeP_canon h0, BT.mapN_leaves]
    refine idxI_map (f := (treeP nodes).pre.idxOf) (e := endP nodes xs) (l := (treeP nodes).leaves) fun x hx he => ?_
    have hxp : x ∈ (treeP nodes).pre := by
      rw [hTr.is.leaves] at hx
      exact (List.mem_filter.1 hx).1
    have h1 := idx_get hxp
    have h2 := idx_get hend
    rw [he, h2] at h1
    simpa using h1.symm
  · unfold leafV
    rw [if_pos h, if_pos hw, canon_end h0]
    have hlt := (hTr.mem _).1 hend
    have hx : nodes[endP nodes xs]? = some (nodes[endP nodes xs]'hlt) := List.getElem?_eq_getElem hlt
    unfold valAt
    rw [canonP_ok h0, hTr.canon_get hx, hx]
    simp only [Option.map_some, renum_value]
theorem canon_twice (h : (shapeP nanB nodes).1 = 0) : canonP (canonP nodes) = canonP nodes := by
  have hTr := treeP_spec h
  have h2 : (shapeP nanB (canonP nodes)).1 = 0 := by rw [canonP_shape h]
  rw [canonP_ok h2, treeP_canon h, hTr.canon_pre, canonP_ok h, hTr.canon_canon]
end
end Go.Mir
