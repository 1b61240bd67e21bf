/- Part of a proof of laws of the seat YtpllehijaidinaaDoor: functions' weakest preconditions, each checked by the kernel, contracts out of them, plain lemmas; no conditions. -/
import Derived.Test.YtpllehijaidinaaDoorTC
import Derived.Test.YtpllehijaidinaaDoorTPA
set_option linter.unusedVariables false
set_option linter.unusedSimpArgs false
set_option maxRecDepth 100000
namespace Go.Mir
open Go Go.E Go.RowKit Go.Tr
noncomputable def depthP (nodes : List ND) : Int := if (shapeP nanB nodes).1 = 0 then ((treeP nodes).depth : Int) else 0
theorem maxL_snoc (m : Nat) (l : List Nat) (x : Nat) : maxL m (l ++ [x]) = max (maxL m l) x := by rw [maxL_append]; rfl
section
variable {w w1 : World} {p : Addr} {o : Int} {a a1 : Option Addr} {n c n1 c1 : Nat} {F : Nat → Prop} {nodes : List ND} {xs : List Nat}
/-! ### the document's Depth -/
def leavesD : BT → Nat → List Nat
  | .leaf _, d => [d]
  | .node _ l r, d => leavesD l (d + 1) ++ leavesD r (d + 1)
theorem leavesD_max : ∀ (T : BT) (d m : Nat), maxL m (leavesD T d) = max m (d + T.depth)
  | .leaf _, d, m => by simp [leavesD, maxL, BT.depth]
  | .node _ l r, d, m => by
    simp only [leavesD, maxL_append, leavesD_max l, leavesD_max r, BT.depth]
    omega
end
end Go.Mir

set_option maxRecDepth 100000
namespace Go.Mir
open Go Go.E Go.RowKit Go.Tr
theorem S_N : SliceT Go.Proofs.Tryd.prog 22 49 8 80 := sliceT (by kernel_rfl)
def fresh (B g : Nat) : Prop := g = 0 ∨ B < g
/-- The blocks that are turned have other element types than these. -/
def Apart (S : Nat → Prop) (w : World) (es : List Nat) : Prop := ∀ k cs e, S k → Blk w k cs e → e ∉ es
section
variable {w u w1 : World} {p : Addr} {o : Int} {a a1 : Option Addr} {n c n1 c1 g B B' : Nat} {F S : Nat → Prop} {nodes : List ND} {xs : List Nat} {ts : List TD} {e : ED} {f b t : SH}
theorem Row.modS {e size : Nat} {cs : List Value} {es : List Nat} (h : Row w e size a n c cs g) (hm : Mod S w u) (hS : Apart S w es) (he : e ∈ es) : Row u e size a n c cs g := by
  refine ⟨h.1, ?_⟩
  rcases h.2 with h0 | ⟨b, cur, rfl, h1, hb, h2⟩
  · exact .inl h0
  · exact .inr ⟨b, cur, rfl, h1, hb.mod hm (fun hs => hS b cur e hs hb he), h2⟩
theorem Row.apart {e' size : Nat} {cs : List Value} {es : List Nat} (h : Row w e' size a n c cs g) (he : e' ∉ es) : Apart (fun k => k + 1 = g) w es := by
  intro k cs' e hk hb
  rcases h.2 with ⟨rfl, _⟩ | ⟨b, cur, rfl, _, hb', _⟩
  · cases hk
  · obtain rfl : k = b := by have hk' : k + 1 = b + 1 := hk; omega
    unfold Blk at hb hb'
    rw [hb] at hb'
    cases hb'
    exact he
theorem Blk.apartS {k0 e' : Nat} {cs : Array Value} {es : List Nat} (h : Blk w k0 cs e') (he : e' ∉ es) : Apart (fun k => k + 1 = k0 + 1) w es := by
  intro k cs' e hk hb
  obtain rfl : k = k0 := by have hk' : k + 1 = k0 + 1 := hk; omega
  unfold Blk at hb h
  rw [hb] at h
  cases h
  exact he
/-- Nodes in new memory. -/
def OwnN (B : Nat) (w : World) (a : Option Addr) (n c : Nat) (nodes : List ND) : Prop := ∃ g l, ArrK 8 enH 49 w a n c l g ∧ fresh B g ∧ nodes = l.map (·.1) ∧ ∀ x ∈ l, ∃ gx, Arr enI 3 w x.2.a x.2.n x.2.c x.1.cats gx ∧ fresh B gx
theorem OwnN.modS (h : OwnN B w a n c nodes) (hm : Mod S w u) (hS : Apart S w [49, 3]) : OwnN B u a n c nodes := by
  obtain ⟨g, l, h1, h2, h3, h4⟩ := h
  exact ⟨g, l, Row.modS h1 hm hS (by simp), h2, h3, fun x hx => let ⟨gx, k1, k2⟩ := h4 x hx; ⟨gx, Row.modS k1 hm hS (by simp), k2⟩⟩
theorem OwnN.kept (h : OwnN B w a n c nodes) (hk : Kept w u) : OwnN B u a n c nodes := h.modS (S := fun _ => False) (Kept.mod hk) (fun _ _ _ h => h.elim)
theorem OwnN.weak (h : OwnN B w a n c nodes) (hB : B' ≤ B) : OwnN B' w a n c nodes := by
  obtain ⟨g, l, h1, h2, h3, h4⟩ := h
  exact ⟨g, l, h1, h2.imp id (fun h => Nat.lt_of_le_of_lt hB h), h3, fun x hx => let ⟨gx, k1, k2⟩ := h4 x hx; ⟨gx, k1, k2.imp id (fun h => Nat.lt_of_le_of_lt hB h)⟩⟩
def newB (B : Nat) (w : World) (b : Nat) : Prop := B ≤ b ∧ b < w.heap.size
theorem OwnN.ls (h : OwnN B w a n c nodes) : Ls tN (newB B w) w a n c nodes := by
  obtain ⟨g, l, h1, h2, rfl, h4⟩ := h
  have l1 := h1.le
  refine h1.lsN (fun b hb => ⟨?_, ?_⟩) fun x hx => ?_
  · unfold fresh at h2; omega
  · omega
  · obtain ⟨gx, k1, k2⟩ := h4 x hx
    have l2 := k1.le
    refine (k1.ls (h1 := fun _ => rfl)).mono fun b hb => ⟨?_, ?_⟩
    · unfold fresh at k2; omega
    · omega
theorem OwnN.len (h : OwnN B w a n c nodes) : n = nodes.length := h.ls.len
theorem OwnN.good (h : OwnN B w a n c nodes) (hn : n ≤ 1048576) (hs : Short 1048576 nodes) : Good (newB B w) w a n c nodes := ⟨h.ls, fun b hb => hb.2, hn, hs⟩
theorem OwnN.nil (B : Nat) (w : World) (a : Option Addr) (c : Nat) (h : a = none ∧ c = 0) : OwnN B w a 0 c [] := by
  obtain ⟨rfl, rfl⟩ := h
  exact ⟨0, [], ArrK.nil _ _ _ _, .inl rfl, rfl, fun x hx => by cases hx⟩
/-- Trees in new memory. -/
def OwnT (B : Nat) (w : World) (a : Option Addr) (n c : Nat) (ts : List TD) : Prop := ∃ g l, ArrK 2 enTH 24 w a n c l g ∧ fresh B g ∧ ts = l.map (·.1) ∧ ∀ x ∈ l, OwnN B w x.2.a x.2.n x.2.c x.1.nodes
theorem OwnT.modS (h : OwnT B w a n c ts) (hm : Mod S w u) (hS : Apart S w [24, 49, 3]) : OwnT B u a n c ts := by
  obtain ⟨g, l, h1, h2, h3, h4⟩ := h
  exact ⟨g, l, Row.modS h1 hm hS (by simp), h2, h3, fun x hx => (h4 x hx).modS hm fun k cs e hk hb he => hS k cs e hk hb (by simp only [List.mem_cons] at he ⊢; exact .inr he)⟩
theorem OwnT.kept (h : OwnT B w a n c ts) (hk : Kept w u) : OwnT B u a n c ts := h.modS (S := fun _ => False) (Kept.mod hk) (fun _ _ _ h => h.elim)
theorem OwnT.weak (h : OwnT B w a n c ts) (hB : B' ≤ B) : OwnT B' w a n c ts := by
  obtain ⟨g, l, h1, h2, h3, h4⟩ := h
  exact ⟨g, l, h1, h2.imp id (fun h => Nat.lt_of_le_of_lt hB h), h3, fun x hx => (h4 x hx).weak hB⟩
theorem OwnT.ls (h : OwnT B w a n c ts) : Ls tT (newB B w) w a n c ts := by
  obtain ⟨g, l, h1, h2, rfl, h4⟩ := h
  have l1 := h1.le
  refine h1.lsT (fun b hb => ⟨?_, ?_⟩) fun x hx => (h4 x hx).ls
  · unfold fresh at h2; omega
  · omega
/-- An ensemble in new memory. -/
structure OwnE (B : Nat) (w : World) (e : ED) (f b t : SH) : Prop where
  fs : ∃ g, Arr enS 9 w f.a f.n f.c e.features g ∧ fresh B g
  bs : ∃ g, Arr enI 2 w b.a b.n b.c e.base g ∧ fresh B g
  ts : OwnT B w t.a t.n t.c e.trees
theorem OwnE.modS (h : OwnE B w e f b t) (hm : Mod S w u) (hS : Apart S w [9, 2, 24, 49, 3]) : OwnE B u e f b t :=
  ⟨let ⟨g, h1, h2⟩ := h.fs; ⟨g, Row.modS h1 hm hS (by simp), h2⟩, let ⟨g, h1, h2⟩ := h.bs; ⟨g, Row.modS h1 hm hS (by simp), h2⟩, h.ts.modS hm fun k cs e hk hb he => hS k cs e hk hb (by simp only [List.mem_cons] at he ⊢; exact .inr (.inr he))⟩
theorem OwnE.kept (h : OwnE B w e f b t) (hk : Kept w u) : OwnE B u e f b t := h.modS (S := fun _ => False) (Kept.mod hk) (fun _ _ _ h => h.elim)
theorem OwnE.weak (h : OwnE B w e f b t) (hB : B' ≤ B) : OwnE B' w e f b t :=
  ⟨let ⟨g, h1, h2⟩ := h.fs; ⟨g, h1, h2.imp id (fun h => Nat.lt_of_le_of_lt hB h)⟩, let ⟨g, h1, h2⟩ := h.bs; ⟨g, h1, h2.imp id (fun h => Nat.lt_of_le_of_lt hB h)⟩, h.ts.weak hB⟩
theorem arr_new {α : Type} {en : α → Value} {h1 : ∀ x, (en x).oneCell' = true} {e : Nat} {ys : List α} (h : Arr en e w a n c ys g) (hg : fresh B g) : Ls (Ty.flat en h1) (newB B w) w a n c ys := by
  have l2 := h.le
  refine h.ls.mono fun b hb => ⟨?_, ?_⟩
  · unfold fresh at hg; omega
  · omega
/-- What is known of an ensemble's sizes. -/
structure Sized (e : ED) : Prop where
  fm : e.features.length ≤ 1048576
  bm : e.base.length ≤ 1048576
  tm : e.trees.length ≤ 1048576
  good : ∀ x ∈ e.trees, x.nodes.length ≤ 1048576 ∧ Short 1048576 x.nodes
theorem GoodE.sized (h : GoodE F w e f b t) : Sized e := ⟨by rw [← h.fs.len]; exact h.fm, by rw [← h.bs.len]; exact h.bm, by rw [← h.ts.len]; exact h.tm, h.good⟩
theorem OwnE.good (h : OwnE B w e f b t) (hs : Sized e) : GoodE (newB B w) w e f b t := by
  obtain ⟨g1, h1, k1⟩ := h.fs
  obtain ⟨g2, h2, k2⟩ := h.bs
  have l3 := h.ts.ls
  exact ⟨arr_new h1 k1, arr_new h2 k2, l3, fun b hb => hb.2, by rw [h1.len]; exact hs.fm, by rw [h2.len]; exact hs.bm, by rw [l3.len]; exact hs.tm, hs.good⟩
theorem NewA.own {α : Type} {en : α → Value} {e : Nat} {ys : List α} (h : NewA en e w u a n c ys) : ∃ g, Arr en e u a n c ys g ∧ fresh w.heap.size g := let ⟨g, h1, h2, _⟩ := h; ⟨g, h1, h2⟩

/-! ### clones -/
/-- An own row of nodes takes one more. -/
theorem enH_one (x : ND × SH) : ∀ v ∈ enH x, v.oneCell' = true := by
  intro v hv
  simp only [enH, enN, List.mem_cons, List.not_mem_nil, or_false] at hv
  rcases hv with h | h | h | h | h | h | h | h <;> subst h <;> rfl
theorem enTH_one (x : TD × SH) : ∀ v ∈ enTH x, v.oneCell' = true := by
  intro v hv
  simp only [enTH, List.mem_cons, List.not_mem_nil, or_false] at hv
  rcases hv with h | h <;> subst h <;> rfl
theorem fresh_mono {B B' g : Nat} (h : fresh B g) (hB : B' ≤ B) : fresh B' g := h.imp id fun h => Nat.lt_of_le_of_lt hB h
theorem mem_take_snoc {α : Type} {l : List α} {x y : α} (h : y ∈ l ++ [x]) : y ∈ l ∨ y = x := by simpa using h

/-! ### the document's Nodes -/
theorem refnodes_loop {R : Value → World → Prop} (hG : Good F w1 a n c nodes) (hend : ∀ u a' c', From w1.heap.size w1 u → OwnN w1.heap.size u a' n c' nodes → R (.slice a' n c') u) :
    ∀ (k i : Nat) (w : World) (l : List (ND × SH)) (a3 : Option Addr) (c3 g3 : Nat), i + k = n → From w1.heap.size w1 w → ArrK 8 enH 49 w a3 i c3 l g3 → fresh w1.heap.size g3 → l.map (·.1) = nodes.take i → (∀ x ∈ l, ∃ gx, Arr enI 3 w x.2.a x.2.n x.2.c x.1.cats gx ∧ fresh w1.heap.size gx) → thicketref07_Nodes.l8 R (k + 1) a3 i c3 a n c n i w := by
  have hn := hG.len
  have hmx := hG.max
  intro k
  induction k with
  | zero =>
    intro i w l a3 c3 g3 hi hw h3 hg3 hl hx
    unfold thicketref07_Nodes.l8 thicketref07_Nodes.g8
    refine onDec_f (by omega) ?_
    rw [List.take_of_length_le (by omega)] at hl
    obtain rfl : i = n := by omega
    exact hend w a3 c3 hw ⟨g3, l, h3, hg3, hl.symm, hx⟩
  | succ k ih =>
    intro i w l a3 c3 g3 hi hw h3 hg3 hl hx
    unfold thicketref07_Nodes.l8 thicketref07_Nodes.g8
    refine onDec_t (by omega) ?_
    refine (hG.from hw).ls.rdN (by omega) (by omega) fun x a5 n5 c5 hxi hcs => ?_
    rw [Int.toNat_natCast] at hxi
    have hsx := hG.short x (List.mem_of_getElem? hxi)
    have hc5 := hcs.len
    refine box8z fun u2 hb2 hb8 hk2 => ⟨_, _, _, hb8.c4, ?_⟩
    refine Arr.pushes S_I (Arr.nil enI 3 u2) (fun _ => rfl) (hcs.kept hk2).sl (by simp only [maxLen]; omega) (by omega) fun a6 c6 g6 u3 h6 hg6 ho => ⟨_, _, _, rfl, ?_⟩
    simp only [Nat.zero_add, List.nil_append] at h6 ⊢
    have hk3 : Kept u2 u3 := Mod.kept (S := fun k => k + 1 = 0) ho (fun k _ h => by omega)
    have hb3 := hb2.mod (Kept.mod (S := fun _ => False) hk3) (fun h => h)
    refine hb3.wr0 (by simp [enN]) fun u4 hb4 ho4 => ?_
    have hb84 : At8 u4 (na w) x a6 n5 c6 := .of_blk hb4
    refine hb84.ld ?_
    have s2 := hk2.size
    have s3 := hk3.size
    have l3 := h3.le
    have l6 := h6.le
    have hw4 : From w1.heap.size w1 u4 := ((hw.keptThen hk2).keptThen hk3).only ho4 (.inr (by have := hw.size; omega))
    have hk23 := Kept.trans hk2 hk3
    have h34 : ArrK 8 enH 49 u4 a3 i c3 l g3 := (h3.kept hk23).mod ho4 fun k h1 h2 => by omega
    have s1 := hw.size
    have ap4 : Apart (fun k => k + 1 = w.heap.size + 1) u3 [3] := Blk.apartS hb3 (by decide)
    refine ArrK.push (k := 8) (en := enH) S_N (fun _ => rfl) (by omega) h34 (x := (x, ⟨a6, n5, c6⟩)) rfl (enH_one _) (by simp only [maxLen]; omega) (by omega) fun a7 c7 g7 u5 h7 hg7 hg70 ho5 => ⟨_, _, _, rfl, ?_⟩
    refine nv_succ (by omega) ?_
    have ap5 : Apart (fun k => k + 1 = g3) u4 [3] := Row.apart h34 (by decide)
    have s4 := ho4.size
    refine ih (i + 1) u5 (l ++ [(x, ⟨a6, n5, c6⟩)]) a7 c7 g7 (by omega) (hw4.only ho5 hg3) h7 (by unfold fresh at hg3 ⊢; omega) (by rw [List.map_append, hl, take_snoc hxi]; rfl) fun y hy => ?_
    rcases mem_take_snoc hy with h | h
    · obtain ⟨gx, k1, k2⟩ := hx y h
      exact ⟨gx, Row.modS (Row.modS (k1.kept hk23) ho4 ap4 (by simp)) ho5 ap5 (by simp), k2⟩
    · subst h
      exact ⟨g6, Row.modS (Row.modS h6 ho4 ap4 (by simp)) ho5 ap5 (by simp), by unfold fresh; omega⟩
theorem refNodes_c (hG : Good F w a n c nodes) : E.CallsD Go.Proofs.Tryd.prog 21 #[.slice a n c] w fun v u => ∃ a' c', v = .slice a' n c' ∧ OwnN w.heap.size u a' n c' nodes ∧ Kept w u := by
  refine thicketref07_Nodes.calls ?_
  unfold thicketref07_Nodes thicketref07_Nodes.g0
  exact ⟨n + 1, refnodes_loop (w1 := w) hG (fun u a' c' hu ho => ⟨_, _, rfl, ho, From.kept hu⟩) n 0 w [] none 0 0 (by omega) (From.refl _ _) (ArrK.nil _ _ _ _) (.inl rfl) (by simp) (fun x hx => by cases hx)⟩
end
end Go.Mir

set_option maxRecDepth 100000
namespace Go.Mir
open Go Go.E Go.RowKit Go.Tr
section
variable {w u w1 : World} {p : Addr} {o : Int} {a a1 : Option Addr} {n c n1 c1 g B B' : Nat} {F S : Nat → Prop} {nodes : List ND} {xs : List Nat} {ts : List TD} {e : ED} {f b t : SH}
/-- What is known of a call's new nodes. -/
def FNo (j B n : Nat) (nodes : List ND) : Nat → Value → World → Prop := fun i v u => i = j → ∃ a c, v = .slice a n c ∧ OwnN B u a n c nodes
theorem FNo.keep {j B n : Nat} {nodes : List ND} (i : Nat) (v : Value) (u u' : World) (h : FNo j B n nodes i v u) (hk : Below u.heap.size u u') : FNo j B n nodes i v u' := fun hi => by
  obtain ⟨a, c, h1, h2⟩ := h hi
  exact ⟨a, c, h1, h2.kept hk⟩
/-! ### the document's Copy -/
/-- What is known of the new nodes (5), and of the new tree (7). -/
def FTo (B n : Nat) (x : TD) : Nat → Value → World → Prop := fun i v u => (i = 5 → ∃ a c, v = .slice a n c ∧ OwnN B u a n c x.nodes) ∧ (i = 7 → ∃ q a c, v = .slice (some q) 1 1 ∧ At2 u q x.output a n c ∧ OwnN B u a n c x.nodes)
theorem FTo.keep {B n : Nat} {x : TD} (i : Nat) (v : Value) (u u' : World) (h : FTo B n x i v u) (hk : Below u.heap.size u u') : FTo B n x i v u' := ⟨fun hi => by
  obtain ⟨a, c, h1, h2⟩ := h.1 hi
  exact ⟨a, c, h1, h2.kept hk⟩, fun hi => by
  obtain ⟨q, a, c, h1, h2, h3⟩ := h.2 hi
  exact ⟨q, a, c, h1, h2.kept hk, h3.kept hk⟩⟩
theorem GoodE.at (hE : GoodE F w e f b t) {i : Nat} {x : TD} {a' : Option Addr} {n' c' : Nat} (hx : e.trees[i]? = some x) (hL : Ls tN F w a' n' c' x.nodes) : Good F w a' n' c' x.nodes := by
  obtain ⟨hg1, hg2⟩ := hE.good x (List.mem_of_getElem? hx)
  exact ⟨hL, hE.old, by rw [hL.len]; exact hg1, hg2⟩
end
end Go.Mir

set_option maxRecDepth 100000
namespace Go.Mir
open Go Go.E Go.RowKit Go.Tr
def F1 (j : Nat) (Q : Value → World → Prop) : Nat → Value → World → Prop := fun i v u => i = j → Q v u
theorem F1.keep {j : Nat} {Q : Value → World → Prop} (hQ : ∀ v u u', Q v u → Kept u u' → Q v u') (i : Nat) (v : Value) (u u' : World) (h : F1 j Q i v u) (hk : Below u.heap.size u u') : F1 j Q i v u' := fun hi => hQ _ _ _ (h hi) hk
/-- A list in new memory. -/
def NewQ {α : Type} (en : α → Value) (e B n : Nat) (xs : List α) (v : Value) (u : World) : Prop := ∃ a c, v = .slice a n c ∧ ∃ g, Arr en e u a n c xs g ∧ fresh B g
theorem NewQ.keep {α : Type} {en : α → Value} {e B n : Nat} {xs : List α} (v : Value) (u u' : World) (h : NewQ en e B n xs v u) (hk : Kept u u') : NewQ en e B n xs v u' := by
  obtain ⟨a, c, h1, g, h2, h3⟩ := h
  exact ⟨a, c, h1, g, h2.kept hk, h3⟩
section
variable {w u w1 : World} {p : Addr} {o : Int} {a a1 : Option Addr} {n c n1 c1 g B B' : Nat} {F S : Nat → Prop} {nodes : List ND} {xs : List Nat} {ts : List TD} {e : ED} {f b t : SH}
theorem GoodE.fromB (hE : GoodE F w e f b t) (hF : ∀ b, F b → b < B) (hm : From B w u) : GoodE F u e f b t :=
  ⟨From.ls hE.fs hm hF, From.ls hE.bs hm hF, From.ls hE.ts hm hF, fun b hb => Nat.lt_of_lt_of_le (hE.old b hb) hm.size, hE.fm, hE.bm, hE.tm, hE.good⟩
end
end Go.Mir

set_option maxRecDepth 100000
namespace Go.Mir
open Go Go.E Go.RowKit Go.Tr
section
variable {w u w1 : World} {p : Addr} {o o1 : Int} {a a1 b1 : Option Addr} {n c n1 c1 m d g B B' : Nat} {F F' S : Nat → Prop} {nodes nodes' : List ND} {xs ys : List Int} {ss rs : List ByteArray} {ts ts' : List TD} {e e' : ED} {f b t f' b' t' : SH} {x y : ND}
theorem ne_of_get {α : Type} {l r : List α} {i : Nat} {x y : α} (hx : l[i]? = some x) (hy : r[i]? = some y) (h : x ≠ y) : l ≠ r := fun e => by subst e; rw [hx] at hy; exact h (by simpa using hy)
theorem rdS (h : Sl enS w a n ss) {i : Int} {K : ByteArray → Prop} (h0 : 0 ≤ i) (hi : i < n) (hk : ∀ x, ss[i.toNat]? = some x → K x) :
    optN a fun q => chk (0 ≤ i ∧ i < (n : Int)) (∃ y : ByteArray, w.cell? (q.add (i.toNat * 1)) = some (.string y) ∧ K y) := h.rd (f := fun y => .string y) (sel := fun x => x) (fun _ => rfl) h0 hi hk
theorem onStr {s r : ByteArray} {t f : Prop} (ht : s = r → t) (hf : s ≠ r → f) : onBool (s.toList == r.toList) t f := by
  rw [str_eq]
  by_cases h : s = r
  · rw [decB_t h]; exact ht h
  · rw [decB_f h]; exact hf h
theorem onStrN {s r : ByteArray} {t f : Prop} (ht : s ≠ r → t) (hf : s = r → f) : onBool (!(s.toList == r.toList)) t f := by
  rw [str_eq]
  by_cases h : s = r
  · rw [decB_t h]; exact hf h
  · rw [decB_f h]; exact ht h
/-! ### nodes -/
theorem ND_eq (h0 : x.kind = y.kind) (h1 : x.value = y.value) (h2 : x.feature = y.feature) (h3 : x.thr = y.thr) (h4 : x.cats = y.cats) (h5 : x.missing = y.missing) (h6 : x.left = y.left) (h7 : x.right = y.right) : x = y := by
  cases x; cases y; simp_all
theorem refalike_loop {R : Value → World → Prop} (hG : Good F w1 a n c nodes) (hG' : Good F' w1 a1 m d nodes') (hT : At2 w1 p o1 a1 m d) (he : n = m) (hR : ∀ u, From w1.heap.size w1 u → R (.bool (decB (nodes = nodes'))) u) : ∀ (k i : Nat) (w : World), i + k = n → From w1.heap.size w1 w → nodes.take i = nodes'.take i → thicketref07_Alike.l14 R (k + 1) (some p) a n c n i w
  | 0, i, w, hi, hw, hp => by
    have hn := hG.len
    have hn' := hG'.len
    unfold thicketref07_Alike.l14 thicketref07_Alike.g14
    refine onDec_f (by omega) ?_
    rw [List.take_of_length_le (by omega), List.take_of_length_le (by omega)] at hp
    have := hR w hw
    rw [decB_t hp] at this
    exact this
  | k + 1, i, w, hi, hw, hp => by
    have hn := hG.len
    have hn' := hG'.len
    have hmx := hG.max
    unfold thicketref07_Alike.l14 thicketref07_Alike.g14
    refine onDec_t (by omega) ?_
    refine (hG.from hw).ls.rdN (by omega) (by omega) fun x a5 n5 c5 hx hcs => ?_
    rw [Int.toNat_natCast] at hx
    refine box8z fun u _ hb hk => ?_
    have hu := hw.keptThen hk
    refine optN_mk ⟨_, _, _, (hT.from hu).c1, ?_⟩
    refine (hG'.from hu).ls.rdN (by omega) (by omega) fun y a6 n6 c6 hy hcs' => ?_
    rw [Int.toNat_natCast] at hy
    refine box8z fun u2 _ hb2 hk2 => ?_
    have hb' := hb.kept hk2
    have hs5 := hG.short x (List.mem_of_getElem? hx)
    have hl5 := hcs.len
    have hu2 := hu.keptThen hk2
    have no : x ≠ y → ∀ u, Below u2.heap.size u2 u → R (.bool false) u := fun h u hu => by
      have := hR u (hu2.keptThen hu)
      rw [decB_f (ne_of_get hx hy h)] at this
      exact this
    refine ⟨_, hb'.c0, _, hb2.c0, onNe (fun e0 => no fun h => e0 (by rw [h])) fun e0 => ?_⟩
    refine ⟨_, hb'.c1, _, hb2.c1, onNe (fun e0 => no fun h => e0 (by rw [h])) fun e1 => ?_⟩
    refine ⟨_, hb'.c2, _, hb2.c2, onNe (fun e0 => no fun h => e0 (by rw [h])) fun e2 => ?_⟩
    refine ⟨_, hb'.c3, _, fb _ _, _, hb2.c3, _, fb _ _, onNe (fun e0 => no fun h => e0 (by rw [h])) fun e3 => ?_⟩
    refine ⟨_, _, _, hb'.c4, _, _, _, hb2.c4, decide (x.cats = y.cats), fun u hu => pq (Ints_c (hcs.kept (Kept.trans hk (Kept.trans hk2 hu))).sl (hcs'.kept (Kept.trans hk2 hu)).sl (by omega)) hu, ?_⟩
    by_cases e4 : x.cats = y.cats
    · rw [decide_eq_true e4]
      refine ob_f ?_
      refine ⟨_, hb'.c5, _, hb2.c5, onNe (fun e0 => no fun h => e0 (by rw [h])) fun e5 => ?_⟩
      refine ⟨_, hb'.c6, _, hb2.c6, onNe (fun e0 => no fun h => e0 (by rw [h])) fun e6 => ?_⟩
      refine ⟨_, hb'.c7, _, hb2.c7, fun u3 hu3 => onNe (fun e0 => no (fun h => e0 (by rw [h])) u3 hu3) fun e7 => ?_⟩
      have h := ND_eq e0 e1 e2 (by omega) e4 e5 e6 e7
      subst h
      refine nv_succ (by omega) ?_
      exact refalike_loop hG hG' hT he hR k (i + 1) u3 (by omega) (hu2.keptThen hu3) (by rw [take_snoc hx, take_snoc hy, hp])
    · rw [decide_eq_false e4]
      exact ob_t (no fun h => e4 (by rw [h]))
theorem refAlike_c (hG : Good F w a n c nodes) (hG' : Good F' w a1 m d nodes') : Pure Go.Proofs.Tryd.prog 27 #[vT o a n c, vT o1 a1 m d] w (.bool (decB (o = o1 ∧ nodes = nodes'))) := by
  refine thicketref07_Alike.calls (R := fun v' u => v' = _ ∧ Below w.heap.size w u) ?_
  unfold thicketref07_Alike thicketref07_Alike.g0
  refine box2T fun w1 _ hT1 hk1 => box2T fun w2 _ hT2 hk2 => ?_
  have hT := hT1.kept hk2
  have hk := Kept.trans hk1 hk2
  have hl := hG.len
  have hl2 := hG'.len
  refine ⟨_, hT.c0, _, hT2.c0, onNe (fun e0 => ⟨by rw [decB_f (fun h => e0 h.1)], hk⟩) fun e0 => ?_⟩
  refine ⟨_, _, _, hT.c1, _, _, _, hT2.c1, onNe (fun e1 => ⟨by rw [decB_f (fun h => e1 (by rw [hl, hl2, h.2]))], hk⟩) fun e1 => ⟨_, _, _, hT.c1, ?_⟩⟩
  exact ⟨n + 1, refalike_loop (w1 := w2) (hG.kept hk) (hG'.kept hk) hT2 (by omega) (fun u hu => ⟨by rw [decB_eq (p := nodes = nodes') (q := o = o1 ∧ nodes = nodes') ⟨fun h => ⟨e0, h⟩, fun h => h.2⟩], Kept.trans hk (From.kept hu)⟩) n 0 w2 (by omega) (From.refl _ _) rfl⟩
end
end Go.Mir

set_option maxRecDepth 100000
namespace Go.Mir
open Go Go.E Go.RowKit Go.Tr
section
variable {w u w1 : World} {p q : Addr} {o o1 : Int} {a a1 b1 : Option Addr} {n c n1 c1 m d g B B' : Nat} {F F' S : Nat → Prop} {nodes nodes' : List ND} {ts ts' : List TD} {e e' : ED} {f b t f' b' t' : SH} {x y : TD}
theorem TD_iff : x = y ↔ (x.output = y.output ∧ x.nodes = y.nodes) := by
  constructor
  · intro h; rw [h]; exact ⟨rfl, rfl⟩
  · intro h; cases x; cases y; simp_all
theorem ED_eq (h0 : e.name = e'.name) (h1 : e.features = e'.features) (h2 : e.outputs = e'.outputs) (h3 : e.base = e'.base) (h4 : e.trees = e'.trees) : e = e' := by
  cases e; cases e'; simp_all
/-! ### the document's Same -/
end
end Go.Mir

set_option maxRecDepth 100000
namespace Go.Mir
open Go Go.E Go.RowKit Go.Tr
/-- The places, when so many are known. -/
def placeK (pre : List Nat) (k n : Nat) : List Int := (List.range n).map fun j => if pre.idxOf j < k then (pre.idxOf j : Int) else 0
theorem placeK_len (pre : List Nat) (k n : Nat) : (placeK pre k n).length = n := by simp [placeK]
theorem placeK_get {pre : List Nat} {k n j : Nat} (hj : j < n) : (placeK pre k n)[j]? = some (if pre.idxOf j < k then (pre.idxOf j : Int) else 0) := by simp [placeK, hj]
theorem placeK_zero (pre : List Nat) (n : Nat) : placeK pre 0 n = List.replicate n 0 := by
  apply List.ext_getElem?
  intro i
  by_cases hi : i < n
  · rw [placeK_get hi, List.getElem?_replicate, if_pos hi]; simp
  · rw [List.getElem?_eq_none (by rw [placeK_len]; omega), List.getElem?_eq_none (by simp; omega)]
theorem placeK_succ {pre : List Nat} {k n i : Nat} (hnd : pre.Nodup) (hi : pre[k]? = some i) (hin : i < n) : (placeK pre k n).set i (k : Int) = placeK pre (k + 1) n := by
  have hx : pre.idxOf i = k := by
    obtain ⟨hlt, rfl⟩ := List.getElem?_eq_some_iff.1 hi
    exact hnd.idxOf_getElem k hlt
  apply List.ext_getElem?
  intro j
  by_cases hj : j < n
  · rw [placeK_get hj]
    by_cases hij : i = j
    · subst hij
      rw [List.getElem?_set_self (by rw [placeK_len]; exact hin), hx, if_pos (by omega)]
    · rw [List.getElem?_set_ne hij, placeK_get hj]
      have hne : pre.idxOf j ≠ k := fun e => by
        by_cases hm : j ∈ pre
        · have := idx_get hm
          rw [e, hi] at this
          exact hij (by simpa using this)
        · rw [List.idxOf_eq_length hm] at e
          have := (List.getElem?_eq_some_iff.1 hi).1
          omega
      by_cases h : pre.idxOf j < k
      · rw [if_pos h, if_pos (by omega)]
      · rw [if_neg h, if_neg (by omega)]
  · rw [List.getElem?_eq_none (by rw [List.length_set, placeK_len]; omega), List.getElem?_eq_none (by rw [placeK_len]; omega)]
noncomputable def canonP (nodes : List ND) : List ND := if (shapeP nanB nodes).1 = 0 then canonN (treeP nodes).pre nodes else []
noncomputable def canonO (o : Int) (nodes : List ND) : Int := if (shapeP nanB nodes).1 = 0 then o else 0
section
variable {w u w1 : World} {p : Addr} {o : Int} {a a1 : Option Addr} {n c n1 c1 m d g B B' : Nat} {F F' S : Nat → Prop} {nodes : List ND}
theorem placeK_rd {T : BT} (hTr : Tree nanB nodes T) (hn : n = nodes.length) {j : Int} (h0 : 0 ≤ j) (hj : j < n) : (placeK T.pre n n)[j.toNat]? = some (T.pre.idxOf j.toNat : Int) := by
  rw [placeK_get (by omega), if_pos]
  rw [hn, ← hTr.length]
  exact List.idxOf_lt_length_iff.2 ((hTr.mem _).2 (by omega))
theorem canonP_ok (h : (shapeP nanB nodes).1 = 0) : canonP nodes = canonN (treeP nodes).pre nodes := by unfold canonP; rw [if_pos h]
theorem canonP_no (h : (shapeP nanB nodes).1 ≠ 0) : canonP nodes = [] := by unfold canonP; rw [if_neg h]
end
end Go.Mir

set_option maxRecDepth 100000
namespace Go.Mir
open Go Go.E Go.RowKit Go.Tr
def ndZ : ND := ⟨0, 0, 0, 0, [], 0, 0, 0⟩
/-- What is known of the drawn values: new nodes (3), a new tree (5). -/
def FCn (B n : Nat) : Nat → Value → World → Prop := fun i v u => (i = 3 → ∃ b, v = .slice (some ⟨b, 0, none⟩) n n ∧ ArrK 8 enH 49 u (some ⟨b, 0, none⟩) n n (List.replicate n (ndZ, ⟨none, 0, 0⟩)) (b + 1) ∧ B ≤ b) ∧ (i = 5 → ∃ Bw : World, v = .pointer (some (na Bw)) ∧ Blk u Bw.heap.size #[.int .i64 0, .slice none 0 0] 24 ∧ B ≤ Bw.heap.size)
theorem FCn.keep {B n : Nat} (i : Nat) (v : Value) (u u' : World) (h : FCn B n i v u) (hk : Below u.heap.size u u') : FCn B n i v u' := ⟨fun hi => by
  obtain ⟨b, h1, h2, h3⟩ := h.1 hi
  exact ⟨b, h1, h2.kept hk, h3⟩, fun hi => by
  obtain ⟨b, h1, h2, h3⟩ := h.2 hi
  exact ⟨b, h1, h2.mod (Kept.mod (S := fun _ => False) hk) (fun h => h), h3⟩⟩
section
variable {w u w1 W : World} {p : Addr} {o : Int} {a a1 : Option Addr} {n c n1 c1 m d g B B' : Nat} {F F' S : Nat → Prop} {nodes : List ND}
/-- What the loop of Canon holds. -/
structure CnI (B : Nat) (pre : List Nat) (nodes : List ND) (i : Nat) (w : World) (ao : Option Addr) (n go : Nat) (l : List (ND × SH)) : Prop where
  row : ArrK 8 enH 49 w ao n n l go
  own : ∀ x ∈ l, ∃ gx, Arr enI 3 w x.2.a x.2.n x.2.c x.1.cats gx ∧ fresh B gx
  done : ∀ (j : Nat) x, j < i → nodes[j]? = some x → ∃ sh, l[pre.idxOf j]? = some (renum pre x, sh)
theorem Good.modS (h : Good F w a n c nodes) (hm : Mod S w u) (hS : ∀ b, F b → ¬ S b) : Good F u a n c nodes := ⟨h.ls.mod hm hS, fun b hb => Nat.lt_of_lt_of_le (h.old b hb) hm.size, h.max, h.short⟩
theorem CnI.kept {pre : List Nat} {i : Nat} {ao : Option Addr} {go : Nat} {l : List (ND × SH)} (h : CnI B pre nodes i w ao n go l) (hk : Kept w u) : CnI B pre nodes i u ao n go l :=
  ⟨h.row.kept hk, fun x hx => let ⟨gx, h1, h2⟩ := h.own x hx; ⟨gx, h1.kept hk, h2⟩, h.done⟩
/-- At the end all nodes stand. -/
theorem CnI.all {T : BT} {ao : Option Addr} {go : Nat} {l : List (ND × SH)} (hTr : Tree nanB nodes T) (hn : n = nodes.length) (h : CnI B T.pre nodes n w ao n go l) : l.map (·.1) = canonN T.pre nodes := by
  have hl := h.row.lenH
  apply List.ext_getElem?
  intro j
  by_cases hj : j < n
  · have hjp : j < T.pre.length := by rw [hTr.length]; omega
    obtain ⟨i, hie⟩ : ∃ i, T.pre[j]'hjp = i := ⟨_, rfl⟩
    have hi : T.pre[j]? = some i := by rw [← hie]; exact List.getElem?_eq_getElem _
    have hin : i < nodes.length := (hTr.mem i).1 (List.mem_of_getElem? hi)
    have hx : nodes[i]? = some nodes[i] := List.getElem?_eq_getElem hin
    obtain ⟨sh, hs⟩ := h.done i _ (by omega) hx
    have e1 : T.pre.idxOf i = j := by rw [← hie]; exact hTr.nodup.idxOf_getElem j hjp
    rw [e1] at hs
    have e2 := hTr.canon_get hx
    rw [e1] at e2
    rw [e2, List.getElem?_map, hs]
    rfl
  · rw [List.getElem?_eq_none (by rw [List.length_map]; omega), List.getElem?_eq_none (by rw [canonN_length, hTr.length]; omega)]
end
end Go.Mir
