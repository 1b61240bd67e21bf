/- Part of a proof of laws of the seat Ytdealcfgobobiaa: functions' weakest preconditions, each checked by the kernel, contracts out of them, plain lemmas; no conditions. -/
import Derived.Test.YtdealcfgobobiaaT21
set_option linter.unusedVariables false
set_option linter.unusedSimpArgs false
set_option maxRecDepth 100000
namespace Go.Mir
open Go Go.E Go.RowKit Go.Tr
theorem S_N : SliceT Go.Proofs.Try.prog 31 27 8 80 := sliceT (by kernel_rfl)
theorem S_T : SliceT Go.Proofs.Try.prog 44 33 2 32 := sliceT (by kernel_rfl)
def fresh (B g : Nat) : Prop := g = 0 ∨ B < g
/-- The blocks that are turned have other element types than these. -/
def Apart (S : Nat → Prop) (w : World) (es : List Nat) : Prop := ∀ k cs e, S k → Blk w k cs e → e ∉ es
section
variable {w u w1 : World} {p : Addr} {o : Int} {a a1 : Option Addr} {n c n1 c1 g B B' : Nat} {F S : Nat → Prop} {nodes : List ND} {xs : List Nat} {ts : List TD} {e : ED} {f b t : SH}
theorem Row.modS {e size : Nat} {cs : List Value} {es : List Nat} (h : Row w e size a n c cs g) (hm : Mod S w u) (hS : Apart S w es) (he : e ∈ es) : Row u e size a n c cs g := by
  refine ⟨h.1, ?_⟩
  rcases h.2 with h0 | ⟨b, cur, rfl, h1, hb, h2⟩
  · exact .inl h0
  · exact .inr ⟨b, cur, rfl, h1, hb.mod hm (fun hs => hS b cur e hs hb he), h2⟩
theorem Row.apart {e' size : Nat} {cs : List Value} {es : List Nat} (h : Row w e' size a n c cs g) (he : e' ∉ es) : Apart (fun k => k + 1 = g) w es := by
  intro k cs' e hk hb
  rcases h.2 with ⟨rfl, _⟩ | ⟨b, cur, rfl, _, hb', _⟩
  · cases hk
  · obtain rfl : k = b := by have hk' : k + 1 = b + 1 := hk; omega
    unfold Blk at hb hb'
    rw [hb] at hb'
    cases hb'
    exact he
theorem Blk.apartS {k0 e' : Nat} {cs : Array Value} {es : List Nat} (h : Blk w k0 cs e') (he : e' ∉ es) : Apart (fun k => k + 1 = k0 + 1) w es := by
  intro k cs' e hk hb
  obtain rfl : k = k0 := by have hk' : k + 1 = k0 + 1 := hk; omega
  unfold Blk at hb h
  rw [hb] at h
  cases h
  exact he
/-- Nodes in new memory. -/
def OwnN (B : Nat) (w : World) (a : Option Addr) (n c : Nat) (nodes : List ND) : Prop := ∃ g l, ArrK 8 enH 27 w a n c l g ∧ fresh B g ∧ nodes = l.map (·.1) ∧ ∀ x ∈ l, ∃ gx, Arr enI 3 w x.2.a x.2.n x.2.c x.1.cats gx ∧ fresh B gx
theorem OwnN.modS (h : OwnN B w a n c nodes) (hm : Mod S w u) (hS : Apart S w [27, 3]) : OwnN B u a n c nodes := by
  obtain ⟨g, l, h1, h2, h3, h4⟩ := h
  exact ⟨g, l, Row.modS h1 hm hS (by simp), h2, h3, fun x hx => let ⟨gx, k1, k2⟩ := h4 x hx; ⟨gx, Row.modS k1 hm hS (by simp), k2⟩⟩
theorem OwnN.kept (h : OwnN B w a n c nodes) (hk : Kept w u) : OwnN B u a n c nodes := h.modS (S := fun _ => False) (Kept.mod hk) (fun _ _ _ h => h.elim)
theorem OwnN.weak (h : OwnN B w a n c nodes) (hB : B' ≤ B) : OwnN B' w a n c nodes := by
  obtain ⟨g, l, h1, h2, h3, h4⟩ := h
  exact ⟨g, l, h1, h2.imp id (fun h => Nat.lt_of_le_of_lt hB h), h3, fun x hx => let ⟨gx, k1, k2⟩ := h4 x hx; ⟨gx, k1, k2.imp id (fun h => Nat.lt_of_le_of_lt hB h)⟩⟩
def newB (B : Nat) (w : World) (b : Nat) : Prop := B ≤ b ∧ b < w.heap.size
theorem OwnN.ls (h : OwnN B w a n c nodes) : Ls tN (newB B w) w a n c nodes := by
  obtain ⟨g, l, h1, h2, rfl, h4⟩ := h
  have l1 := h1.le
  refine h1.lsN (fun b hb => ⟨?_, ?_⟩) fun x hx => ?_
  · unfold fresh at h2; omega
  · omega
  · obtain ⟨gx, k1, k2⟩ := h4 x hx
    have l2 := k1.le
    refine (k1.ls (h1 := fun _ => rfl)).mono fun b hb => ⟨?_, ?_⟩
    · unfold fresh at k2; omega
    · omega
theorem OwnN.len (h : OwnN B w a n c nodes) : n = nodes.length := h.ls.len
theorem OwnN.good (h : OwnN B w a n c nodes) (hn : n ≤ 1048576) (hs : Short 1048576 nodes) : Good (newB B w) w a n c nodes := ⟨h.ls, fun b hb => hb.2, hn, hs⟩
theorem OwnN.nil (B : Nat) (w : World) (a : Option Addr) (c : Nat) (h : a = none ∧ c = 0) : OwnN B w a 0 c [] := by
  obtain ⟨rfl, rfl⟩ := h
  exact ⟨0, [], ArrK.nil _ _ _ _, .inl rfl, rfl, fun x hx => by cases hx⟩
/-- Trees in new memory. -/
def OwnT (B : Nat) (w : World) (a : Option Addr) (n c : Nat) (ts : List TD) : Prop := ∃ g l, ArrK 2 enTH 33 w a n c l g ∧ fresh B g ∧ ts = l.map (·.1) ∧ ∀ x ∈ l, OwnN B w x.2.a x.2.n x.2.c x.1.nodes
theorem OwnT.modS (h : OwnT B w a n c ts) (hm : Mod S w u) (hS : Apart S w [33, 27, 3]) : OwnT B u a n c ts := by
  obtain ⟨g, l, h1, h2, h3, h4⟩ := h
  exact ⟨g, l, Row.modS h1 hm hS (by simp), h2, h3, fun x hx => (h4 x hx).modS hm fun k cs e hk hb he => hS k cs e hk hb (by simp only [List.mem_cons] at he ⊢; exact .inr he)⟩
theorem OwnT.kept (h : OwnT B w a n c ts) (hk : Kept w u) : OwnT B u a n c ts := h.modS (S := fun _ => False) (Kept.mod hk) (fun _ _ _ h => h.elim)
theorem OwnT.weak (h : OwnT B w a n c ts) (hB : B' ≤ B) : OwnT B' w a n c ts := by
  obtain ⟨g, l, h1, h2, h3, h4⟩ := h
  exact ⟨g, l, h1, h2.imp id (fun h => Nat.lt_of_le_of_lt hB h), h3, fun x hx => (h4 x hx).weak hB⟩
theorem OwnT.ls (h : OwnT B w a n c ts) : Ls tT (newB B w) w a n c ts := by
  obtain ⟨g, l, h1, h2, rfl, h4⟩ := h
  have l1 := h1.le
  refine h1.lsT (fun b hb => ⟨?_, ?_⟩) fun x hx => (h4 x hx).ls
  · unfold fresh at h2; omega
  · omega
/-- An ensemble in new memory. -/
structure OwnE (B : Nat) (w : World) (e : ED) (f b t : SH) : Prop where
  fs : ∃ g, Arr enS 9 w f.a f.n f.c e.features g ∧ fresh B g
  bs : ∃ g, Arr enI 2 w b.a b.n b.c e.base g ∧ fresh B g
  ts : OwnT B w t.a t.n t.c e.trees
theorem OwnE.modS (h : OwnE B w e f b t) (hm : Mod S w u) (hS : Apart S w [9, 2, 33, 27, 3]) : OwnE B u e f b t :=
  ⟨let ⟨g, h1, h2⟩ := h.fs; ⟨g, Row.modS h1 hm hS (by simp), h2⟩, let ⟨g, h1, h2⟩ := h.bs; ⟨g, Row.modS h1 hm hS (by simp), h2⟩, h.ts.modS hm fun k cs e hk hb he => hS k cs e hk hb (by simp only [List.mem_cons] at he ⊢; exact .inr (.inr he))⟩
theorem OwnE.kept (h : OwnE B w e f b t) (hk : Kept w u) : OwnE B u e f b t := h.modS (S := fun _ => False) (Kept.mod hk) (fun _ _ _ h => h.elim)
theorem OwnE.weak (h : OwnE B w e f b t) (hB : B' ≤ B) : OwnE B' w e f b t :=
  ⟨let ⟨g, h1, h2⟩ := h.fs; ⟨g, h1, h2.imp id (fun h => Nat.lt_of_le_of_lt hB h)⟩, let ⟨g, h1, h2⟩ := h.bs; ⟨g, h1, h2.imp id (fun h => Nat.lt_of_le_of_lt hB h)⟩, h.ts.weak hB⟩
theorem arr_new {α : Type} {en : α → Value} {h1 : ∀ x, (en x).oneCell' = true} {e : Nat} {ys : List α} (h : Arr en e w a n c ys g) (hg : fresh B g) : Ls (Ty.flat en h1) (newB B w) w a n c ys := by
  have l2 := h.le
  refine h.ls.mono fun b hb => ⟨?_, ?_⟩
  · unfold fresh at hg; omega
  · omega
/-- What is known of an ensemble's sizes. -/
structure Sized (e : ED) : Prop where
  fm : e.features.length ≤ 1048576
  bm : e.base.length ≤ 1048576
  tm : e.trees.length ≤ 1048576
  good : ∀ x ∈ e.trees, x.nodes.length ≤ 1048576 ∧ Short 1048576 x.nodes
theorem GoodE.sized (h : GoodE F w e f b t) : Sized e := ⟨by rw [← h.fs.len]; exact h.fm, by rw [← h.bs.len]; exact h.bm, by rw [← h.ts.len]; exact h.tm, h.good⟩
theorem OwnE.good (h : OwnE B w e f b t) (hs : Sized e) : GoodE (newB B w) w e f b t := by
  obtain ⟨g1, h1, k1⟩ := h.fs
  obtain ⟨g2, h2, k2⟩ := h.bs
  have l3 := h.ts.ls
  exact ⟨arr_new h1 k1, arr_new h2 k2, l3, fun b hb => hb.2, by rw [h1.len]; exact hs.fm, by rw [h2.len]; exact hs.bm, by rw [l3.len]; exact hs.tm, hs.good⟩
theorem NewA.own {α : Type} {en : α → Value} {e : Nat} {ys : List α} (h : NewA en e w u a n c ys) : ∃ g, Arr en e u a n c ys g ∧ fresh w.heap.size g := let ⟨g, h1, h2, _⟩ := h; ⟨g, h1, h2⟩

/-! ### clones -/
theorem cloneI_c {ys : List Int} (hs : Sl enI w a n ys) (hm : n ≤ 1048576) : E.CallsD Go.Proofs.Try.prog 60 #[.slice a n c] w fun v u => ∃ a' c', v = .slice a' n c' ∧ NewA enI 3 w u a' n c' ys := by
  refine slices_Clone_int.calls ?_
  unfold slices_Clone_int slices_Clone_int.g0
  refine cloneA (R := fun v u => ∃ a' c', v = .slice a' n c' ∧ NewA enI 3 w u a' n c' ys) S_I (fun _ => rfl) hs (by simp only [maxLen]; omega) (by omega) (fun h1 h2 => ?_) fun a' c' u h => ⟨_, _, _, rfl, _, _, rfl, h⟩
  have hl := hs.len
  subst h2
  simp only [List.length_nil] at hl
  subst hl
  exact ⟨_, _, rfl, 0, Arr.nil _ _ _, .inl rfl, Kept.refl _⟩
theorem cloneS_c {ys : List ByteArray} (hs : Sl enS w a n ys) (hm : n ≤ 1048576) : E.CallsD Go.Proofs.Try.prog 58 #[.slice a n c] w fun v u => ∃ a' c', v = .slice a' n c' ∧ NewA enS 9 w u a' n c' ys := by
  refine slices_Clone_str.calls ?_
  unfold slices_Clone_str slices_Clone_str.g0
  refine cloneA (R := fun v u => ∃ a' c', v = .slice a' n c' ∧ NewA enS 9 w u a' n c' ys) S_str (fun _ => rfl) hs (by simp only [maxLen]; omega) (by omega) (fun h1 h2 => ?_) fun a' c' u h => ⟨_, _, _, rfl, _, _, rfl, h⟩
  have hl := hs.len
  subst h2
  simp only [List.length_nil] at hl
  subst hl
  exact ⟨_, _, rfl, 0, Arr.nil _ _ _, .inl rfl, Kept.refl _⟩
/-- An own row of nodes takes one more. -/
theorem enH_one (x : ND × SH) : ∀ v ∈ enH x, v.oneCell' = true := by
  intro v hv
  simp only [enH, enN, List.mem_cons, List.not_mem_nil, or_false] at hv
  rcases hv with h | h | h | h | h | h | h | h <;> subst h <;> rfl
theorem enTH_one (x : TD × SH) : ∀ v ∈ enTH x, v.oneCell' = true := by
  intro v hv
  simp only [enTH, List.mem_cons, List.not_mem_nil, or_false] at hv
  rcases hv with h | h <;> subst h <;> rfl
theorem fresh_mono {B B' g : Nat} (h : fresh B g) (hB : B' ≤ B) : fresh B' g := h.imp id fun h => Nat.lt_of_le_of_lt hB h
theorem mem_take_snoc {α : Type} {l : List α} {x y : α} (h : y ∈ l ++ [x]) : y ∈ l ∨ y = x := by simpa using h

/-! ### the document's Nodes -/
theorem refnodes_loop {R : Value → World → Prop} (hG : Good F w1 a n c nodes) (hend : ∀ u a' c', From w1.heap.size w1 u → OwnN w1.heap.size u a' n c' nodes → R (.slice a' n c') u) :
    ∀ (k i : Nat) (w : World) (l : List (ND × SH)) (a3 : Option Addr) (c3 g3 : Nat), i + k = n → From w1.heap.size w1 w → ArrK 8 enH 27 w a3 i c3 l g3 → fresh w1.heap.size g3 → l.map (·.1) = nodes.take i → (∀ x ∈ l, ∃ gx, Arr enI 3 w x.2.a x.2.n x.2.c x.1.cats gx ∧ fresh w1.heap.size gx) → thicketref07_Nodes.l8 R (k + 1) a3 i c3 a n c n i w := by
  have hn := hG.len
  have hmx := hG.max
  intro k
  induction k with
  | zero =>
    intro i w l a3 c3 g3 hi hw h3 hg3 hl hx
    unfold thicketref07_Nodes.l8 thicketref07_Nodes.g8
    refine onDec_f (by omega) ?_
    rw [List.take_of_length_le (by omega)] at hl
    obtain rfl : i = n := by omega
    exact hend w a3 c3 hw ⟨g3, l, h3, hg3, hl.symm, hx⟩
  | succ k ih =>
    intro i w l a3 c3 g3 hi hw h3 hg3 hl hx
    unfold thicketref07_Nodes.l8 thicketref07_Nodes.g8
    refine onDec_t (by omega) ?_
    refine (hG.from hw).ls.rdN (by omega) (by omega) fun x a5 n5 c5 hxi hcs => ?_
    rw [Int.toNat_natCast] at hxi
    have hsx := hG.short x (List.mem_of_getElem? hxi)
    have hc5 := hcs.len
    refine box8z fun u2 hb2 hb8 hk2 => ⟨_, _, _, hb8.c4, ?_⟩
    refine Arr.pushes S_I (Arr.nil enI 3 u2) (fun _ => rfl) (hcs.kept hk2).sl (by simp only [maxLen]; omega) (by omega) fun a6 c6 g6 u3 h6 hg6 ho => ⟨_, _, _, rfl, ?_⟩
    simp only [Nat.zero_add, List.nil_append] at h6 ⊢
    have hk3 : Kept u2 u3 := Mod.kept (S := fun k => k + 1 = 0) ho (fun k _ h => by omega)
    have hb3 := hb2.mod (Kept.mod (S := fun _ => False) hk3) (fun h => h)
    refine hb3.wr0 (by simp [enN]) fun u4 hb4 ho4 => ?_
    have hb84 : At8 u4 (na w) x a6 n5 c6 := .of_blk hb4
    refine hb84.ld ?_
    have s2 := hk2.size
    have s3 := hk3.size
    have l3 := h3.le
    have l6 := h6.le
    have hw4 : From w1.heap.size w1 u4 := ((hw.keptThen hk2).keptThen hk3).only ho4 (.inr (by have := hw.size; omega))
    have hk23 := Kept.trans hk2 hk3
    have h34 : ArrK 8 enH 27 u4 a3 i c3 l g3 := (h3.kept hk23).mod ho4 fun k h1 h2 => by omega
    have s1 := hw.size
    have ap4 : Apart (fun k => k + 1 = w.heap.size + 1) u3 [3] := Blk.apartS hb3 (by decide)
    refine ArrK.push (k := 8) (en := enH) S_N (fun _ => rfl) (by omega) h34 (x := (x, ⟨a6, n5, c6⟩)) rfl (enH_one _) (by simp only [maxLen]; omega) (by omega) fun a7 c7 g7 u5 h7 hg7 hg70 ho5 => ⟨_, _, _, rfl, ?_⟩
    refine nv_succ (by omega) ?_
    have ap5 : Apart (fun k => k + 1 = g3) u4 [3] := Row.apart h34 (by decide)
    have s4 := ho4.size
    refine ih (i + 1) u5 (l ++ [(x, ⟨a6, n5, c6⟩)]) a7 c7 g7 (by omega) (hw4.only ho5 hg3) h7 (by unfold fresh at hg3 ⊢; omega) (by rw [List.map_append, hl, take_snoc hxi]; rfl) fun y hy => ?_
    rcases mem_take_snoc hy with h | h
    · obtain ⟨gx, k1, k2⟩ := hx y h
      exact ⟨gx, Row.modS (Row.modS (k1.kept hk23) ho4 ap4 (by simp)) ho5 ap5 (by simp), k2⟩
    · subst h
      exact ⟨g6, Row.modS (Row.modS h6 ho4 ap4 (by simp)) ho5 ap5 (by simp), by unfold fresh; omega⟩
theorem refNodes_c (hG : Good F w a n c nodes) : E.CallsD Go.Proofs.Try.prog 50 #[.slice a n c] w fun v u => ∃ a' c', v = .slice a' n c' ∧ OwnN w.heap.size u a' n c' nodes ∧ Kept w u := by
  refine thicketref07_Nodes.calls ?_
  unfold thicketref07_Nodes thicketref07_Nodes.g0
  exact ⟨n + 1, refnodes_loop (w1 := w) hG (fun u a' c' hu ho => ⟨_, _, rfl, ho, From.kept hu⟩) n 0 w [] none 0 0 (by omega) (From.refl _ _) (ArrK.nil _ _ _ _) (.inl rfl) (by simp) (fun x hx => by cases hx)⟩
end
end Go.Mir
