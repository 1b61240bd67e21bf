/- Part of a proof of laws of the seat Ytdealcfgobobiaa: functions' weakest preconditions, each checked by the kernel, contracts out of them, plain lemmas; no conditions. -/
import Derived.Test.YtdealcfgobobiaaT22
set_option linter.unusedVariables false
set_option linter.unusedSimpArgs false
set_option maxRecDepth 100000
namespace Go.Mir
open Go Go.E Go.RowKit Go.Tr
section
variable {w u w1 : World} {p : Addr} {o : Int} {a a1 : Option Addr} {n c n1 c1 g B B' : Nat} {F S : Nat → Prop} {nodes : List ND} {xs : List Nat} {ts : List TD} {e : ED} {f b t : SH}
/-- What is known of a call's new nodes. -/
def FNo (j B n : Nat) (nodes : List ND) : Nat → Value → World → Prop := fun i v u => i = j → ∃ a c, v = .slice a n c ∧ OwnN B u a n c nodes
theorem FNo.keep {j B n : Nat} {nodes : List ND} (i : Nat) (v : Value) (u u' : World) (h : FNo j B n nodes i v u) (hk : Below u.heap.size u u') : FNo j B n nodes i v u' := fun hi => by
  obtain ⟨a, c, h1, h2⟩ := h hi
  exact ⟨a, c, h1, h2.kept hk⟩
theorem copied_c (hG : Good F w a n c nodes) : E.CallsD Go.Proofs.Try.prog 39 #[vT o a n c] w fun v u => ∃ a' c', v = vT o a' n c' ∧ OwnN w.heap.size u a' n c' nodes ∧ Kept w u := by
  refine thicketlaw07_copied.calls ?_
  unfold thicketlaw07_copied thicketlaw07_copied.g0
  refine box2T fun w1 _ hT1 hk1 => box2T (o := 0) (a := none) (n := 0) (c := 0) fun w2 hb2 _ hk2 => ?_
  have hT2 := hT1.kept hk2
  have hk12 := Kept.trans hk1 hk2
  have s1 := hk1.size
  refine ⟨FNo 4 w.heap.size n nodes, FNo.keep, _, hT2.c0, _, _, _, hT2.c1, fun u hu => ?_, fun a3 n3 c3 _ u hu hF => ?_⟩
  · refine E.CallsD.mono (refNodes_c (hG.kept (Kept.trans hk12 hu))) fun v u' ⟨a', c', hv, ho, hk⟩ => ⟨_, _, _, hv, fun _ => ⟨_, _, rfl, ho.weak (Kept.trans hk12 hu).size⟩, hk⟩
  · obtain ⟨a', c', hv, ho⟩ := hF rfl
    simp only [Value.slice.injEq] at hv
    obtain ⟨rfl, rfl, rfl⟩ := hv
    have hb3 := hb2.mod (Kept.mod (S := fun _ => False) hu) (fun h => h)
    refine hb3.wr (by simp) fun u1 hb4 ho4 => hb4.wr (by simp) fun u2 hb5 ho5 => ?_
    have ap : ∀ {u0 : World} {cs : Array Value}, Blk u0 w1.heap.size cs 33 → Apart (fun k => k + 1 = w1.heap.size + 1) u0 [27, 3] := fun h => Blk.apartS h (by decide)
    have hon := (ho.modS ho4 (ap hb3)).modS ho5 (ap hb4)
    refine ⟨_, hb5.rd rfl, _, _, _, hb5.rd rfl, _, _, rfl, hon, ?_⟩
    have := (((Kept.trans hk12 hu).fr.only ho4 (.inr (by omega))).only ho5 (.inr (by omega)))
    exact From.kept this

/-! ### the document's Copy -/
/-- What is known of the new nodes (5), and of the new tree (7). -/
def FTo (B n : Nat) (x : TD) : Nat → Value → World → Prop := fun i v u => (i = 5 → ∃ a c, v = .slice a n c ∧ OwnN B u a n c x.nodes) ∧ (i = 7 → ∃ q a c, v = .slice (some q) 1 1 ∧ At2 u q x.output a n c ∧ OwnN B u a n c x.nodes)
theorem FTo.keep {B n : Nat} {x : TD} (i : Nat) (v : Value) (u u' : World) (h : FTo B n x i v u) (hk : Below u.heap.size u u') : FTo B n x i v u' := ⟨fun hi => by
  obtain ⟨a, c, h1, h2⟩ := h.1 hi
  exact ⟨a, c, h1, h2.kept hk⟩, fun hi => by
  obtain ⟨q, a, c, h1, h2, h3⟩ := h.2 hi
  exact ⟨q, a, c, h1, h2.kept hk, h3.kept hk⟩⟩
theorem GoodE.at (hE : GoodE F w e f b t) {i : Nat} {x : TD} {a' : Option Addr} {n' c' : Nat} (hx : e.trees[i]? = some x) (hL : Ls tN F w a' n' c' x.nodes) : Good F w a' n' c' x.nodes := by
  obtain ⟨hg1, hg2⟩ := hE.good x (List.mem_of_getElem? hx)
  exact ⟨hL, hE.old, by rw [hL.len]; exact hg1, hg2⟩
theorem refcopy_loop {R : Value → World → Prop} {p2 p6 : Addr} {f' b' : SH} {cs2 : Array Value} {B2 B6 : World} (hp2 : p2 = na B2) (hp6 : p6 = na B6) (hne : B2.heap.size ≠ B6.heap.size) (hE : GoodE F w1 e f b t) (hb2 : Blk w1 B2.heap.size cs2 46) (hc2 : cs2.size = 5) (hb6 : Blk w1 B6.heap.size (enE e f' b' t).toArray 46)
    (hf : ∃ g, Arr enS 9 w1 f'.a f'.n f'.c e.features g ∧ fresh B g) (hb : ∃ g, Arr enI 2 w1 b'.a b'.n b'.c e.base g ∧ fresh B g) (hB : B ≤ w1.heap.size) (hB2 : B ≤ B2.heap.size) (hB6 : B ≤ B6.heap.size)
    (hend : ∀ u t', From B w1 u → OwnE B u e f' b' t' → t'.n = t.n → R (vE e f' b' t') u) :
    ∀ (k i : Nat) (w : World) (l : List (TD × SH)) (a5 : Option Addr) (c5 g5 : Nat), i + k = t.n → From w1.heap.size w1 w → ArrK 2 enTH 33 w a5 i c5 l g5 → fresh w1.heap.size g5 → l.map (·.1) = e.trees.take i → (∀ x ∈ l, OwnN w1.heap.size w x.2.a x.2.n x.2.c x.1.nodes) → thicketref07_Copy.l18 R (k + 1) (some p2) a5 i c5 (some p6) t.a t.n t.c t.n i w := by
  subst hp2 hp6
  have htn := hE.ts.len
  have htm := hE.tm
  intro k
  induction k with
  | zero =>
    intro i w l a5 c5 g5 hi hw h5 hg5 hl hx
    unfold thicketref07_Copy.l18 thicketref07_Copy.g18
    refine onDec_f (by omega) ?_
    rw [List.take_of_length_le (by omega)] at hl
    obtain rfl : i = t.n := by omega
    have hb6w := hb6.mod hw (fun h => by have := hb6.lt; have h' : w1.heap.size ≤ B6.heap.size := h; omega)
    have hb2w := hb2.mod hw (fun h => by have := hb2.lt; have h' : w1.heap.size ≤ B2.heap.size := h; omega)
    refine optN_mk (hb6w.wr0 (by simp [enE]) fun u1 hb61 ho1 => ?_)
    have h55 : At5 u1 (na B6) e f' b' ⟨a5, t.n, c5⟩ := .of_blk hb61
    refine optN_mk (h55.ld ?_)
    have hb21 := hb2w.mod ho1 (fun h => hne (by have h' : B2.heap.size + 1 = B6.heap.size + 1 := h; omega))
    refine optN_mk (hb21.wr (by omega) fun u2 hb22 ho2 => hb22.wr (by simp; omega) fun u3 hb23 ho3 => hb23.wr (by simp; omega) fun u4 hb24 ho4 => hb24.wr (by simp; omega) fun u5 hb25 ho5 => hb25.wr (by simp; omega) fun u6 hb26 ho6 => ?_)
    have h56 : At5 u6 (na B2) e f' b' ⟨a5, t.n, c5⟩ := by
      refine ⟨hb26.rd ?_, hb26.rd ?_, hb26.rd ?_, hb26.rd ?_, hb26.rd ?_⟩ <;> simp [Array.getElem?_setIfInBounds, hc2]
    refine optN_mk (h56.ld ?_)
    have hm : Mod (fun k => k = B6.heap.size ∨ k = B2.heap.size) w u6 :=
      ((((((Mod.refl w).trans ho1 (fun _ _ h => h) (fun k _ h => .inl (by omega))).trans ho2 (fun _ _ h => h) (fun k _ h => .inr (by omega))).trans ho3 (fun _ _ h => h) (fun k _ h => .inr (by omega))).trans ho4 (fun _ _ h => h) (fun k _ h => .inr (by omega))).trans ho5 (fun _ _ h => h) (fun k _ h => .inr (by omega))).trans ho6 (fun _ _ h => h) (fun k _ h => .inr (by omega))
    have hap : Apart (fun k => k = B6.heap.size ∨ k = B2.heap.size) w [9, 2, 33, 27, 3] := by
      intro k cs e' hk hb'
      rcases hk with rfl | rfl
      · exact Blk.apartS hb6w (es := [9, 2, 33, 27, 3]) (by decide) _ cs e' rfl hb'
      · exact Blk.apartS hb2w (es := [9, 2, 33, 27, 3]) (by decide) _ cs e' rfl hb'
    refine hend u6 ⟨a5, t.n, c5⟩ ?_ ?_ rfl
    · exact (Mod.weak (hw.trans hm (U := fun k => B ≤ k) (fun k _ h => by have h' : w1.heap.size ≤ k := h; show B ≤ k; omega) (fun k _ h => by show B ≤ k; rcases h with h | h <;> omega)) (fun _ _ h => h))
    · obtain ⟨gf, hf1, hf2⟩ := hf
      obtain ⟨gb, hb1, hb2'⟩ := hb
      have own : OwnE B w e f' b' ⟨a5, t.n, c5⟩ := ⟨⟨gf, hf1.mod hw (fun k h1 h2 => by have := hf1.le; have h2' : w1.heap.size ≤ k := h2; omega), hf2⟩, ⟨gb, hb1.mod hw (fun k h1 h2 => by have := hb1.le; have h2' : w1.heap.size ≤ k := h2; omega), hb2'⟩, g5, l, h5, fresh_mono hg5 hB, hl.symm, fun x hx' => (hx x hx').weak hB⟩
      exact own.modS hm hap
  | succ k ih =>
    intro i w l a5 c5 g5 hi hw h5 hg5 hl hx
    unfold thicketref07_Copy.l18 thicketref07_Copy.g18
    refine onDec_t (by omega) ?_
    have hEw := hE.from hw
    refine hEw.ts.rdT (by omega) (by omega) fun x a' n' c' hxi hL => ?_
    rw [Int.toNat_natCast] at hxi
    have hGx := hEw.at hxi hL
    refine box2Tz fun w2 hb2' hT2 hk2 => ?_
    have hw2 := hw.keptThen hk2
    have s1 := hw.size
    have s2 := hk2.size
    refine ⟨FTo w1.heap.size n' x, FTo.keep, _, hT2.c0, _, _, _, hT2.c1, fun u hu => ?_, fun a3 n3 c3 _ => ⟨fun u hu hF => ⟨fun h => by omega, fun _ => ?_⟩, fun q _ u hu hF5 hF7 => ?_⟩⟩
    · refine E.CallsD.mono (refNodes_c (hGx.kept (Kept.trans hk2 hu))) fun v u' ⟨a', c', hv, ho, hk⟩ => ⟨_, _, _, hv, ⟨fun _ => ⟨_, _, rfl, ho.weak (by have := hu.size; omega)⟩, fun h => by omega⟩, hk⟩
    · obtain ⟨a4, c4, hv, ho⟩ := hF.1 rfl
      simp only [Value.slice.injEq] at hv
      obtain ⟨rfl, rfl, rfl⟩ := hv
      have b0 := Blk.new u #[.int .i64 x.output, .slice a3 n3 c3] 33
      exact ⟨_, _, _, rfl, ⟨b0.rd rfl, b0.rd rfl⟩, ho.kept (Kept.new u _)⟩
    · obtain ⟨q', a4, c4, hv, hT4, ho4⟩ := hF7.2 rfl
      simp only [Value.slice.injEq, Option.some.injEq] at hv
      obtain ⟨rfl, _, _⟩ := hv
      have hk2u := Kept.trans hk2 hu
      refine ArrK.pushAt (k := 2) (en := enTH) S_T (fun _ => rfl) (by omega) (h5.kept hk2u) (x := (x, ⟨a4, n', c4⟩)) (fun j v hj => ?_) (enTH_one _) (by simp only [maxLen]; omega) (by omega) fun a6 c6 g6 u2 h6 hg6 hg60 ho6 => ⟨_, _, _, rfl, ?_⟩
      · match j, hj with
        | 0, hj => cases hj; exact hT4.c0
        | 1, hj => cases hj; exact hT4.c1
        | j + 2, hj => cases hj
      refine nv_succ (by omega) ?_
      have ap : Apart (fun k => k + 1 = g5) u [27, 3] := Row.apart (h5.kept hk2u) (by decide)
      have s3 := hu.size
      refine ih (i + 1) u2 (l ++ [(x, ⟨a4, n', c4⟩)]) a6 c6 g6 (by omega) ((hw2.keptThen hu).only ho6 hg5) h6 (by unfold fresh at hg5 ⊢; omega) (by rw [List.map_append, hl, take_snoc hxi]; rfl) fun y hy => ?_
      rcases mem_take_snoc hy with h | h
      · exact ((hx y h).kept hk2u).modS ho6 ap
      · subst h
        exact ho4.modS ho6 ap
theorem refCopy_c (hE : GoodE F w e f b t) : E.CallsD Go.Proofs.Try.prog 20 #[vE e f b t] w fun v u => ∃ f' b' t', v = vE e f' b' t' ∧ OwnE w.heap.size u e f' b' t' ∧ Kept w u := by
  refine thicketref07_Copy.calls ?_
  unfold thicketref07_Copy thicketref07_Copy.g0
  refine box5 fun w1 _ h5 hk1 => box5 (e := ⟨⟨#[]⟩, [], 0, [], []⟩) (f := ⟨none, 0, 0⟩) (b := ⟨none, 0, 0⟩) (t := ⟨none, 0, 0⟩) fun w2 hbr _ hk2 => ?_
  have h52 := h5.kept hk2
  refine h52.ld ?_
  refine box5z (f := f) (b := b) (t := t) fun w3 hbo _ hk3 => ?_
  have h53 := h52.kept hk3
  have hk13 := Kept.trans hk1 (Kept.trans hk2 hk3)
  have hE3 := hE.kept hk13
  have hfm := hE.fm
  have hbm := hE.bm
  have s1 := hk1.size
  have s2 := hk2.size
  have s3 := hk3.size
  have l1 := h5.lt
  have e1 : (na w).block = w.heap.size := rfl
  have hbr3 := hbr.mod (Kept.mod (S := fun _ => False) hk3) (fun h => h)
  have lr := hbr.lt
  have lo := hbo.lt
  refine ⟨_, _, _, h53.c1, ?_⟩
  refine Arr.pushes S_str (Arr.nil enS 9 w3) (fun _ => rfl) hE3.fs.sl (by simp only [maxLen]; omega) (by omega) fun a6 c6 g6 w4 h6 hg6 ho => ⟨_, _, _, rfl, ?_⟩
  simp only [Nat.zero_add, List.nil_append] at h6 ⊢
  have hk4 : Kept w3 w4 := Mod.kept (S := fun k => k + 1 = 0) ho (fun k _ h => by omega)
  refine (hbo.mod (Kept.mod (S := fun _ => False) hk4) (fun h => h)).wr0 (by simp [enE]) fun w5 hbo5 ho5 => ?_
  have hbo5' : Blk w5 w2.heap.size (enE e ⟨a6, f.n, c6⟩ b t).toArray 46 := hbo5
  have f5 : From w2.heap.size w2 w5 := (Kept.trans hk3 hk4).fr.only ho5 (.inr (by omega))
  have h55 := h52.from f5
  have hE5 := hE.kept (Kept.trans (Kept.trans hk1 hk2) (From.kept f5))
  refine ⟨_, _, _, h55.c3, ?_⟩
  refine Arr.pushes S_I64 (Arr.nil enI 2 w5) (fun _ => rfl) hE5.bs.sl (by simp only [maxLen]; omega) (by omega) fun a7 c7 g7 w6 h7 hg7 ho7 => ⟨_, _, _, rfl, ?_⟩
  simp only [Nat.zero_add, List.nil_append] at h7 ⊢
  have hk6 : Kept w5 w6 := Mod.kept (S := fun k => k + 1 = 0) ho7 (fun k _ h => by omega)
  have hbo6 := hbo5'.mod (Kept.mod (S := fun _ => False) hk6) (fun h => h)
  refine hbo6.wr0 (by simp [enE]) fun w7 hbo7 ho8 => ?_
  have hbo7' : Blk w7 w2.heap.size (enE e ⟨a6, f.n, c6⟩ ⟨a7, b.n, c7⟩ t).toArray 46 := hbo7
  have f7 : From w2.heap.size w2 w7 := (f5.keptThen hk6).only ho8 (.inr (by omega))
  have h57 := h52.from f7
  have hE7 := hE.kept (Kept.trans (Kept.trans hk1 hk2) (From.kept f7))
  refine ⟨_, _, _, h57.c4, ?_⟩
  have s4 := hk4.size
  have s5 := ho5.size
  have s6 := hk6.size
  have s7 := ho8.size
  have hbr7 := hbr.mod (Kept.mod (S := fun _ => False) (From.kept f7)) (fun h => h)
  have h67 := (((Row.mod h6 ho5 fun k h1 h2 => by omega).kept hk6).mod ho8 fun k h1 h2 => by omega)
  have h77 := Row.mod h7 ho8 fun k h1 h2 => by omega
  have k07 := Kept.trans (Kept.trans hk1 hk2) (From.kept f7)
  have s07 := k07.size
  refine ⟨t.n + 1, refcopy_loop (w1 := w7) (B := w.heap.size) (B2 := w1) (B6 := w2) (f' := ⟨a6, f.n, c6⟩) (b' := ⟨a7, b.n, c7⟩) (e := e) (cs2 := (enE ⟨⟨#[]⟩, [], 0, [], []⟩ ⟨none, 0, 0⟩ ⟨none, 0, 0⟩ ⟨none, 0, 0⟩).toArray) rfl rfl (by omega) hE7 hbr7 (by simp [enE]) hbo7' ⟨g6, h67, by unfold fresh; omega⟩ ⟨g7, h77, by unfold fresh; omega⟩ s07 (by omega) (by omega) (fun u t' hu ho hn => ⟨_, _, _, rfl, ho, ?_⟩) t.n 0 w7 [] none 0 0 (by omega) (From.refl _ _) (ArrK.nil _ _ _ _) (.inl rfl) (by simp) (fun x hx => by cases hx)⟩
  exact keptAfter k07 hu (fun b h => h)
end
end Go.Mir
