/- Part of a proof of laws of the seat Ytdealcfgobobiaa: functions' weakest preconditions, each checked by the kernel, contracts out of them, plain lemmas; no conditions. -/
import Derived.Test.YtdealcfgobobiaaTD
set_option linter.unusedVariables false
set_option linter.unusedSimpArgs false
set_option maxRecDepth 100000
namespace Go.Mir
open Go Go.E Go.RowKit Go.Tr
theorem canon_len (nodes : List ND) : (canonP nodes).length ≤ nodes.length := by
  by_cases h : (shapeP nanB nodes).1 = 0
  · rw [canonP_ok h, canonN_length, (treeP_spec h).length]; exact Nat.le_refl _
  · rw [canonP_no h]; simp
theorem canon_short {nodes : List ND} {N : Nat} (hs : Short N nodes) : Short N (canonP nodes) := by
  by_cases h : (shapeP nanB nodes).1 = 0
  · rw [canonP_ok h]
    intro y hy
    unfold canonN at hy
    obtain ⟨i, hi, rfl⟩ := List.mem_map.1 hy
    have hlt := ((treeP_spec h).mem i).1 hi
    rw [renum_cats, List.getD_eq_getElem?_getD, List.getElem?_eq_getElem hlt]
    exact hs _ (List.getElem_mem hlt)
  · rw [canonP_no h]; intro y hy; cases hy
theorem bool_true {b : Bool} (h : Value.bool b = .bool true) : b = true := by simpa using h
section
variable {w u w1 : World} {p : Addr} {o : Int} {a a1 : Option Addr} {n c n1 c1 g B B' : Nat} {F S : Nat → Prop} {nodes : List ND} {xs : List Nat} {ts : List TD} {e : ED} {f b t : SH}
theorem OwnN.goodS (h : OwnN B w a n c nodes) {nodes0 : List ND} (hl : nodes.length ≤ nodes0.length) (hm : nodes0.length ≤ 1048576) (hs : Short 1048576 nodes) : Good (newB B w) w a n c nodes := h.good (by rw [h.len]; omega) hs
end
end Go.Mir

set_option maxRecDepth 100000
namespace Go.Mir
open Go Go.E Go.RowKit Go.Tr
/-- The first error among trees. -/
def modelE : List TD → Int
  | [] => 0
  | t :: ts => if (shapeP nanB t.nodes).1 ≠ 0 then (shapeP nanB t.nodes).1 else modelE ts
noncomputable def canonT (t : TD) : TD := ⟨t.output, canonP t.nodes⟩
def edZ : ED := ⟨⟨#[]⟩, [], 0, [], []⟩
noncomputable def modelP (e : ED) : ED := if modelE e.trees = 0 then ⟨e.name, e.features, e.outputs, e.base, e.trees.map canonT⟩ else edZ
theorem modelE_cons (t : TD) (ts : List TD) : modelE (t :: ts) = if (shapeP nanB t.nodes).1 ≠ 0 then (shapeP nanB t.nodes).1 else modelE ts := rfl
section
variable {w u w1 : World} {p : Addr} {o : Int} {a a1 : Option Addr} {n c n1 c1 g B B' : Nat} {F S : Nat → Prop} {nodes : List ND} {xs : List Nat} {ts : List TD} {e : ED} {f b t : SH}
theorem model_sized (h : Sized e) : Sized (modelP e) := by
  unfold modelP
  split
  · refine ⟨h.fm, h.bm, by simpa using h.tm, fun x hx => ?_⟩
    obtain ⟨y, hy, rfl⟩ := List.mem_map.1 hx
    obtain ⟨h1, h2⟩ := h.good y hy
    exact ⟨Nat.le_trans (canon_len y.nodes) h1, canon_short h2⟩
  · exact ⟨by simp [edZ], by simp [edZ], by simp [edZ], fun x hx => by cases hx⟩
/-- What the loop of Model holds. -/
structure MdI (B : Nat) (w : World) (e : ED) (f b t : SH) (g : Nat) (l : List (TD × SH)) : Prop where
  fs : ∃ g, Arr enS 9 w f.a f.n f.c e.features g ∧ fresh B g
  bs : ∃ g, Arr enI 2 w b.a b.n b.c e.base g ∧ fresh B g
  row : ArrK 2 enTH 33 w t.a t.n t.c l g
  fr : fresh B g
  own : ∀ x ∈ l, OwnN B w x.2.a x.2.n x.2.c x.1.nodes
theorem MdI.modS {l : List (TD × SH)} (h : MdI B w e f b t g l) (hm : Mod S w u) (hS : Apart S w [9, 2, 33, 27, 3]) : MdI B u e f b t g l :=
  ⟨let ⟨g, h1, h2⟩ := h.fs; ⟨g, Row.modS h1 hm hS (by simp), h2⟩, let ⟨g, h1, h2⟩ := h.bs; ⟨g, Row.modS h1 hm hS (by simp), h2⟩, Row.modS h.row hm hS (by simp), h.fr, fun x hx => (h.own x hx).modS hm fun k cs e hk hb he => hS k cs e hk hb (by simp only [List.mem_cons] at he ⊢; exact .inr (.inr (.inr he)))⟩
theorem MdI.kept {l : List (TD × SH)} (h : MdI B w e f b t g l) (hk : Kept w u) : MdI B u e f b t g l := h.modS (S := fun _ => False) (Kept.mod hk) (fun _ _ _ h => h.elim)
theorem model_loop {R : Value → World → Prop} {cs2 : Array Value} {B2 B4 : World} {t0 f' b' t' : SH} {g : Nat} (hE : GoodE F w1 e f b t0) (hF : ∀ b, F b → b < B) (hc2 : cs2.size = 5) (hB : B ≤ w1.heap.size) (hB2 : B ≤ B2.heap.size) (hB4 : B ≤ B4.heap.size) (hne : B2.heap.size ≠ B4.heap.size)
    (hbad : ∀ u, modelE e.trees ≠ 0 → From B w1 u → R (.tuple #[vE edZ ⟨none, 0, 0⟩ ⟨none, 0, 0⟩ ⟨none, 0, 0⟩, .int .i64 (modelE e.trees)]) u)
    (hend : ∀ u, modelE e.trees = 0 → From B w1 u → OwnE B u (modelP e) f' b' t' → R (.tuple #[vE (modelP e) f' b' t', .int .i64 0]) u) :
    ∀ (k i : Nat) (w : World) (l : List (TD × SH)), i + k = t0.n → From B w1 w → Blk w B2.heap.size cs2 46 → Blk w B4.heap.size (enE e f' b' t').toArray 46 → MdI B w e f' b' t' g l → l.map (·.1) = (e.trees.map canonT).take i ++ e.trees.drop i → modelE e.trees = modelE (e.trees.drop i) →
      trees_Model.l8 R (k + 1) (some (na B2)) (some (na B4)) t0.a t0.n t0.c t0.n i w := by
  have htn := hE.ts.len
  have htm := hE.tm
  intro k
  induction k with
  | zero =>
    intro i w l hi hw hb2 hb4 hI hl hme
    unfold trees_Model.l8 trees_Model.g8
    refine onDec_f (by omega) ?_
    obtain rfl : i = t0.n := by omega
    rw [List.drop_eq_nil_of_le (by omega)] at hl hme
    rw [List.take_of_length_le (by rw [List.length_map]; omega), List.append_nil] at hl
    have hz : modelE e.trees = 0 := hme
    have hmp : modelP e = ⟨e.name, e.features, e.outputs, e.base, e.trees.map canonT⟩ := by unfold modelP; rw [if_pos hz]
    have h54 : At5 w (na B4) e f' b' t' := .of_blk hb4
    refine optN_mk (h54.ld ?_)
    refine optN_mk (hb2.wr (by omega) fun u2 hb22 ho2 => hb22.wr (by simp; omega) fun u3 hb23 ho3 => hb23.wr (by simp; omega) fun u4 hb24 ho4 => hb24.wr (by simp; omega) fun u5 hb25 ho5 => hb25.wr (by simp; omega) fun u6 hb26 ho6 => ?_)
    have h56 : At5 u6 (na B2) e f' b' t' := by
      refine ⟨hb26.rd ?_, hb26.rd ?_, hb26.rd ?_, hb26.rd ?_, hb26.rd ?_⟩ <;> simp [hc2]
    refine optN_mk (h56.ld ?_)
    have hm : Mod (fun k => k = B2.heap.size) w u6 :=
      (((((Mod.refl w).trans ho2 (fun _ _ h => h) (fun k _ h => by show k = B2.heap.size; omega)).trans ho3 (fun _ _ h => h) (fun k _ h => by show k = B2.heap.size; omega)).trans ho4 (fun _ _ h => h) (fun k _ h => by show k = B2.heap.size; omega)).trans ho5 (fun _ _ h => h) (fun k _ h => by show k = B2.heap.size; omega)).trans ho6 (fun _ _ h => h) (fun k _ h => by show k = B2.heap.size; omega)
    have hap : Apart (fun k => k = B2.heap.size) w [9, 2, 33, 27, 3] := by
      intro k cs e' hk hb'
      subst hk
      exact Blk.apartS hb2 (es := [9, 2, 33, 27, 3]) (by decide) _ cs e' rfl hb'
    have := hend u6 hz (hw.trans hm (U := fun k => B ≤ k) (fun _ _ h => h) (fun k _ h => by show B ≤ k; omega)) (by
      rw [hmp]
      have own : OwnE B w ⟨e.name, e.features, e.outputs, e.base, e.trees.map canonT⟩ f' b' t' := ⟨hI.fs, hI.bs, g, l, hI.row, hI.fr, hl.symm, hI.own⟩
      exact own.modS hm hap)
    rw [hmp] at this
    exact this
  | succ k ih =>
    intro i w l hi hw hb2 hb4 hI hl hme
    unfold trees_Model.l8 trees_Model.g8
    refine onDec_t (by omega) ?_
    have hEw := GoodE.fromB hE hF hw
    refine hEw.ts.rdT (by omega) (by omega) fun x a' n' c' hxi hL => ?_
    rw [Int.toNat_natCast] at hxi
    have hGx := Go.Mir.GoodE.at hEw hxi hL
    rw [drop_cons hxi, modelE_cons] at hme
    rw [drop_cons hxi] at hl
    refine box2Tz fun w2 _ hT2 hk2 => ⟨_, hT2.c0, _, _, _, hT2.c1, ?_⟩
    have s1 := hw.size
    have s2 := hk2.size
    refine E.CallsD.mono (Canon_c (o := x.output) (hGx.kept hk2)) fun v w3 ⟨a3, n3, c3, hv, ho3, hk3⟩ => ⟨_, _, _, _, _, hv, ?_⟩
    refine box2Tz fun w4 _ hT4 hk4 => ?_
    have hk24 := Kept.trans hk2 (Kept.trans hk3 hk4)
    have hw4 := hw.keptThen hk24
    have hb24 := hb2.mod (Kept.mod (S := fun _ => False) hk24) (fun h => h)
    have hb44 := hb4.mod (Kept.mod (S := fun _ => False) hk24) (fun h => h)
    have hI4 := hI.kept hk24
    refine onNe (fun hne => ?_) fun h0 => ?_
    · rw [if_pos hne] at hme
      refine optN_mk (hb24.wr (by omega) fun u2 hb22 ho2 => hb22.wr (by simp; omega) fun u3 hb23 ho3 => hb23.wr (by simp; omega) fun u4 hb24 ho4 => hb24.wr (by simp; omega) fun u5 hb25 ho5 => hb25.wr (by simp; omega) fun u6 hb26 ho6 => ?_)
      have h56 : At5 u6 (na B2) edZ ⟨none, 0, 0⟩ ⟨none, 0, 0⟩ ⟨none, 0, 0⟩ := by
        refine ⟨hb26.rd ?_, hb26.rd ?_, hb26.rd ?_, hb26.rd ?_, hb26.rd ?_⟩ <;> simp [hc2, edZ]
      have hmod := ((((((hw4.trans ho2 (U := fun k => B ≤ k) (fun _ _ h => h) (fun k _ h => by show B ≤ k; omega))).trans ho3 (U := fun k => B ≤ k) (fun _ _ h => h) (fun k _ h => by show B ≤ k; omega)).trans ho4 (U := fun k => B ≤ k) (fun _ _ h => h) (fun k _ h => by show B ≤ k; omega)).trans ho5 (U := fun k => B ≤ k) (fun _ _ h => h) (fun k _ h => by show B ≤ k; omega)).trans ho6 (U := fun k => B ≤ k) (fun _ _ h => h) (fun k _ h => by show B ≤ k; omega))
      have := hbad u6 (by rw [hme]; exact hne) hmod
      rw [hme] at this
      exact optN_mk (h56.ld this)
    · rw [if_neg (by simpa using h0)] at hme
      have h54 : At5 w4 (na B4) e f' b' t' := .of_blk hb44
      refine optN_mk ⟨_, _, _, h54.c4, _, hT4.c0, _, _, _, hT4.c1, ?_⟩
      have hll := congrArg List.length hl
      rw [List.length_map, List.length_append, List.length_take, List.length_map, List.length_cons, List.length_drop] at hll
      have hlt := hI4.row.lenTH
      have hco : canonO x.output x.nodes = x.output := by unfold canonO; rw [if_pos h0]
      rw [hco]
      refine hI4.row.wrT (i := (i : Int)) (by omega) (by omega) (x := (canonT x, ⟨a3, n3, c3⟩)) fun u5 h5 ho5 => ?_
      rw [Int.toNat_natCast] at h5
      have ap5 : ∀ {es : List Nat}, 33 ∉ es → Apart (fun k => k + 1 = g) w4 es := fun hes => Row.apart hI4.row hes
      refine nv_succ (by omega) ?_
      have hb25 := hb24.mod ho5 (fun h => ap5 (es := [46]) (by decide) _ _ _ h hb24 (by simp))
      have hb45 := hb44.mod ho5 (fun h => ap5 (es := [46]) (by decide) _ _ _ h hb44 (by simp))
      obtain ⟨gf, hf1, hf2⟩ := hI4.fs
      obtain ⟨gb, hb1, hb2'⟩ := hI4.bs
      refine ih (i + 1) u5 _ (by omega) (hw4.only ho5 hI.fr) hb25 hb45 ⟨⟨gf, Row.modS hf1 ho5 (ap5 (es := [9]) (by decide)) (by simp), hf2⟩, ⟨gb, Row.modS hb1 ho5 (ap5 (es := [2]) (by decide)) (by simp), hb2'⟩, h5, hI.fr, fun y hy => ?_⟩ ?_ hme
      · rcases List.mem_or_eq_of_mem_set hy with h | h
        · exact (hI4.own y h).modS ho5 (ap5 (by decide))
        · subst h
          exact ((ho3.kept hk4).weak (by omega)).modS ho5 (ap5 (by decide))
      · have hxm : (e.trees.map canonT)[i]? = some (canonT x) := by rw [List.getElem?_map, hxi]; rfl
        have hlen : ((e.trees.map canonT).take i).length = i := by rw [List.length_take, List.length_map]; omega
        rw [List.map_set, hl, List.set_append_right _ _ (by omega), hlen, Nat.sub_self, List.set_cons_zero, take_snoc hxm, List.append_assoc]
        rfl
theorem Model_c (hE : GoodE F w e f b t) : E.CallsD Go.Proofs.Try.prog 33 #[vE e f b t] w fun v u => ∃ f' b' t', v = .tuple #[vE (modelP e) f' b' t', .int .i64 (modelE e.trees)] ∧ OwnE w.heap.size u (modelP e) f' b' t' ∧ Kept w u := by
  refine trees_Model.calls ?_
  unfold trees_Model trees_Model.g0
  refine box5 fun w1 _ h5 hk1 => box5 (e := edZ) (f := ⟨none, 0, 0⟩) (b := ⟨none, 0, 0⟩) (t := ⟨none, 0, 0⟩) fun w2 hbr _ hk2 => ?_
  have h52 := h5.kept hk2
  have hk12 := Kept.trans hk1 hk2
  refine h52.ld ?_
  refine E.CallsD.mono (Copy_c (hE.kept hk12)) fun v w3 ⟨f', b', t', hv, ho3, hk3⟩ => ⟨_, _, _, _, _, _, _, _, _, _, _, hv, ?_⟩
  refine box5z (f := f') (b := b') (t := t') fun w4 hbo _ hk4 => ?_
  have hk14 := Kept.trans hk12 (Kept.trans hk3 hk4)
  have h54 := h52.kept (Kept.trans hk3 hk4)
  have s1 := hk1.size
  have s2 := hk2.size
  have s3 := hk3.size
  have s4 := hk4.size
  have lr := hbr.lt
  refine ⟨_, _, _, h54.c4, ?_⟩
  have ho4 := (ho3.kept hk4).weak (B' := w.heap.size) (by omega)
  obtain ⟨g, l, q1, q2, q3, q4⟩ := ho4.ts
  refine ⟨t.n + 1, model_loop (w1 := w4) (B := w.heap.size) (B2 := w1) (B4 := w3) (f' := f') (b' := b') (t' := t') (t0 := t) (g := g) (cs2 := (enE edZ ⟨none, 0, 0⟩ ⟨none, 0, 0⟩ ⟨none, 0, 0⟩).toArray) (hE.kept hk14) hE.old (by simp [enE]) (by omega) (by omega) (by omega) (by omega) (fun u hz hu => ⟨⟨none, 0, 0⟩, ⟨none, 0, 0⟩, ⟨none, 0, 0⟩, ?_, ?_, keptAfter hk14 hu (fun b h => h)⟩) (fun u hz hu ho => ⟨f', b', t', by rw [hz], ho, keptAfter hk14 hu (fun b h => h)⟩) t.n 0 w4 l (by omega) (From.refl _ _) (hbr.mod (Kept.mod (S := fun _ => False) (Kept.trans hk3 hk4)) (fun h => h)) hbo ⟨ho4.fs, ho4.bs, q1, q2, q4⟩ (by rw [List.take_zero, List.nil_append, List.drop_zero]; exact q3.symm) rfl⟩
  · have : modelP e = edZ := by unfold modelP; rw [if_neg hz]
    rw [this]
  · have : modelP e = edZ := by unfold modelP; rw [if_neg hz]
    rw [this]
    exact ⟨⟨0, Arr.nil _ _ _, .inl rfl⟩, ⟨0, Arr.nil _ _ _, .inl rfl⟩, 0, [], ArrK.nil _ _ _ _, .inl rfl, rfl, fun x hx => by cases hx⟩
end
end Go.Mir

set_option maxRecDepth 100000
namespace Go.Mir
open Go Go.E Go.RowKit Go.Tr
section
variable {w u w1 : World} {p : Addr} {o : Int} {a a1 : Option Addr} {n c n1 c1 g B B' : Nat} {F S : Nat → Prop} {nodes : List ND} {xs : List Nat} {ts : List TD} {e : ED} {f b t : SH}
theorem refmodel_loop {R : Value → World → Prop} {cs2 : Array Value} {B2 B4 : World} {t0 f' b' t' : SH} {g : Nat} (hE : GoodE F w1 e f b t0) (hF : ∀ b, F b → b < B) (hc2 : cs2.size = 5) (hB : B ≤ w1.heap.size) (hB2 : B ≤ B2.heap.size) (hB4 : B ≤ B4.heap.size) (hne : B2.heap.size ≠ B4.heap.size)
    (hbad : ∀ u, modelE e.trees ≠ 0 → From B w1 u → R (.tuple #[vE edZ ⟨none, 0, 0⟩ ⟨none, 0, 0⟩ ⟨none, 0, 0⟩, .int .i64 (modelE e.trees)]) u)
    (hend : ∀ u, modelE e.trees = 0 → From B w1 u → OwnE B u (modelP e) f' b' t' → R (.tuple #[vE (modelP e) f' b' t', .int .i64 0]) u) :
    ∀ (k i : Nat) (w : World) (l : List (TD × SH)), i + k = t0.n → From B w1 w → Blk w B2.heap.size cs2 46 → Blk w B4.heap.size (enE e f' b' t').toArray 46 → MdI B w e f' b' t' g l → l.map (·.1) = (e.trees.map canonT).take i ++ e.trees.drop i → modelE e.trees = modelE (e.trees.drop i) →
      thicketref07_Model.l8 R (k + 1) (some (na B2)) (some (na B4)) t0.a t0.n t0.c t0.n i w := by
  have htn := hE.ts.len
  have htm := hE.tm
  intro k
  induction k with
  | zero =>
    intro i w l hi hw hb2 hb4 hI hl hme
    unfold thicketref07_Model.l8 thicketref07_Model.g8
    refine onDec_f (by omega) ?_
    obtain rfl : i = t0.n := by omega
    rw [List.drop_eq_nil_of_le (by omega)] at hl hme
    rw [List.take_of_length_le (by rw [List.length_map]; omega), List.append_nil] at hl
    have hz : modelE e.trees = 0 := hme
    have hmp : modelP e = ⟨e.name, e.features, e.outputs, e.base, e.trees.map canonT⟩ := by unfold modelP; rw [if_pos hz]
    have h54 : At5 w (na B4) e f' b' t' := .of_blk hb4
    refine optN_mk (h54.ld ?_)
    refine optN_mk (hb2.wr (by omega) fun u2 hb22 ho2 => hb22.wr (by simp; omega) fun u3 hb23 ho3 => hb23.wr (by simp; omega) fun u4 hb24 ho4 => hb24.wr (by simp; omega) fun u5 hb25 ho5 => hb25.wr (by simp; omega) fun u6 hb26 ho6 => ?_)
    have h56 : At5 u6 (na B2) e f' b' t' := by
      refine ⟨hb26.rd ?_, hb26.rd ?_, hb26.rd ?_, hb26.rd ?_, hb26.rd ?_⟩ <;> simp [hc2]
    refine optN_mk (h56.ld ?_)
    have hm : Mod (fun k => k = B2.heap.size) w u6 :=
      (((((Mod.refl w).trans ho2 (fun _ _ h => h) (fun k _ h => by show k = B2.heap.size; omega)).trans ho3 (fun _ _ h => h) (fun k _ h => by show k = B2.heap.size; omega)).trans ho4 (fun _ _ h => h) (fun k _ h => by show k = B2.heap.size; omega)).trans ho5 (fun _ _ h => h) (fun k _ h => by show k = B2.heap.size; omega)).trans ho6 (fun _ _ h => h) (fun k _ h => by show k = B2.heap.size; omega)
    have hap : Apart (fun k => k = B2.heap.size) w [9, 2, 33, 27, 3] := by
      intro k cs e' hk hb'
      subst hk
      exact Blk.apartS hb2 (es := [9, 2, 33, 27, 3]) (by decide) _ cs e' rfl hb'
    have := hend u6 hz (hw.trans hm (U := fun k => B ≤ k) (fun _ _ h => h) (fun k _ h => by show B ≤ k; omega)) (by
      rw [hmp]
      have own : OwnE B w ⟨e.name, e.features, e.outputs, e.base, e.trees.map canonT⟩ f' b' t' := ⟨hI.fs, hI.bs, g, l, hI.row, hI.fr, hl.symm, hI.own⟩
      exact own.modS hm hap)
    rw [hmp] at this
    exact this
  | succ k ih =>
    intro i w l hi hw hb2 hb4 hI hl hme
    unfold thicketref07_Model.l8 thicketref07_Model.g8
    refine onDec_t (by omega) ?_
    have hEw := GoodE.fromB hE hF hw
    refine hEw.ts.rdT (by omega) (by omega) fun x a' n' c' hxi hL => ?_
    rw [Int.toNat_natCast] at hxi
    have hGx := Go.Mir.GoodE.at hEw hxi hL
    rw [drop_cons hxi, modelE_cons] at hme
    rw [drop_cons hxi] at hl
    refine box2Tz fun w2 _ hT2 hk2 => ⟨_, hT2.c0, _, _, _, hT2.c1, ?_⟩
    have s1 := hw.size
    have s2 := hk2.size
    refine E.CallsD.mono (refCanon_c (o := x.output) (hGx.kept hk2)) fun v w3 ⟨a3, n3, c3, hv, ho3, hk3⟩ => ⟨_, _, _, _, _, hv, ?_⟩
    refine box2Tz fun w4 _ hT4 hk4 => ?_
    have hk24 := Kept.trans hk2 (Kept.trans hk3 hk4)
    have hw4 := hw.keptThen hk24
    have hb24 := hb2.mod (Kept.mod (S := fun _ => False) hk24) (fun h => h)
    have hb44 := hb4.mod (Kept.mod (S := fun _ => False) hk24) (fun h => h)
    have hI4 := hI.kept hk24
    refine onNe (fun hne => ?_) fun h0 => ?_
    · rw [if_pos hne] at hme
      refine optN_mk (hb24.wr (by omega) fun u2 hb22 ho2 => hb22.wr (by simp; omega) fun u3 hb23 ho3 => hb23.wr (by simp; omega) fun u4 hb24 ho4 => hb24.wr (by simp; omega) fun u5 hb25 ho5 => hb25.wr (by simp; omega) fun u6 hb26 ho6 => ?_)
      have h56 : At5 u6 (na B2) edZ ⟨none, 0, 0⟩ ⟨none, 0, 0⟩ ⟨none, 0, 0⟩ := by
        refine ⟨hb26.rd ?_, hb26.rd ?_, hb26.rd ?_, hb26.rd ?_, hb26.rd ?_⟩ <;> simp [hc2, edZ]
      have hmod := ((((((hw4.trans ho2 (U := fun k => B ≤ k) (fun _ _ h => h) (fun k _ h => by show B ≤ k; omega))).trans ho3 (U := fun k => B ≤ k) (fun _ _ h => h) (fun k _ h => by show B ≤ k; omega)).trans ho4 (U := fun k => B ≤ k) (fun _ _ h => h) (fun k _ h => by show B ≤ k; omega)).trans ho5 (U := fun k => B ≤ k) (fun _ _ h => h) (fun k _ h => by show B ≤ k; omega)).trans ho6 (U := fun k => B ≤ k) (fun _ _ h => h) (fun k _ h => by show B ≤ k; omega))
      have := hbad u6 (by rw [hme]; exact hne) hmod
      rw [hme] at this
      exact optN_mk (h56.ld this)
    · rw [if_neg (by simpa using h0)] at hme
      have h54 : At5 w4 (na B4) e f' b' t' := .of_blk hb44
      refine optN_mk ⟨_, _, _, h54.c4, _, hT4.c0, _, _, _, hT4.c1, ?_⟩
      have hll := congrArg List.length hl
      rw [List.length_map, List.length_append, List.length_take, List.length_map, List.length_cons, List.length_drop] at hll
      have hlt := hI4.row.lenTH
      have hco : canonO x.output x.nodes = x.output := by unfold canonO; rw [if_pos h0]
      rw [hco]
      refine hI4.row.wrT (i := (i : Int)) (by omega) (by omega) (x := (canonT x, ⟨a3, n3, c3⟩)) fun u5 h5 ho5 => ?_
      rw [Int.toNat_natCast] at h5
      have ap5 : ∀ {es : List Nat}, 33 ∉ es → Apart (fun k => k + 1 = g) w4 es := fun hes => Row.apart hI4.row hes
      refine nv_succ (by omega) ?_
      have hb25 := hb24.mod ho5 (fun h => ap5 (es := [46]) (by decide) _ _ _ h hb24 (by simp))
      have hb45 := hb44.mod ho5 (fun h => ap5 (es := [46]) (by decide) _ _ _ h hb44 (by simp))
      obtain ⟨gf, hf1, hf2⟩ := hI4.fs
      obtain ⟨gb, hb1, hb2'⟩ := hI4.bs
      refine ih (i + 1) u5 _ (by omega) (hw4.only ho5 hI.fr) hb25 hb45 ⟨⟨gf, Row.modS hf1 ho5 (ap5 (es := [9]) (by decide)) (by simp), hf2⟩, ⟨gb, Row.modS hb1 ho5 (ap5 (es := [2]) (by decide)) (by simp), hb2'⟩, h5, hI.fr, fun y hy => ?_⟩ ?_ hme
      · rcases List.mem_or_eq_of_mem_set hy with h | h
        · exact (hI4.own y h).modS ho5 (ap5 (by decide))
        · subst h
          exact ((ho3.kept hk4).weak (by omega)).modS ho5 (ap5 (by decide))
      · have hxm : (e.trees.map canonT)[i]? = some (canonT x) := by rw [List.getElem?_map, hxi]; rfl
        have hlen : ((e.trees.map canonT).take i).length = i := by rw [List.length_take, List.length_map]; omega
        rw [List.map_set, hl, List.set_append_right _ _ (by omega), hlen, Nat.sub_self, List.set_cons_zero, take_snoc hxm, List.append_assoc]
        rfl
theorem refModel_c (hE : GoodE F w e f b t) : E.CallsD Go.Proofs.Try.prog 35 #[vE e f b t] w fun v u => ∃ f' b' t', v = .tuple #[vE (modelP e) f' b' t', .int .i64 (modelE e.trees)] ∧ OwnE w.heap.size u (modelP e) f' b' t' ∧ Kept w u := by
  refine thicketref07_Model.calls ?_
  unfold thicketref07_Model thicketref07_Model.g0
  refine box5 fun w1 _ h5 hk1 => box5 (e := edZ) (f := ⟨none, 0, 0⟩) (b := ⟨none, 0, 0⟩) (t := ⟨none, 0, 0⟩) fun w2 hbr _ hk2 => ?_
  have h52 := h5.kept hk2
  have hk12 := Kept.trans hk1 hk2
  refine h52.ld ?_
  refine E.CallsD.mono (refCopy_c (hE.kept hk12)) fun v w3 ⟨f', b', t', hv, ho3, hk3⟩ => ⟨_, _, _, _, _, _, _, _, _, _, _, hv, ?_⟩
  refine box5z (f := f') (b := b') (t := t') fun w4 hbo _ hk4 => ?_
  have hk14 := Kept.trans hk12 (Kept.trans hk3 hk4)
  have h54 := h52.kept (Kept.trans hk3 hk4)
  have s1 := hk1.size
  have s2 := hk2.size
  have s3 := hk3.size
  have s4 := hk4.size
  have lr := hbr.lt
  refine ⟨_, _, _, h54.c4, ?_⟩
  have ho4 := (ho3.kept hk4).weak (B' := w.heap.size) (by omega)
  obtain ⟨g, l, q1, q2, q3, q4⟩ := ho4.ts
  refine ⟨t.n + 1, refmodel_loop (w1 := w4) (B := w.heap.size) (B2 := w1) (B4 := w3) (f' := f') (b' := b') (t' := t') (t0 := t) (g := g) (cs2 := (enE edZ ⟨none, 0, 0⟩ ⟨none, 0, 0⟩ ⟨none, 0, 0⟩).toArray) (hE.kept hk14) hE.old (by simp [enE]) (by omega) (by omega) (by omega) (by omega) (fun u hz hu => ⟨⟨none, 0, 0⟩, ⟨none, 0, 0⟩, ⟨none, 0, 0⟩, ?_, ?_, keptAfter hk14 hu (fun b h => h)⟩) (fun u hz hu ho => ⟨f', b', t', by rw [hz], ho, keptAfter hk14 hu (fun b h => h)⟩) t.n 0 w4 l (by omega) (From.refl _ _) (hbr.mod (Kept.mod (S := fun _ => False) (Kept.trans hk3 hk4)) (fun h => h)) hbo ⟨ho4.fs, ho4.bs, q1, q2, q4⟩ (by rw [List.take_zero, List.nil_append, List.drop_zero]; exact q3.symm) rfl⟩
  · have : modelP e = edZ := by unfold modelP; rw [if_neg hz]
    rw [this]
  · have : modelP e = edZ := by unfold modelP; rw [if_neg hz]
    rw [this]
    exact ⟨⟨0, Arr.nil _ _ _, .inl rfl⟩, ⟨0, Arr.nil _ _ _, .inl rfl⟩, 0, [], ArrK.nil _ _ _ _, .inl rfl, rfl, fun x hx => by cases hx⟩
end
end Go.Mir

set_option maxRecDepth 100000
namespace Go.Mir
open Go Go.E Go.RowKit Go.Tr
/-! ### plain facts of ways and leaves -/
theorem way_head (c : Nat → Bool) : ∀ U : BT, (U.way c)[0]? = some U.root
  | .leaf _ => rfl
  | .node _ _ _ => rfl
theorem way_step {nodes : List ND} (c : Nat → Bool) : ∀ {U : BT}, Is nodes U → ∀ {i a b : Nat}, (U.way c)[i]? = some a → (U.way c)[i + 1]? = some b → ∃ x, nodes[a]? = some x ∧ x.inner = true ∧ (c a = true → x.left = (b : Int)) ∧ (c a = false → x.right = (b : Int))
  | .leaf j, _, i, a, b, h1, h2 => by simp [BT.way] at h2
  | .node j l r, ⟨x, hx, hn, hl, hr, hIl, hIr⟩, i, a, b, h1, h2 => by
    cases i with
    | zero =>
      simp only [BT.way, List.getElem?_cons_zero, Option.some.injEq, List.getElem?_cons_succ] at h1 h2
      subst h1
      refine ⟨x, hx, hn, fun hc => ?_, fun hc => ?_⟩
      · rw [if_pos hc, way_head] at h2
        have h2' : l.root = b := by simpa using h2
        rw [hl, h2']
      · rw [if_neg (by simp [hc]), way_head] at h2
        have h2' : r.root = b := by simpa using h2
        rw [hr, h2']
    | succ i =>
      simp only [BT.way, List.getElem?_cons_succ] at h1 h2
      by_cases hc : c j = true
      · rw [if_pos hc] at h1 h2; exact way_step c hIl h1 h2
      · rw [if_neg hc] at h1 h2; exact way_step c hIr h1 h2
theorem idxI_mem {e : Int} : ∀ {l : List Int} {i : Nat}, e ∈ l → ∃ k, idxI e i l = (i + k : Nat) ∧ l[k]? = some e
  | [], _, h => by cases h
  | y :: l, i, h => by
    unfold idxI
    by_cases hy : e = y
    · rw [if_pos hy]; exact ⟨0, by simp, by rw [hy]; rfl⟩
    · rw [if_neg hy]
      obtain ⟨k, h1, h2⟩ := idxI_mem (l := l) (i := i + 1) (by rcases List.mem_cons.1 h with h | h
                                                               · exact absurd h hy
                                                               · exact h)
      exact ⟨k + 1, by rw [h1]; congr 1; omega, by simpa using h2⟩
theorem idxI_map {f : Nat → Nat} {e : Nat} : ∀ {l : List Nat} {i : Nat}, (∀ x ∈ l, f x = f e → x = e) → idxI (f e : Int) i (natL (l.map f)) = idxI (e : Int) i (natL l)
  | [], _, _ => rfl
  | y :: l, i, h => by
    have h1 : natL ((y :: l).map f) = (f y : Int) :: natL (l.map f) := rfl
    have h2 : natL (y :: l) = (y : Int) :: natL l := rfl
    rw [h1, h2]
    unfold idxI
    by_cases hy : e = y
    · subst hy; rw [if_pos rfl, if_pos rfl]
    · rw [if_neg (fun h' => hy (h y (by simp) (by omega)).symm), if_neg (by omega)]
      exact idxI_map fun x hx => h x (by simp [hx])
section
variable {nodes : List ND} {xs : List Nat} {o : Int}
theorem thoseP_leaves (h : (shapeP nanB nodes).1 = 0) : thoseP nodes false = (treeP nodes).leaves := by
  unfold thoseP
  rw [if_pos h, (treeP_spec h).is.leaves]
  unfold pick
  apply List.filter_congr
  intro i _
  unfold innerAt
  cases (nodes[i]?.map ND.inner).getD false <;> rfl
theorem leaf_facts (h : wayE nodes xs.length = 0) : ∃ k : Nat, leafK nodes xs = (k : Int) ∧ (thoseP nodes false)[k]? = some (endP nodes xs) ∧ ∃ x, nodes[endP nodes xs]? = some x ∧ x.kind = 1 ∧ leafV nodes xs = x.value := by
  obtain ⟨h0, hf⟩ := wayE_split h
  have hTr := treeP_spec h0
  have hmem : endP nodes xs ∈ (treeP nodes).leaves := (treeP nodes).end_leaf _
  have hth := thoseP_leaves h0
  obtain ⟨k, hk1, hk2⟩ := idxI_mem (e := (endP nodes xs : Int)) (l := natL (thoseP nodes false)) (i := 0) (by rw [hth]; exact List.mem_map.2 ⟨_, hmem, rfl⟩)
  have hpre : endP nodes xs ∈ (treeP nodes).pre ∧ innerAt nodes (endP nodes xs) = false := by
    rw [← hth] at hmem
    unfold thoseP at hmem
    rw [if_pos h0] at hmem
    unfold pick at hmem
    rw [List.mem_filter] at hmem
    exact ⟨hmem.1, by simpa using hmem.2⟩
  have hlt := (hTr.mem _).1 hpre.1
  have hx : nodes[endP nodes xs]? = some (nodes[endP nodes xs]'hlt) := List.getElem?_eq_getElem hlt
  refine ⟨k, ?_, ?_, _, hx, ?_, ?_⟩
  · unfold leafK; rw [if_pos h, hk1, Nat.zero_add]
  · unfold natL at hk2
    rw [List.getElem?_map] at hk2
    obtain ⟨y, hy, e⟩ := Option.map_eq_some_iff.1 hk2
    rw [hy]; congr 1; omega
  · have hin : (nodes[endP nodes xs]'hlt).inner = false := by have := hpre.2; unfold innerAt at this; rw [hx] at this; exact this
    exact Classical.byContradiction fun hk => by have := (kd_of hTr hx).1 hk; rw [hin] at this; cases this
  · unfold leafV; rw [if_pos h]; unfold valAt; rw [hx]; rfl
/-! ### the same tree, numbered anew -/
theorem goesP_renum (pre : List Nat) (x : ND) (f : Nat) : goesP (renum pre x) f = goesP x f := by
  unfold goesP
  rw [renum_kind, renum_missing, renum_thr, renum_cats]
theorem canonP_shape (h : (shapeP nanB nodes).1 = 0) : shapeP nanB (canonP nodes) = (0, 0) := by rw [canonP_ok h]; exact (treeP_spec h).canon_shape
theorem treeP_canon (h : (shapeP nanB nodes).1 = 0) : treeP (canonP nodes) = (treeP nodes).mapN (treeP nodes).pre.idxOf := by
  have hTr := treeP_spec h
  have h2 := treeP_spec (nodes := canonP nodes) (by rw [canonP_shape h])
  have h3 := hTr.canon_is hTr.is
  rw [← canonP_ok h] at h3
  exact Is.uniq h2.is h3 (by rw [h2.root, BT.mapN_root, hTr.root, hTr.idx_zero])
theorem canon_wayE {d : Int} (h : wayE nodes d = 0) : wayE (canonP nodes) d = 0 := by
  obtain ⟨h0, hf⟩ := wayE_split h
  refine wayE_ok (by rw [canonP_shape h0]) ?_
  rw [canonP_ok h0]
  unfold fitsP canonN
  rw [List.all_eq_true]
  intro y hy
  obtain ⟨i, hi, rfl⟩ := List.mem_map.1 hy
  have hlt := ((treeP_spec h0).mem i).1 hi
  unfold fitsN
  rw [renum_inner, renum_feature, List.getD_eq_getElem?_getD, List.getElem?_eq_getElem hlt]
  exact List.all_eq_true.1 hf _ (List.getElem_mem hlt)
theorem canon_end (h : (shapeP nanB nodes).1 = 0) : endP (canonP nodes) xs = (treeP nodes).pre.idxOf (endP nodes xs) := by
  have hTr := treeP_spec h
  unfold endP
  rw [treeP_canon h]
  refine BT.mapN_end _ fun i hi => ?_
  have hlt := (hTr.mem i).1 hi
  have hx : nodes[i]? = some nodes[i] := List.getElem?_eq_getElem hlt
  unfold goesAt
  rw [canonP_ok h, hTr.canon_get hx, hx]
  simp only [goesP_renum, renum_feature]
theorem canon_leaf (h : wayE nodes xs.length = 0) : leafK (canonP nodes) xs = leafK nodes xs ∧ leafV (canonP nodes) xs = leafV nodes xs := by
  obtain ⟨h0, hf⟩ := wayE_split h
  have hTr := treeP_spec h0
  have hw := canon_wayE h
  have hend : endP nodes xs ∈ (treeP nodes).pre := by
    have := (treeP nodes).end_leaf (goesAt nodes xs)
    rw [hTr.is.leaves] at this
    exact (List.mem_filter.1 this).1
  constructor
  · unfold leafK
    rw [if_pos h, if_pos hw, canon_end h0, thoseP_leaves h0, thoseP_leaves (by rw [canonP_shape h0]), treeP_canon h0, BT.mapN_leaves]
    refine idxI_map (f := (treeP nodes).pre.idxOf) (e := endP nodes xs) (l := (treeP nodes).leaves) fun x hx he => ?_
    have hxp : x ∈ (treeP nodes).pre := by
      rw [hTr.is.leaves] at hx
      exact (List.mem_filter.1 hx).1
    have h1 := idx_get hxp
    have h2 := idx_get hend
    rw [he, h2] at h1
    simpa using h1.symm
  · unfold leafV
    rw [if_pos h, if_pos hw, canon_end h0]
    have hlt := (hTr.mem _).1 hend
    have hx : nodes[endP nodes xs]? = some (nodes[endP nodes xs]'hlt) := List.getElem?_eq_getElem hlt
    unfold valAt
    rw [canonP_ok h0, hTr.canon_get hx, hx]
    simp only [Option.map_some, renum_value]
theorem canon_twice (h : (shapeP nanB nodes).1 = 0) : canonP (canonP nodes) = canonP nodes := by
  have hTr := treeP_spec h
  have h2 : (shapeP nanB (canonP nodes)).1 = 0 := by rw [canonP_shape h]
  rw [canonP_ok h2, treeP_canon h, hTr.canon_pre, canonP_ok h, hTr.canon_canon]
end
end Go.Mir
