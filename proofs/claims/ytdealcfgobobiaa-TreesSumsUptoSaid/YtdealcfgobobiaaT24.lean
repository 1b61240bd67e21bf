/- Part of a proof of laws of the seat Ytdealcfgobobiaa: functions' weakest preconditions, each checked by the kernel, contracts out of them, plain lemmas; no conditions. -/
import Derived.Test.YtdealcfgobobiaaT23
set_option linter.unusedVariables false
set_option linter.unusedSimpArgs false
set_option maxRecDepth 100000
namespace Go.Mir
open Go Go.E Go.RowKit Go.Tr
def F1 (j : Nat) (Q : Value → World → Prop) : Nat → Value → World → Prop := fun i v u => i = j → Q v u
theorem F1.keep {j : Nat} {Q : Value → World → Prop} (hQ : ∀ v u u', Q v u → Kept u u' → Q v u') (i : Nat) (v : Value) (u u' : World) (h : F1 j Q i v u) (hk : Below u.heap.size u u') : F1 j Q i v u' := fun hi => hQ _ _ _ (h hi) hk
/-- A list in new memory. -/
def NewQ {α : Type} (en : α → Value) (e B n : Nat) (xs : List α) (v : Value) (u : World) : Prop := ∃ a c, v = .slice a n c ∧ ∃ g, Arr en e u a n c xs g ∧ fresh B g
theorem NewQ.keep {α : Type} {en : α → Value} {e B n : Nat} {xs : List α} (v : Value) (u u' : World) (h : NewQ en e B n xs v u) (hk : Kept u u') : NewQ en e B n xs v u' := by
  obtain ⟨a, c, h1, g, h2, h3⟩ := h
  exact ⟨a, c, h1, g, h2.kept hk, h3⟩
section
variable {w u w1 : World} {p : Addr} {o : Int} {a a1 : Option Addr} {n c n1 c1 g B B' : Nat} {F S : Nat → Prop} {nodes : List ND} {xs : List Nat} {ts : List TD} {e : ED} {f b t : SH}
/-- A clone of nodes: their categories are the old ones. -/
theorem cloneN_c (hG : Good F w a n c nodes) : E.CallsD Go.Proofs.Try.prog 59 #[.slice a n c] w fun v u => ∃ a' c' g l, v = .slice a' n c' ∧ ArrK 8 enH 27 u a' n c' l g ∧ fresh w.heap.size g ∧ l.map (·.1) = nodes ∧ (∀ x ∈ l, Ls (tInt .i64) F u x.2.a x.2.n x.2.c x.1.cats) ∧ Kept w u := by
  refine Clone_node.calls ?_
  unfold Clone_node Clone_node.g0
  obtain ⟨l, h1, h2, h3⟩ := hG.ls.flatN
  have hmx := hG.max
  refine cloneK (k := 8) (en := enH) (R := fun v u => ∃ a' c' g l, v = .slice a' n c' ∧ ArrK 8 enH 27 u a' n c' l g ∧ fresh w.heap.size g ∧ l.map (·.1) = nodes ∧ (∀ x ∈ l, Ls (tInt .i64) F u x.2.a x.2.n x.2.c x.1.cats) ∧ Kept w u) S_N (fun _ => rfl) (by omega) enH_one h2 (by simp only [maxLen]; omega) (by omega) (fun ha hl => ?_) fun a' c' g' u hr hg hk => ⟨_, _, _, rfl, _, _, _, _, rfl, hr, .inr hg, h1, fun x hx => (h3 x hx).kept hk, hk⟩
  have hl0 := h2.len
  subst hl
  simp only [List.length_nil] at hl0
  subst hl0
  exact ⟨_, _, 0, [], rfl, ArrK.nil _ _ _ _, .inl rfl, h1, fun x hx => (by cases hx), Kept.refl _⟩
theorem copy_inner {R : Value → World → Prop} {b12 : (Option Addr) → (Option Addr) → (Option Addr) → Nat → Nat → (Option Addr) → Nat → Nat → Int → Int → World → Prop} {p1 p2 a3 a20 a' : Option Addr} {n3 c3 n20 c20 n' c' g' : Nat} {x21 x22 : Int} {W0 Bp : World} {o : Int}
    (hm : n' ≤ 1048576) (hs : Short 1048576 nodes) (hB : B ≤ W0.heap.size) (hF : ∀ b, F b → b < B) (hbx : Blk W0 Bp.heap.size #[.int .i64 o, .slice a' n' c'] 33) (hne : Bp.heap.size + 1 ≠ g') (hg' : fresh B g')
    (hend : ∀ u, Mod (fun b => b + 1 = g' ∨ W0.heap.size ≤ b) W0 u → OwnN B u a' n' c' nodes → trees_Copy.l29 R b12 1 p1 p2 a3 n3 c3 (some (na Bp)) a20 n20 c20 x21 x22 n' n' u) :
    ∀ (k i : Nat) (w : World) (l : List (ND × SH)), i + k = n' → Mod (fun b => b + 1 = g' ∨ W0.heap.size ≤ b) W0 w → ArrK 8 enH 27 w a' n' c' l g' → l.map (·.1) = nodes → (∀ (j : Nat) x, l[j]? = some x → (j < i → ∃ gx, Arr enI 3 w x.2.a x.2.n x.2.c x.1.cats gx ∧ fresh B gx) ∧ (i ≤ j → Ls (tInt .i64) F w x.2.a x.2.n x.2.c x.1.cats)) →
      trees_Copy.l29 R b12 (k + 1) p1 p2 a3 n3 c3 (some (na Bp)) a20 n20 c20 x21 x22 n' i w := by
  intro k
  induction k with
  | zero =>
    intro i w l hi hw hA hl hx
    obtain rfl : i = n' := by omega
    refine hend w hw ⟨g', l, hA, hg', hl.symm, fun x hx' => ?_⟩
    obtain ⟨j, hj⟩ := List.getElem?_of_mem hx'
    have hlt := (List.getElem?_eq_some_iff.1 hj).1
    exact (hx j x hj).1 (by have := hA.lenH; omega)
  | succ k ih =>
    intro i w l hi hw hA hl hx
    unfold trees_Copy.l29 trees_Copy.g29
    refine onDec_t (by omega) ?_
    have hln := hA.lenH
    have hxi : l[i]? = some (l[i]'(by omega)) := List.getElem?_eq_getElem _
    obtain ⟨x, hxe⟩ : ∃ x, l[i]'(by omega) = x := ⟨_, rfl⟩
    rw [hxe] at hxi
    have hcs := (hx i x hxi).2 (Nat.le_refl _)
    have hxn : x.1 ∈ nodes := by rw [← hl]; exact List.mem_map.2 ⟨x, List.mem_of_getElem? hxi, rfl⟩
    have hcl := hcs.len
    have hsx := hs x.1 hxn
    have hbw := hbx.mod hw (fun h => by have := hbx.lt; rcases h with h | h <;> omega)
    refine ⟨F1 9 (NewQ enI 3 B x.2.n x.1.cats), F1.keep NewQ.keep, optN_mk ⟨_, _, _, hbw.rd rfl, optN_mk ⟨_, _, _, hbw.rd rfl, ?_⟩⟩⟩
    have e0 : ((i : Int)).toNat = i := by omega
    have hcell : ∃ q, a' = some q ∧ w.cell? ((q.add (i * 8)).add 4) = some (.slice x.2.a x.2.n x.2.c) := by
      obtain ⟨p, hp, hc⟩ := (ArrK.slk (k := 8) (en := enH) (fun _ => rfl) (by omega) hA).get i x hxi
      exact ⟨p, hp, by rw [add_add]; exact hc 4 _ rfl⟩
    obtain ⟨q, rfl, hq⟩ := hcell
    refine optN_mk (chk_mk ⟨by omega, by omega⟩ ⟨_, _, _, by rw [e0]; exact hq, fun u hu => ?_, fun a4 n4 c4 _ => optN_mk (chk_mk ⟨by omega, by omega⟩ fun u hu hF9 => ?_)⟩)
    · refine E.CallsD.mono (cloneI_c (hcs.kept hu).sl (by omega)) fun v u' ⟨a5, c5, hv, hn5⟩ => ⟨_, _, _, hv, fun _ => ?_, hn5.kept⟩
      obtain ⟨g5, h5, hg5⟩ := Go.Mir.NewA.own hn5
      have := hw.size
      have := hu.size
      exact ⟨_, _, rfl, g5, h5, fresh_mono hg5 (by omega)⟩
    · obtain ⟨a5, c5, hv, g5, h5, hg5⟩ := hF9 rfl
      simp only [Value.slice.injEq] at hv
      obtain ⟨rfl, rfl, rfl⟩ := hv
      obtain ⟨q', hq', hw2⟩ := ArrK.wrCell (k := 8) (en := enH) (fun _ => rfl) (hA.kept hu) (i := i) (j := 4) (x := x) (y := (x.1, ⟨a4, x.2.n, c4⟩)) (v := .slice a4 x.2.n c4) hxi (by omega) (by omega) rfl (K := fun w133 => nv (IntKind.i64.wrap ((i : Int) + 1)) fun t134 => trees_Copy.l29 R b12 (k + 1) p1 p2 a3 n3 c3 (some (na Bp)) a20 n20 c20 x21 x22 n' t134 w133) fun u2 hA2 ho2 => by
        have ap : Apart (fun k => k + 1 = g') u [3] := Row.apart (hA.kept hu) (by decide)
        refine nv_succ (by omega) ?_
        refine ih (i + 1) u2 _ (by omega) ((hw.trans (Kept.mod (S := fun _ => False) hu) (U := fun b => b + 1 = g' ∨ W0.heap.size ≤ b) (fun _ _ h => h) (fun _ _ h => h.elim)).trans ho2 (fun _ _ h => h) (fun _ _ h => .inl h)) hA2 ?_ fun j y hy => ?_
        · rw [← hl, List.map_set]
          apply List.ext_getElem?
          intro j
          by_cases hj : i = j
          · subst hj
            rw [List.getElem?_set_self (by rw [List.length_map]; omega), List.getElem?_map, hxi]; rfl
          · rw [List.getElem?_set_ne hj]
        · by_cases hj : i = j
          · subst hj
            rw [List.getElem?_set_self (by omega)] at hy
            obtain rfl : (x.1, (⟨a4, x.2.n, c4⟩ : SH)) = y := by simpa using hy
            exact ⟨fun _ => ⟨g5, Row.modS h5 ho2 ap (by simp), hg5⟩, fun h => by omega⟩
          · rw [List.getElem?_set_ne hj] at hy
            obtain ⟨h1, h2⟩ := hx j y hy
            refine ⟨fun h => ?_, fun h => ?_⟩
            · obtain ⟨gx, k1, k2⟩ := h1 (by omega)
              exact ⟨gx, Row.modS (k1.kept hu) ho2 ap (by simp), k2⟩
            · refine ((h2 (by omega)).kept hu).mod ho2 fun b hb h => ?_
              have h3 : b + 1 = g' := h
              have h4 := hF b hb
              unfold fresh at hg'
              omega
      cases hq'
      rw [e0]
      exact hw2
/-- What the loop of Copy leaves as it is. -/
structure CInv (B : Nat) (B1 B2 : World) (e : ED) (f b t : SH) (cs2 : Array Value) (w : World) : Prop where
  fs : ∃ g, Arr enS 9 w f.a f.n f.c e.features g ∧ fresh B g
  bs : ∃ g, Arr enI 2 w b.a b.n b.c e.base g ∧ fresh B g
  b1 : Blk w B1.heap.size (enE e f b t).toArray 46
  b2 : Blk w B2.heap.size cs2 46
theorem CInv.modS {B1 B2 : World} {cs2 : Array Value} (h : CInv B B1 B2 e f b t cs2 w) (hm : Mod S w u) (hS : Apart S w [9, 2, 46]) : CInv B B1 B2 e f b t cs2 u :=
  ⟨let ⟨g, h1, h2⟩ := h.fs; ⟨g, Row.modS h1 hm hS (by simp), h2⟩, let ⟨g, h1, h2⟩ := h.bs; ⟨g, Row.modS h1 hm hS (by simp), h2⟩, h.b1.mod hm (fun hs => hS _ _ _ hs h.b1 (by simp)), h.b2.mod hm (fun hs => hS _ _ _ hs h.b2 (by simp))⟩
theorem CInv.kept {B1 B2 : World} {cs2 : Array Value} (h : CInv B B1 B2 e f b t cs2 w) (hk : Kept w u) : CInv B B1 B2 e f b t cs2 u := h.modS (S := fun _ => False) (Kept.mod hk) (fun _ _ _ h => h.elim)
theorem GoodE.fromB (hE : GoodE F w e f b t) (hF : ∀ b, F b → b < B) (hm : From B w u) : GoodE F u e f b t :=
  ⟨From.ls hE.fs hm hF, From.ls hE.bs hm hF, From.ls hE.ts hm hF, fun b hb => Nat.lt_of_lt_of_le (hE.old b hb) hm.size, hE.fm, hE.bm, hE.tm, hE.good⟩
theorem copy_loop {R : Value → World → Prop} {f' b' : SH} {cs2 : Array Value} {B1 B2 : World} (hne : B1.heap.size ≠ B2.heap.size) (hE : GoodE F w1 e f b t) (hF : ∀ b, F b → b < B) (hc2 : cs2.size = 5) (hB : B ≤ w1.heap.size) (hB1 : B ≤ B1.heap.size) (hB2 : B ≤ B2.heap.size)
    (hend : ∀ u t', From B w1 u → OwnE B u e f' b' t' → t'.n = t.n → R (vE e f' b' t') u) :
    ∀ (k i : Nat) (w : World) (l : List (TD × SH)) (a3 : Option Addr) (c3 g3 : Nat), i + k = t.n → From B w1 w → CInv B B1 B2 e f' b' t cs2 w → ArrK 2 enTH 33 w a3 i c3 l g3 → fresh B g3 → l.map (·.1) = e.trees.take i → (∀ x ∈ l, OwnN B w x.2.a x.2.n x.2.c x.1.nodes) → trees_Copy.l12 R (k + 1) (some (na B1)) (some (na B2)) a3 i c3 t.a t.n t.c t.n i w := by
  have htn := hE.ts.len
  have htm := hE.tm
  intro k
  induction k with
  | zero =>
    intro i w l a3 c3 g3 hi hw hI h5 hg5 hl hx
    unfold trees_Copy.l12 trees_Copy.g12
    refine onDec_f (by omega) ?_
    rw [List.take_of_length_le (by omega)] at hl
    obtain rfl : i = t.n := by omega
    refine optN_mk (hI.b1.wr0 (by simp [enE]) fun u1 hb11 ho1 => ?_)
    have h55 : At5 u1 (na B1) e f' b' ⟨a3, t.n, c3⟩ := .of_blk hb11
    refine optN_mk (h55.ld ?_)
    have hb21 := hI.b2.mod ho1 (fun h => hne (by have h' : B2.heap.size + 1 = B1.heap.size + 1 := h; omega))
    refine optN_mk (hb21.wr (by omega) fun u2 hb22 ho2 => hb22.wr (by simp; omega) fun u3 hb23 ho3 => hb23.wr (by simp; omega) fun u4 hb24 ho4 => hb24.wr (by simp; omega) fun u5 hb25 ho5 => hb25.wr (by simp; omega) fun u6 hb26 ho6 => ?_)
    have h56 : At5 u6 (na B2) e f' b' ⟨a3, t.n, c3⟩ := by
      refine ⟨hb26.rd ?_, hb26.rd ?_, hb26.rd ?_, hb26.rd ?_, hb26.rd ?_⟩ <;> simp [hc2]
    refine optN_mk (h56.ld ?_)
    have hm : Mod (fun k => k = B1.heap.size ∨ k = B2.heap.size) w u6 :=
      ((((((Mod.refl w).trans ho1 (fun _ _ h => h) (fun k _ h => .inl (by omega))).trans ho2 (fun _ _ h => h) (fun k _ h => .inr (by omega))).trans ho3 (fun _ _ h => h) (fun k _ h => .inr (by omega))).trans ho4 (fun _ _ h => h) (fun k _ h => .inr (by omega))).trans ho5 (fun _ _ h => h) (fun k _ h => .inr (by omega))).trans ho6 (fun _ _ h => h) (fun k _ h => .inr (by omega))
    have hap : Apart (fun k => k = B1.heap.size ∨ k = B2.heap.size) w [9, 2, 33, 27, 3] := by
      intro k cs e' hk hb'
      rcases hk with rfl | rfl
      · exact Blk.apartS hI.b1 (es := [9, 2, 33, 27, 3]) (by decide) _ cs e' rfl hb'
      · exact Blk.apartS hI.b2 (es := [9, 2, 33, 27, 3]) (by decide) _ cs e' rfl hb'
    refine hend u6 ⟨a3, t.n, c3⟩ ?_ ?_ rfl
    · exact hw.trans hm (U := fun k => B ≤ k) (fun k _ h => h) (fun k _ h => by show B ≤ k; rcases h with h | h <;> omega)
    · have own : OwnE B w e f' b' ⟨a3, t.n, c3⟩ := ⟨hI.fs, hI.bs, g3, l, h5, hg5, hl.symm, hx⟩
      exact own.modS hm hap
  | succ k ih =>
    intro i w l a3 c3 g3 hi hw hI h5 hg5 hl hx
    unfold trees_Copy.l12 trees_Copy.g12
    refine onDec_t (by omega) ?_
    have hEw := GoodE.fromB hE hF hw
    refine hEw.ts.rdT (by omega) (by omega) fun x a' n' c' hxi hL => ?_
    rw [Int.toNat_natCast] at hxi
    have hGx := Go.Mir.GoodE.at hEw hxi hL
    refine box2Tz fun w2 hb2' hT2 hk2 => ⟨_, _, _, hT2.c1, ?_⟩
    have s1 := hw.size
    have s2 := hk2.size
    refine E.CallsD.mono (cloneN_c (hGx.kept hk2)) fun v w3 ⟨a4, c4, g4, l4, hv, h4, hg4, hl4, hx4, hk3⟩ => ⟨_, _, _, hv, ?_⟩
    have s3 := hk3.size
    have lb := hb2'.lt
    have l4' := h4.le
    have hb3 := hb2'.mod (Kept.mod (S := fun _ => False) hk3) (fun h => h)
    refine hb3.wr0 (by simp) fun w4 hb4 ho4 => ?_
    have hb4' : Blk w4 w.heap.size #[.int .i64 x.output, .slice a4 n' c4] 33 := hb4
    have hk24 : From w.heap.size w w4 := ((Kept.trans hk2 hk3).fr).only ho4 (.inr (by omega))
    have s4 := ho4.size
    have ap4 : Apart (fun k => k + 1 = w.heap.size + 1) w3 [27, 3] := Blk.apartS hb3 (by decide)
    refine ⟨_, _, _, hb4'.rd rfl, ?_⟩
    have hmx := hGx.max
    have hsh := hGx.short
    refine ⟨n' + 1, copy_inner (B := w.heap.size) (F := F) (W0 := w4) (Bp := w) (o := x.output) (g' := g4) hmx hsh (by omega) (fun b hb => by have := hF b hb; omega) hb4' (by unfold fresh at hg4; omega) (fresh_mono hg4 (by omega)) (fun u hu ho => ?_) n' 0 w4 l4 (by omega) (Mod.refl _) (Row.modS h4 ho4 ap4 (by simp)) hl4 fun j y hy => ⟨fun h => by omega, fun _ => (hx4 y (List.mem_of_getElem? hy)).mod ho4 fun b hb h => by have := hF b hb; have h' : b + 1 = w.heap.size + 1 := h; omega⟩⟩
    have hku : Kept w u := by
      have hfr : From w.heap.size w u := hk24.trans hu (U := fun k => w.heap.size ≤ k) (fun _ _ h => h) (fun k _ h => by show w.heap.size ≤ k; unfold fresh at hg4; omega)
      exact From.kept hfr
    have su := hu.size
    have hbu := hb4'.mod hu (fun h => by unfold fresh at hg4; omega)
    unfold trees_Copy.l29 trees_Copy.g29
    refine onDec_f (by omega) ?_
    refine optN_mk ⟨_, hbu.rd rfl, _, _, _, hbu.rd rfl, ?_⟩
    have h5u := h5.kept hku
    refine ArrK.push (k := 2) (en := enTH) S_T (fun _ => rfl) (by omega) h5u (x := (x, ⟨a4, n', c4⟩)) rfl (enTH_one _) (by simp only [maxLen]; omega) (by omega) fun a6 c6 g6 u2 h6 hg6 hg60 ho6 => ⟨_, _, _, rfl, ?_⟩
    refine nv_succ (by omega) ?_
    have ap6 : ∀ {es : List Nat}, 33 ∉ es → Apart (fun k => k + 1 = g3) u es := fun hes => Row.apart h5u hes
    have sk := hku.size
    refine ih (i + 1) u2 (l ++ [(x, ⟨a4, n', c4⟩)]) a6 c6 g6 (by omega) ((hw.keptThen hku).only ho6 hg5) ((hI.kept hku).modS ho6 (ap6 (by decide))) h6 (by unfold fresh at hg5 ⊢; omega) (by rw [List.map_append, hl, take_snoc hxi]; rfl) fun y hy => ?_
    rcases mem_take_snoc hy with h | h
    · exact ((hx y h).kept hku).modS ho6 (ap6 (by decide))
    · subst h
      exact (ho.weak (by omega)).modS ho6 (ap6 (by decide))
theorem Copy_c (hE : GoodE F w e f b t) : E.CallsD Go.Proofs.Try.prog 34 #[vE e f b t] w fun v u => ∃ f' b' t', v = vE e f' b' t' ∧ OwnE w.heap.size u e f' b' t' ∧ Kept w u := by
  refine trees_Copy.calls ?_
  unfold trees_Copy trees_Copy.g0
  refine box5 fun w1 hba h5 hk1 => box5 (e := ⟨⟨#[]⟩, [], 0, [], []⟩) (f := ⟨none, 0, 0⟩) (b := ⟨none, 0, 0⟩) (t := ⟨none, 0, 0⟩) fun w2 hbr _ hk2 => ?_
  have h52 := h5.kept hk2
  have hk12 := Kept.trans hk1 hk2
  have hE2 := hE.kept hk12
  have hfm := hE.fm
  have hbm := hE.bm
  have htm := hE.tm
  have s1 := hk1.size
  have s2 := hk2.size
  have la := hba.lt
  have lr := hbr.lt
  refine ⟨_, _, _, h52.c1, ?_⟩
  refine E.CallsD.mono (cloneS_c hE2.fs.sl hfm) fun v w3 ⟨a6, c6, hv, hn6⟩ => ⟨_, _, _, hv, ?_⟩
  obtain ⟨g6, h6, hg6⟩ := Go.Mir.NewA.own hn6
  have hk3 := hn6.kept
  have s3 := hk3.size
  have hba3 := hba.mod (Kept.mod (S := fun _ => False) (Kept.trans hk2 hk3)) (fun h => h)
  refine hba3.wr0 (by simp [enE]) fun w4 hba4 ho4 => ?_
  have hba4' : Blk w4 w.heap.size (enE e ⟨a6, f.n, c6⟩ b t).toArray 46 := hba4
  have f4 : From w.heap.size w w4 := ((Kept.trans hk12 hk3).fr).only ho4 (.inr (by omega))
  have h54 : At5 w4 (na w) e ⟨a6, f.n, c6⟩ b t := .of_blk hba4'
  have hE4 := hE.kept (From.kept f4)
  refine ⟨_, _, _, h54.c3, ?_⟩
  refine E.CallsD.mono (cloneI64_c hE4.bs.sl hbm) fun v w5 ⟨a7, n7, c7, hv, hn7, _⟩ => ⟨_, _, _, hv, ?_⟩
  have hn7l : n7 = b.n := by rw [hn7.len]; exact hE.bs.len.symm
  subst hn7l
  obtain ⟨g7, h7, hg7⟩ := Go.Mir.NewA.own hn7
  have hk5 := hn7.kept
  have s4 := ho4.size
  have s5 := hk5.size
  have hba5 := hba4'.mod (Kept.mod (S := fun _ => False) hk5) (fun h => h)
  refine hba5.wr0 (by simp [enE]) fun w6 hba6 ho6 => ?_
  have hba6' : Blk w6 w.heap.size (enE e ⟨a6, f.n, c6⟩ ⟨a7, b.n, c7⟩ t).toArray 46 := hba6
  have f6 : From w.heap.size w w6 := (f4.keptThen hk5).only ho6 (.inr (by omega))
  have h56 : At5 w6 (na w) e ⟨a6, f.n, c6⟩ ⟨a7, b.n, c7⟩ t := .of_blk hba6'
  have s6 := ho6.size
  refine ⟨_, _, _, h56.c4, ?_⟩
  refine ArrK.make0 (k := 2) (en := enTH) rfl (by omega) (by omega) (by omega) fun w7 h8 hk7 => ?_
  have h57 := h56.kept hk7
  have s7 := hk7.size
  refine ⟨_, _, _, h57.c4, ?_⟩
  have e1 : ((t.n : Int)).toNat = t.n := by omega
  rw [e1] at h8 ⊢
  have f7 := f6.keptThen hk7
  have hE7 := hE.kept (From.kept f7)
  have apE : ∀ {u0 : World} {cs : Array Value}, Blk u0 w.heap.size cs 46 → Apart (fun k => k + 1 = w.heap.size + 1) u0 [9, 2] := fun h => Blk.apartS h (by decide)
  have h67 := (Row.modS ((Row.modS h6 ho4 (apE hba3) (by simp)).kept hk5) ho6 (apE hba5) (by simp)).kept hk7
  have h77 := (Row.modS h7 ho6 (apE hba5) (by simp)).kept hk7
  have hbr7 : Blk w7 w1.heap.size _ 46 := ((((hbr.mod (Kept.mod (S := fun _ => False) hk3) (fun h => h)).mod ho4 (fun h => by have h' : w1.heap.size + 1 = w.heap.size + 1 := h; omega)).mod (Kept.mod (S := fun _ => False) hk5) (fun h => h)).mod ho6 (fun h => by have h' : w1.heap.size + 1 = w.heap.size + 1 := h; omega)).mod (Kept.mod (S := fun _ => False) hk7) (fun h => h)
  refine ⟨t.n + 1, copy_loop (w1 := w7) (B := w.heap.size) (B1 := w) (B2 := w1) (f' := ⟨a6, f.n, c6⟩) (b' := ⟨a7, b.n, c7⟩) (cs2 := (enE ⟨⟨#[]⟩, [], 0, [], []⟩ ⟨none, 0, 0⟩ ⟨none, 0, 0⟩ ⟨none, 0, 0⟩).toArray) (by omega) hE7 hE.old (by simp [enE]) (by omega) (Nat.le_refl _) s1 (fun u t' hu ho hn => ⟨_, _, _, rfl, ho, ?_⟩) t.n 0 w7 [] (some (na w6)) t.n (w6.heap.size + 1) (by omega) (Mod.refl _) ⟨⟨g6, h67, fresh_mono hg6 (by omega)⟩, ⟨g7, h77, fresh_mono hg7 (by omega)⟩, hba6'.mod (Kept.mod (S := fun _ => False) hk7) (fun h => h), hbr7⟩ h8 (.inr (by omega)) (by simp) (fun x hx => by cases hx)⟩
  exact From.kept (f7.trans hu (U := fun k => w.heap.size ≤ k) (fun _ _ h => h) (fun _ _ h => h))
end
end Go.Mir
