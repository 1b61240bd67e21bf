/- Part of a proof of laws of the seat Ytdealcfgobobiaa: functions' weakest preconditions, each checked by the kernel, contracts out of them, plain lemmas; no conditions. -/
import Derived.Test.YtdealcfgobobiaaT27
set_option linter.unusedVariables false
set_option linter.unusedSimpArgs false
set_option maxRecDepth 100000
namespace Go.Mir
open Go Go.E Go.RowKit Go.Tr
def ndZ : ND := ⟨0, 0, 0, 0, [], 0, 0, 0⟩
/-- What is known of the drawn values: new nodes (3), a new tree (5). -/
def FCn (B n : Nat) : Nat → Value → World → Prop := fun i v u => (i = 3 → ∃ b, v = .slice (some ⟨b, 0, none⟩) n n ∧ ArrK 8 enH 27 u (some ⟨b, 0, none⟩) n n (List.replicate n (ndZ, ⟨none, 0, 0⟩)) (b + 1) ∧ B ≤ b) ∧ (i = 5 → ∃ Bw : World, v = .pointer (some (na Bw)) ∧ Blk u Bw.heap.size #[.int .i64 0, .slice none 0 0] 33 ∧ B ≤ Bw.heap.size)
theorem FCn.keep {B n : Nat} (i : Nat) (v : Value) (u u' : World) (h : FCn B n i v u) (hk : Below u.heap.size u u') : FCn B n i v u' := ⟨fun hi => by
  obtain ⟨b, h1, h2, h3⟩ := h.1 hi
  exact ⟨b, h1, h2.kept hk, h3⟩, fun hi => by
  obtain ⟨b, h1, h2, h3⟩ := h.2 hi
  exact ⟨b, h1, h2.mod (Kept.mod (S := fun _ => False) hk) (fun h => h), h3⟩⟩
section
variable {w u w1 W : World} {p : Addr} {o : Int} {a a1 : Option Addr} {n c n1 c1 m d g B B' : Nat} {F F' S : Nat → Prop} {nodes : List ND}
/-- What the loop of Canon holds. -/
structure CnI (B : Nat) (pre : List Nat) (nodes : List ND) (i : Nat) (w : World) (ao : Option Addr) (n go : Nat) (l : List (ND × SH)) : Prop where
  row : ArrK 8 enH 27 w ao n n l go
  own : ∀ x ∈ l, ∃ gx, Arr enI 3 w x.2.a x.2.n x.2.c x.1.cats gx ∧ fresh B gx
  done : ∀ (j : Nat) x, j < i → nodes[j]? = some x → ∃ sh, l[pre.idxOf j]? = some (renum pre x, sh)
theorem Good.modS (h : Good F w a n c nodes) (hm : Mod S w u) (hS : ∀ b, F b → ¬ S b) : Good F u a n c nodes := ⟨h.ls.mod hm hS, fun b hb => Nat.lt_of_lt_of_le (h.old b hb) hm.size, h.max, h.short⟩
theorem CnI.kept {pre : List Nat} {i : Nat} {ao : Option Addr} {go : Nat} {l : List (ND × SH)} (h : CnI B pre nodes i w ao n go l) (hk : Kept w u) : CnI B pre nodes i u ao n go l :=
  ⟨h.row.kept hk, fun x hx => let ⟨gx, h1, h2⟩ := h.own x hx; ⟨gx, h1.kept hk, h2⟩, h.done⟩
/-- At the end all nodes stand. -/
theorem CnI.all {T : BT} {ao : Option Addr} {go : Nat} {l : List (ND × SH)} (hTr : Tree nanB nodes T) (hn : n = nodes.length) (h : CnI B T.pre nodes n w ao n go l) : l.map (·.1) = canonN T.pre nodes := by
  have hl := h.row.lenH
  apply List.ext_getElem?
  intro j
  by_cases hj : j < n
  · have hjp : j < T.pre.length := by rw [hTr.length]; omega
    obtain ⟨i, hie⟩ : ∃ i, T.pre[j]'hjp = i := ⟨_, rfl⟩
    have hi : T.pre[j]? = some i := by rw [← hie]; exact List.getElem?_eq_getElem _
    have hin : i < nodes.length := (hTr.mem i).1 (List.mem_of_getElem? hi)
    have hx : nodes[i]? = some nodes[i] := List.getElem?_eq_getElem hin
    obtain ⟨sh, hs⟩ := h.done i _ (by omega) hx
    have e1 : T.pre.idxOf i = j := by rw [← hie]; exact hTr.nodup.idxOf_getElem j hjp
    rw [e1] at hs
    have e2 := hTr.canon_get hx
    rw [e1] at e2
    rw [e2, List.getElem?_map, hs]
    rfl
  · rw [List.getElem?_eq_none (by rw [List.length_map]; omega), List.getElem?_eq_none (by rw [canonN_length, hTr.length]; omega)]
theorem canon_loop {R : Value → World → Prop} {T : BT} {B2 Bp Bo : World} {cs2 : Array Value} {ap ao : Option Addr} {cp gp go D : Nat} {l0 : List (ND × SH)} (hG : Good F W a n c nodes) (hTr : Tree nanB nodes T) (hA0 : ArrK 8 enH 27 W ao n n l0 go)
    (hb2 : Blk W B2.heap.size cs2 33) (hc2 : cs2.size = 2) (hbp : Blk W Bp.heap.size #[.slice ap n cp] 24) (hp : Arr enI 3 W ap n cp (placeK T.pre n n) gp) (hbo : Blk W Bo.heap.size #[.int .i64 o, .slice ao n n] 33) (hne : B2.heap.size ≠ Bo.heap.size)
    (hD : W.heap[D]? = some (.deferred (some []))) (hB2 : B ≤ B2.heap.size) (hBD : B ≤ D) (hgo : B < go) (hBW : B ≤ W.heap.size) (hFg : ∀ b, F b → b < B)
    (hend : ∀ u, From B W u → OwnN B u ao n n (canonN T.pre nodes) → R (.tuple #[vT o ao n n, .int .i64 0]) u) :
    ∀ (k i : Nat) (w : World) (l : List (ND × SH)), i + k = n → Mod (fun b => b + 1 = go ∨ W.heap.size ≤ b) W w → CnI B T.pre nodes i w ao n go l → trees_Canon.l32 R (k + 1) (some (na B2)) (some (na Bp)) (some (na Bo)) a n c n i D w := by
  have hn := hG.len
  have hmx := hG.max
  have l2 := hb2.lt
  have lp := hbp.lt
  have lo := hbo.lt
  have lgp := hp.le
  have hDl : D < W.heap.size := (Array.getElem?_eq_some_iff.1 hD).1
  have d2 : B2.heap.size + 1 ≠ go := fun h => Row.apart (es := [33]) hA0 (by decide) _ _ _ h hb2 (by simp)
  have dp : Bp.heap.size + 1 ≠ go := fun h => Row.apart (es := [24]) hA0 (by decide) _ _ _ h hbp (by simp)
  have do_ : Bo.heap.size + 1 ≠ go := fun h => Row.apart (es := [33]) hA0 (by decide) _ _ _ h hbo (by simp)
  have dgp : gp = 0 ∨ gp ≠ go := by
    rcases hp.2 with ⟨h0, _⟩ | ⟨b, cur', h0, _, hb, _⟩
    · exact .inl h0
    · exact .inr fun h => Row.apart (es := [3]) hA0 (by decide) b _ _ (by show b + 1 = go; omega) hb (by simp)
  have dD : D + 1 ≠ go := by
    intro h
    rcases hA0.2 with ⟨h0, _⟩ | ⟨b, cur', h0, _, hb, _⟩
    · omega
    · obtain rfl : b = D := by omega
      unfold Blk at hb
      rw [hD] at hb; cases hb
  intro k
  induction k with
  | zero =>
    intro i w l hi hw hI
    unfold trees_Canon.l32 trees_Canon.g32
    refine onDec_f (by omega) ?_
    obtain rfl : i = n := by omega
    have hbow := hbo.mod hw (fun h => by rcases h with h | h <;> omega)
    have hb2w := hb2.mod hw (fun h => by rcases h with h | h <;> omega)
    refine optN_mk ⟨_, hbow.rd rfl, _, _, _, hbow.rd rfl, ?_⟩
    refine optN_mk (hb2w.wr (by omega) fun u1 hb3 ho3 => hb3.wr (by simp; omega) fun u2 hb4 ho4 => ?_)
    have hDw : w.heap[D]? = some (.deferred (some [])) := (hw.block D hDl (fun h => by rcases h with h | h <;> omega)).trans hD
    have s1 := hw.size
    have dD2 : D ≠ B2.heap.size := by
      intro h
      have hb2' : W.heap[B2.heap.size]? = some (.cells cs2 33 (0, 0)) := hb2
      rw [← h, hD] at hb2'; cases hb2'
    have hD1 : u1.heap[D]? = some (.deferred (some [])) := (ho3.block D (by omega) (fun h => by have h' : D + 1 = B2.heap.size + 1 := h; omega)).trans hDw
    have s3 := ho3.size
    have hD2 : u2.heap[D]? = some (.deferred (some [])) := (ho4.block D (by omega) (fun h => by have h' : D + 1 = B2.heap.size + 1 := h; omega)).trans hD1
    have mp := Mod.put (S := fun b => b = D) u2 (.deferred none) rfl
    refine ⟨hD2, nw_mk ?_⟩
    have hb5 := hb4.mod mp (fun h => by have h' : B2.heap.size = D := h; omega)
    have r0 : (u2.putObj D (.deferred none)).cell? ((na B2).add 0) = some (.int .i64 o) := hb5.rd (by simp [hc2])
    have r1 : (u2.putObj D (.deferred none)).cell? ((na B2).add 1) = some (.slice ao i i) := hb5.rd (by simp [hc2])
    refine optN_mk ⟨_, r0, _, _, _, r1, ?_⟩
    have apb : ∀ {u0 : World} {cs : Array Value}, Blk u0 B2.heap.size cs 33 → Apart (fun k => k + 1 = B2.heap.size + 1) u0 [27, 3] := fun h => Blk.apartS h (by decide)
    have apD : Apart (fun b => b = D) u2 [27, 3] := fun b cs e hb hbl => by
      subst hb; unfold Blk at hbl; rw [hD2] at hbl; cases hbl
    have own : OwnN B w ao i i (canonN T.pre nodes) := ⟨go, l, hI.row, .inr hgo, (hI.all hTr hn).symm, hI.own⟩
    refine hend _ ?_ (((own.modS ho3 (apb hb2w)).modS ho4 (apb hb3)).modS mp apD)
    exact (((hw.trans ho3 (U := fun k => B ≤ k) (fun k _ h => by show B ≤ k; rcases h with h | h <;> omega) (fun k _ h => by show B ≤ k; omega)).trans ho4 (fun _ _ h => h) (fun k _ h => by show B ≤ k; omega)).trans mp (fun _ _ h => h) (fun k _ h => by show B ≤ k; omega))
  | succ k ih =>
    intro i w l hi hw hI
    unfold trees_Canon.l32 trees_Canon.g32
    refine onDec_t (by omega) ?_
    have hGw := Good.modS hG hw (fun b hb h => by have := hFg b hb; have := hG.old b hb; rcases h with h | h <;> omega)
    refine hGw.ls.rdN (by omega) (by omega) fun x a5 n5 c5 hx hcs => ?_
    rw [Int.toNat_natCast] at hx
    have hsx := hG.short x (List.mem_of_getElem? hx)
    have hcl := hcs.len
    have s1 := hw.size
    refine box8z fun w2 hb hb8 hk2 => ⟨_, _, _, hb8.c4, ?_⟩
    have lb := hb.lt
    have s2 := hk2.size
    refine E.CallsD.mono (cloneI_c (hcs.kept hk2).sl (by omega)) fun v w3 ⟨a6, c6, hv, hn6⟩ => ⟨_, _, _, hv, ?_⟩
    obtain ⟨g6, h6, hg6⟩ := Go.Mir.NewA.own hn6
    have hk3 := hn6.kept
    have s3 := hk3.size
    have hb3 := hb.mod (Kept.mod (S := fun _ => False) hk3) (fun h => h)
    refine hb3.wr0 (by simp [enN]) fun w4 hb4 ho4 => ?_
    have s4 := ho4.size
    have h84 : At8 w4 (na w) x a6 n5 c6 := .of_blk hb4
    have hk4 : Kept w w4 := From.kept (((Kept.trans hk2 hk3).fr).only ho4 (.inr (by omega)))
    have ap4 : ∀ {w0 : World} {cs : Array Value}, Blk w0 w.heap.size cs 27 → Apart (fun k => k + 1 = w.heap.size + 1) w0 [3] := fun h => Blk.apartS h (by decide)
    have h64 := Row.modS h6 ho4 (ap4 hb3) (by simp)
    refine h84.ld ?_
    refine E.CallsD.mono (inner_c w4 x a6 n5 c6) fun v w5 ⟨hv, hk5⟩ => ⟨_, hv, ?_⟩
    have hk5' := Kept.trans hk4 hk5
    have s5 := hk5.size
    have hb5 : Blk w5 w.heap.size (enN x a6 n5 c6).toArray 27 := (show Blk w4 w.heap.size (enN x a6 n5 c6).toArray 27 from hb4).mod (Kept.mod (S := fun _ => False) hk5) (fun h => h)
    have h65 : Arr enI 3 w5 a6 n5 c6 x.cats g6 := Row.kept h64 hk5
    have hok := hTr.right.ok i x hx
    have him : i ∈ T.pre := (hTr.mem i).2 (by omega)
    have hil : T.pre.idxOf i < n := by rw [hn, ← hTr.length]; exact List.idxOf_lt_length_iff.2 him
    have hbp5 := hbp.mod (hw.trans (Kept.mod (S := fun _ => False) hk5') (U := fun b => b + 1 = go ∨ W.heap.size ≤ b) (fun _ _ h => h) (fun _ _ h => h.elim)) (fun h => by rcases h with h | h <;> omega)
    have hp5 := hp.mod (hw.trans (Kept.mod (S := fun _ => False) hk5') (U := fun b => b + 1 = go ∨ W.heap.size ≤ b) (fun _ _ h => h) (fun _ _ h => h.elim)) (fun b h1 h => by rcases h with h | h <;> omega)
    -- how a round ends
    have fin : ∀ (w7 : World) (x' : ND), x' = renum T.pre x → Blk w7 w.heap.size (enN x' a6 n5 c6).toArray 27 → Mod (fun k => k = w.heap.size) w5 w7 → trees_Canon.j51 R (trees_Canon.l32 R (k + 1)) (some (na B2)) (some (na Bp)) (some (na Bo)) i (some (na w)) a n c n i D w7 := by
      intro w7 x' hx' hb7 hm7
      have s7 := hm7.size
      unfold trees_Canon.j51 trees_Canon.g51
      have hk7 : Kept w w7 := From.kept ((hk5'.fr).trans hm7 (U := fun k => w.heap.size ≤ k) (fun _ _ h => h) (fun k _ h => by show w.heap.size ≤ k; omega))
      have hw7 : Mod (fun b => b + 1 = go ∨ W.heap.size ≤ b) W w7 := hw.trans (Kept.mod (S := fun _ => False) hk7) (U := fun b => b + 1 = go ∨ W.heap.size ≤ b) (fun _ _ h => h) (fun _ _ h => h.elim)
      have hI7 := hI.kept hk7
      have hbo7 := hbo.mod hw7 (fun h => by rcases h with h | h <;> omega)
      have hbp7 := hbp.mod hw7 (fun h => by rcases h with h | h <;> omega)
      have hp7 := hp.mod hw7 (fun b h1 h => by rcases h with h | h <;> omega)
      have h87 : At8 w7 (na w) x' a6 n5 c6 := .of_blk hb7
      refine optN_mk ⟨_, _, _, hbo7.rd rfl, optN_mk ⟨_, _, _, blk_one hbp7, ?_⟩⟩
      refine hp7.sl.rdI (k := .i64) (by omega) (by omega) fun y0 hy0 => ?_
      obtain rfl : y0 = (T.pre.idxOf i : Int) := by
        have := placeK_rd hTr hn (j := (i : Int)) (by omega) (by omega)
        rw [Int.toNat_natCast] at this hy0
        rw [this] at hy0; simpa using hy0.symm
      clear hy0
      refine optN_mk (h87.ld ?_)
      refine hI7.row.wrN (by omega) (by omega) (x := (x', ⟨a6, n5, c6⟩)) fun u8 h8 ho8 => ?_
      rw [Int.toNat_natCast] at h8
      have ap8 : Apart (fun k => k + 1 = go) w7 [3] := Row.apart hI7.row (by decide)
      refine nv_succ (by omega) ?_
      have hll := hI.row.lenH
      refine ih (i + 1) u8 _ (by omega) (hw7.trans ho8 (fun _ _ h => h) (fun _ _ h => .inl h)) ⟨h8, fun y hy => ?_, fun j y hj hy => ?_⟩
      · rcases List.mem_or_eq_of_mem_set hy with h | h
        · obtain ⟨gx, q1, q2⟩ := hI7.own y h
          exact ⟨gx, Row.modS q1 ho8 ap8 (by simp), q2⟩
        · subst h
          have q1 : Arr enI 3 w7 a6 n5 c6 x'.cats g6 := by
            rw [hx', renum_cats]
            refine h65.mod hm7 (fun k h1 h2 => ?_)
            have h2' : k = w.heap.size := h2
            unfold fresh at hg6
            omega
          exact ⟨g6, Row.modS q1 ho8 ap8 (by simp), fresh_mono hg6 (by omega)⟩
      · by_cases hji : j = i
        · subst hji
          rw [hx] at hy
          obtain rfl : x = y := by simpa using hy
          exact ⟨⟨a6, n5, c6⟩, by rw [List.getElem?_set_self (by omega), hx']⟩
        · obtain ⟨sh, hs⟩ := hI.done j y (by omega) hy
          refine ⟨sh, ?_⟩
          rw [List.getElem?_set_ne (fun e => hji ?_)]
          · exact hs
          · have h1 := idx_get him
            have h2 := idx_get ((hTr.mem j).2 (List.getElem?_eq_some_iff.1 hy).1)
            rw [e, h2] at h1
            simpa using h1
    have h85 : At8 w5 (na w) x a6 n5 c6 := .of_blk hb5
    cases hin : x.inner with
    | false => exact ob_f (fin w5 x (by unfold renum; rw [if_neg (by simp [hin])]) hb5 (Mod.refl _))
    | true =>
      obtain ⟨b1, b2, b3, b4, _⟩ := okNode_inner hok hin
      have ck : ∀ {v : World}, Mod (fun b => w.heap.size ≤ b) w v → CK w v := fun hm a v hc => hm.cell (fun h => by have := block_lt_of_cell hc; omega) hc
      have hbpw := hbp.mod hw (fun h => by rcases h with h | h <;> omega)
      have hpw := hp.mod hw (fun b h1 h => by rcases h with h | h <;> omega)
      refine ob_t ⟨w, ck hk5'.fr, optN_mk ⟨_, _, _, blk_one hbp5, _, h85.c6, ?_⟩⟩
      refine hp5.sl.rdI (k := .i64) (by omega) (by omega) fun y hy => ?_
      obtain rfl : y = (T.pre.idxOf x.left.toNat : Int) := by
        rw [placeK_rd hTr hn (by omega) (by omega)] at hy; simpa using hy.symm
      refine optN_mk ⟨_, _, _, blk_one hbpw, _, h85.c7, ?_⟩
      refine hpw.sl.rdI (k := .i64) (by omega) (by omega) fun y hy => ?_
      obtain rfl : y = (T.pre.idxOf x.right.toNat : Int) := by
        rw [placeK_rd hTr hn (by omega) (by omega)] at hy; simpa using hy.symm
      refine hb5.wr0 (by simp [enN]) fun w6 hb6 ho6 => ⟨ck (hk5'.fr.only ho6 (.inr (by omega))), hb6.wr0 (by simp [enN]) fun w7 hb7 ho7 => ⟨ck ((hk5'.fr.only ho6 (.inr (by omega))).only ho7 (.inr (by omega))), ?_⟩⟩
      exact fin w7 { x with left := (T.pre.idxOf x.left.toNat : Int), right := (T.pre.idxOf x.right.toNat : Int) } (by unfold renum; rw [if_pos hin]) hb7 (ho6.trans ho7 (U := fun k => k = w.heap.size) (fun k _ h => by show k = w.heap.size; omega) (fun k _ h => by show k = w.heap.size; omega))
theorem Canon_c (hG : Good F w a n c nodes) : E.CallsD Go.Proofs.Try.prog 37 #[vT o a n c] w fun v u => ∃ a' n' c', v = .tuple #[vT (canonO o nodes) a' n' c', .int .i64 (shapeP nanB nodes).1] ∧ OwnN w.heap.size u a' n' c' (canonP nodes) ∧ Kept w u := by
  refine trees_Canon.calls ?_
  unfold trees_Canon trees_Canon.g0
  refine box2T fun w1 _ hT1 hk1 => box2T (o := 0) (a := none) (n := 0) (c := 0) fun w2 hbr _ hk2 => ?_
  have hT2 := hT1.kept hk2
  have hk12 := Kept.trans hk1 hk2
  have s1 := hk1.size
  have s2 := hk2.size
  have lr := hbr.lt
  have l1 := hT1.lt
  have hn := hG.len
  have hmx := hG.max
  refine ⟨_, hT2.c0, _, _, _, hT2.c1, ?_⟩
  have hG2 := hG.kept hk12
  refine E.CallsD.mono (Shape_c (o := o) hG2.max hG2.short hG2.ls hG2.old) fun v w3 ⟨hv, hk3⟩ => ⟨_, _, hv, ?_⟩
  have hk13 := Kept.trans hk12 hk3
  have hbr3 := hbr.mod (Kept.mod (S := fun _ => False) hk3) (fun h => h)
  have s3 := hk3.size
  refine onNe (fun hne => ?_) fun h0 => ?_
  · refine hbr3.wr (by simp) fun u1 hb4 ho4 => hb4.wr (by simp) fun u2 hb5 ho5 => ⟨_, hb5.rd rfl, _, _, _, hb5.rd rfl, _, _, _, ?_, OwnN.nil _ _ _ _ ⟨rfl, rfl⟩ |> fun h => (canonP_no hne).symm ▸ h, ?_⟩
    · unfold canonO; rw [if_neg hne]
    · exact From.kept ((hk13.fr.only ho4 (.inr (by omega))).only ho5 (.inr (by omega)))
  have hTr := treeP_spec h0
  obtain ⟨T, hTe⟩ : ∃ T, treeP nodes = T := ⟨_, rfl⟩
  rw [hTe] at hTr
  have hT3 := hT2.kept hk3
  refine ⟨_, _, _, hT3.c1, ?_⟩
  refine Arr.make (en := enI) (x := 0) rfl (by omega) (by omega) (by omega) fun w4 h4 hk4 => ?_
  have e1 : ((n : Int)).toNat = n := by omega
  rw [e1] at h4 ⊢
  have s4 := hk4.size
  have l4 := h4.le
  refine box1 fun w5 hb5 _ hk5 => hb5.wr (by simp) fun w6 hb6 ho6 => ?_
  have hb6' : Blk w6 w4.heap.size #[.slice (some (na w3)) n n] 24 := hb6
  have s5 := hk5.size
  have s6 := ho6.size
  have l5 := hb5.lt
  refine box1 fun w7 hb7 _ hk7 => hb7.wr (by simp) fun w8 hb8 ho8 => ?_
  have hb8' : Blk w8 w6.heap.size #[.int .i64 0] 3 := hb8
  have s7 := hk7.size
  have s8 := ho8.size
  have l7 := hb7.lt
  have k34 : Kept w3 w8 := From.kept ((((hk4.fr.keptThen hk5).only ho6 (.inr (by omega))).keptThen hk7).only ho8 (.inr (by omega)))
  have hk18 := Kept.trans hk13 k34
  have hT8 := hT3.kept k34
  have h48 : Arr enI 3 w8 (some (na w3)) n n (List.replicate n 0) (w3.heap.size + 1) := ((((Row.kept h4 hk5).mod ho6 (fun k h1 h2 => by omega)).kept hk7).mod ho8 (fun k h1 h2 => by omega))
  have hb68 := (hb6'.mod (Kept.mod (S := fun _ => False) hk7) (fun h => h)).mod ho8 (fun h => by have h' : w4.heap.size + 1 = w6.heap.size + 1 := h; omega)
  refine ⟨_, hT8.c0, _, _, _, hT8.c1, ?_⟩
  refine E.CallsD.mono (all_c hT8) fun v w9 ⟨hv, hTit, hk9⟩ => ⟨_, rfl, ?_⟩
  subst hv
  have s9 := hk9.size
  have hk19 := Kept.trans hk18 hk9
  have hG9 := hG.kept hk19
  have hT9 := hT8.kept hk9
  have hbr9 := hbr3.mod (Kept.mod (S := fun _ => False) (Kept.trans k34 hk9)) (fun h => h)
  have hb69 := hb68.mod (Kept.mod (S := fun _ => False) hk9) (fun h => h)
  have hb89 := hb8'.mod (Kept.mod (S := fun _ => False) hk9) (fun h => h)
  have h49 := h48.kept hk9
  rw [← placeK_zero T.pre n] at h49
  obtain ⟨X, hX⟩ : ∃ X, intP (T.preD 0) = X := ⟨_, rfl⟩
  have hXl : X.length = n := by rw [← hX, intP_length, BT.preD_length, ← BT.pre_length, hTr.length, hn]
  obtain ⟨J, hJ⟩ : ∃ J : Nat → Nat → World → Prop, J = fun (k g : Nat) (u : World) => Blk u w6.heap.size #[.int .i64 (k : Int)] 3 ∧ Arr enI 3 u (some (na w3)) n n (placeK T.pre k n) (w3.heap.size + 1) ∧ g = 0 ∧ Mod (fun b => (b = w3.heap.size ∨ b = w6.heap.size) ∨ w9.heap.size ≤ b) w9 u := ⟨_, rfl⟩
  refine ⟨70, #[.pointer (some (na w8))], X, fun b => b = w3.heap.size ∨ b = w6.heap.size, J, rfl, by kernel_rfl, fun b hb => by omega, ?_, ?_, ?_, ?_, ?_, ?_⟩
  · rw [← hX]
    refine all1_iter (o := o) (F := F) hG9 hTr hTit (fun b hb => by omega) (fun h => ?_) (fun b hb h => ?_)
    · have h' : w8.heap.size = w3.heap.size ∨ w8.heap.size = w6.heap.size := h
      omega
    · have := hG.old b hb
      omega
  · intro k g u u' h hmod
    rw [hJ] at h ⊢
    obtain ⟨h1, h2, h3, h4⟩ := h
    exact ⟨h1.mod hmod (fun h => by omega), h2.mod hmod (fun k e h => by omega), h3, h4.trans hmod (fun _ _ h => h) (fun b _ h => .inr h.1)⟩
  · intro k g u h
    rw [hJ] at h
    obtain ⟨h1, h2, h3, h4⟩ := h
    exact ⟨.inl h3, by omega, h4.size⟩
  · rw [hJ]
    exact ⟨hb89, h49, rfl, Mod.refl _⟩
  · intro k g x u hx h
    rw [hJ] at h ⊢
    obtain ⟨h1, h2, h3, h4'⟩ := h
    have hkn : k < n := by rw [← hXl]; exact (List.getElem?_eq_some_iff.1 hx).1
    rw [← hX] at hx
    unfold intP at hx
    rw [List.getElem?_map] at hx
    obtain ⟨y, hy, rfl⟩ := Option.map_eq_some_iff.1 hx
    have hyp : T.pre[k]? = some y.1 := by rw [← T.preD_fst 0, List.getElem?_map, hy]; rfl
    have hyn : y.1 < n := by rw [hn]; exact (hTr.mem _).1 (List.mem_of_getElem? hyp)
    have z := h4'.size
    have hbp := hb69.mod h4' (fun h => by omega)
    refine ⟨_, _, _, blk_one hbp, _, blk_one h1, ?_⟩
    refine h2.wr (by simp only; omega) (by simp only; omega) (x := (k : Int)) rfl fun u2 h22 ho2 => ?_
    rw [show ((y.1 : Int)).toNat = y.1 by omega, placeK_succ hTr.nodup hyp (by omega)] at h22
    have hb12 := h1.mod ho2 (fun h => by omega)
    refine ⟨_, blk_one hb12, ?_⟩
    refine nv_succ (by omega) ?_
    refine hb12.wr (by simp) fun u3 hb13 ho3 => ?_
    refine ⟨0, ⟨hb13, h22.mod ho3 (fun k h1 h2 => by omega), rfl, (h4'.trans ho2 (fun _ _ h => h) (fun b _ h => .inl (.inl (by omega)))).trans ho3 (fun _ _ h => h) (fun b _ h => .inl (.inr (by omega)))⟩, .inl h3.symm, (ho2.trans ho3 (U := fun b => (b = w3.heap.size ∨ b = w6.heap.size) ∨ b + 1 = g) (fun b _ h => .inl (.inl (by omega))) (fun b _ h => .inl (.inr (by omega))))⟩
  · intro g D u h hD1 hD2 hDg hD
    rw [hJ] at h
    obtain ⟨h1, h2, h3, h4'⟩ := h
    rw [hXl] at h1 h2
    have su := h4'.size
    have hTu := hT9.mod h4' (fun h => by have e : (na w).block = w.heap.size := rfl; omega)
    have hbpu := hb69.mod h4' (fun h => by omega)
    have hbru := hbr9.mod h4' (fun h => by omega)
    have hGu := Good.modS hG9 h4' (fun b hb h => by have := hG.old b hb; omega)
    refine ⟨FCn u.heap.size n, FCn.keep, _, hTu.c0, _, blk_one h1, chk_mk ⟨by omega, by omega, by omega, by omega⟩ ⟨fun u1 hu1 => ⟨fun _ => ?_, fun h => by omega⟩, fun q3 n3 c3 _ => ⟨fun u1 hu1 => ⟨fun h => by omega, fun _ => ⟨u1, rfl, Blk.new u1 _ _, hu1.size⟩⟩, fun q5 _ u1 hu1 hF3 hF5 => ?_⟩⟩⟩
    · rw [e1]
      exact ⟨u1.heap.size, rfl, ArrK.made (k := 8) (en := enH) (x := (ndZ, ⟨none, 0, 0⟩)) (fun _ => rfl) (by omega) rfl 27 u1 n (by simp only [maxLen]; omega), hu1.size⟩
    · obtain ⟨b3, e3, h3r, hb3⟩ := hF3.1 rfl
      simp only [Value.slice.injEq, Option.some.injEq] at e3
      obtain ⟨rfl, rfl, rfl⟩ := e3
      obtain ⟨Bw, e5, h5b, hB5⟩ := hF5.2 rfl
      simp only [Value.pointer.injEq, Option.some.injEq] at e5
      subst e5
      have z1 := hu1.size
      have l5b := h5b.lt
      have hlr := h3r.le
      refine h5b.wr (by simp) fun u2 hb2' ho2 => hb2'.wr (by simp) fun u3 hb3' ho3 => ?_
      have hb3'' : Blk u3 Bw.heap.size #[.int .i64 o, .slice (some ⟨b3, 0, none⟩) c3 c3] 33 := hb3'
      have hdb : Bw.heap.size ≠ b3 := fun h => Row.apart (es := [33]) h3r (by decide) Bw.heap.size _ _ (by show Bw.heap.size + 1 = b3 + 1; omega) h5b (by simp)
      have f3 : From u.heap.size u u3 := ((Kept.fr hu1).only ho2 (.inr (by omega))).only ho3 (.inr (by omega))
      have hku3 := From.kept f3
      have z2 := ho2.size
      have z3 := ho3.size
      have hTu3 := hTu.kept hku3
      have h3r3 : ArrK 8 enH 27 u3 (some ⟨b3, 0, none⟩) c3 c3 (List.replicate c3 (ndZ, ⟨none, 0, 0⟩)) (b3 + 1) := (h3r.mod ho2 (fun k h1 h2 => by omega)).mod ho3 (fun k h1 h2 => by omega)
      have hDu3 : u3.heap[D]? = some (.deferred (some [])) := (hku3.block D hD2).trans hD
      refine ⟨_, _, _, hTu3.c1, ?_⟩
      refine ⟨c3 + 1, canon_loop (W := u3) (B := w.heap.size) (F := F) (o := o) (nodes := nodes) (T := T) (B2 := w1) (Bp := w4) (Bo := Bw) (cs2 := #[.int .i64 0, .slice none 0 0]) (ap := some (na w3)) (cp := c3) (gp := w3.heap.size + 1) (go := b3 + 1) (D := D) (hGu.kept hku3) hTr h3r3 (hbru.mod (Kept.mod (S := fun _ => False) hku3) (fun h => h)) rfl (hbpu.mod (Kept.mod (S := fun _ => False) hku3) (fun h => h)) (h2.kept hku3) hb3'' (by omega) hDu3 (by omega) (by omega) (by omega) (by omega) (fun b hb => hG.old b hb) (fun x hx ho => ⟨some ⟨b3, 0, none⟩, c3, c3, ?_, ?_, ?_⟩) c3 0 u3 _ (by omega) (Mod.refl _) ⟨h3r3, fun y hy => ?_, fun j y hj _ => by omega⟩⟩
      · obtain ⟨_, rfl⟩ := List.mem_replicate.1 hy
        exact ⟨0, Arr.nil _ _ _, .inl rfl⟩
      · unfold canonO; rw [if_pos h0, h0]
      · rw [canonP_ok h0, hTe]; exact ho
      · have f19 : From w.heap.size w u := hk19.fr.trans h4' (U := fun k => w.heap.size ≤ k) (fun _ _ h => h) (fun b _ h => by show w.heap.size ≤ b; omega)
        exact From.kept ((f19.keptThen hku3).trans hx (U := fun k => w.heap.size ≤ k) (fun _ _ h => h) (fun _ _ h => h))
end
end Go.Mir
