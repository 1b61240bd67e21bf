/- Part of a proof of laws of the seat Ytdealcfgobobiaa: functions' weakest preconditions, each checked by the kernel, contracts out of them, plain lemmas; no conditions. -/
import Derived.Test.YtdealcfgobobiaaT26
import Derived.Test.YtdealcfgobobiaaTPA
set_option linter.unusedVariables false
set_option linter.unusedSimpArgs false
set_option maxRecDepth 100000
namespace Go.Mir
open Go Go.E Go.RowKit Go.Tr
/-- The places, when so many are known. -/
def placeK (pre : List Nat) (k n : Nat) : List Int := (List.range n).map fun j => if pre.idxOf j < k then (pre.idxOf j : Int) else 0
theorem placeK_len (pre : List Nat) (k n : Nat) : (placeK pre k n).length = n := by simp [placeK]
theorem placeK_get {pre : List Nat} {k n j : Nat} (hj : j < n) : (placeK pre k n)[j]? = some (if pre.idxOf j < k then (pre.idxOf j : Int) else 0) := by simp [placeK, hj]
theorem placeK_zero (pre : List Nat) (n : Nat) : placeK pre 0 n = List.replicate n 0 := by
  apply List.ext_getElem?
  intro i
  by_cases hi : i < n
  · rw [placeK_get hi, List.getElem?_replicate, if_pos hi]; simp
  · rw [List.getElem?_eq_none (by rw [placeK_len]; omega), List.getElem?_eq_none (by simp; omega)]
theorem placeK_succ {pre : List Nat} {k n i : Nat} (hnd : pre.Nodup) (hi : pre[k]? = some i) (hin : i < n) : (placeK pre k n).set i (k : Int) = placeK pre (k + 1) n := by
  have hx : pre.idxOf i = k := by
    obtain ⟨hlt, rfl⟩ := List.getElem?_eq_some_iff.1 hi
    exact hnd.idxOf_getElem k hlt
  apply List.ext_getElem?
  intro j
  by_cases hj : j < n
  · rw [placeK_get hj]
    by_cases hij : i = j
    · subst hij
      rw [List.getElem?_set_self (by rw [placeK_len]; exact hin), hx, if_pos (by omega)]
    · rw [List.getElem?_set_ne hij, placeK_get hj]
      have hne : pre.idxOf j ≠ k := fun e => by
        by_cases hm : j ∈ pre
        · have := idx_get hm
          rw [e, hi] at this
          exact hij (by simpa using this)
        · rw [List.idxOf_eq_length hm] at e
          have := (List.getElem?_eq_some_iff.1 hi).1
          omega
      by_cases h : pre.idxOf j < k
      · rw [if_pos h, if_pos (by omega)]
      · rw [if_neg h, if_neg (by omega)]
  · rw [List.getElem?_eq_none (by rw [List.length_set, placeK_len]; omega), List.getElem?_eq_none (by rw [placeK_len]; omega)]
noncomputable def canonP (nodes : List ND) : List ND := if (shapeP nanB nodes).1 = 0 then canonN (treeP nodes).pre nodes else []
noncomputable def canonO (o : Int) (nodes : List ND) : Int := if (shapeP nanB nodes).1 = 0 then o else 0
section
variable {w u w1 : World} {p : Addr} {o : Int} {a a1 : Option Addr} {n c n1 c1 m d g B B' : Nat} {F F' S : Nat → Prop} {nodes : List ND}
theorem placeK_rd {T : BT} (hTr : Tree nanB nodes T) (hn : n = nodes.length) {j : Int} (h0 : 0 ≤ j) (hj : j < n) : (placeK T.pre n n)[j.toNat]? = some (T.pre.idxOf j.toNat : Int) := by
  rw [placeK_get (by omega), if_pos]
  rw [hn, ← hTr.length]
  exact List.idxOf_lt_length_iff.2 ((hTr.mem _).2 (by omega))
theorem refcanon_l2 {R : Value → World → Prop} {T : BT} {p1 p2 : Addr} {B2 : World} {cs2 : Array Value} {a7 a6 : Option Addr} {c7 g7 c6 g6 : Nat} (hp2 : p2 = na B2) (hG : Good F w1 a n c nodes) (hTr : Tree nanB nodes T) (hT : At2 w1 p1 o a n c) (hb2 : Blk w1 B2.heap.size cs2 33) (hc2 : cs2.size = 2) (hB : B ≤ B2.heap.size) (hB1 : B ≤ w1.heap.size)
    (h7 : Arr enI 3 w1 a7 n c7 (placeK T.pre n n) g7) (h6 : Arr enI 3 w1 a6 n c6 (natL T.pre) g6)
    (hend : ∀ u a' c', From B w1 u → OwnN B u a' n c' (canonN T.pre nodes) → R (.tuple #[vT o a' n c', .int .i64 0]) u) :
    ∀ (k i : Nat) (w : World) (l : List (ND × SH)) (a3 : Option Addr) (c3 g3 : Nat), i + k = n → From w1.heap.size w1 w → Blk w w1.heap.size #[.int .i64 o, .slice a3 i c3] 33 → ArrK 8 enH 27 w a3 i c3 l g3 → fresh w1.heap.size g3 → l.map (·.1) = (canonN T.pre nodes).take i → (∀ x ∈ l, ∃ gx, Arr enI 3 w x.2.a x.2.n x.2.c x.1.cats gx ∧ fresh w1.heap.size gx) → thicketref07_Canon.l39 R (k + 1) (some p1) (some p2) a7 n c7 (some (na w1)) a6 n c6 n i w := by
  subst hp2
  have hn := hG.len
  have hmx := hG.max
  intro k
  induction k with
  | zero =>
    intro i w l a3 c3 g3 hi hw hb hA hg3 hl hx
    unfold thicketref07_Canon.l39 thicketref07_Canon.g39
    refine onDec_f (by omega) ?_
    obtain rfl : i = n := by omega
    rw [List.take_of_length_le (by rw [canonN_length, hTr.length]; omega)] at hl
    have l2 := hb2.lt
    refine optN_mk ⟨_, hb.rd rfl, _, _, _, hb.rd rfl, ?_⟩
    have hb2w := hb2.mod hw (fun h => by have h' : w1.heap.size ≤ B2.heap.size := h; omega)
    refine optN_mk (hb2w.wr (by omega) fun u1 hb3 ho3 => hb3.wr (by simp; omega) fun u2 hb4 ho4 => ?_)
    have r0 : u2.cell? ((na B2).add 0) = some (.int .i64 o) := hb4.rd (by simp [hc2])
    have r1 : u2.cell? ((na B2).add 1) = some (.slice a3 i c3) := hb4.rd (by simp [hc2])
    refine optN_mk ⟨_, r0, _, _, _, r1, ?_⟩
    have ap : ∀ {u0 : World} {cs : Array Value}, Blk u0 B2.heap.size cs 33 → Apart (fun k => k + 1 = B2.heap.size + 1) u0 [27, 3] := fun h => Blk.apartS h (by decide)
    have own : OwnN B w a3 i c3 (canonN T.pre nodes) := ⟨g3, l, hA, fresh_mono hg3 hB1, hl.symm, fun x hx' => let ⟨gx, k1, k2⟩ := hx x hx'; ⟨gx, k1, fresh_mono k2 hB1⟩⟩
    refine hend u2 a3 c3 ?_ ((own.modS ho3 (ap hb2w)).modS ho4 (ap hb3))
    exact ((hw.trans ho3 (U := fun k => B ≤ k) (fun k _ h => by have h' : w1.heap.size ≤ k := h; show B ≤ k; omega) (fun k _ h => by show B ≤ k; omega)).trans ho4 (fun _ _ h => h) (fun k _ h => by show B ≤ k; omega))
  | succ k ih =>
    intro i w l a3 c3 g3 hi hw hb hA hg3 hl hx
    unfold thicketref07_Canon.l39 thicketref07_Canon.g39
    refine onDec_t (by omega) ?_
    have hkl : i < T.pre.length := by rw [hTr.length]; omega
    have hj : T.pre[i]? = some (T.pre[i]'hkl) := List.getElem?_eq_getElem _
    obtain ⟨j, hje⟩ : ∃ j, T.pre[i]'hkl = j := ⟨_, rfl⟩
    rw [hje] at hj
    have hjm := List.mem_of_getElem? hj
    have hjn : j < n := by rw [hn]; exact (hTr.mem j).1 hjm
    have l6 := h6.le
    have l7 := h7.le
    have h6w := h6.mod hw (fun k h1 h2 => by have h' : w1.heap.size ≤ k := h2; omega)
    have h7w := h7.mod hw (fun k h1 h2 => by have h' : w1.heap.size ≤ k := h2; omega)
    refine h6w.sl.rdI (k := .i64) (by omega) (by omega) fun y hy => ?_
    rw [Int.toNat_natCast, natL_get hj] at hy
    obtain rfl : y = (j : Int) := by simpa using hy.symm
    have hGw := hG.from hw
    refine optN_mk ⟨_, _, _, (hT.from hw).c1, ?_⟩
    refine nv_i64 (by omega) (by omega) ?_
    have hcap := hGw.ls.cap
    refine chk_mk ⟨by omega, by omega⟩ (chk_mk ⟨by omega, by omega⟩ ?_)
    have e1 : ((j : Int) + 1).toNat = j + 1 := by omega
    rw [e1, Int.toNat_natCast]
    have hxj : nodes[j]? = some (nodes[j]'(by omega)) := List.getElem?_eq_getElem _
    obtain ⟨x, hxe⟩ : ∃ x, nodes[j]'(by omega) = x := ⟨_, rfl⟩
    rw [hxe] at hxj
    have hsub := hGw.ls.sub (i := j) (j := j + 1) (by omega) (by omega)
    have hone : (nodes.take (j + 1)).drop j = [x] := by
      rw [take_snoc hxj, List.drop_append, List.drop_of_length_le (by rw [List.length_take]; omega), List.nil_append, List.length_take, show j - min j nodes.length = 0 by omega]; rfl
    rw [hone] at hsub
    have hn1 : j + 1 - j = 1 := by omega
    rw [hn1] at hsub ⊢
    have hshx := hG.short x (List.mem_of_getElem? hxj)
    refine E.CallsD.mono (refNodes_c (F := F) (nodes := [x]) ⟨hsub, hGw.old, by omega, fun y hy => by simp at hy; subst hy; exact hshx⟩) fun v w2 ⟨a2, c2, hv, ⟨g2, l2, k1, k2, k3, k4⟩, hk2⟩ => ⟨_, _, _, hv, ?_⟩
    have hl2 := k1.lenH
    match l2, hl2, k3, k1, k4 with
    | [y], _, k3, k1, k4 =>
    have hy : y.1 = x := by simpa using k3.symm
    obtain ⟨gy, k5, k6⟩ := k4 y (by simp)
    refine (ArrK.slk (k := 8) (en := enH) (fun _ => rfl) (by omega) k1).rdH (i := 0) (by omega) (by omega) fun z hz => ?_
    have hzy : z = y := by simpa using hz.symm
    subst hzy
    rw [hy] at k5 ⊢
    refine box8z fun w3 hb3 hb8 hk3 => ⟨_, hb8.c0, ?_⟩
    have s0 := hw.size
    have s2 := hk2.size
    have s3 := hk3.size
    have lb := hb.lt
    have lb3 := hb3.lt
    have hk23 := Kept.trans hk2 hk3
    have hw3 := hw.keptThen hk23
    have lA := hA.le
    have hnext : (canonN T.pre nodes)[i]? = some (renum T.pre x) := by
      unfold canonN
      rw [List.getElem?_map, hj]
      simp only [Option.map_some]
      rw [List.getD_eq_getElem?_getD, hxj]; rfl
    -- how a round ends
    have fin : ∀ (w5 : World) (x' : ND), x' = renum T.pre x → At8 w5 (na w2) x' z.2.a z.2.n z.2.c → Mod (fun k => k = w2.heap.size) w3 w5 →
        optN (some (na w1)) fun q151 => ∃ ya_152 : Option Addr, ∃ yn_152 : Nat, ∃ yc_152 : Nat, w5.cell? (q151.add 1) = some (.slice ya_152 yn_152 yc_152) ∧ (∃ yx_153 : Int, w5.cell? ((na w2).add 0) = some (.int .u8 yx_153) ∧ (∃ yx_154 : Int, w5.cell? ((na w2).add 1) = some (.int .i64 yx_154) ∧ (∃ yx_155 : Int, w5.cell? ((na w2).add 2) = some (.int .i64 yx_155) ∧ (∃ yf_156 : Nat, w5.cell? ((na w2).add 3) = some (.float .f64 yf_156) ∧
          (∃ ya_157 : Option Addr, ∃ yn_157 : Nat, ∃ yc_157 : Nat, w5.cell? ((na w2).add 4) = some (.slice ya_157 yn_157 yc_157) ∧ (∃ yx_158 : Int, w5.cell? ((na w2).add 5) = some (.int .u8 yx_158) ∧ (∃ yx_159 : Int, w5.cell? ((na w2).add 6) = some (.int .i64 yx_159) ∧ (∃ yx_160 : Int, w5.cell? ((na w2).add 7) = some (.int .i64 yx_160) ∧
            (nw (w5.alloc (.cells #[.int .u8 yx_153, .int .i64 yx_154, .int .i64 yx_155, .float .f64 yf_156, .slice ya_157 yn_157 yc_157, .int .u8 yx_158, .int .i64 yx_159, .int .i64 yx_160] 27)) fun w161 =>
              rawN Go.Proofs.Try.prog (Builtin.append_ #[31, 31] 31 #[.slice ya_152 yn_152 yc_152, .slice (some (na w5)) 1 1]) w161 fun yv162 u163 =>
                ∃ ya_164 : Option Addr, ∃ yn_164 : Nat, ∃ yc_164 : Nat, yv162 = .slice ya_164 yn_164 yc_164 ∧ (optN (some (na w1)) fun q165 => okSt u163 ((q165.add 1).add 0) ∧ (nw (u163.setCell ((q165.add 1).add 0) (.slice ya_164 yn_164 yc_164)) fun w166 => nv (IntKind.i64.wrap ((i : Int) + 1)) fun t167 =>
                  thicketref07_Canon.l39 R (k + 1) (some p1) (some (na B2)) a7 n c7 (some (na w1)) a6 n c6 n t167 w166))))))))))) := by
      intro w5 x' hx' h85 hm5
      have s5 := hm5.size
      have hkw5 : From w.heap.size w w5 := (hk23.fr).trans hm5 (U := fun k => w.heap.size ≤ k) (fun _ _ h => h) (fun k _ h => by show w.heap.size ≤ k; omega)
      have hk5 := From.kept hkw5
      have hb5 := hb.mod (Kept.mod (S := fun _ => False) hk5) (fun h => h)
      refine optN_mk ⟨_, _, _, hb5.rd rfl, h85.ld ?_⟩
      refine ArrK.push (k := 8) (en := enH) S_N (fun _ => rfl) (by omega) (hA.kept hk5) (x := (x', z.2)) rfl (enH_one _) (by simp only [maxLen]; omega) (by omega) fun a7' c7' g7' u5 h7' hg7' hg70 ho5 => ⟨_, _, _, rfl, ?_⟩
      have hbu := hb5.mod ho5 (fun h => Row.apart (es := [33]) (hA.kept hk5) (by decide) _ _ _ h hb5 (List.mem_singleton.2 rfl))
      refine optN_mk (hbu.wr0 (by simp) fun u6 hb6 ho6 => ?_)
      refine nv_succ (by omega) ?_
      have ap5 : ∀ {es : List Nat}, 27 ∉ es → Apart (fun k => k + 1 = g3) w5 es := fun hes => Row.apart (hA.kept hk5) hes
      have ap6 : ∀ {es : List Nat}, 33 ∉ es → Apart (fun k => k + 1 = w1.heap.size + 1) u5 es := fun hes => Blk.apartS hbu hes
      have s6 := ho5.size
      have hw6 : From w1.heap.size w1 u6 := ((hw.keptThen hk5).only ho5 hg3).only ho6 (.inr (by omega))
      refine ih (i + 1) u6 (l ++ [(x', z.2)]) a7' c7' g7' (by omega) hw6 hb6 (Row.modS h7' ho6 (ap6 (es := [27]) (by decide)) (by simp)) (by unfold fresh at hg3 ⊢; omega) (by rw [List.map_append, hl, take_snoc hnext, hx']; rfl) fun y hy => ?_
      rcases mem_take_snoc hy with h | h
      · obtain ⟨gx, q1, q2⟩ := hx y h
        exact ⟨gx, Row.modS (Row.modS (q1.kept hk5) ho5 (ap5 (es := [3]) (by decide)) (by simp)) ho6 (ap6 (es := [3]) (by decide)) (by simp), q2⟩
      · subst h
        have q1 : Arr enI 3 w5 z.2.a z.2.n z.2.c x'.cats gy := by
          rw [hx', renum_cats]
          exact (k5.kept hk3).mod hm5 (fun k h1 h2 => by have := k5.le; omega)
        exact ⟨gy, Row.modS (Row.modS q1 ho5 (ap5 (es := [3]) (by decide)) (by simp)) ho6 (ap6 (es := [3]) (by decide)) (by simp), fresh_mono k6 (by omega)⟩
    have hok := hTr.right.ok j x hxj
    refine onNe (fun hki => ?_) fun hki => ?_
    · have hin := (kd_of hTr hxj).1 hki
      obtain ⟨b1, b2, b3, b4, _⟩ := okNode_inner hok hin
      have h73 := h7w.kept hk23
      refine ⟨_, hb8.c6, ?_⟩
      refine h73.sl.rdI (k := .i64) (by omega) (by omega) fun y hy => ?_
      obtain rfl : y = (T.pre.idxOf x.left.toNat : Int) := by
        rw [placeK_rd hTr hn (by omega) (by omega)] at hy; simpa using hy.symm
      refine hb3.wr0 (by simp [enN]) fun w4 hb4 ho4 => ?_
      have h84 : At8 w4 (na w2) { x with left := (T.pre.idxOf x.left.toNat : Int) } z.2.a z.2.n z.2.c := .of_blk hb4
      have h84r : w4.cell? ((na w2).add 7) = some (.int .i64 x.right) := h84.c7
      refine ⟨_, h84r, ?_⟩
      have h74 := h73.mod ho4 (fun k h1 h2 => by omega)
      refine h74.sl.rdI (k := .i64) (by omega) (by omega) fun y hy => ?_
      obtain rfl : y = (T.pre.idxOf x.right.toNat : Int) := by
        rw [placeK_rd hTr hn (by omega) (by omega)] at hy; simpa using hy.symm
      refine hb4.wr0 (by simp [enN]) fun w5 hb5 ho5 => ?_
      have h85 : At8 w5 (na w2) { x with left := (T.pre.idxOf x.left.toNat : Int), right := (T.pre.idxOf x.right.toNat : Int) } z.2.a z.2.n z.2.c := .of_blk hb5
      exact fin w5 _ (by unfold renum; rw [if_pos hin]) h85 (ho4.trans ho5 (U := fun k => k = w2.heap.size) (fun k _ h => by show k = w2.heap.size; omega) (fun k _ h => by show k = w2.heap.size; omega))
    · have hin : x.inner = false := by
        cases h : x.inner with
        | false => rfl
        | true => exact absurd hki ((kd_of hTr hxj).2 h)
      exact fin w3 x (by unfold renum; rw [if_neg (by simp [hin])]) hb8 (Mod.refl _)
theorem refcanon_l1 {R : Value → World → Prop} {T : BT} {p1 p2 : Addr} {a7 a6 : Option Addr} {c7 g7 c6 g6 : Nat} (hn : n = nodes.length) (hmx : n ≤ 1048576) (hTr : Tree nanB nodes T) (hT : At2 w1 p1 o a n c) (hg7 : w1.heap.size < g7) (hne : g6 ≠ g7)
    (hend : ∀ u, From w1.heap.size w1 u → Arr enI 3 u a7 n c7 (placeK T.pre n n) g7 → Arr enI 3 u a6 n c6 (natL T.pre) g6 →
      (nw (u.alloc (.cells #[.int .i64 0, .slice none 0 0] 33)) fun w113 => okSt w113 ((na u).add 0) ∧ (nw (w113.setCell ((na u).add 0) (.int .i64 o)) fun w114 => okSt w114 ((na u).add 1) ∧ (nw (w114.setCell ((na u).add 1) (.slice none 0 0)) fun w115 =>
        thicketref07_Canon.e39 R (some p1) (some p2) a7 n c7 (some (na u)) a6 n c6 (n : Int) 0 w115)))) :
    ∀ (k i : Nat) (w : World), i + k = n → From w1.heap.size w1 w → Arr enI 3 w a7 n c7 (placeK T.pre i n) g7 → Arr enI 3 w a6 n c6 (natL T.pre) g6 → thicketref07_Canon.l20 R (k + 1) (some p1) (some p2) a6 n c6 a7 n c7 a6 n c6 n i w
  | 0, i, w, hi, hw, h7, h6 => by
    unfold thicketref07_Canon.l20 thicketref07_Canon.g20
    refine onDec_f (by omega) ?_
    obtain rfl : i = n := by omega
    exact optN_mk ⟨_, (hT.from hw).c0, hend w hw h7 h6⟩
  | k + 1, i, w, hi, hw, h7, h6 => by
    unfold thicketref07_Canon.l20 thicketref07_Canon.g20
    refine onDec_t (by omega) ?_
    have hkl : i < T.pre.length := by rw [hTr.length]; omega
    have hj : T.pre[i]? = some (T.pre[i]'hkl) := List.getElem?_eq_getElem _
    obtain ⟨j, hje⟩ : ∃ j, T.pre[i]'hkl = j := ⟨_, rfl⟩
    rw [hje] at hj
    have hjn : j < n := by rw [hn]; exact (hTr.mem j).1 (List.mem_of_getElem? hj)
    refine h6.sl.rdI (k := .i64) (by omega) (by omega) fun y hy => ?_
    rw [Int.toNat_natCast, natL_get hj] at hy
    obtain rfl : y = (j : Int) := by simpa using hy.symm
    refine h7.wr (by omega) (by omega) (x := (i : Int)) rfl fun u h7' ho => ?_
    rw [Int.toNat_natCast, placeK_succ hTr.nodup hj hjn] at h7'
    refine nv_succ (by omega) ?_
    exact refcanon_l1 hn hmx hTr hT hg7 hne hend k (i + 1) u (by omega) (hw.only ho (.inr hg7)) h7' (h6.mod ho fun k h1 h2 => by omega)
theorem canonP_ok (h : (shapeP nanB nodes).1 = 0) : canonP nodes = canonN (treeP nodes).pre nodes := by unfold canonP; rw [if_pos h]
theorem canonP_no (h : (shapeP nanB nodes).1 ≠ 0) : canonP nodes = [] := by unfold canonP; rw [if_neg h]
theorem refCanon_c (hG : Good F w a n c nodes) : E.CallsD Go.Proofs.Try.prog 41 #[vT o a n c] w fun v u => ∃ a' n' c', v = .tuple #[vT (canonO o nodes) a' n' c', .int .i64 (shapeP nanB nodes).1] ∧ OwnN w.heap.size u a' n' c' (canonP nodes) ∧ Kept w u := by
  refine thicketref07_Canon.calls ?_
  unfold thicketref07_Canon thicketref07_Canon.g0
  refine box2T fun w1 _ hT1 hk1 => box2T (o := 0) (a := none) (n := 0) (c := 0) fun w2 hbr _ hk2 => ?_
  have hT2 := hT1.kept hk2
  have hk12 := Kept.trans hk1 hk2
  have s1 := hk1.size
  have s2 := hk2.size
  have lr := hbr.lt
  have l1 := hT1.lt
  have hn := hG.len
  have hmx := hG.max
  refine ⟨_, hT2.c0, _, _, _, hT2.c1, ?_⟩
  have hG2 := hG.kept hk12
  refine E.CallsD.mono (refShape_c (o := o) hG2.max hG2.short hG2.ls hG2.old) fun v w3 ⟨hv, hk3⟩ => ⟨_, _, hv, ?_⟩
  have hk13 := Kept.trans hk12 hk3
  have hbr3 := hbr.mod (Kept.mod (S := fun _ => False) hk3) (fun h => h)
  have s3 := hk3.size
  refine onNe (fun hne => ?_) fun h0 => ?_
  · refine hbr3.wr (by simp) fun u1 hb4 ho4 => hb4.wr (by simp) fun u2 hb5 ho5 => ⟨_, hb5.rd rfl, _, _, _, hb5.rd rfl, _, _, _, ?_, OwnN.nil _ _ _ _ ⟨rfl, rfl⟩ |> fun h => (canonP_no hne).symm ▸ h, ?_⟩
    · unfold canonO; rw [if_neg hne]
    · exact From.kept ((hk13.fr.only ho4 (.inr (by omega))).only ho5 (.inr (by omega)))
  have hTr := treeP_spec h0
  have hT3 := hT2.kept hk3
  refine ⟨_, hT3.c0, _, _, _, hT3.c1, ?_⟩
  refine E.CallsD.mono (Order_c (o := o) (hG.kept hk13) hTr) fun v w4 ⟨a4, c4, hv, ⟨g4, h4, hg4, hk4⟩⟩ => ⟨_, _, _, hv, ?_⟩
  have s4 := hk4.size
  refine Arr.make (en := enI) (x := 0) rfl (by omega) (by omega) (by omega) fun w5 h5 hk5 => ?_
  have s5 := hk5.size
  have e1 : ((n : Int)).toNat = n := by omega
  rw [e1] at h5 ⊢
  have hk14 := Kept.trans hk13 hk4
  have hT4 := hT3.kept hk4
  have l4 := h4.le
  rw [← placeK_zero (treeP nodes).pre n] at h5
  refine ⟨n + 1, refcanon_l1 (w1 := w4) (o := o) (a := a) (c := c) (T := treeP nodes) (p1 := na w) (p2 := na w1) hn hmx hTr hT4 (by omega) (by omega) (fun u hu h7 h6 => ?_) n 0 w5 (by omega) hk5.fr h5 (h4.kept hk5)⟩
  refine box2Tz (o := o) (a := none) (n := 0) (c := 0) fun w6 hb6 _ hk6 => ?_
  have hku := From.kept hu
  have hk15 := Kept.trans hk14 hku
  have hbru := hbr3.mod (Kept.mod (S := fun _ => False) (Kept.trans hk4 hku)) (fun h => h)
  have su := hku.size
  refine ⟨n + 1, refcanon_l2 (w1 := u) (B := w.heap.size) (F := F) (a := a) (n := n) (c := c) (nodes := nodes) (T := treeP nodes) (p1 := na w) (p2 := na w1) (B2 := w1) (cs2 := #[.int .i64 0, .slice none 0 0]) rfl (hG.kept hk15) hTr (hT4.kept hku) hbru rfl (by omega) (by omega) h7 h6 (fun x a' c' hx ho => ⟨a', n, c', ?_, ?_, keptAfter hk15 hx (fun b h => h)⟩) n 0 w6 [] none 0 0 (by omega) hk6.fr hb6 (ArrK.nil _ _ _ _) (.inl rfl) (by simp) (fun x hx => by cases hx)⟩
  · unfold canonO; rw [if_pos h0, h0]
  · rw [canonP_ok h0]; exact ho
end
end Go.Mir
