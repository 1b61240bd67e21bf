/- Part of a proof of laws of the seat YtpllehijaidinaaDoor: functions' weakest preconditions, each checked by the kernel, contracts out of them, plain lemmas; no conditions. -/
import Derived.Test.YtpllehijaidinaaDoorKA
import Derived.Test.YtpllehijaidinaaDoorKLOrder
set_option linter.unusedVariables false
set_option linter.unusedSimpArgs false
set_option maxRecDepth 100000
namespace Go.Mir
open Go Go.E Go.RowKit Go.Tr
section
variable {w w1 u W : World} {p p2 : Addr} {o : Int} {a a1 a2 b : Option Addr} {n c n1 c1 n2 c2 m d : Nat} {F : Nat → Prop} {nodes : List ND} {xs : List Nat} {ys : List Int}
theorem all_low {a : Go.Bt.W} {k : Nat} (h : Go.Bt.low a = (k : Int)) : (Go.Bt.all a)[0]? = some k := by
  unfold Go.Bt.low at h
  cases he : Go.Bt.all a with
  | nil => rw [he] at h; simp only at h; omega
  | cons i l => rw [he] at h; simp only at h; simp only [List.getElem?_cons_zero, Option.some.injEq]; omega
theorem rank_low {a : Go.Bt.W} {k : Nat} (h : Go.Bt.low a = (k : Int)) : Go.Bt.rank a (k : Int) = 0 := by
  have h0 := all_low h
  have hs := Go.Bt.all_sorted a
  unfold Go.Bt.rank
  rw [List.length_eq_zero_iff, List.filter_eq_nil_iff]
  intro j hj
  cases he : Go.Bt.all a with
  | nil => rw [he] at hj; cases hj
  | cons i l =>
    rw [he] at hj hs h0
    simp only [List.getElem?_cons_zero, Option.some.injEq] at h0
    subst h0
    simp only [decide_eq_true_eq]
    rcases List.mem_cons.1 hj with h1 | h1
    · subst h1; omega
    · have := (List.pairwise_cons.1 hs).1 j h1; omega
theorem has_low {a : Go.Bt.W} {k : Nat} (h : Go.Bt.low a = (k : Int)) : Go.Bi.has a (k : Int) = true := by
  have h0 := all_low h
  have := Go.Bt.mem_all.1 (List.mem_of_getElem? h0)
  unfold Go.Bi.has
  rw [decide_eq_true (by omega), Int.toNat_natCast, this]
  rfl
theorem reachB_mem {N : Nat} {l l' : List MkD} (h : ∀ m, m ∈ l ↔ m ∈ l') : reachB N l = reachB N l' := by
  unfold reachB
  refine Go.Bt.ofB_ext fun i _ => ?_
  congr 1
  rw [Bool.eq_iff_iff, List.all_eq_true, List.all_eq_true]
  exact ⟨fun h1 x hx => h1 x ((h x).2 hx), fun h1 x hx => h1 x ((h x).1 hx)⟩
/-- What is known of a mask in MaskOrder. -/
def FOr (N : Nat) (B : Nat) (mk : MkD) : Nat → Value → World → Prop := F1 11 fun v u => ∃ a c, v = .tuple #[.slice a (Go.Bi.nW N) c, .int .i64 0] ∧ ∃ g, Arr enW 58 u a (Go.Bi.nW N) c (Go.Bi.maskB N mk.frm mk.to) g ∧ fresh B g
theorem FOr.keep {N B : Nat} {mk : MkD} (i : Nat) (v : Value) (u u' : World) (h : FOr N B mk i v u) (hk : Below u.heap.size u u') : FOr N B mk i v u' :=
  F1.keep (fun v u u' ⟨a, c, h1, g, h2, h3⟩ hk => ⟨a, c, h1, g, h2.kept hk, h3⟩) i v u u' h hk
theorem mord_end {R : Value → World → Prop} {p3 : Addr} {a7 a13 : Option Addr} {c7 n7 c13 g13 : Nat} (h0 : falseE nodes xs.length = 0) (hG : Good F w1 a n c nodes) (hT : At2 w1 p3 o a n c) (hx : Sl enF w1 a1 n1 xs) (hm1 : n1 ≤ 1048576) (h7 : NewA enW 58 W w1 a7 n7 c7 (reachP nodes xs))
    (hR : ∀ u, From w1.heap.size w1 u → R (.bool true) u) {a9 : Option Addr} {n9 c9 : Nat} {ms : List MkD} (hms : SlK 3 enM w1 a9 n9 (falseP nodes xs)) (hg13 : g13 = 0 ∨ w1.heap.size < g13) :
    ∀ (m : Nat) (w : World) (ms : List MkD), m ≤ n9 → (∀ x ∈ ms, x ∈ falseP nodes xs) → (∀ x ∈ (falseP nodes xs).drop m, x ∈ ms) → From w1.heap.size w1 w → Arr enW 58 w a13 (Go.Bi.nW (lvN nodes)) c13 (reachB (lvN nodes) ms) g13 →
      thicketlaw13_MaskOrder.l71 R (m + 1) a1 n1 c1 (some p3) a7 n7 c7 a9 n9 c9 (lvN nodes) a13 (Go.Bi.nW (lvN nodes)) c13 ((m : Int) - 1) w
  | 0, w, ms, hm, hsub, hall, hw, h13 => by
    unfold thicketlaw13_MaskOrder.l71 thicketlaw13_MaskOrder.g71
    refine onDec_f (by omega) ?_
    have hT' := hT.from hw
    have e : reachP nodes xs = reachB (lvN nodes) ms := by
      unfold reachP
      rw [if_pos h0]
      exact reachB_mem fun x => ⟨fun hx => hall x (by simpa using hx), hsub x⟩
    have hw' := From.kept hw
    obtain ⟨k, hk, _⟩ := leaf_facts (falseE_way h0)
    have hlow := low_reach h0
    rw [hk] at hlow
    refine optN_mk ⟨_, hT'.c0, _, _, _, hT'.c1, ?_⟩
    refine E.CallsD.mono (Leaf_c (o := o) (c1 := c1) (hG.from hw) (hx.from hw) hm1) fun v u ⟨hv, k1⟩ => ⟨_, _, _, hv, onEq_t (falseE_way h0) ?_⟩
    have h7' := h7.then (Kept.trans hw' k1)
    obtain ⟨hlv, _⟩ := falseE_lv h0
    have hb := (marks_bd hlv).1
    have hrl : (reachP nodes xs).length ≤ 16384 := by rw [e, reachB_len]; exact Go.Bi.nW_le (by omega)
    have h7l := h7'.len
    refine E.CallsD.mono (Go.Bi.Same_c (c := c7) (d := c13) h7'.sl ((h13.kept k1).sl) (by omega)) fun v u2 ⟨hv, k2⟩ => ⟨_, hv, ?_⟩
    rw [decide_eq_true e]
    refine ob_t ?_
    rw [hk]
    have h72 := h7'.then k2
    have hcap : n7 ≤ c7 := by obtain ⟨g, h, _⟩ := h72; exact h.capLe
    have hkb : (k : Int) < lvN nodes := by
      have h1 := all_low hlow
      have h2 := Go.Bt.mem_all.1 (List.mem_of_getElem? h1)
      rw [e] at h2
      unfold reachB at h2
      rw [Go.Bt.bit_ofB] at h2
      simp only [Bool.and_eq_true, decide_eq_true_eq] at h2
      exact h2.2.1
    refine E.CallsD.mono (Go.Bi.Has_c (c := c7) h72.sl (by omega)) fun v u3 ⟨hv, k3⟩ => ⟨_, hv, ?_⟩
    rw [has_low hlow]
    refine ob_t ?_
    refine E.CallsD.mono (Go.Bi.Rank_c (c := c7) (h72.then k3).sl (by omega) hcap (by omega)) fun v u4 ⟨hv, k4⟩ => ⟨_, hv, ?_⟩
    rw [rank_low hlow]
    exact hR u4 (hw.keptThen (Kept.trans (Kept.trans (Kept.trans k1 k2) k3) k4))
  | m + 1, w, ms, hm, hsub, hall, hw, h13 => by
    unfold thicketlaw13_MaskOrder.l71 thicketlaw13_MaskOrder.g71
    have hmsl := hms.len
    have hmw : SlK 3 enM w a9 n9 (falseP nodes xs) := hms.keep (From.kept hw)
    obtain ⟨hlv, _⟩ := falseE_lv h0
    have hb := (marks_bd hlv).1
    have hfl := false_le (xs := xs) hG.len hG.max
    have ei : (((m + 1 : Nat) : Int) - 1).toNat = m := by omega
    have hmk : (falseP nodes xs)[m]? = some ((falseP nodes xs)[m]'(by omega)) := List.getElem?_eq_getElem _
    obtain ⟨mk, hmke⟩ : ∃ mk, (falseP nodes xs)[m]'(by omega) = mk := ⟨_, rfl⟩
    rw [hmke] at hmk
    obtain ⟨i1, i2, i3⟩ := false_bd hlv mk (List.mem_of_getElem? hmk)
    obtain ⟨q, hq, hc⟩ := hmw.get m mk hmk
    refine onDec_t (by omega) ?_
    refine ⟨FOr (lvN nodes) w.heap.size mk, FOr.keep, ?_⟩
    rw [hq]
    have c1' : w.cell? ((q.add (((((m + 1 : Nat) : Int) - 1).toNat) * 3)).add 1) = some (.int .i64 mk.frm) := by rw [ei, add_add]; exact hc 1 _ rfl
    have c2' : w.cell? ((q.add (((((m + 1 : Nat) : Int) - 1).toNat) * 3)).add 2) = some (.int .i64 mk.to) := by rw [ei, add_add]; exact hc 2 _ rfl
    refine chk_mk (by omega) ⟨_, c1', chk_mk (by omega) ⟨_, c2', fun u hu => ?_, fun a4 n4 c4 x4 ⟨_, _, hF⟩ u hu hFu => ?_⟩⟩
    · refine E.CallsD.mono (Go.Bi.Mask_ok (by omega) (by omega) i1 (by omega) (by omega) u) fun v u2 ⟨a', c', hv, g', hA, hg', hk⟩ => ⟨_, _, _, _, hv, ?_, hk⟩
      have := hu.size
      exact fun _ => ⟨a', c', rfl, g', hA, by unfold fresh; omega⟩
    obtain ⟨a', c', hv, g', hA, hg'⟩ := hFu rfl
    simp only [Value.tuple.injEq, Array.mk.injEq, List.cons.injEq, Value.slice.injEq, Value.int.injEq, and_true, true_and] at hv
    obtain ⟨⟨rfl, rfl, rfl⟩, rfl⟩ := hv
    refine onNe_f rfl ?_
    have h13u := h13.kept hu
    have hzl := h13.le
    have hwz := hw.size
    unfold fresh at hg'
    have hnW := Go.Bi.nW_le (n := (lvN nodes : Int)) (by omega)
    refine E.CallsD.mono (Go.Bi.Meet_c (d := c4) h13u (fun u' hu' => (hA.mod hu' fun b h1 h2 => by have h2' : b + 1 = g13 := h2; omega).sl) (by omega)) fun v u3 ⟨hv, h83, ho⟩ => ⟨_, hv, onNe_f rfl ?_⟩
    rw [reachB_snoc] at h83
    refine nv_mk (y := (m : Int) - 1) (by rw [i64_id (by omega) (by omega)]; omega) ?_
    rw [← hq]
    refine mord_end h0 hG hT hx hm1 h7 hR (ms := ms) hms hg13 m u3 (ms ++ [mk]) (by omega) (fun x hx => ?_) (fun x hx => ?_) ((hw.keptThen hu).only ho hg13) h83
    · rcases List.mem_append.1 hx with h | h
      · exact hsub x h
      · simp only [List.mem_singleton] at h; subst h; exact List.mem_of_getElem? hmk
    · rw [drop_cons hmk] at hx
      rcases List.mem_cons.1 hx with h | h
      · subst h; simp
      · exact List.mem_append_left _ (hall x h)
theorem mord_loop {R : Value → World → Prop} {p3 : Addr} {a7 a13 a65 : Option Addr} {c7 n7 c13 g13 n65 c65 : Nat} (h0 : falseE nodes xs.length = 0) (hG : Good F w1 a n c nodes) (hT : At2 w1 p3 o a n c) (hx : Sl enF w1 a1 n1 xs) (hm1 : n1 ≤ 1048576) (h7 : NewA enW 58 W w1 a7 n7 c7 (reachP nodes xs))
    (hR : ∀ u, From w1.heap.size w1 u → R (.bool true) u) {a9 : Option Addr} {n9 c9 : Nat} (hms : SlK 3 enM w1 a9 n9 (falseP nodes xs)) (hg13 : g13 = 0 ∨ w1.heap.size < g13) (hy : Sl enI w1 a65 n65 ys) (hym : n65 ≤ 1048576) :
    ∀ (m k : Nat) (w : World) (ms : List MkD), k + m = n65 → (∀ x ∈ ms, x ∈ falseP nodes xs) → From w1.heap.size w1 w → Arr enW 58 w a13 (Go.Bi.nW (lvN nodes)) c13 (reachB (lvN nodes) ms) g13 →
      thicketlaw13_MaskOrder.l40 R (m + 1) a1 n1 c1 (some p3) a7 n7 c7 a9 n9 c9 (lvN nodes) a13 (Go.Bi.nW (lvN nodes)) c13 a65 n65 c65 n65 k w
  | 0, k, w, ms, hk, hsub, hw, h13 => by
    unfold thicketlaw13_MaskOrder.l40 thicketlaw13_MaskOrder.g40
    have hfl := false_le (xs := xs) hG.len hG.max
    have hmsl := hms.len
    refine onDec_f (by omega) ?_
    refine nv_i64 (by omega) (by omega) ?_
    exact ⟨_, mord_end h0 hG hT hx hm1 h7 hR (ms := ms) hms hg13 n9 w ms (Nat.le_refl _) hsub (fun x hx => by rw [List.drop_of_length_le (by omega)] at hx; cases hx) hw h13⟩
  | m + 1, k, w, ms, hk, hsub, hw, h13 => by
    unfold thicketlaw13_MaskOrder.l40 thicketlaw13_MaskOrder.g40
    have hmsl := hms.len
    have hmw : SlK 3 enM w a9 n9 (falseP nodes xs) := hms.keep (From.kept hw)
    obtain ⟨hlv, _⟩ := falseE_lv h0
    have hb := (marks_bd hlv).1
    have hfl := false_le (xs := xs) hG.len hG.max
    refine onDec_t (by omega) ?_
    refine (hy.from hw).rdI (k := .i64) (by omega) (by omega) fun y hyk => ?_
    refine onDec (fun hpos => ?_) fun _ => ?_
    · refine nv_mk rfl (nv_u64 (by omega) (by omega) (nchk_mk (by omega) ?_))
      have hu0 : 0 ≤ IntKind.u64.wrap y := by rw [IntKind.wrap_u64]; omega
      have hmod : IntKind.u64.wrap y % (n9 : Int) < n9 := Int.emod_lt_of_pos _ hpos
      have hmod0 : 0 ≤ IntKind.u64.wrap y % (n9 : Int) := Int.emod_nonneg _ (by omega)
      refine nv_mod hu0 (nv_i64 (by omega) (by omega) ?_)
      refine hmw.rdM hmod0 hmod fun mk hmk => ?_
      have hmem := List.mem_of_getElem? hmk
      obtain ⟨i1, i2, i3⟩ := false_bd hlv mk hmem
      refine box3z (x := mk) fun u1 _ h3 hk1 => ⟨_, h3.c1, _, h3.c2, ?_⟩
      refine E.CallsD.mono (Go.Bi.Mask_ok (by omega) (by omega) i1 (by omega) (by omega) u1) fun v u2 ⟨a', c', hv, g', hA, hg', hk2⟩ => ⟨_, _, _, _, hv, onNe_f rfl ?_⟩
      have hk12 := Kept.trans hk1 hk2
      have h82 := h13.kept hk12
      have hz1 := hk1.size
      have h8le := h13.le
      have hnW := Go.Bi.nW_le (n := (lvN nodes : Int)) (by omega)
      refine E.CallsD.mono (Go.Bi.Meet_c (d := c') h82 (fun u hu => (hA.mod hu fun b h1 h2 => by have h2' : b + 1 = g13 := h2; omega).sl) (by omega)) fun v u3 ⟨hv, h83, ho⟩ => ⟨_, hv, onNe_f rfl ?_⟩
      rw [reachB_snoc] at h83
      refine nv_succ (by omega) ?_
      refine mord_loop h0 hG hT hx hm1 h7 hR hms hg13 hy hym m (k + 1) u3 (ms ++ [mk]) (by omega) (fun x hx => ?_) ((hw.keptThen hk12).only ho hg13) h83
      rcases List.mem_append.1 hx with h | h
      · exact hsub x h
      · simp only [List.mem_singleton] at h; subst h; exact hmem
    · refine nv_succ (by omega) ?_
      exact mord_loop h0 hG hT hx hm1 h7 hR hms hg13 hy hym m (k + 1) w ms (by omega) hsub hw h13
/-- The law MaskOrder. -/
theorem maskOrder_law (hTab : Go.Bi.Tab w) (hG : Good F w a n c nodes) (hx : Sl enF w a1 n1 xs) (hm1 : n1 ≤ 1048576) (hy : Sl enI w a2 n2 ys) (hym : n2 ≤ 1048576) : Pure Go.Proofs.Tryd.prog 8 #[vT o a n c, .slice a1 n1 c1, .slice a2 n2 c2] w (.bool true) := by
  refine thicketlaw13_MaskOrder.calls (R := fun v' u => v' = _ ∧ Below w.heap.size w u) ?_
  unfold thicketlaw13_MaskOrder thicketlaw13_MaskOrder.g0
  refine box2T fun w1 _ hT hk1 => ?_
  refine E.CallsD.mono (lives_c (hTab.kept hk1)) fun v u2 ⟨hv, e2⟩ => ⟨_, hv, ob_f ?_⟩
  have k2 := Kept.trans hk1 e2
  have hT2 := hT.kept e2
  refine ⟨_, hT2.c0, _, _, _, hT2.c1, ?_⟩
  refine E.CallsD.mono (Reach_c (o := o) (c1 := c1) (hG.kept k2) (hx.keep k2)) fun v u3 ⟨a3, n3, c3, hv, h3⟩ => ⟨_, _, _, _, hv, ?_⟩
  have k3 := Kept.trans k2 h3.kept
  have hT3 := hT2.kept h3.kept
  refine ⟨_, hT3.c0, _, _, _, hT3.c1, ?_⟩
  refine E.CallsD.mono (False_c (o := o) (c1 := c1) (hG.kept k3) (hx.keep k3)) fun v u4 ⟨a4, n4, c4, hv, h4⟩ => ⟨_, _, _, _, hv, ?_⟩
  have k4 := Kept.trans k3 h4.kept
  have hT4 := hT3.kept h4.kept
  refine onNe (fun hne => ⟨by simp, k4⟩) fun h0 => onNe_f h0 ?_
  obtain ⟨hlv, _⟩ := falseE_lv h0
  obtain ⟨hsh, hle⟩ := lv_shape hlv
  have hN := (lv_ok hsh (by omega)).2
  refine ⟨_, hT4.c0, _, _, _, hT4.c1, ?_⟩
  refine E.CallsD.mono (Leaves_c (o := o) (hG.kept k4)) fun v u5 ⟨a5, n5, c5, hv, h5⟩ => ⟨_, _, _, _, hv, ?_⟩
  have k5 := Kept.trans k4 h5.kept
  have hT5 := hT4.kept h5.kept
  have h5l := h5.len
  rw [natL_length, ← hN] at h5l
  subst h5l
  refine E.CallsD.mono (Go.Bi.Full_ok (by omega) (by omega) u5) fun v u6 ⟨a6, c6, hv, g6, h6, hg6, hk6⟩ => ⟨_, _, _, _, hv, onNe_f hsh (onNe_f rfl ?_)⟩
  have k6 := Kept.trans k5 hk6
  have h46 := Kept.trans h5.kept hk6
  have h36 := Kept.trans h4.kept h46
  have z6 := hk6.size
  exact ⟨n2 + 1, mord_loop (W := u2) (w1 := u5) (g13 := g6) h0 (hG.kept k5) hT5 (hx.keep k5) hm1 (h3.then (Kept.trans h4.kept h5.kept)) (fun u hu => ⟨rfl, Kept.trans k5 (From.kept hu)⟩) (h4.slk.keep h5.kept) (by omega) (hy.keep k5) hym n2 0 u6 [] (by omega) (fun x hx => by cases hx) (Kept.fr hk6) (by rw [reachB_nil]; exact h6)⟩
end
end Go.Mir
