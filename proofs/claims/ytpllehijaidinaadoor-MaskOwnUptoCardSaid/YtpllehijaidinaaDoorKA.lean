/- Part of a proof of laws of the seat YtpllehijaidinaaDoor: functions' weakest preconditions, each checked by the kernel, contracts out of them, plain lemmas; no conditions. -/
import Derived.Laws.StructEq
import Derived.Test.YtpllehijaidinaaDoorTE
import Derived.Test.YtpllehijaidinaaDoorEC
import Derived.Test.YtpllehijaidinaaDoorBX1
import Derived.Test.YtpllehijaidinaaDoorTC
set_option linter.unusedVariables false
set_option linter.unusedSimpArgs false
set_option maxRecDepth 100000
namespace Go.Mir
open Go Go.E Go.RowKit Go.Tr
/-! Marks of a tree. -/
section
variable {w W : World} {p p2 : Addr} {o : Int} {a : Option Addr} {n c : Nat} {F : Nat → Prop} {nodes : List ND}
/-- How many leaves, of a right tree that is not too wide. -/
noncomputable def lvE (nodes : List ND) : Int := if (shapeP nanB nodes).1 = 0 then (if 4096 < (thoseP nodes false).length then 3 else 0) else (shapeP nanB nodes).1
noncomputable def lvN (nodes : List ND) : Nat := if lvE nodes = 0 then (thoseP nodes false).length else 0
theorem lv_bad (h : (shapeP nanB nodes).1 ≠ 0) : lvE nodes = (shapeP nanB nodes).1 ∧ lvN nodes = 0 := by
  have e : lvE nodes = (shapeP nanB nodes).1 := by unfold lvE; rw [if_neg h]
  refine ⟨e, ?_⟩
  unfold lvN
  rw [if_neg (by rw [e]; exact h)]
theorem lv_many (h : (shapeP nanB nodes).1 = 0) (hm : 4096 < (thoseP nodes false).length) : lvE nodes = 3 ∧ lvN nodes = 0 := by
  have e : lvE nodes = 3 := by unfold lvE; rw [if_pos h, if_pos hm]
  refine ⟨e, ?_⟩
  unfold lvN
  rw [if_neg (by rw [e]; decide)]
theorem lv_ok (h : (shapeP nanB nodes).1 = 0) (hm : ¬ 4096 < (thoseP nodes false).length) : lvE nodes = 0 ∧ lvN nodes = (thoseP nodes false).length := by
  have e : lvE nodes = 0 := by unfold lvE; rw [if_pos h, if_neg hm]
  refine ⟨e, ?_⟩
  unfold lvN
  rw [if_pos e]
theorem leaves_c (hG : Good F w a n c nodes) : Pure Go.Proofs.Tryd.prog 37 #[vT o a n c] w (.tuple #[.int .i64 (lvN nodes), .int .i64 (lvE nodes)]) := by
  refine masks_leaves.calls (R := fun v' u => v' = _ ∧ Below w.heap.size w u) ?_
  unfold masks_leaves masks_leaves.g0
  refine box2T fun w1 _ hT hk => ⟨_, hT.c0, _, _, _, hT.c1, ?_⟩
  refine E.CallsD.mono (Leaves_c (o := o) (hG.kept hk)) fun v u ⟨a', n', c', hv, hn⟩ => ⟨_, _, _, _, hv, ?_⟩
  have hl := hn.len
  rw [natL_length] at hl
  have hku := Kept.trans hk hn.kept
  by_cases h0 : (shapeP nanB nodes).1 = 0
  · rw [h0]
    refine ob_t ?_
    refine onDec (fun h1 => ?_) fun h1 => ?_
    · obtain ⟨e1, e2⟩ := lv_many h0 (by omega)
      rw [e1, e2]
      exact ⟨rfl, hku⟩
    · obtain ⟨e1, e2⟩ := lv_ok h0 (by omega)
      rw [e1, e2, hl]
      exact ⟨rfl, hku⟩
  · obtain ⟨e1, e2⟩ := lv_bad h0
    refine onEq_f h0 ?_
    have : n' = 0 := by rw [hl]; unfold thoseP; rw [if_neg h0]; rfl
    rw [e1, e2, this]
    exact ⟨rfl, hku⟩
theorem refCount_c (hG : Good F w a n c nodes) : Pure Go.Proofs.Tryd.prog 38 #[vT o a n c] w (.tuple #[.int .i64 (lvN nodes), .int .i64 (lvE nodes)]) := by
  refine thicketref13_Count.calls (R := fun v' u => v' = _ ∧ Below w.heap.size w u) ?_
  unfold thicketref13_Count thicketref13_Count.g0
  refine box2T fun w1 _ hT hk => ⟨_, hT.c0, _, _, _, hT.c1, ?_⟩
  refine E.CallsD.mono (refLeaves_c (o := o) (hG.kept hk)) fun v u ⟨a', n', c', hv, hn⟩ => ⟨_, _, _, _, hv, ?_⟩
  have hl := hn.len
  rw [natL_length] at hl
  have hku := Kept.trans hk hn.kept
  by_cases h0 : (shapeP nanB nodes).1 = 0
  · rw [h0]
    refine onNe_f rfl ?_
    refine onDec (fun h1 => ?_) fun h1 => ?_
    · obtain ⟨e1, e2⟩ := lv_many h0 (by omega)
      rw [e1, e2]
      exact ⟨rfl, hku⟩
    · obtain ⟨e1, e2⟩ := lv_ok h0 (by omega)
      rw [e1, e2, hl]
      exact ⟨rfl, hku⟩
  · obtain ⟨e1, e2⟩ := lv_bad h0
    refine onNe_t h0 ?_
    rw [e1, e2]
    exact ⟨rfl, hku⟩
theorem S_M : SliceT Go.Proofs.Tryd.prog 26 44 3 24 := sliceT (by kernel_rfl)
/-- The closure's own value. -/
def marksV (p2 p3 p4 : Addr) : Value := .func (.func 44) #[] #[.pointer (some p2), .pointer (some p3), .pointer (some p4)]
/-- What the closure works on: the list's variable, its own, and the list. -/
structure MSt (p2 : Addr) (u : World) (b3 b4 : World) (out : List MkD) (g : Nat) : Prop where
  h3 : ∃ a c, Blk u b3.heap.size #[.slice a out.length c] 26 ∧ ArrK 3 enM 44 u a out.length c out g
  h4 : u.cell? (na b4) = some (marksV p2 (na b3) (na b4))
  hg : g = 0 ∨ b4.heap.size + 1 < g
theorem callF_mk {P : Program} {f : FuncId} {args cap : Array Value} {w : World} {K : Value → World → Prop} (hb : bodyOf P f = true) (h : E.CallsD P f (args ++ cap) w K) : callF P (.func (.func f) #[] cap) args w K := by
  show (if bodyOf P f = true then E.CallsD P f (#[] ++ args ++ cap) w K else False)
  rw [if_pos hb]
  simpa using h
theorem b_marks : bodyOf Go.Proofs.Tryd.prog 44 = true := by kernel_rfl
theorem marks_call {x y : Int} {p3 p4 : Addr} {K : Value → World → Prop} (h : E.CallsD Go.Proofs.Tryd.prog 44 #[.int .i64 x, .int .i64 y, .pointer (some p2), .pointer (some p3), .pointer (some p4)] w K) : callF Go.Proofs.Tryd.prog (marksV p2 p3 p4) #[.int .i64 x, .int .i64 y] w K :=
  callF_mk b_marks h
theorem marks1_c {b3 b4 : World} (hG : Good F W a n c nodes) (hT : At2 W p2 o a n c) (hW3 : W.heap.size ≤ b3.heap.size) (hW4 : b3.heap.size < b4.heap.size) (hkd : ∀ (i : Nat) x, nodes[i]? = some x → (x.kind ≠ 1 ↔ x.inner = true)) :
    ∀ (T : BT) (k : Nat) (out : List MkD) (g : Nat) (w : World), Is nodes T → k + T.nl ≤ 2097152 → out.length + T.nl ≤ 2097152 → From W.heap.size W w → MSt p2 w b3 b4 out g →
      E.CallsD Go.Proofs.Tryd.prog 44 #[.int .i64 (T.root : Nat), .int .i64 (k : Nat), .pointer (some p2), .pointer (some (na b3)), .pointer (some (na b4))] w fun v u =>
        v = .int .i64 (k + T.nl : Nat) ∧ ∃ g', MSt p2 u b3 b4 (out ++ T.marks k) g' ∧ (g' = g ∨ w.heap.size < g') ∧ Mod (fun b => b = b3.heap.size ∨ b + 1 = g) w u := by
  intro T
  induction T with
  | leaf i =>
    intro k out g w hIs hk1 hk2 hw hst
    have hroot := hIs.root_lt
    obtain ⟨y, hy, hyi⟩ := hIs
    have hn := hG.len
    simp only [BT.root] at hroot
    refine masks_Marks_1.calls ?_
    unfold masks_Marks_1 masks_Marks_1.g0
    refine ⟨_, _, _, (hT.from hw).c1, ?_⟩
    simp only [BT.root]
    refine (hG.from hw).ls.rdN (by omega) (by omega) fun x a5 n5 c5 hx _ => ?_
    rw [Int.toNat_natCast, hy] at hx
    obtain rfl : y = x := by simpa using hx
    have hkx : y.kind = 1 := Classical.byContradiction fun h => by have := (hkd i y hy).1 h; rw [hyi] at this; cases this
    refine box8z fun u3 _ hb8 hk3 => ⟨_, hb8.c0, ?_⟩
    refine onEq_t hkx ?_
    rw [BT.nl_leaf] at hk1
    refine nv_i64 (by omega) (by omega) ?_
    obtain ⟨⟨a3, c3, h3, h3'⟩, h4, hg⟩ := hst
    refine ⟨by rw [BT.nl_leaf]; norm_cast, g, ⟨⟨a3, c3, ?_, ?_⟩, bkeep hk3 h4, hg⟩, .inl rfl, Kept.mod hk3⟩
    · simpa [BT.marks] using h3.keep hk3
    · simpa [BT.marks] using h3'.kept hk3
  | node i l r ihl ihr =>
    intro k out g w hIs hk1 hk2 hw hst
    have hroot := hIs.root_lt
    obtain ⟨y, hy, hyi, hlf, hrg, hIl, hIr⟩ := hIs
    have hn := hG.len
    simp only [BT.root] at hroot
    rw [BT.nl_node] at hk1 hk2
    have p1 := l.nl_pos
    have p2' := r.nl_pos
    have l1 := l.marks_length k
    refine masks_Marks_1.calls ?_
    unfold masks_Marks_1 masks_Marks_1.g0
    refine ⟨_, _, _, (hT.from hw).c1, ?_⟩
    simp only [BT.root]
    refine (hG.from hw).ls.rdN (by omega) (by omega) fun x a5 n5 c5 hx _ => ?_
    rw [Int.toNat_natCast, hy] at hx
    obtain rfl : y = x := by simpa using hx
    have hkx : y.kind ≠ 1 := (hkd i y hy).2 hyi
    refine box8z fun u3 _ hb8 hk3 => ⟨_, hb8.c0, ?_⟩
    refine onEq_f hkx ?_
    have hz0 := hw.size
    have hz3 := hk3.size
    have hblk : w.heap.size < u3.heap.size := by have := block_lt_of_cell hb8.c0; rwa [add_block] at this
    obtain ⟨⟨a3, c3, h3, h3'⟩, h4, hg⟩ := hst
    have hgw := h3'.le
    have h3lt := h3.lt
    have h4lt := block_lt_of_cell h4
    simp only [na] at h4lt
    have h3k := h3.keep hk3
    have h4k := bkeep hk3 h4
    refine ⟨_, _, _, blk_one h3k, _, _, _, blk_one h3k, ?_⟩
    refine (h3'.kept hk3).push S_M enM_len (by omega) (x := ⟨(i : Nat), (k : Nat), 0⟩) rfl (enM_one _) (by simp only [maxLen]; omega) (by omega) fun a6 c6 g6 u5 h6 hg6 hg60 ho5 => ⟨_, _, _, rfl, ?_⟩
    have h35 := h3k.mod ho5 (fun h => by omega)
    have h45 : u5.cell? (na b4) = _ := ho5.cell (by simp only [na]; omega) h4k
    have hb85 := hb8.mod ho5 (by simp only [na]; omega)
    refine h35.wr (i := 0) (v := .slice a6 (out.length + 1) c6) (by simp) fun u6 h36 ho6 => ?_
    have h46 : u6.cell? (na b4) = _ := ho6.cell (by simp only [na]; omega) h45
    have hb86 := hb85.mod ho6 (by simp only [na]; omega)
    have h66 := h6.mod ho6 (fun b hb h => by omega)
    have hz5 := ho5.size
    have hz6 := ho6.size
    refine ⟨_, h46, _, hb86.c6, ?_⟩
    rw [hlf]
    refine marks_call ?_
    have hw3 : From W.heap.size W u3 := hw.keptThen hk3
    have hw5 : From W.heap.size W u5 := hw3.only ho5 (by omega)
    have hw6 : From W.heap.size W u6 := hw5.only ho6 (.inr (by omega))
    have hl1 : (out ++ [(⟨(i : Nat), (k : Nat), 0⟩ : MkD)]).length = out.length + 1 := by simp
    refine E.CallsD.mono (ihl k (out ++ [⟨(i : Nat), (k : Nat), 0⟩]) g6 u6 hIl (by omega) (by rw [hl1]; omega) hw6 ⟨⟨a6, c6, by rw [hl1]; exact h36, by rw [hl1]; exact h66⟩, h46, by omega⟩) fun v u7 ⟨hv, g7, hst7, hg7, hm7⟩ => ⟨_, hv, ?_⟩
    obtain ⟨⟨a7, c7, h37, h77⟩, h47, hgg7⟩ := hst7
    refine ⟨_, _, _, blk_one h37, ?_⟩
    have hz7 := hm7.size
    have hb87 := hb86.mod hm7 (fun h => by simp only [na] at h; omega)
    have hget : (out ++ [(⟨(i : Nat), (k : Nat), 0⟩ : MkD)] ++ l.marks k)[((out.length : Nat) : Int).toNat]? = some ⟨(i : Nat), (k : Nat), 0⟩ := by
      rw [Int.toNat_natCast, List.append_assoc, List.getElem?_append_right (Nat.le_refl _), Nat.sub_self]; rfl
    have hset : (out ++ [(⟨(i : Nat), (k : Nat), 0⟩ : MkD)] ++ l.marks k).set ((out.length : Nat) : Int).toNat ⟨(i : Nat), (k : Nat), (k + l.nl : Nat)⟩ = out ++ (⟨(i : Nat), (k : Nat), (k + l.nl : Nat)⟩ :: l.marks k) := by
      rw [Int.toNat_natCast, List.append_assoc, List.set_append_right _ _ (Nat.le_refl _), Nat.sub_self]; rfl
    have hl7 : (out ++ [(⟨(i : Nat), (k : Nat), 0⟩ : MkD)] ++ l.marks k).length = out.length + 1 + (l.marks k).length := by simp; omega
    have hl8 : (out ++ ((⟨(i : Nat), (k : Nat), (k + l.nl : Nat)⟩ : MkD) :: l.marks k)).length = out.length + 1 + (l.marks k).length := by simp; omega
    refine ArrK.wrHi h77 (by omega) (by rw [hl7]; omega) hget fun u8 h88 ho8 => ?_
    rw [hset, hl7, ← hl8] at h88
    have hz8 := ho8.size
    have h38 : Blk u8 b3.heap.size _ _ := h37.mod ho8 (fun h => by omega)
    have h48 : u8.cell? (na b4) = _ := ho8.cell (by simp only [na]; omega) h47
    have hb88 := hb87.mod ho8 (by simp only [na]; omega)
    refine ⟨_, h48, _, hb88.c7, ?_⟩
    rw [hrg]
    refine marks_call ?_
    have hw7 : From W.heap.size W u7 := hw6.then hm7 (fun b hb h => by omega)
    have hw8 : From W.heap.size W u8 := hw7.only ho8 (by omega)
    refine E.CallsD.mono (ihr (k + l.nl) (out ++ (⟨(i : Nat), (k : Nat), (k + l.nl : Nat)⟩ :: l.marks k)) g7 u8 hIr (by omega) (by rw [hl8]; omega) hw8 ⟨⟨a7, c7, by rw [hl8, ← hl7]; exact h38, h88⟩, h48, by omega⟩) fun v u9 ⟨hv, g9, hst9, hg9, hm9⟩ => ⟨_, hv, ?_⟩
    have eM : out ++ (⟨(i : Nat), (k : Nat), (k + l.nl : Nat)⟩ :: l.marks k) ++ r.marks (k + l.nl) = out ++ (BT.node i l r).marks k := by simp [BT.marks]
    rw [eM] at hst9
    refine ⟨by rw [BT.nl_node, Nat.add_assoc], g9, hst9, by omega, ?_⟩
    have m1 : Mod (fun b => b = b3.heap.size ∨ b + 1 = g) w u6 := ((Kept.mod hk3 : Mod (fun b => b = b3.heap.size ∨ b + 1 = g) w u3).trans ho5 (fun _ _ h => h) (fun b _ h => .inr h)).trans ho6 (fun _ _ h => h) (fun b _ h => .inl (by omega))
    have m2 : Mod (fun b => b = b3.heap.size ∨ b + 1 = g) w u7 := m1.trans hm7 (fun _ _ h => h) (fun b hb h => by omega)
    have m3 : Mod (fun b => b = b3.heap.size ∨ b + 1 = g) w u8 := m2.trans ho8 (fun _ _ h => h) (fun b hb h => by omega)
    exact m3.trans hm9 (fun _ _ h => h) (fun b hb h => by omega)
end
end Go.Mir

set_option maxRecDepth 100000
namespace Go.Mir
open Go Go.E Go.RowKit Go.Tr
section
variable {w w1 W : World} {p p2 : Addr} {o : Int} {a a1 : Option Addr} {n c n1 c1 : Nat} {F : Nat → Prop} {nodes : List ND} {xs : List Nat}
/-- A new list of marks. -/
def NewM (w u : World) (a : Option Addr) (n c : Nat) (xs : List MkD) : Prop := ∃ g, ArrK 3 enM 44 u a n c xs g ∧ (g = 0 ∨ w.heap.size < g) ∧ Kept w u
theorem NewM.kept {u : World} {xs : List MkD} (h : NewM w u a n c xs) : Kept w u := by obtain ⟨_, _, _, h⟩ := h; exact h
theorem NewM.slk {u : World} {xs : List MkD} (h : NewM w u a n c xs) : SlK 3 enM u a n xs := by obtain ⟨_, h, _⟩ := h; exact h.slk enM_len (by omega)
theorem NewM.len {u : World} {xs : List MkD} (h : NewM w u a n c xs) : n = xs.length := h.slk.len
theorem NewM.ahead {v u : World} {xs : List MkD} (h : NewM w u a n c xs) (hk : Kept v w) : NewM v u a n c xs := by
  obtain ⟨g, h1, h2, h3⟩ := h
  have := hk.size
  exact ⟨g, h1, by omega, Kept.trans hk h3⟩
theorem NewM.after {u x : World} {xs : List MkD} (h : NewM w u a n c xs) (hk : Kept u x) : NewM w x a n c xs := by
  obtain ⟨g, h1, h2, h3⟩ := h
  exact ⟨g, h1.kept hk, h2, Kept.trans h3 hk⟩
theorem NewM.none (h : Kept w w1) : NewM w w1 none 0 0 [] := ⟨0, ArrK.nil _ _ _ _, .inl rfl, h⟩
noncomputable def marksP (nodes : List ND) : List MkD := if lvE nodes = 0 then (treeP nodes).marks 0 else []
theorem lv_shape (h : lvE nodes = 0) : (shapeP nanB nodes).1 = 0 ∧ (thoseP nodes false).length ≤ 4096 := by
  by_cases h0 : (shapeP nanB nodes).1 = 0
  · refine ⟨h0, ?_⟩
    by_cases hm : 4096 < (thoseP nodes false).length
    · have := (lv_many h0 hm).1; omega
    · omega
  · have := (lv_bad h0).1; omega
theorem nl_those (h : (shapeP nanB nodes).1 = 0) : (treeP nodes).nl = (thoseP nodes false).length := by
  have hTr := treeP_spec h
  unfold thoseP BT.nl
  rw [if_pos h, leaves_pick hTr.is]
theorem lv_nl (h : lvE nodes = 0) : lvN nodes = (treeP nodes).nl ∧ (treeP nodes).nl ≤ 4096 := by
  obtain ⟨h0, hm⟩ := lv_shape h
  have := (lv_ok h0 (by omega)).2
  rw [this, nl_those h0]
  omega
theorem Marks_c (hG : Good F w a n c nodes) : E.CallsD Go.Proofs.Tryd.prog 18 #[vT o a n c] w fun v u => ∃ a' n' c', v = .tuple #[.slice a' n' c', .int .i64 (lvE nodes)] ∧ NewM w u a' n' c' (marksP nodes) := by
  refine masks_Marks.calls ?_
  unfold masks_Marks masks_Marks.g0
  refine box2T fun w1 _ hT hk => ⟨_, hT.c0, _, _, _, hT.c1, ?_⟩
  refine E.CallsD.mono (leaves_c (o := o) (hG.kept hk)) fun v u ⟨hv, hku⟩ => ⟨_, _, hv, ?_⟩
  have hk1u := Kept.trans hk hku
  refine onNe (fun hne => ⟨_, _, _, rfl, ?_⟩) fun h0 => ?_
  · have : marksP nodes = [] := by unfold marksP; rw [if_neg hne]
    rw [this]
    exact NewM.none hk1u
  obtain ⟨hsh, _⟩ := lv_shape h0
  obtain ⟨_, hnl⟩ := lv_nl h0
  have hTr := treeP_spec hsh
  have hM : marksP nodes = (treeP nodes).marks 0 := by unfold marksP; rw [if_pos h0]
  have hGu := hG.kept hk1u
  have hTu := hT.kept hku
  have z0 := hk1u.size
  have z2 := hTu.lt
  refine box1 fun w2 h3 _ hk2 => box1 fun w3 h4 _ hk3 => ?_
  have h33 := h3.keep hk3
  have z3 := h33.lt
  have z4 := h4.lt
  have z5 := hk2.size
  have e2 : u.heap.size < w2.heap.size := h3.lt
  refine h4.wr (i := 0) (v := marksV (na w) (na u) (na w2)) (by simp) fun w4 h44 ho4 => ?_
  have h34 := h33.mod ho4 (fun h => by omega)
  refine ⟨_, blk_one h44, ?_⟩
  refine marks_call ?_
  have hw4 : From u.heap.size u w4 := ((Kept.fr hk2).keptThen hk3).only ho4 (.inr (by omega))
  have hc := marks1_c (W := u) (b3 := u) (b4 := w2) hGu hTu (by omega) e2 (fun i x hx => kd_of hTr hx) (treeP nodes) 0 [] 0 w4 hTr.is (by omega) (by simp; omega) hw4 ⟨⟨_, _, h34, ArrK.nil _ _ _ _⟩, blk_one h44, .inl rfl⟩
  rw [hTr.root] at hc
  refine E.CallsD.mono hc fun v w5 ⟨hv, g5, hst, hg5, hm5⟩ => ⟨_, hv, ?_⟩
  obtain ⟨⟨a5, c5, h35, h55⟩, _, hgg⟩ := hst
  refine ⟨_, _, _, blk_one h35, _, _, _, by rw [h0], g5, ?_, ?_, ?_⟩
  · rw [hM]; exact h55
  · omega
  · exact Kept.trans hk1u (From.kept (hw4.then hm5 (fun b hb h => by omega)))
end
end Go.Mir

set_option maxRecDepth 100000
namespace Go.Mir
open Go Go.E Go.RowKit Go.Tr
section
variable {w w1 W : World} {p p2 : Addr} {o : Int} {a a1 : Option Addr} {n c n1 c1 : Nat} {F : Nat → Prop} {nodes : List ND} {xs : List Nat}
def farAt (nodes : List ND) (xs : List Nat) (i : Nat) : Bool := match nodes[i]? with
  | some x => goesP x (xs.getD x.feature.toNat 0) == 2
  | none => false
noncomputable def falseE (nodes : List ND) (d : Int) : Int := if lvE nodes = 0 then (if fitsP nodes d then 0 else 72) else lvE nodes
noncomputable def falseP (nodes : List ND) (xs : List Nat) : List MkD := if falseE nodes xs.length = 0 then (marksP nodes).filter (fun m => farAt nodes xs m.node.toNat) else []
theorem falseE_bad {d : Int} (h : lvE nodes ≠ 0) : falseE nodes d = lvE nodes := by unfold falseE; rw [if_neg h]
theorem falseE_no {d : Int} (h : lvE nodes = 0) (hf : fitsP nodes d = false) : falseE nodes d = 72 := by unfold falseE; rw [if_pos h, hf]; rfl
theorem falseE_ok {d : Int} (h : lvE nodes = 0) (hf : fitsP nodes d = true) : falseE nodes d = 0 := by unfold falseE; rw [if_pos h, hf]; rfl
theorem falseP_no (h : falseE nodes xs.length ≠ 0) : falseP nodes xs = [] := by unfold falseP; rw [if_neg h]
theorem falseP_ok (h : falseE nodes xs.length = 0) : falseP nodes xs = (marksP nodes).filter (fun m => farAt nodes xs m.node.toNat) := by unfold falseP; rw [if_pos h]
/-- The marks are those of the inner nodes, in the tree's order. -/
theorem marks_nodes : ∀ (T : BT) (k : Nat), Is nodes T → (T.marks k).map MkD.node = natL (pick nodes true T.pre)
  | .leaf i, k, ⟨x, hx, hi⟩ => by
    have : innerAt nodes i = false := by unfold innerAt; rw [hx]; exact hi
    simp [BT.marks, BT.pre, pick, this, natL]
  | .node i l r, k, ⟨x, hx, hi, _, _, hl, hr⟩ => by
    have : innerAt nodes i = true := by unfold innerAt; rw [hx]; exact hi
    have h1 := marks_nodes l k hl
    have h2 := marks_nodes r (k + l.nl) hr
    unfold pick at h1 h2 ⊢
    simp only [BT.marks, BT.pre, List.map_cons, List.map_append, h1, h2, List.filter_cons, this, List.filter_append]
    simp [natL]
theorem mark_node {T : BT} {k : Nat} (hI : Is nodes T) {m : MkD} (hm : m ∈ T.marks k) : ∃ (i : Nat) (x : ND), m.node = (i : Int) ∧ nodes[i]? = some x ∧ x.inner = true := by
  have h : m.node ∈ (T.marks k).map MkD.node := List.mem_map_of_mem hm
  rw [marks_nodes T k hI] at h
  obtain ⟨i, hi, he⟩ := List.mem_map.1 h
  unfold pick at hi
  have h2 := (List.mem_filter.1 hi).2
  unfold innerAt at h2
  cases hx : nodes[i]? with
  | none => rw [hx] at h2; cases h2
  | some x => rw [hx] at h2; exact ⟨i, x, he.symm, hx, by simpa using h2⟩
theorem node_mark {T : BT} {k : Nat} (hI : Is nodes T) {i : Nat} {x : ND} (hi : i ∈ T.pre) (hx : nodes[i]? = some x) (hin : x.inner = true) : ∃ m ∈ T.marks k, m.node = (i : Int) := by
  have h : (i : Int) ∈ (T.marks k).map MkD.node := by
    rw [marks_nodes T k hI]
    refine List.mem_map.2 ⟨i, ?_, rfl⟩
    unfold pick
    refine List.mem_filter.2 ⟨hi, ?_⟩
    unfold innerAt
    rw [hx]
    simp [hin]
  obtain ⟨m, hm, he⟩ := List.mem_map.1 h
  exact ⟨m, hm, he⟩
/-- What a right tree's marks name. -/
theorem marks_in (h0 : lvE nodes = 0) {d : Int} (hf : fitsP nodes d = true) : ∀ m ∈ marksP nodes, ∃ (i : Nat) (x : ND), m.node = (i : Int) ∧ nodes[i]? = some x ∧ x.inner = true ∧ 0 ≤ x.feature ∧ x.feature < d := by
  intro m hm
  obtain ⟨hsh, _⟩ := lv_shape h0
  have hTr := treeP_spec hsh
  unfold marksP at hm
  rw [if_pos h0] at hm
  obtain ⟨i, x, h1, h2, h3⟩ := mark_node hTr.is hm
  obtain ⟨_, _, _, _, b5, _⟩ := okNode_inner (hTr.right.ok i x h2) h3
  exact ⟨i, x, h1, h2, h3, b5, fits_all hf h2 h3⟩
theorem marks_le (h : n = nodes.length) (hm : n ≤ 1048576) : (marksP nodes).length ≤ 4096 := by
  unfold marksP
  split
  · rename_i h0
    have := (lv_nl h0).2
    have := (treeP nodes).marks_length 0
    omega
  · simp
theorem mfits_loop {R : Value → World → Prop} {a2 : Option Addr} {n2 c2 : Nat} {ms : List MkD} (hG : Good F w1 a n c nodes) (hT : At2 w1 p o a n c) (hms : SlK 3 enM w1 a2 n2 ms) (hm2 : n2 ≤ 2097152)
    (hin : ∀ m ∈ ms, ∃ (i : Nat) (x : ND), m.node = (i : Int) ∧ nodes[i]? = some x ∧ x.inner = true)
    (hbad : ∀ u, fitsP nodes n1 = false → From w1.heap.size w1 u → R (.tuple #[.slice none 0 0, .int .i64 72]) u)
    (hend : ∀ u, (∀ m ∈ ms, ∀ (i : Nat) (x : ND), m.node = (i : Int) → nodes[i]? = some x → x.feature < n1) → From w1.heap.size w1 u → masks_False.e41 R a1 n1 c1 (some p) none 0 0 a2 n2 c2 n2 0 u) :
    ∀ (m k : Nat) (w : World), k + m = n2 → From w1.heap.size w1 w → (∀ m ∈ ms.take k, ∀ (i : Nat) (x : ND), m.node = (i : Int) → nodes[i]? = some x → x.feature < n1) → masks_False.l16 R (m + 1) a1 n1 c1 (some p) a2 n2 c2 a2 n2 c2 n2 k w
  | 0, k, w, hk, hw, hok => by
    unfold masks_False.l16 masks_False.g16
    refine onDec_f (by omega) ?_
    rw [List.take_of_length_le (by rw [← hms.len]; omega)] at hok
    exact hend w hok hw
  | m + 1, k, w, hk, hw, hok => by
    unfold masks_False.l16 masks_False.g16
    refine onDec_t (by omega) ?_
    have hn := hG.len
    have hmx := hG.max
    have hmsl := hms.len
    have hmw : SlK 3 enM w a2 n2 ms := hms.keep (From.kept hw)
    refine hmw.rdM (by omega) (by omega) fun mk hmk => ?_
    rw [Int.toNat_natCast] at hmk
    obtain ⟨i, x, hmi, hxi, hinn⟩ := hin mk (List.mem_of_getElem? hmk)
    have hil : i < nodes.length := (List.getElem?_eq_some_iff.1 hxi).1
    refine box3z (x := mk) fun u1 _ h3 hk1 => ?_
    have hu1 := hw.keptThen hk1
    refine optN_mk ⟨_, _, _, (hT.from hu1).c1, _, h3.c0, ?_⟩
    rw [hmi]
    refine (hG.from hu1).ls.rdF (by omega) (by omega) fun q x' a5 n5 c5 hx' _ h8x => ⟨_, h8x.c2, ?_⟩
    rw [Int.toNat_natCast, hxi] at hx'
    obtain rfl : x = x' := by simpa using hx'
    refine onDec (fun hge => ?_) fun hlt => ?_
    · refine hbad u1 ?_ hu1
      cases hf : fitsP nodes n1 with
      | false => rfl
      | true => have := fits_all hf hxi hinn; omega
    · refine nv_succ (by omega) ?_
      refine mfits_loop hG hT hms hm2 hin hbad hend m (k + 1) u1 (by omega) hu1 ?_
      intro m' hm' i' x' h1 h2
      rw [take_snoc hmk] at hm'
      rcases List.mem_append.1 hm' with h | h
      · exact hok m' h i' x' h1 h2
      · simp only [List.mem_singleton] at h
        subst h
        obtain rfl : i' = i := by omega
        rw [hxi] at h2
        obtain rfl : x = x' := by simpa using h2
        omega
theorem false_loop {R : Value → World → Prop} {a2 : Option Addr} {n2 c2 : Nat} {ms : List MkD} (hG : Good F w1 a n c nodes) (hT : At2 w1 p o a n c) (hx : Sl enF w1 a1 n1 xs) (hms : SlK 3 enM w1 a2 n2 ms) (hm2 : n2 ≤ 2097152)
    (hin : ∀ m ∈ ms, ∃ (i : Nat) (x : ND), m.node = (i : Int) ∧ nodes[i]? = some x ∧ x.inner = true ∧ 0 ≤ x.feature ∧ x.feature < n1)
    (hend : ∀ w a' n' c' g, From w1.heap.size w1 w → ArrK 3 enM 44 w a' n' c' (ms.filter fun m => farAt nodes xs m.node.toNat) g → (g = 0 ∨ w1.heap.size < g) → R (.tuple #[.slice a' n' c', .int .i64 0]) w) :
    ∀ (m k : Nat) (w : World) (a8 : Option Addr) (n8 c8 g8 : Nat), k + m = n2 → From w1.heap.size w1 w → ArrK 3 enM 44 w a8 n8 c8 ((ms.take k).filter fun m => farAt nodes xs m.node.toNat) g8 → (g8 = 0 ∨ w1.heap.size < g8) → masks_False.l41 R (m + 1) a1 n1 c1 (some p) a8 n8 c8 a2 n2 c2 n2 k w
  | 0, k, w, a8, n8, c8, g8, hk, hw, h8, hg8 => by
    unfold masks_False.l41 masks_False.g41
    refine onDec_f (by omega) ?_
    rw [List.take_of_length_le (by rw [← hms.len]; omega)] at h8
    exact hend w a8 n8 c8 g8 hw h8 hg8
  | m + 1, k, w, a8, n8, c8, g8, hk, hw, h8, hg8 => by
    unfold masks_False.l41 masks_False.g41
    refine onDec_t (by omega) ?_
    have hn := hG.len
    have hmx := hG.max
    have hmsl := hms.len
    have hmw : SlK 3 enM w a2 n2 ms := hms.keep (From.kept hw)
    refine hmw.rdM (by omega) (by omega) fun mk hmk => ?_
    rw [Int.toNat_natCast] at hmk
    obtain ⟨i, x, hmi, hxi, hinn, hf0, hf1⟩ := hin mk (List.mem_of_getElem? hmk)
    have hil : i < nodes.length := (List.getElem?_eq_some_iff.1 hxi).1
    refine box3z (x := mk) fun u1 _ h3 hk1 => ?_
    have hu1 := hw.keptThen hk1
    refine optN_mk ⟨_, _, _, (hT.from hu1).c1, _, h3.c0, ?_⟩
    rw [hmi]
    refine (hG.from hu1).ls.rdN (by omega) (by omega) fun x' a' n' c' hx' hcs => ?_
    rw [Int.toNat_natCast, hxi] at hx'
    obtain rfl : x = x' := by simpa using hx'
    have hn' : n' ≤ 16777216 := by rw [hcs.len]; have := hG.short x (List.mem_of_getElem? hxi); omega
    refine box8z fun u2 _ hb hk2 => hb.ld ⟨_, hb.c2, ?_⟩
    have hu2 := hu1.keptThen hk2
    refine rdX (hx.from hu2) (by omega) (by omega) ?_
    refine E.CallsD.mono (Goes_c (x := x) hn' (hcs.kept hk2).sl) fun v u3 ⟨hv, hk3⟩ => ⟨_, hv, ?_⟩
    have hu3 := hu2.keptThen hk3
    have h33 := h3.kept (Kept.trans hk2 hk3)
    have h83 := h8.kept (Kept.trans (Kept.trans hk1 hk2) hk3)
    have h8l := h83.len enM_len (by omega)
    have h8b : ((ms.take k).filter fun m => farAt nodes xs m.node.toNat).length ≤ k := Nat.le_trans (List.length_filter_le _ _) (by simp; omega)
    have hfar : farAt nodes xs mk.node.toNat = (goesP x (xs.getD x.feature.toNat 0) == 2) := by unfold farAt; rw [hmi, Int.toNat_natCast, hxi]
    have htk : (ms.take (k + 1)).filter (fun m => farAt nodes xs m.node.toNat) = if farAt nodes xs mk.node.toNat then (ms.take k).filter (fun m => farAt nodes xs m.node.toNat) ++ [mk] else (ms.take k).filter (fun m => farAt nodes xs m.node.toNat) := by
      rw [take_snoc hmk, List.filter_append]
      split
      · rename_i h; simp [h]
      · rename_i h; simp [h]
    refine onEq (fun he => ⟨_, h33.c0, _, h33.c1, _, h33.c2, ?_⟩) fun he => ?_
    · rw [if_pos (by rw [hfar, he]; rfl)] at htk
      refine h83.push S_M enM_len (by omega) (x := mk) rfl (enM_one _) (by simp only [maxLen]; omega) (by omega) fun a6 c6 g6 u4 h6 hg6 hg60 ho => ⟨_, _, _, rfl, ?_⟩
      refine nv_succ (by omega) ?_
      have hz := hu3.size
      exact false_loop hG hT hx hms hm2 hin hend m (k + 1) u4 a6 (n8 + 1) c6 g6 (by omega) (hu3.only ho hg8) (by rw [htk]; exact h6) (by omega)
    · rw [if_neg (by rw [hfar]; simpa using he)] at htk
      refine nv_succ (by omega) ?_
      exact false_loop hG hT hx hms hm2 hin hend m (k + 1) u3 a8 n8 c8 g8 (by omega) hu3 (by rw [htk]; exact h83) hg8
theorem False_c (hG : Good F w a n c nodes) (hx : Sl enF w a1 n1 xs) : E.CallsD Go.Proofs.Tryd.prog 9 #[vT o a n c, .slice a1 n1 c1] w fun v u => ∃ a' n' c', v = .tuple #[.slice a' n' c', .int .i64 (falseE nodes xs.length)] ∧ NewM w u a' n' c' (falseP nodes xs) := by
  refine masks_False.calls ?_
  unfold masks_False masks_False.g0
  have hxm := hx.len
  refine box2T fun w1 _ hT hk => ⟨_, hT.c0, _, _, _, hT.c1, ?_⟩
  refine E.CallsD.mono (Marks_c (o := o) (hG.kept hk)) fun v u ⟨a', n', c', hv, hn⟩ => ⟨_, _, _, _, hv, ?_⟩
  have hku := Kept.trans hk hn.kept
  refine onNe (fun hne => ⟨_, _, _, by rw [falseE_bad hne], ?_⟩) fun h0 => ?_
  · rw [falseP_no (by rw [falseE_bad hne]; exact hne)]
    exact NewM.none hku
  obtain ⟨hsh, _⟩ := lv_shape h0
  have hTr := treeP_spec hsh
  have hM : marksP nodes = (treeP nodes).marks 0 := by unfold marksP; rw [if_pos h0]
  have hml := marks_le hG.len hG.max
  have hnl := hn.len
  refine ⟨n' + 1, mfits_loop (w1 := u) (F := F) (o := o) (ms := marksP nodes) (hG.kept hku) (hT.kept hn.kept) hn.slk (by omega) (fun m hm => by rw [hM] at hm; exact mark_node hTr.is hm) (fun x hf hu => by
    have e : falseE nodes xs.length = 72 := falseE_no h0 (by rw [← hxm]; exact hf)
    refine ⟨none, 0, 0, by rw [e], ?_⟩
    rw [falseP_no (by rw [e]; decide)]
    exact NewM.none (Kept.trans hku (From.kept hu))) (fun x hall hu => ?_) n' 0 u (by omega) (From.refl _ _) (by simp)⟩
  have hfit : fitsP nodes n1 = true := by
    refine List.all_eq_true.2 fun y hy => ?_
    obtain ⟨i, hi⟩ := List.mem_iff_getElem?.1 hy
    unfold fitsN
    cases hyi : y.inner with
    | false => rfl
    | true =>
      obtain ⟨m, hm, he⟩ := node_mark (k := 0) hTr.is ((hTr.mem i).2 (List.getElem?_eq_some_iff.1 hi).1) hi hyi
      rw [← hM] at hm
      simpa using hall m hm i y he hi
  have hE : falseE nodes xs.length = 0 := falseE_ok h0 (by rw [← hxm]; exact hfit)
  have hkx := Kept.trans hku (From.kept hu)
  have hzx := hkx.size
  exact ⟨n' + 1, false_loop (w1 := x) (F := F) (o := o) (ms := marksP nodes) (hG.kept hkx) (hT.kept (Kept.trans hn.kept (From.kept hu))) (hx.keep hkx) (hn.slk.keep (From.kept hu)) (by omega) (marks_in h0 hfit) (fun y a'' n'' c'' g hy h hg => ⟨_, _, _, by rw [hE], g, by rw [falseP_ok hE]; exact h, by omega, Kept.trans hkx (From.kept hy)⟩) n' 0 x none 0 0 0 (by omega) (From.refl _ _) (ArrK.nil _ _ _ _) (.inl rfl)⟩
theorem reffalse_loop {R : Value → World → Prop} {a2 : Option Addr} {n2 c2 : Nat} {ms : List MkD} (hG : Good F w1 a n c nodes) (hT : At2 w1 p o a n c) (hx : Sl enF w1 a1 n1 xs) (hms : SlK 3 enM w1 a2 n2 ms) (hm2 : n2 ≤ 2097152)
    (hin : ∀ m ∈ ms, ∃ (i : Nat) (x : ND), m.node = (i : Int) ∧ nodes[i]? = some x ∧ x.inner = true ∧ 0 ≤ x.feature ∧ x.feature < n1)
    (hend : ∀ w a' n' c' g, From w1.heap.size w1 w → ArrK 3 enM 44 w a' n' c' (ms.filter fun m => farAt nodes xs m.node.toNat) g → (g = 0 ∨ w1.heap.size < g) → R (.tuple #[.slice a' n' c', .int .i64 0]) w) :
    ∀ (m k : Nat) (w : World) (a8 : Option Addr) (n8 c8 g8 : Nat), k + m = n2 → From w1.heap.size w1 w → ArrK 3 enM 44 w a8 n8 c8 ((ms.take k).filter fun m => farAt nodes xs m.node.toNat) g8 → (g8 = 0 ∨ w1.heap.size < g8) → thicketref13_False.l26 R (m + 1) a1 n1 c1 (some p) a8 n8 c8 a2 n2 c2 n2 k w
  | 0, k, w, a8, n8, c8, g8, hk, hw, h8, hg8 => by
    unfold thicketref13_False.l26 thicketref13_False.g26
    refine onDec_f (by omega) ?_
    rw [List.take_of_length_le (by rw [← hms.len]; omega)] at h8
    exact hend w a8 n8 c8 g8 hw h8 hg8
  | m + 1, k, w, a8, n8, c8, g8, hk, hw, h8, hg8 => by
    unfold thicketref13_False.l26 thicketref13_False.g26
    refine onDec_t (by omega) ?_
    have hn := hG.len
    have hmx := hG.max
    have hmsl := hms.len
    have hmw : SlK 3 enM w a2 n2 ms := hms.keep (From.kept hw)
    refine hmw.rdM (by omega) (by omega) fun mk hmk => ?_
    rw [Int.toNat_natCast] at hmk
    obtain ⟨i, x, hmi, hxi, hinn, hf0, hf1⟩ := hin mk (List.mem_of_getElem? hmk)
    have hil : i < nodes.length := (List.getElem?_eq_some_iff.1 hxi).1
    refine box3z (x := mk) fun u1 _ h3 hk1 => ?_
    have hu1 := hw.keptThen hk1
    refine optN_mk ⟨_, _, _, (hT.from hu1).c1, _, h3.c0, ?_⟩
    rw [hmi]
    refine (hG.from hu1).ls.rdN (by omega) (by omega) fun x' a' n' c' hx' hcs => ?_
    rw [Int.toNat_natCast, hxi] at hx'
    obtain rfl : x = x' := by simpa using hx'
    have hn' : n' ≤ 16777216 := by rw [hcs.len]; have := hG.short x (List.mem_of_getElem? hxi); omega
    refine box8z fun u2 _ hb hk2 => hb.ld ⟨_, hb.c2, ?_⟩
    have hu2 := hu1.keptThen hk2
    refine rdX (hx.from hu2) (by omega) (by omega) ?_
    refine E.CallsD.mono (refGoes_c (x := x) hn' (hcs.kept hk2).sl) fun v u3 ⟨hv, hk3⟩ => ⟨_, hv, ?_⟩
    have hu3 := hu2.keptThen hk3
    have h33 := h3.kept (Kept.trans hk2 hk3)
    have h83 := h8.kept (Kept.trans (Kept.trans hk1 hk2) hk3)
    have h8l := h83.len enM_len (by omega)
    have h8b : ((ms.take k).filter fun m => farAt nodes xs m.node.toNat).length ≤ k := Nat.le_trans (List.length_filter_le _ _) (by simp; omega)
    have hfar : farAt nodes xs mk.node.toNat = (goesP x (xs.getD x.feature.toNat 0) == 2) := by unfold farAt; rw [hmi, Int.toNat_natCast, hxi]
    have htk : (ms.take (k + 1)).filter (fun m => farAt nodes xs m.node.toNat) = if farAt nodes xs mk.node.toNat then (ms.take k).filter (fun m => farAt nodes xs m.node.toNat) ++ [mk] else (ms.take k).filter (fun m => farAt nodes xs m.node.toNat) := by
      rw [take_snoc hmk, List.filter_append]
      split
      · rename_i h; simp [h]
      · rename_i h; simp [h]
    refine onEq (fun he => ⟨_, h33.c0, _, h33.c1, _, h33.c2, ?_⟩) fun he => ?_
    · rw [if_pos (by rw [hfar, he]; rfl)] at htk
      refine h83.push S_M enM_len (by omega) (x := mk) rfl (enM_one _) (by simp only [maxLen]; omega) (by omega) fun a6 c6 g6 u4 h6 hg6 hg60 ho => ⟨_, _, _, rfl, ?_⟩
      refine nv_succ (by omega) ?_
      have hz := hu3.size
      exact reffalse_loop hG hT hx hms hm2 hin hend m (k + 1) u4 a6 (n8 + 1) c6 g6 (by omega) (hu3.only ho hg8) (by rw [htk]; exact h6) (by omega)
    · rw [if_neg (by rw [hfar]; simpa using he)] at htk
      refine nv_succ (by omega) ?_
      exact reffalse_loop hG hT hx hms hm2 hin hend m (k + 1) u3 a8 n8 c8 g8 (by omega) hu3 (by rw [htk]; exact h83) hg8
end
end Go.Mir

set_option maxRecDepth 100000
namespace Go.Mir
open Go Go.E Go.RowKit Go.Tr
/-! The document's marks. -/
section
variable {w w1 W : World} {p p2 : Addr} {o : Int} {a a1 : Option Addr} {n c n1 c1 : Nat} {F : Nat → Prop} {nodes : List ND} {xs : List Nat}
def nlS (Ts : List BT) : Nat := (Ts.map BT.nl).sum
theorem nlS_cons (T : BT) (Ts : List BT) : nlS (T :: Ts) = T.nl + nlS Ts := by simp [nlS]
/-- What is known of a new node's place. -/
def NF (w : World) : Nat → Value → World → Prop := fun _ v u => ∃ b : World, v = .pointer (some (na b)) ∧ w.heap.size ≤ b.heap.size ∧ Blk u b.heap.size #[.int .u8 0, .int .i64 0, .int .i64 0, .float .f64 0, .slice none 0 0, .int .u8 0, .int .i64 0, .int .i64 0] 49
theorem NF.keep {w : World} (i : Nat) (v : Value) (u u' : World) (h : NF w i v u) (hk : Below u.heap.size u u') : NF w i v u' := by
  obtain ⟨b, h1, h2, h3⟩ := h
  exact ⟨b, h1, h2, h3.keep hk⟩
theorem below_loop {R : Value → World → Prop} {tot : Nat} (hG : Good F w1 a n c nodes) (hT : At2 w1 p o a n c) (hkd : ∀ (i : Nat) x, nodes[i]? = some x → (x.kind ≠ 1 ↔ x.inner = true))
    (hend : ∀ u, From w1.heap.size w1 u → R (.int .i64 (tot : Nat)) u) :
    ∀ (m : Nat) (Ts : List BT) (k : Nat) (w : World) (a4 : Option Addr) (c4 g4 : Nat), sumS Ts ≤ m → k + nlS Ts = tot → k + sumS Ts ≤ 2097152 → (∀ U ∈ Ts, Is nodes U) → From w1.heap.size w1 w → Arr enI 3 w a4 Ts.length c4 (stk (Ts.map BT.root)) g4 → w1.heap.size < g4 → thicketref13_below.l8 R (m + 1) (some p) (k : Nat) a4 Ts.length c4 w := by
  intro m
  induction m with
  | zero =>
    intro Ts k w a4 c4 g4 hm hk hb hIs hw h4 hg4
    have := len_le_sumS Ts
    obtain rfl : Ts = [] := List.eq_nil_of_length_eq_zero (by omega)
    unfold thicketref13_below.l8 thicketref13_below.g8
    refine onDec_f (by simp) ?_
    simp only [nlS, List.map_nil, List.sum_nil, Nat.add_zero] at hk
    rw [hk]
    exact hend w hw
  | succ m ih =>
    intro Ts k w a4 c4 g4 hm hk hb hIs hw h4 hg4
    unfold thicketref13_below.l8 thicketref13_below.g8
    cases Ts with
    | nil =>
      refine onDec_f (by simp) ?_
      simp only [nlS, List.map_nil, List.sum_nil, Nat.add_zero] at hk
      rw [hk]
      exact hend w hw
    | cons U Ts =>
      have hIU := hIs U (by simp)
      have hroot := hIU.root_lt
      have hn := hG.len
      have hmx := hG.max
      have hpos := U.size_pos
      have hTs := len_le_sumS Ts
      rw [sumS_cons] at hb hm
      rw [nlS_cons] at hk
      have hL : (U :: Ts).length = Ts.length + 1 := rfl
      rw [hL] at h4 ⊢
      refine onDec_t (by omega) ?_
      refine ⟨NF w, NF.keep, optN_mk ⟨_, _, _, (hT.from hw).c1, ?_⟩⟩
      refine nv_i64 (by omega) (by omega) ?_
      have e0 : (((Ts.length + 1 : Nat) : Int) - 1).toNat = Ts.length := by omega
      refine h4.sl.rdI (k := .i64) (by omega) (by omega) fun y hy => ?_
      rw [e0, List.map_cons, show Ts.length = (Ts.map BT.root).length by simp, stk_last] at hy
      obtain rfl : y = (U.root : Int) := by simpa using hy.symm
      refine (hG.from hw).ls.rdN (by omega) (by omega) fun x a5 n5 c5 hx _ => ?_
      rw [Int.toNat_natCast] at hx
      refine ⟨fun u hu => ⟨u, rfl, hu.size, Blk.new u _ _⟩, fun q _ u hku hF => ?_⟩
      obtain ⟨b, hq, hbw, hblk⟩ := hF
      simp only [Value.pointer.injEq, Option.some.injEq] at hq
      subst hq
      refine fill8 hblk fun u2 _ h8 ho2 => ?_
      have hu := hw.keptThen hku
      have hz := hw.size
      have hu2 := hu.only ho2 (.inr (by omega))
      refine nv_i64 (by omega) (by omega) ?_
      refine chk_mk ⟨by omega, by have := h4.capLe; omega⟩ ⟨_, h8.c0, ?_⟩
      have h4' := (h4.take (m := Ts.length) (by omega)).kept hku
      have h4le := h4.le
      have h42 := h4'.mod ho2 (fun b' h1 h2 => by omega)
      rw [List.map_cons, show (stk (U.root :: Ts.map BT.root)).take Ts.length = stk (Ts.map BT.root) from by
        have := stk_pop U.root (Ts.map BT.root); rwa [List.length_map] at this] at h42
      rw [e0, slA_zero]
      cases U with
      | leaf i =>
        obtain ⟨y, hy, hyi⟩ := hIU
        obtain rfl : x = y := by have hx' : nodes[i]? = some x := hx; rw [hy] at hx'; simpa using hx'.symm
        have hkx : x.kind = 1 := Classical.byContradiction fun h => by have := (hkd i x hy).1 h; rw [hyi] at this; cases this
        refine onEq_t hkx ?_
        refine nv_succ (by omega) ?_
        rw [BT.nl_leaf] at hk
        simp only [BT.size] at hb hm
        exact ih Ts (k + 1) u2 a4 c4 g4 (by omega) (by omega) (by omega) (fun V hV => hIs V (by simp [hV])) hu2 h42 hg4
      | node i l r =>
        obtain ⟨y, hy, hyi, hl, hr, hIl, hIr⟩ := hIU
        obtain rfl : x = y := by have hx' : nodes[i]? = some x := hx; rw [hy] at hx'; simpa using hx'.symm
        refine onEq_f ((hkd i x hy).2 hyi) ⟨_, h8.c6, _, h8.c7, ?_⟩
        rw [hl, hr]
        simp only [BT.size] at hb hm
        rw [BT.nl_node] at hk
        refine h42.pushL (m := 2) S_I (fun _ => rfl) (ys := [(l.root : Int), (r.root : Int)]) rfl rfl (by omega) (by simp only [maxLen]; omega) (by omega) fun a6 c6 g6 u3 h6 hg6 hg60 ho3 => ⟨_, _, _, rfl, ?_⟩
        rw [stk_push] at h6
        have z2 := hku.size
        have z3 := ho2.size
        refine ih (r :: l :: Ts) k u3 a6 c6 g6 (by rw [sumS_cons, sumS_cons]; omega) (by rw [nlS_cons, nlS_cons]; omega) (by rw [sumS_cons, sumS_cons]; omega) (fun V hV => ?_) (hu2.only ho3 (.inr hg4)) h6 (by omega)
        simp only [List.mem_cons] at hV
        rcases hV with h | h | h
        · subst h; exact hIr
        · subst h; exact hIl
        · exact hIs V (by simp [h])
theorem refbelow_c (hG : Good F w a n c nodes) (hkd : ∀ (i : Nat) x, nodes[i]? = some x → (x.kind ≠ 1 ↔ x.inner = true)) {U : BT} (hI : Is nodes U) (hs : U.size ≤ 2097152) :
    Pure Go.Proofs.Tryd.prog 47 #[vT o a n c, .int .i64 (U.root : Nat)] w (.int .i64 (U.nl : Nat)) := by
  refine thicketref13_below.calls (R := fun v' u => v' = _ ∧ Below w.heap.size w u) ?_
  unfold thicketref13_below thicketref13_below.g0
  refine box2T fun w1 _ hT hk => nw_mk ?_
  have hk2 := Kept.new w1 (.cells #[.int .i64 (U.root : Nat)] 3)
  have h4 := Arr.new enI 3 w1 [(U.root : Int)] #[.int .i64 (U.root : Nat)] rfl (by simp [maxLen])
  exact ⟨_, below_loop (w1 := w1) (F := F) (hG.kept hk) hT hkd (fun u hu => ⟨rfl, Kept.trans hk (From.kept hu)⟩) (sumS [U]) [U] 0 _ _ 1 (w1.heap.size + 1) (Nat.le_refl _) (by simp [nlS]) (by simp [sumS]; omega) (fun V hV => by simp at hV; subst hV; exact hI) (Kept.mod hk2) h4 (by omega)⟩
end
end Go.Mir

set_option maxRecDepth 100000
namespace Go.Mir
open Go Go.E Go.RowKit Go.Tr
section
variable {w w1 W : World} {p p2 : Addr} {o : Int} {a a1 : Option Addr} {n c n1 c1 : Nat} {F : Nat → Prop} {nodes : List ND} {xs : List Nat}
def marksS (Ts : List (BT × Nat)) : List MkD := Ts.flatMap fun x => x.1.marks x.2
def preM (Ts : List (BT × Nat)) : List Nat := Ts.flatMap fun x => x.1.pre
/-- What is known of a new slice of one mark. -/
def MF (x : MkD) : Nat → Value → World → Prop := fun _ v u => ∃ q, v = .slice (some q) 1 1 ∧ ∀ j y, (enM x)[j]? = some y → u.cell? (q.add j) = some y
theorem MF.keep {x : MkD} (i : Nat) (v : Value) (u u' : World) (h : MF x i v u) (hk : Below u.heap.size u u') : MF x i v u' := by
  obtain ⟨q, h1, h2⟩ := h
  exact ⟨q, h1, fun j y hj => bkeep hk (h2 j y hj)⟩
theorem ArrK.pushD {e : Nat} {P : Program} {t ty by_ j : Nat} {a : Option Addr} {n c g : Nat} {xs : List MkD} (hT : SliceT P t e 3 by_) (h : ArrK 3 enM e w a n c xs g) {x : MkD} {cs : Array Value} (hcs : cs.toList = enM x) (h63 : n + 1 ≤ maxLen) (hb : (n + 1) * by_ ≤ 140737488355328) {K : Value → World → Prop}
    (hk : ∀ a' c' g' u u', Kept w u → ArrK 3 enM e u' a' (n + 1) c' (xs ++ [x]) g' → (g' = g ∨ w.heap.size < g') → g' ≠ 0 → Only g u u' → K (.slice a' (n + 1) c') u') :
    (∀ u : World, Below w.heap.size w u → MF x j (.slice (some (na u)) 1 1) (u.alloc (.cells cs e))) ∧
      (∀ q : Addr, (∃ u, Below w.heap.size w u ∧ MF x j (.slice (some q) 1 1) u) → ∀ u : World, Below w.heap.size w u → MF x j (.slice (some q) 1 1) u → rawN P (Builtin.append_ #[t, t] ty #[.slice a n c, .slice (some q) 1 1]) u K) := by
  refine ⟨fun u hu => ⟨_, rfl, fun j y hj => by rw [cell_new, ← Array.getElem?_toList, hcs]; exact hj⟩, fun q _ u hu hF => ?_⟩
  obtain ⟨q', hq, hc⟩ := hF
  simp only [Value.slice.injEq, Option.some.injEq] at hq
  obtain ⟨rfl, _⟩ := hq
  refine ArrK.pushAt hT enM_len (by omega) (ArrK.kept h hu) hc (enM_one _) h63 hb fun a' c' g' u' h1 h2 h3 h4 => ?_
  exact hk a' c' g' u u' hu h1 (by have := hu.size; omega) h3 h4
set_option maxHeartbeats 1000000 in
theorem refmarks_loop {R : Value → World → Prop} {T : BT} {B : Nat} {a2 a6 : Option Addr} {c2 g2 c6 g6 : Nat} (hG : Good F W a n c nodes) (hTr : Tree nanB nodes T) (hT : At2 W p o a n c) (h6B : g6 ≤ B) (h2B : g2 ≤ B) (h26 : g2 ≠ g6) (hW6 : W.heap.size < g6)
    (hend : ∀ w a' n' c' g, From W.heap.size W w → ArrK 3 enM 44 w a' n' c' (T.marks 0) g → (g = 0 ∨ B < g) → R (.tuple #[.slice a' n' c', .int .i64 0]) w) :
    ∀ (m k : Nat) (Ts : List (BT × Nat)) (out : List MkD) (first : List Int) (w : World) (a7 : Option Addr) (c7 g7 : Nat), k + m = n → T.pre.drop k = preM Ts → (∀ x ∈ Ts, Is nodes x.1 ∧ first[x.1.root]? = some (x.2 : Int) ∧ x.2 + x.1.nl ≤ 2097152) → T.marks 0 = out ++ marksS Ts → From W.heap.size W w → W.heap.size ≤ B → B ≤ w.heap.size →
      Arr enI 3 w a6 n c6 first g6 → Arr enI 3 w a2 n c2 (natL T.pre) g2 → ArrK 3 enM 44 w a7 out.length c7 out g7 → (g7 = 0 ∨ B < g7) → thicketref13_Marks.l20 R (m + 1) (some p) a6 n c6 a7 out.length c7 a2 n c2 n k w
  | 0, k, Ts, out, first, w, a7, c7, g7, hk, hpre, hTs, hout, hw, hWB, hBw, h6, h2, h7, hg7 => by
    unfold thicketref13_Marks.l20 thicketref13_Marks.g20
    refine onDec_f (by omega) ?_
    have hTl := hTr.length
    have hn := hG.len
    rw [List.drop_eq_nil_of_le (by omega)] at hpre
    have : Ts = [] := by
      cases Ts with
      | nil => rfl
      | cons x l =>
        exfalso
        have h1 := congrArg List.length hpre
        have h2 := x.1.size_pos
        rw [← BT.pre_length] at h2
        simp only [preM, List.flatMap_cons, List.length_append, List.length_nil] at h1
        omega
    subst this
    simp only [marksS, List.flatMap_nil, List.append_nil] at hout
    rw [← hout] at h7
    exact hend w a7 _ c7 g7 hw (by rw [← hout]; exact h7) hg7
  | m + 1, k, Ts, out, first, w, a7, c7, g7, hk, hpre, hTs, hout, hw, hWB, hBw, h6, h2, h7, hg7 => by
    unfold thicketref13_Marks.l20 thicketref13_Marks.g20
    refine onDec_t (by omega) ?_
    have hTl := hTr.length
    have hn := hG.len
    have hmx := hG.max
    have hml := T.marks_length 0
    have hns := T.nl_size
    have hpl := T.pre_length
    have hol : out.length ≤ (T.marks 0).length := by rw [hout, List.length_append]; omega
    have hkl : k < T.pre.length := by omega
    cases Ts with
    | nil =>
      exfalso
      have h1 := congrArg List.length hpre
      simp only [preM, List.flatMap_nil, List.length_nil, List.length_drop] at h1
      omega
    | cons x Ts =>
      obtain ⟨U, f⟩ := x
      obtain ⟨hIU, hfU, hfb⟩ := hTs (U, f) (by simp)
      simp only at hIU hfU hfb
      have hroot := hIU.root_lt
      have hpc : preM ((U, f) :: Ts) = U.pre ++ preM Ts := rfl
      have hmc : marksS ((U, f) :: Ts) = U.marks f ++ marksS Ts := rfl
      have hUpre : ∃ l, U.pre = U.root :: l := by cases U <;> exact ⟨_, rfl⟩
      obtain ⟨lp, hlp⟩ := hUpre
      have hi : T.pre[k]? = some U.root := by
        have := congrArg (fun l => l[0]?) hpre
        simp only [List.getElem?_drop, Nat.add_zero] at this
        rw [this, hpc, hlp]; rfl
      have hd : T.pre.drop (k + 1) = lp ++ preM Ts := by
        have := drop_cons hi
        rw [hpre, hpc, hlp] at this
        simpa using this.symm
      have hnd : (U.pre ++ preM Ts).Nodup := by rw [← hpc, ← hpre]; exact hTr.nodup.sublist (List.drop_sublist _ _)
      refine h2.sl.rdI (k := .i64) (by omega) (by omega) fun y hy => ?_
      rw [Int.toNat_natCast, natL_get hi] at hy
      obtain rfl : y = (U.root : Int) := by simpa using hy.symm
      refine optN_mk ⟨_, _, _, (hT.from hw).c1, ?_⟩
      refine (hG.from hw).ls.rdN (by omega) (by omega) fun x a5 n5 c5 hx _ => ?_
      rw [Int.toNat_natCast] at hx
      refine box8z fun u _ hb hk1 => ⟨_, hb.c0, ?_⟩
      have hu := hw.keptThen hk1
      have z1 := hk1.size
      have zb : w.heap.size < u.heap.size := by have := block_lt_of_cell hb.c0; rwa [add_block] at this
      cases U with
      | leaf i =>
        obtain ⟨y, hy, hyi⟩ := hIU
        obtain rfl : x = y := by have hx' : nodes[i]? = some x := hx; rw [hy] at hx'; simpa using hx'.symm
        have hkx : x.kind = 1 := Classical.byContradiction fun h => by have := (kd_of hTr hy).1 h; rw [hyi] at this; cases this
        refine onEq_t hkx ?_
        refine nv_succ (by omega) ?_
        obtain rfl : lp = [] := by simpa [BT.pre, BT.root] using hlp.symm
        exact refmarks_loop hG hTr hT h6B h2B h26 hW6 hend m (k + 1) Ts out first u a7 c7 g7 (by omega) hd (fun x hx => hTs x (by simp [hx])) (by rw [hout, hmc]; rfl) hu hWB (by omega) (h6.kept hk1) (h2.kept hk1) (h7.kept hk1) hg7
      | node i l r =>
        obtain ⟨y, hy, hyi, hl, hr, hIl, hIr⟩ := hIU
        obtain rfl : x = y := by have hx' : nodes[i]? = some x := hx; rw [hy] at hx'; simpa using hx'.symm
        simp only [BT.root] at hroot hfU
        have hrl := hIl.root_lt
        have hrr := hIr.root_lt
        have hf6 := h6.sl.len
        obtain rfl : l.pre ++ r.pre = lp := by simpa [BT.pre, BT.root] using hlp
        have hsz : (BT.node i l r).size ≤ T.size := by
          have h1 := congrArg List.length hpre
          rw [hpc, List.length_append, List.length_drop] at h1
          have h2 := (BT.node i l r).pre_length
          omega
        simp only [BT.size] at hsz
        rw [BT.nl_node] at hfb
        have p1 := l.nl_pos
        have p2' := r.nl_pos
        refine onEq_f ((kd_of hTr hy).2 hyi) (optN_mk ⟨_, (hT.from hu).c0, _, _, _, (hT.from hu).c1, _, hb.c6, ?_⟩)
        rw [hl]
        refine E.CallsD.mono (refbelow_c (o := o) (hG.from hu) (fun i x hx => kd_of hTr hx) hIl (by omega)) fun v u2 ⟨hv, hk2⟩ => ⟨_, hv, ?_⟩
        have hu2 := hu.keptThen hk2
        have z2 := hk2.size
        have hb2 := hb.kept hk2
        have h62 := (h6.kept hk1).kept hk2
        have h22 := (h2.kept hk1).kept hk2
        have h72 := (h7.kept hk1).kept hk2
        have h7le := h7.le
        refine ⟨MF ⟨(i : Nat), (f : Nat), (f + l.nl : Nat)⟩, MF.keep, ?_⟩
        have rd : ∀ {v : World} {K : Int → Prop} {fs : List Int}, Arr enI 3 v a6 n c6 fs g6 → fs[i]? = some (f : Int) → K (f : Int) → optN a6 fun q => chk ((0 : Int) ≤ ((BT.node i l r).root : Nat) ∧ (((BT.node i l r).root : Nat) : Int) < (n : Int)) (∃ y : Int, v.cell? (q.add ((((BT.node i l r).root : Nat) : Int).toNat * 1)) = some (.int .i64 y) ∧ K y) := fun h hf hK =>
          h.sl.rdI (k := .i64) (by simp only [BT.root]; omega) (by simp only [BT.root]; omega) fun y hy => by
            rw [Int.toNat_natCast] at hy
            simp only [BT.root] at hy
            rw [hf] at hy
            obtain rfl : (f : Int) = y := by simpa using hy
            exact hK
        refine rd h62 hfU (rd h62 hfU ?_)
        refine nv_mk (y := ((f + l.nl : Nat) : Int)) (by rw [i64_id (by omega) (by omega)]; omega) ?_
        refine ArrK.pushD (j := 13) S_M h72 rfl (by simp only [maxLen]; omega) (by omega) fun a8 c8 g8 u3 u4 hk3 h8 hg8 hg80 ho4 => ⟨_, _, _, rfl, ?_⟩
        have hu3 := hu2.keptThen hk3
        have z3 := hk3.size
        have z4 := ho4.size
        have hu4 := hu3.only ho4 (by omega)
        have hb4 := (hb2.kept hk3).mod ho4 (by simp only [na]; omega)
        have h64 := (h62.kept hk3).mod ho4 (fun b h1 h2 => by omega)
        have h24 := (h22.kept hk3).mod ho4 (fun b h1 h2 => by omega)
        refine ⟨_, hb4.c6, ?_⟩
        rw [hl]
        refine rd h64 hfU ?_
        refine h64.wr (by omega) (by omega) (x := (f : Int)) rfl fun u5 h65 ho5 => ?_
        rw [Int.toNat_natCast] at h65
        have z5 := ho5.size
        have h8le := h8.le
        have h2le := h24.le
        have hu5 := hu4.only ho5 (.inr hW6)
        have hb5 := hb4.mod ho5 (by simp only [na]; omega)
        have h25 := h24.mod ho5 (fun b h1 h2 => by omega)
        have h85 := h8.mod ho5 (fun b h1 h2 => by omega)
        obtain ⟨nd1, nd2, nd3⟩ := List.nodup_append.1 hnd
        have nd4 : (i :: (l.pre ++ r.pre)).Nodup := nd1
        obtain ⟨nd5, nd6⟩ := List.nodup_cons.1 nd4
        obtain ⟨_, _, nd7⟩ := List.nodup_append.1 nd6
        have hil : i ≠ l.root := fun h => nd5 (by rw [h]; exact List.mem_append_left _ l.root_mem)
        have hir : i ≠ r.root := fun h => nd5 (by rw [h]; exact List.mem_append_right _ r.root_mem)
        have hlr : l.root ≠ r.root := nd7 _ l.root_mem _ r.root_mem
        have hfs : (first.set l.root (f : Int))[i]? = some (f : Int) := by rw [List.getElem?_set_ne (fun h => hil h.symm)]; exact hfU
        refine ⟨_, hb5.c7, ?_⟩
        rw [hr]
        refine rd h65 hfs ?_
        refine nv_mk (y := ((f + l.nl : Nat) : Int)) (by rw [i64_id (by omega) (by omega)]; omega) ?_
        refine h65.wr (by omega) (by omega) (x := ((f + l.nl : Nat) : Int)) rfl fun u6 h66 ho6 => ?_
        rw [Int.toNat_natCast] at h66
        have z6 := ho6.size
        have hu6 := hu5.only ho6 (.inr hW6)
        have h26' := h25.mod ho6 (fun b h1 h2 => by omega)
        have h86 := h85.mod ho6 (fun b h1 h2 => by omega)
        refine nv_succ (by omega) ?_
        have hol1 : (out ++ [(⟨(i : Nat), (f : Nat), (f + l.nl : Nat)⟩ : MkD)]).length = out.length + 1 := by simp
        have := refmarks_loop hG hTr hT h6B h2B h26 hW6 hend m (k + 1) ((l, f) :: (r, f + l.nl) :: Ts) (out ++ [⟨(i : Nat), (f : Nat), (f + l.nl : Nat)⟩]) _ u6 a8 c8 g8 (by omega) (by rw [hd]; simp [preM]) (fun x hx => ?_) (by rw [hout, hmc]; simp [BT.marks, marksS]) hu6 hWB (by omega) h66 h26' (by rw [hol1]; exact h86) (by omega)
        · rw [hol1] at this
          exact this
        · simp only [List.mem_cons] at hx
          rcases hx with h | h | h
          · subst h
            refine ⟨hIl, ?_, by simp only; omega⟩
            simp only
            rw [List.getElem?_set_ne (fun h => hlr h.symm), List.getElem?_set_self (by omega)]
          · subst h
            refine ⟨hIr, ?_, by simp only; omega⟩
            simp only
            rw [List.getElem?_set_self (by rw [List.length_set]; omega)]
          · obtain ⟨g1, g2', g3⟩ := hTs x (by simp [h])
            have hxm : x.1.root ∈ preM Ts := List.mem_flatMap.2 ⟨x, h, x.1.root_mem⟩
            have n1 : l.root ≠ x.1.root := nd3 _ (by simp [BT.pre, l.root_mem]) _ hxm
            have n2 : r.root ≠ x.1.root := nd3 _ (by simp [BT.pre, r.root_mem]) _ hxm
            refine ⟨g1, ?_, g3⟩
            rw [List.getElem?_set_ne n2, List.getElem?_set_ne n1]
            exact g2'
end
end Go.Mir

set_option maxRecDepth 100000
namespace Go.Mir
open Go Go.E Go.RowKit Go.Tr
section
variable {w w1 W : World} {p p2 : Addr} {o : Int} {a a1 : Option Addr} {n c n1 c1 : Nat} {F : Nat → Prop} {nodes : List ND} {xs : List Nat}
theorem refMarks_c (hG : Good F w a n c nodes) : E.CallsD Go.Proofs.Tryd.prog 23 #[vT o a n c] w fun v u => ∃ a' n' c', v = .tuple #[.slice a' n' c', .int .i64 (lvE nodes)] ∧ NewM w u a' n' c' (marksP nodes) := by
  refine thicketref13_Marks.calls ?_
  unfold thicketref13_Marks thicketref13_Marks.g0
  refine box2T fun w1 _ hT hk => ⟨_, hT.c0, _, _, _, hT.c1, ?_⟩
  refine E.CallsD.mono (refCount_c (o := o) (hG.kept hk)) fun v u ⟨hv, hku⟩ => ⟨_, _, hv, ?_⟩
  have hk1u := Kept.trans hk hku
  refine onNe (fun hne => ⟨_, _, _, rfl, ?_⟩) fun h0 => ?_
  · have : marksP nodes = [] := by unfold marksP; rw [if_neg hne]
    rw [this]
    exact NewM.none hk1u
  obtain ⟨hsh, _⟩ := lv_shape h0
  obtain ⟨_, hnl⟩ := lv_nl h0
  have hTr := treeP_spec hsh
  have hM : marksP nodes = (treeP nodes).marks 0 := by unfold marksP; rw [if_pos h0]
  have hGu := hG.kept hk1u
  have hTu := hT.kept hku
  have hn := hG.len
  have hmx := hG.max
  refine ⟨_, _, _, hTu.c1, ?_⟩
  refine Arr.make (en := enI) (x := 0) rfl (by omega) (by omega) (by omega) fun u2 h6 hk2 => ?_
  rw [Int.toNat_natCast] at h6 ⊢
  have hTu2 := hTu.kept hk2
  refine ⟨_, hTu2.c0, _, _, _, hTu2.c1, ?_⟩
  have hGu2 := hGu.kept hk2
  refine E.CallsD.mono (Order_c (o := o) hGu2 hTr) fun v u3 ⟨a3, c3, hv, hn3⟩ => ⟨_, _, _, hv, ?_⟩
  obtain ⟨g3, h3, hg3, hk3⟩ := hn3
  have z1 := hk1u.size
  have z2 := hk2.size
  have z3 := hk3.size
  have h3le := h3.le
  have h6le := h6.le
  have hpos := (treeP nodes).size_pos
  have hpl := (treeP nodes).pre_length
  have hsz := hTr.length
  have hns := (treeP nodes).nl_size
  have hg3' : u2.heap.size < g3 := by
    rcases hg3 with h | h
    · have := h3.pos (by omega); omega
    · exact h
  have hk03 := Kept.trans (Kept.trans hk1u hk2) hk3
  have hkt := Kept.trans hk2 hk3
  refine ⟨_, refmarks_loop (W := u) (B := u3.heap.size) (first := List.replicate n 0) hGu hTr hTu (by omega) (by omega) (by omega) (by omega) (fun w4 a' n' c' g hw hr hg => ⟨_, _, _, by rw [h0], g, by rw [hM]; exact hr, by omega, Kept.trans hk1u (From.kept hw)⟩) n 0 [(treeP nodes, 0)] [] u3 none 0 0 (by omega) (by simp [preM]) (fun x hx => ?_) (by simp [marksS]) (Kept.fr hkt) (by omega) (Nat.le_refl _) (h6.kept hk3) h3 (ArrK.nil _ _ _ _) (.inl rfl)⟩
  simp only [List.mem_singleton] at hx
  subst hx
  refine ⟨hTr.is, ?_, by simp only; omega⟩
  simp only [hTr.root]
  rw [List.getElem?_replicate, if_pos (by omega)]
  rfl
theorem refFalse_c (hG : Good F w a n c nodes) (hx : Sl enF w a1 n1 xs) : E.CallsD Go.Proofs.Tryd.prog 10 #[vT o a n c, .slice a1 n1 c1] w fun v u => ∃ a' n' c', v = .tuple #[.slice a' n' c', .int .i64 (falseE nodes xs.length)] ∧ NewM w u a' n' c' (falseP nodes xs) := by
  refine thicketref13_False.calls ?_
  unfold thicketref13_False thicketref13_False.g0
  have hxm := hx.len
  refine box2T fun w1 _ hT hk => ⟨_, hT.c0, _, _, _, hT.c1, ?_⟩
  refine E.CallsD.mono (refMarks_c (o := o) (hG.kept hk)) fun v u ⟨a', n', c', hv, hn⟩ => ⟨_, _, _, _, hv, ?_⟩
  have hku := Kept.trans hk hn.kept
  refine onNe (fun hne => ⟨_, _, _, by rw [falseE_bad hne], ?_⟩) fun h0 => ?_
  · rw [falseP_no (by rw [falseE_bad hne]; exact hne)]
    exact NewM.none hku
  have hml := marks_le hG.len hG.max
  have hnl := hn.len
  have hTu := hT.kept hn.kept
  refine ⟨_, hTu.c0, _, _, _, hTu.c1, ?_⟩
  refine E.CallsD.mono (refFits_c (o := o) (d := (n1 : Int)) (hG.kept hku) (fun i x hx => kd_of (treeP_spec (lv_shape h0).1) hx)) fun v u2 ⟨hv, hk2⟩ => ⟨_, hv, ?_⟩
  have hku2 := Kept.trans hku hk2
  cases hfit : fitsP nodes n1 with
  | false =>
    have e : falseE nodes xs.length = 72 := falseE_no h0 (by rw [← hxm]; exact hfit)
    refine ob_t ⟨none, 0, 0, by rw [e], ?_⟩
    rw [falseP_no (by rw [e]; decide)]
    exact NewM.none hku2
  | true =>
    have hE : falseE nodes xs.length = 0 := falseE_ok h0 (by rw [← hxm]; exact hfit)
    have hzx := hku2.size
    refine ob_f ?_
    exact ⟨n' + 1, reffalse_loop (w1 := u2) (F := F) (o := o) (ms := marksP nodes) (hG.kept hku2) (hTu.kept hk2) (hx.keep hku2) (hn.slk.keep hk2) (by omega) (marks_in h0 hfit) (fun y a'' n'' c'' g hy h hg => ⟨_, _, _, by rw [hE], g, by rw [falseP_ok hE]; exact h, by omega, Kept.trans hku2 (From.kept hy)⟩) n' 0 u2 none 0 0 0 (by omega) (From.refl _ _) (ArrK.nil _ _ _ _) (.inl rfl)⟩
end
end Go.Mir

set_option maxRecDepth 100000
namespace Go.Mir
open Go Go.E Go.RowKit Go.Tr
section
variable {w w1 W : World} {p p2 : Addr} {o : Int} {a a1 b : Option Addr} {n c n1 c1 m d : Nat} {F : Nat → Prop} {nodes : List ND} {xs : List Nat}
/-! ### two lists of marks, two lists of sets -/
theorem mpart0 (a b c : Int) (w : World) : (Go.part 3 #[.int .i64 a, .int .i64 b, .int .i64 c] 0).run Go.Proofs.Tryd.prog w = .ok (.int .i64 a) w := by kernel_rfl
theorem mpart1 (a b c : Int) (w : World) : (Go.part 3 #[.int .i64 a, .int .i64 b, .int .i64 c] 1).run Go.Proofs.Tryd.prog w = .ok (.int .i64 b) w := by kernel_rfl
theorem mpart2 (a b c : Int) (w : World) : (Go.part 3 #[.int .i64 a, .int .i64 b, .int .i64 c] 2).run Go.Proofs.Tryd.prog w = .ok (.int .i64 c) w := by kernel_rfl
theorem mflds (xs ys : Array Value) : Op.eqFields 9999 xs ys ((Go.Proofs.Tryd.prog).fieldsOf 44).toList = (do
      let a ← Go.part 3 xs 0
      let b ← Go.part 3 ys 0
      let r ← Op.equalIn 9999 3 a b
      if (!r) = true then pure false else do
      let a ← Go.part 3 xs 1
      let b ← Go.part 3 ys 1
      let r ← Op.equalIn 9999 3 a b
      if (!r) = true then pure false else do
      let a ← Go.part 3 xs 2
      let b ← Go.part 3 ys 2
      let r ← Op.equalIn 9999 3 a b
      if (!r) = true then pure false else pure true) := by kernel_rfl
theorem eqMark (x y z a b c : Int) (w : World) : (Op.equal 44 (.agg #[.int .i64 x, .int .i64 y, .int .i64 z]) (.agg #[.int .i64 a, .int .i64 b, .int .i64 c])).run Go.Proofs.Tryd.prog w = .ok (x == a && (y == b && z == c)) w := by
  unfold Op.equal
  rw [show Op.maxDepth = 9999 + 1 from rfl, run_equalIn_struct w 9999 44 _ _ (by kernel_rfl) (by kernel_rfl), mflds]
  have e : ∀ a b : Int, (Op.equalIn 9999 3 (.int .i64 a) (.int .i64 b)).run Go.Proofs.Tryd.prog w = .ok (a == b) w := fun a b => run_equalIn_int w 9998 3 _ .i64 a b (by kernel_rfl)
  simp only [Sem.run_bind, mpart0, mpart1, mpart2, Result.andThen_ok, e, Sem.run_ite, Sem.run_pure]
  cases x == a <;> cases y == b <;> cases z == c <;> rfl
theorem sameM_loop {R : Value → World → Prop} {l : List MkD} (h : SlK 3 enM w a n l) (h2 : SlK 3 enM w b n l) (hn : n ≤ 1099511627776) (hR : R (.bool true) w) :
    ∀ (k i : Nat), i + k = n → thicketref13_Same.l14 R (k + 1) a n c b n d n i w
  | 0, i, hi => by
    unfold thicketref13_Same.l14 thicketref13_Same.g14
    refine onDec_f (by omega) ?_
    exact hR
  | k + 1, i, hi => by
    unfold thicketref13_Same.l14 thicketref13_Same.g14
    refine onDec_t (by omega) ?_
    refine SlK.rdM h (by omega) (by omega) fun r hr => SlK.rdM h2 (by omega) (by omega) fun r2 hr2 => ⟨_, fun w => eqMark _ _ _ _ _ _ w, ?_⟩
    rw [hr] at hr2
    obtain rfl := Option.some.inj hr2
    rw [show (r.node == r.node && (r.frm == r.frm && r.to == r.to)) = true from by simp]
    refine ob_f ?_
    refine nv_succ (by omega) ?_
    exact sameM_loop h h2 hn hR k (i + 1) (by omega)
theorem sameM_yes {l : List MkD} (h : SlK 3 enM w a n l) (h2 : SlK 3 enM w b m l) (hn : n ≤ 1099511627776) : Pure Go.Proofs.Tryd.prog 16 #[.slice a n c, .slice b m d] w (.bool true) := by
  refine thicketref13_Same.calls (R := fun v' u => v' = _ ∧ Below w.heap.size w u) ?_
  unfold thicketref13_Same thicketref13_Same.g0
  have e1 := h.len
  have e2 := h2.len
  obtain rfl : n = m := by omega
  refine onNe_f (by omega) ?_
  exact ⟨n + 1, sameM_loop h h2 hn ⟨rfl, Below.refl _ _⟩ n 0 (by omega)⟩
theorem sets_loop {R : Value → World → Prop} {xss : List (List (BitVec 64))} (h : Sl2 enW w1 a n xss) (h2 : Sl2 enW w1 b n xss) (hn : n ≤ 1099511627776) (hm : ∀ xs ∈ xss, xs.length ≤ 16777216) (hR : ∀ u, Kept w1 u → R (.bool true) u) :
    ∀ (k i : Nat) (w : World), i + k = n → Kept w1 w → thicketref13_Sets.l14 R (k + 1) a n c b n d n i w
  | 0, i, w, hi, hw => by
    unfold thicketref13_Sets.l14 thicketref13_Sets.g14
    refine onDec_f (by omega) ?_
    exact hR w hw
  | k + 1, i, w, hi, hw => by
    unfold thicketref13_Sets.l14 thicketref13_Sets.g14
    refine onDec_t (by omega) ?_
    refine (h.keep hw).rdS (by omega) (by omega) fun xs a1 n1 c1 hx hs => (h2.keep hw).rdS (by omega) (by omega) fun xs2 a2 n2 c2 hx2 hs2 => ?_
    rw [hx] at hx2
    obtain rfl := Option.some.inj hx2
    have hxl := hm xs (List.mem_of_getElem? hx)
    have hnl := hs.len
    refine E.CallsD.mono (Go.Bi.Same_c hs hs2 (by omega)) fun v u ⟨hv, hk⟩ => ⟨_, hv, ?_⟩
    rw [decide_eq_true rfl]
    refine ob_f ?_
    refine nv_succ (by omega) ?_
    exact sets_loop h h2 hn hm hR k (i + 1) u (by omega) (Kept.trans hw hk)
theorem sets_yes {xss : List (List (BitVec 64))} (h : Sl2 enW w a n xss) (h2 : Sl2 enW w b m xss) (hn : n ≤ 1099511627776) (hm : ∀ xs ∈ xss, xs.length ≤ 16777216) : Pure Go.Proofs.Tryd.prog 26 #[.slice a n c, .slice b m d] w (.bool true) := by
  refine thicketref13_Sets.calls (R := fun v' u => v' = _ ∧ Below w.heap.size w u) ?_
  unfold thicketref13_Sets thicketref13_Sets.g0
  have e1 := h.len
  have e2 := h2.len
  obtain rfl : n = m := by omega
  refine onNe_f (by omega) ?_
  exact ⟨n + 1, sets_loop h h2 hn hm (fun u hu => ⟨rfl, hu⟩) n 0 w (by omega) (Kept.refl _)⟩
/-! ### the masks -/
theorem S_WW : SliceT Go.Proofs.Tryd.prog 53 30 1 24 := sliceT (by kernel_rfl)
/-- A mark's mask, of N leaves. -/
def mkW (N : Nat) (m : MkD) : List (BitVec 64) := Go.Bi.maskB N m.frm m.to
noncomputable def masksP (nodes : List ND) : List (List (BitVec 64)) := (marksP nodes).map (mkW (lvN nodes))
theorem marks_bd (h0 : lvE nodes = 0) : lvN nodes ≤ 4096 ∧ ∀ m ∈ marksP nodes, 0 ≤ m.frm ∧ m.frm < m.to ∧ m.to < (lvN nodes : Int) := by
  obtain ⟨e, h⟩ := lv_nl h0
  refine ⟨by omega, fun m hm => ?_⟩
  unfold marksP at hm
  rw [if_pos h0] at hm
  have := (treeP nodes).marks_in 0 m hm
  rw [e]
  omega
theorem mkW_len (N : Nat) (m : MkD) : (mkW N m).length = (N + 63) / 64 := by
  unfold mkW Go.Bi.maskB Go.Bi.nW Go.Bt.ofB
  simp
  omega
theorem masks_loop {R : Value → World → Prop} {a2 : Option Addr} {n2 c2 N : Nat} {ms : List MkD} (hms : SlK 3 enM w1 a2 n2 ms) (hm2 : n2 ≤ 2097152) (hN : N ≤ 1048576) (hin : ∀ m ∈ ms, 0 ≤ m.frm ∧ m.frm ≤ m.to ∧ m.to ≤ (N : Int))
    (hend : ∀ u a' n' c' l g, From w1.heap.size w1 u → OwnM enW 30 58 w1.heap.size u a' n' c' l g → l.map (·.2.1) = ms.map (mkW N) → R (.tuple #[.slice a' n' c', .int .i64 0]) u) :
    ∀ (m k : Nat) (w : World) (a8 : Option Addr) (n8 c8 g8 : Nat) (l : List (RW (BitVec 64))), k + m = n2 → From w1.heap.size w1 w → OwnM enW 30 58 w1.heap.size w a8 n8 c8 l g8 → l.map (·.2.1) = (ms.take k).map (mkW N) → masks_Masks.l20 R (m + 1) N a8 n8 c8 a2 n2 c2 n2 k w
  | 0, k, w, a8, n8, c8, g8, l, hk, hw, h8, hl => by
    unfold masks_Masks.l20 masks_Masks.g20
    refine onDec_f (by omega) ?_
    rw [List.take_of_length_le (by rw [← hms.len]; omega)] at hl
    exact hend w a8 n8 c8 l g8 hw h8 hl
  | m + 1, k, w, a8, n8, c8, g8, l, hk, hw, h8, hl => by
    unfold masks_Masks.l20 masks_Masks.g20
    refine onDec_t (by omega) ?_
    have hmsl := hms.len
    have hmw : SlK 3 enM w a2 n2 ms := hms.keep (From.kept hw)
    refine hmw.rdM (by omega) (by omega) fun mk hmk => ?_
    rw [Int.toNat_natCast] at hmk
    obtain ⟨i1, i2, i3⟩ := hin mk (List.mem_of_getElem? hmk)
    refine box3z (x := mk) fun u1 _ h3 hk1 => ⟨_, h3.c1, _, h3.c2, ?_⟩
    refine E.CallsD.mono (Go.Bi.Mask_ok (by omega) (by omega) i1 i2 i3 u1) fun v u2 ⟨a', c', hv, g', hA, hg', hk2⟩ => ⟨_, _, _, _, hv, ?_⟩
    have hk12 := Kept.trans hk1 hk2
    have hz := hw.size
    have hz1 := hk1.size
    have h8l := h8.len
    have hll : l.length = k := by have := congrArg List.length hl; simpa [List.length_take, show k ≤ ms.length by omega] using this
    refine OwnM.push (w0 := w) (s := ⟨a', _, c'⟩) S_WW (by decide) h8 hk12 hA (by omega) hz (by simp only [maxLen]; omega) (by omega) fun a9 c9 g9 u3 h9 hf => ⟨_, _, _, rfl, ?_⟩
    refine nv_succ (by omega) ?_
    refine masks_loop hms hm2 hN hin hend m (k + 1) u3 a9 (n8 + 1) c9 g9 _ (by omega) ((hw.keptThen hk12).then hf (fun _ _ h => h)) h9 ?_
    rw [take_snoc hmk, List.map_append, List.map_append, hl]
    rfl
theorem refmasks_loop {R : Value → World → Prop} {a2 : Option Addr} {n2 c2 N : Nat} {ms : List MkD} (hms : SlK 3 enM w1 a2 n2 ms) (hm2 : n2 ≤ 2097152) (hN : N ≤ 1048576) (hin : ∀ m ∈ ms, 0 ≤ m.frm ∧ m.frm ≤ m.to ∧ m.to ≤ (N : Int))
    (hend : ∀ u a' n' c' l g, From w1.heap.size w1 u → OwnM enW 30 58 w1.heap.size u a' n' c' l g → l.map (·.2.1) = ms.map (mkW N) → R (.tuple #[.slice a' n' c', .int .i64 0]) u) :
    ∀ (m k : Nat) (w : World) (a8 : Option Addr) (n8 c8 g8 : Nat) (l : List (RW (BitVec 64))), k + m = n2 → From w1.heap.size w1 w → OwnM enW 30 58 w1.heap.size w a8 n8 c8 l g8 → l.map (·.2.1) = (ms.take k).map (mkW N) → thicketref13_Masks.l20 R (m + 1) N a8 n8 c8 a2 n2 c2 n2 k w
  | 0, k, w, a8, n8, c8, g8, l, hk, hw, h8, hl => by
    unfold thicketref13_Masks.l20 thicketref13_Masks.g20
    refine onDec_f (by omega) ?_
    rw [List.take_of_length_le (by rw [← hms.len]; omega)] at hl
    exact hend w a8 n8 c8 l g8 hw h8 hl
  | m + 1, k, w, a8, n8, c8, g8, l, hk, hw, h8, hl => by
    unfold thicketref13_Masks.l20 thicketref13_Masks.g20
    refine onDec_t (by omega) ?_
    have hmsl := hms.len
    have hmw : SlK 3 enM w a2 n2 ms := hms.keep (From.kept hw)
    refine hmw.rdM (by omega) (by omega) fun mk hmk => ?_
    rw [Int.toNat_natCast] at hmk
    obtain ⟨i1, i2, i3⟩ := hin mk (List.mem_of_getElem? hmk)
    refine box3z (x := mk) fun u1 _ h3 hk1 => ⟨_, h3.c1, _, h3.c2, ?_⟩
    refine E.CallsD.mono (Go.Bi.refMask_ok (by omega) (by omega) i1 i2 i3 u1) fun v u2 ⟨a', c', hv, g', hA, hg', hk2⟩ => ⟨_, _, _, _, hv, ?_⟩
    have hk12 := Kept.trans hk1 hk2
    have hz := hw.size
    have hz1 := hk1.size
    have h8l := h8.len
    have hll : l.length = k := by have := congrArg List.length hl; simpa [List.length_take, show k ≤ ms.length by omega] using this
    refine OwnM.push (w0 := w) (s := ⟨a', _, c'⟩) S_WW (by decide) h8 hk12 hA (by omega) hz (by simp only [maxLen]; omega) (by omega) fun a9 c9 g9 u3 h9 hf => ⟨_, _, _, rfl, ?_⟩
    refine nv_succ (by omega) ?_
    refine refmasks_loop hms hm2 hN hin hend m (k + 1) u3 a9 (n8 + 1) c9 g9 _ (by omega) ((hw.keptThen hk12).then hf (fun _ _ h => h)) h9 ?_
    rw [take_snoc hmk, List.map_append, List.map_append, hl]
    rfl
theorem Masks_c (hG : Good F w a n c nodes) : E.CallsD Go.Proofs.Tryd.prog 24 #[vT o a n c] w fun v u => ∃ a' n' c' l g, v = .tuple #[.slice a' n' c', .int .i64 (lvE nodes)] ∧ OwnM enW 30 58 w.heap.size u a' n' c' l g ∧ l.map (·.2.1) = masksP nodes ∧ Kept w u := by
  refine masks_Masks.calls ?_
  unfold masks_Masks masks_Masks.g0
  refine box2T fun w1 _ hT hk => ⟨_, hT.c0, _, _, _, hT.c1, ?_⟩
  refine E.CallsD.mono (leaves_c (o := o) (hG.kept hk)) fun v u ⟨hv, hku⟩ => ⟨_, _, hv, ?_⟩
  have hk1u := Kept.trans hk hku
  refine onNe (fun hne => ⟨_, _, _, [], 0, rfl, OwnM.nil _ _ _ _ _, ?_, hk1u⟩) fun h0 => ?_
  · unfold masksP marksP; rw [if_neg hne]; rfl
  have hTu := hT.kept hku
  refine ⟨_, hTu.c0, _, _, _, hTu.c1, ?_⟩
  refine E.CallsD.mono (Marks_c (o := o) (hG.kept hk1u)) fun v u2 ⟨a', n', c', hv, hn⟩ => ⟨_, _, _, _, hv, ?_⟩
  obtain ⟨hb1, hb2⟩ := marks_bd h0
  have hml := marks_le hG.len hG.max
  have hnl := hn.len
  have hk2 := Kept.trans hk1u hn.kept
  have hz := hk2.size
  exact ⟨n' + 1, masks_loop (w1 := u2) (ms := marksP nodes) hn.slk (by omega) (by omega) (fun m hm => by have := hb2 m hm; omega) (fun x a3 n3 c3 l g hx hM hl => ⟨_, _, _, l, g, by rw [h0], hM.weak hz, hl, Kept.trans hk2 (From.kept hx)⟩) n' 0 u2 none 0 0 0 [] (by omega) (From.refl _ _) (OwnM.nil _ _ _ _ _) rfl⟩
theorem refMasks_c (hG : Good F w a n c nodes) : E.CallsD Go.Proofs.Tryd.prog 25 #[vT o a n c] w fun v u => ∃ a' n' c' l g, v = .tuple #[.slice a' n' c', .int .i64 (lvE nodes)] ∧ OwnM enW 30 58 w.heap.size u a' n' c' l g ∧ l.map (·.2.1) = masksP nodes ∧ Kept w u := by
  refine thicketref13_Masks.calls ?_
  unfold thicketref13_Masks thicketref13_Masks.g0
  refine box2T fun w1 _ hT hk => ⟨_, hT.c0, _, _, _, hT.c1, ?_⟩
  refine E.CallsD.mono (refMarks_c (o := o) (hG.kept hk)) fun v u ⟨a', n', c', hv, hn⟩ => ⟨_, _, _, _, hv, ?_⟩
  have hk1u := Kept.trans hk hn.kept
  refine onNe (fun hne => ⟨_, _, _, [], 0, rfl, OwnM.nil _ _ _ _ _, ?_, hk1u⟩) fun h0 => ?_
  · unfold masksP marksP; rw [if_neg hne]; rfl
  have hTu := hT.kept hn.kept
  refine ⟨_, hTu.c0, _, _, _, hTu.c1, ?_⟩
  refine E.CallsD.mono (refCount_c (o := o) (hG.kept hk1u)) fun v u2 ⟨hv, hku2⟩ => ⟨_, _, hv, ?_⟩
  obtain ⟨hb1, hb2⟩ := marks_bd h0
  have hml := marks_le hG.len hG.max
  have hnl := hn.len
  have hk2 := Kept.trans hk1u hku2
  have hz := hk2.size
  exact ⟨n' + 1, refmasks_loop (w1 := u2) (ms := marksP nodes) (hn.slk.keep hku2) (by omega) (by omega) (fun m hm => by have := hb2 m hm; omega) (fun x a3 n3 c3 l g hx hM hl => ⟨_, _, _, l, g, by rw [h0], hM.weak hz, hl, Kept.trans hk2 (From.kept hx)⟩) n' 0 u2 none 0 0 0 [] (by omega) (From.refl _ _) (OwnM.nil _ _ _ _ _) rfl⟩
end
end Go.Mir

set_option maxRecDepth 100000
namespace Go.Mir
open Go Go.E Go.RowKit Go.Tr
section
variable {w w1 W : World} {p p2 : Addr} {o : Int} {a a1 b : Option Addr} {n c n1 c1 m d : Nat} {F : Nat → Prop} {nodes : List ND} {xs : List Nat}
/-- The leaves that marks leave of N. -/
def reachB (N : Nat) (ms : List MkD) : List (BitVec 64) := Go.Bt.ofB (Go.Bi.nW N) fun i => decide ((i : Int) < N) && ms.all fun m => !(decide (m.frm ≤ (i : Int)) && decide ((i : Int) < m.to))
noncomputable def reachP (nodes : List ND) (xs : List Nat) : List (BitVec 64) := if falseE nodes xs.length = 0 then reachB (lvN nodes) (falseP nodes xs) else []
theorem reachB_len (N : Nat) (ms : List MkD) : (reachB N ms).length = Go.Bi.nW N := by simp [reachB, Go.Bt.ofB]
theorem reachB_nil (N : Nat) : reachB N [] = Go.Bi.fullB N := by
  unfold reachB Go.Bi.fullB
  exact Go.Bt.ofB_ext fun i _ => by simp
theorem reachB_snoc (N : Nat) (ms : List MkD) (x : MkD) : (reachB N ms).zipWith (· &&& ·) (Go.Bi.maskB N x.frm x.to) = reachB N (ms ++ [x]) := by
  unfold reachB Go.Bi.maskB
  refine Go.Bi.zip_ofB _ _ _ _ _ fun k => ?_
  rw [Go.Bt.word_and]
  congr 1
  funext i
  simp only [List.all_append, List.all_cons, List.all_nil, Bool.and_true]
  cases decide ((i : Int) < N) <;> simp
theorem reach_loop {R : Value → World → Prop} {a2 : Option Addr} {n2 c2 N : Nat} {ms : List MkD} (hms : SlK 3 enM w1 a2 n2 ms) (hm2 : n2 ≤ 2097152) (hN : N ≤ 1048576) (hin : ∀ m ∈ ms, 0 ≤ m.frm ∧ m.frm ≤ m.to ∧ m.to ≤ (N : Int))
    (hend : ∀ u a' c' g, From w1.heap.size w1 u → Arr enW 58 u a' (Go.Bi.nW N) c' (reachB N ms) g → fresh w1.heap.size g → R (.tuple #[.slice a' (Go.Bi.nW N) c', .int .i64 0]) u) :
    ∀ (m k : Nat) (w : World) (a8 : Option Addr) (c8 g8 : Nat), k + m = n2 → From w1.heap.size w1 w → Arr enW 58 w a8 (Go.Bi.nW N) c8 (reachB N (ms.take k)) g8 → fresh w1.heap.size g8 → masks_Reach.l20 R (m + 1) N a8 (Go.Bi.nW N) c8 a2 n2 c2 n2 k w
  | 0, k, w, a8, c8, g8, hk, hw, h8, hg => by
    unfold masks_Reach.l20 masks_Reach.g20
    refine onDec_f (by omega) ?_
    rw [List.take_of_length_le (by rw [← hms.len]; omega)] at h8
    exact hend w a8 c8 g8 hw h8 hg
  | m + 1, k, w, a8, c8, g8, hk, hw, h8, hg => by
    unfold masks_Reach.l20 masks_Reach.g20
    refine onDec_t (by omega) ?_
    have hmsl := hms.len
    have hmw : SlK 3 enM w a2 n2 ms := hms.keep (From.kept hw)
    refine hmw.rdM (by omega) (by omega) fun mk hmk => ?_
    rw [Int.toNat_natCast] at hmk
    obtain ⟨i1, i2, i3⟩ := hin mk (List.mem_of_getElem? hmk)
    refine box3z (x := mk) fun u1 _ h3 hk1 => ⟨_, h3.c1, _, h3.c2, ?_⟩
    refine E.CallsD.mono (Go.Bi.Mask_ok (by omega) (by omega) i1 i2 i3 u1) fun v u2 ⟨a', c', hv, g', hA, hg', hk2⟩ => ⟨_, _, _, _, hv, ?_⟩
    have hk12 := Kept.trans hk1 hk2
    have h82 := h8.kept hk12
    have hz1 := hk1.size
    have h8le := h8.le
    have hnW := Go.Bi.nW_le (n := (N : Int)) (by omega)
    refine E.CallsD.mono (Go.Bi.Meet_c (d := c') h82 (fun u hu => (hA.mod hu fun b h1 h2 => by have h2' : b + 1 = g8 := h2; omega).sl) (by omega)) fun v u3 ⟨hv, h83, ho⟩ => ⟨_, hv, ?_⟩
    rw [reachB_snoc, ← take_snoc hmk] at h83
    refine nv_succ (by omega) ?_
    exact reach_loop hms hm2 hN hin hend m (k + 1) u3 a8 c8 g8 (by omega) ((hw.keptThen hk12).only ho hg) h83 hg
theorem false_bd (h0 : lvE nodes = 0) : ∀ m ∈ falseP nodes xs, 0 ≤ m.frm ∧ m.frm < m.to ∧ m.to < (lvN nodes : Int) := by
  intro m hm
  unfold falseP at hm
  split at hm
  · exact (marks_bd h0).2 m (List.mem_filter.1 hm).1
  · cases hm
theorem falseE_lv {d : Int} (h : falseE nodes d = 0) : lvE nodes = 0 ∧ fitsP nodes d = true := by
  by_cases h0 : lvE nodes = 0
  · refine ⟨h0, ?_⟩
    cases hf : fitsP nodes d with
    | true => rfl
    | false => rw [falseE_no h0 hf] at h; cases h
  · rw [falseE_bad h0] at h; exact absurd h h0
theorem false_le (h : n = nodes.length) (hm : n ≤ 1048576) : (falseP nodes xs).length ≤ 4096 := by
  have := marks_le h hm
  unfold falseP
  split
  · have := List.length_filter_le (fun m : MkD => farAt nodes xs m.node.toNat) (marksP nodes); omega
  · simp
theorem Reach_c (hG : Good F w a n c nodes) (hx : Sl enF w a1 n1 xs) : E.CallsD Go.Proofs.Tryd.prog 11 #[vT o a n c, .slice a1 n1 c1] w fun v u => ∃ a' n' c', v = .tuple #[.slice a' n' c', .int .i64 (falseE nodes xs.length)] ∧ NewA enW 58 w u a' n' c' (reachP nodes xs) := by
  refine masks_Reach.calls ?_
  unfold masks_Reach masks_Reach.g0
  refine box2T fun w1 _ hT hk => ⟨_, hT.c0, _, _, _, hT.c1, ?_⟩
  refine E.CallsD.mono (False_c (o := o) (c1 := c1) (hG.kept hk) (hx.keep hk)) fun v u ⟨a', n', c', hv, hn⟩ => ⟨_, _, _, _, hv, ?_⟩
  have hku := Kept.trans hk hn.kept
  refine onNe (fun hne => ⟨_, _, _, rfl, 0, ?_, .inl rfl, hku⟩) fun h0 => ?_
  · have : reachP nodes xs = [] := by unfold reachP; rw [if_neg hne]
    rw [this]
    exact Arr.nil _ _ _
  have hTu := hT.kept hn.kept
  obtain ⟨hlv, hf⟩ := falseE_lv h0
  obtain ⟨hb1, _⟩ := marks_bd hlv
  have hR : reachP nodes xs = reachB (lvN nodes) (falseP nodes xs) := by unfold reachP; rw [if_pos h0]
  refine ⟨_, hTu.c0, _, _, _, hTu.c1, ?_⟩
  refine E.CallsD.mono (leaves_c (o := o) (hG.kept hku)) fun v u2 ⟨hv, hk2⟩ => ⟨_, _, hv, ?_⟩
  have hku2 := Kept.trans hku hk2
  refine E.CallsD.mono (Go.Bi.Full_ok (by omega) (by omega) u2) fun v u3 ⟨a3, c3, hv, g3, h3, hg3, hk3⟩ => ⟨_, _, _, _, hv, ?_⟩
  have hku3 := Kept.trans hku2 hk3
  have hfl := false_le (xs := xs) hG.len hG.max
  have hnl := hn.len
  have z2 := hku2.size
  exact ⟨n' + 1, reach_loop (w1 := u2) (ms := falseP nodes xs) (hn.slk.keep hk2) (by omega) (by omega) (fun m hm => by have := false_bd hlv m hm; omega) (fun x a' c' g hx h hg => ⟨_, _, _, by rw [h0], g, by rw [hR]; exact h, fresh_mono hg z2, Kept.trans hku2 (From.kept hx)⟩) n' 0 u3 a3 c3 g3 (by omega) (Kept.fr hk3) (by rw [List.take_zero, reachB_nil]; exact h3) (by unfold fresh; omega)⟩
/-! ### the document's -/
theorem less_at {N i : Nat} {ms : List MkD} {x : MkD} (h0 : 0 ≤ x.frm) (hi : x.frm ≤ i) (ht : x.to ≤ (N : Int)) (hl : (i : Int) < x.to) :
    Go.Bi.lessA (reachB N (ms ++ [⟨x.node, x.frm, i⟩])) i = (reachB N (ms ++ [⟨x.node, x.frm, (i + 1 : Nat)⟩]), 0) := by
  unfold Go.Bi.lessA
  have hin : Go.Bi.inW (reachB N (ms ++ [⟨x.node, x.frm, i⟩])) i = true := by
    unfold Go.Bi.inW
    rw [reachB_len]
    simp only [Bool.and_eq_true, decide_eq_true_eq]
    unfold Go.Bi.nW
    omega
  rw [if_pos hin, reachB_len]
  congr 1
  show _ = Go.Bt.ofB _ _
  refine Go.Bt.ofB_ext fun j hj => ?_
  unfold reachB
  rw [Go.Bt.bit_ofB, decide_eq_true hj, Bool.true_and]
  simp only [List.all_append, List.all_cons, List.all_nil, Bool.and_true, Int.toNat_natCast]
  rw [Bool.and_assoc, Bool.and_assoc]
  congr 2
  rw [Bool.eq_iff_iff]
  simp
  omega
theorem reachB_empty {N : Nat} {ms : List MkD} {x : MkD} {i : Int} : reachB N (ms ++ [⟨x.node, i, i⟩]) = reachB N ms := by
  unfold reachB
  refine Go.Bt.ofB_ext fun j _ => ?_
  have e : (decide (i ≤ (j : Int)) && decide ((j : Int) < i)) = false := by
    rw [Bool.and_eq_false_iff, decide_eq_false_iff_not, decide_eq_false_iff_not]
    omega
  simp only [List.all_append, List.all_cons, List.all_nil, Bool.and_true, e]
  simp
theorem refreach_in {R : Value → World → Prop} {p13 : Addr} {N : Nat} {x : MkD} {ms : List MkD} {b20 : Option Addr → Nat → Nat → Option Addr → Nat → Nat → Int → Int → World → Prop} {a2 : Option Addr} {n2 c2 : Nat} {x35 x36 : Int} (hN : N ≤ 1048576) (h0 : 0 ≤ x.frm) (ht : x.to ≤ (N : Int)) (h3 : At3 w1 p13 x) (h36 : 0 ≤ x36 ∧ x36 < 4611686018427387904)
    (hend : ∀ u a' c' g, Kept w1 u → Arr enW 58 u a' (Go.Bi.nW N) c' (reachB N (ms ++ [x])) g → b20 a' (Go.Bi.nW N) c' a2 n2 c2 x35 (x36 + 1) u) :
    ∀ (m i : Nat) (w : World) (a8 : Option Addr) (c8 g8 : Nat), (i : Int) + m = x.to → x.frm ≤ (i : Int) → Kept w1 w → Arr enW 58 w a8 (Go.Bi.nW N) c8 (reachB N (ms ++ [⟨x.node, x.frm, (i : Nat)⟩])) g8 → thicketref13_Reach.l34 R b20 (m + 1) a8 (Go.Bi.nW N) c8 (some p13) i a2 n2 c2 x35 x36 w
  | 0, i, w, a8, c8, g8, hi, hf, hw, h8 => by
    unfold thicketref13_Reach.l34 thicketref13_Reach.g34
    refine optN_mk ⟨_, (h3.kept hw).c2, ?_⟩
    refine onDec_f (by omega) ?_
    refine nv_i64 (by omega) (by omega) ?_
    refine hend w a8 c8 g8 hw ?_
    have e1 : ((i : Nat) : Int) = x.to := by omega
    have e : (⟨x.node, x.frm, (i : Nat)⟩ : MkD) = x := by rw [e1]
    rw [e] at h8
    exact h8
  | m + 1, i, w, a8, c8, g8, hi, hf, hw, h8 => by
    unfold thicketref13_Reach.l34 thicketref13_Reach.g34
    refine optN_mk ⟨_, (h3.kept hw).c2, ?_⟩
    refine onDec_t (by omega) ?_
    have hnW := Go.Bi.nW_le (n := (N : Int)) (by omega)
    refine E.CallsD.mono (Go.Bi.Put_c false h8.sl (by omega) (by omega)) fun v u ⟨a', n', c', hv, hn⟩ => ⟨_, _, _, _, hv, ?_⟩
    simp only [cond_false] at hn
    rw [less_at h0 hf ht (by omega)] at hn
    have hl := hn.len
    rw [reachB_len] at hl
    subst hl
    obtain ⟨g', hA, _, hk⟩ := hn
    refine nv_succ (by omega) ?_
    exact refreach_in hN h0 ht h3 h36 hend m (i + 1) u a' c' g' (by omega) (by omega) (Kept.trans hw hk) hA
theorem refreach_loop {R : Value → World → Prop} {a2 : Option Addr} {n2 c2 N : Nat} {ms : List MkD} (hms : SlK 3 enM w1 a2 n2 ms) (hm2 : n2 ≤ 2097152) (hN : N ≤ 1048576) (hin : ∀ m ∈ ms, 0 ≤ m.frm ∧ m.frm ≤ m.to ∧ m.to ≤ (N : Int))
    (hend : ∀ u a' c' g, Kept w1 u → Arr enW 58 u a' (Go.Bi.nW N) c' (reachB N ms) g → R (.tuple #[.slice a' (Go.Bi.nW N) c', .int .i64 0]) u) :
    ∀ (m k : Nat) (w : World) (a8 : Option Addr) (c8 g8 : Nat), k + m = n2 → Kept w1 w → Arr enW 58 w a8 (Go.Bi.nW N) c8 (reachB N (ms.take k)) g8 → thicketref13_Reach.l20 R (m + 1) a8 (Go.Bi.nW N) c8 a2 n2 c2 n2 k w
  | 0, k, w, a8, c8, g8, hk, hw, h8 => by
    unfold thicketref13_Reach.l20 thicketref13_Reach.g20
    refine onDec_f (by omega) ?_
    rw [List.take_of_length_le (by rw [← hms.len]; omega)] at h8
    exact hend w a8 c8 g8 hw h8
  | m + 1, k, w, a8, c8, g8, hk, hw, h8 => by
    unfold thicketref13_Reach.l20 thicketref13_Reach.g20
    refine onDec_t (by omega) ?_
    have hmsl := hms.len
    have hmw : SlK 3 enM w a2 n2 ms := hms.keep hw
    refine hmw.rdM (by omega) (by omega) fun mk hmk => ?_
    rw [Int.toNat_natCast] at hmk
    obtain ⟨i1, i2, i3⟩ := hin mk (List.mem_of_getElem? hmk)
    refine box3z (x := mk) fun u1 _ h3 hk1 => ⟨_, h3.c1, ?_⟩
    have e0 : ((mk.frm.toNat : Nat) : Int) = mk.frm := by omega
    have hI := refreach_in (R := R) (b20 := thicketref13_Reach.l20 R (m + 1)) (a2 := a2) (n2 := n2) (c2 := c2) (x35 := (n2 : Int)) (x36 := (k : Int)) (ms := ms.take k) hN i1 i3 h3 (by omega) (fun u a' c' g hu hA => by
      rw [← take_snoc hmk] at hA
      exact refreach_loop hms hm2 hN hin hend m (k + 1) u a' c' g (by omega) (Kept.trans (Kept.trans hw hk1) hu) hA) (mk.to - mk.frm).toNat mk.frm.toNat u1 a8 c8 g8 (by omega) (by omega) (Kept.refl _) (by rw [e0, reachB_empty]; exact h8.kept hk1)
    rw [e0] at hI
    exact ⟨_, hI⟩
theorem refReach_c (hG : Good F w a n c nodes) (hx : Sl enF w a1 n1 xs) : E.CallsD Go.Proofs.Tryd.prog 12 #[vT o a n c, .slice a1 n1 c1] w fun v u => ∃ a' n' c', v = .tuple #[.slice a' n' c', .int .i64 (falseE nodes xs.length)] ∧ Sl enW u a' n' (reachP nodes xs) ∧ Kept w u := by
  refine thicketref13_Reach.calls ?_
  unfold thicketref13_Reach thicketref13_Reach.g0
  refine box2T fun w1 _ hT hk => ⟨_, hT.c0, _, _, _, hT.c1, ?_⟩
  refine E.CallsD.mono (refFalse_c (o := o) (c1 := c1) (hG.kept hk) (hx.keep hk)) fun v u ⟨a', n', c', hv, hn⟩ => ⟨_, _, _, _, hv, ?_⟩
  have hku := Kept.trans hk hn.kept
  refine onNe (fun hne => ⟨_, _, _, rfl, ?_, hku⟩) fun h0 => ?_
  · have : reachP nodes xs = [] := by unfold reachP; rw [if_neg hne]
    rw [this]
    exact (Arr.nil enW 58 u).sl
  have hTu := hT.kept hn.kept
  obtain ⟨hlv, hf⟩ := falseE_lv h0
  obtain ⟨hb1, _⟩ := marks_bd hlv
  have hR : reachP nodes xs = reachB (lvN nodes) (falseP nodes xs) := by unfold reachP; rw [if_pos h0]
  refine ⟨_, hTu.c0, _, _, _, hTu.c1, ?_⟩
  refine E.CallsD.mono (refCount_c (o := o) (hG.kept hku)) fun v u2 ⟨hv, hk2⟩ => ⟨_, _, hv, ?_⟩
  have hku2 := Kept.trans hku hk2
  refine E.CallsD.mono (Go.Bi.refFull_ok (by omega) (by omega) u2) fun v u3 ⟨a3, c3, hv, g3, h3, hg3, hk3⟩ => ⟨_, _, _, _, hv, ?_⟩
  have hku3 := Kept.trans hku2 hk3
  have hfl := false_le (xs := xs) hG.len hG.max
  have hnl := hn.len
  exact ⟨n' + 1, refreach_loop (w1 := u3) (ms := falseP nodes xs) ((hn.slk.keep hk2).keep hk3) (by omega) (by omega) (fun m hm => by have := false_bd hlv m hm; omega) (fun x a' c' g hx h => ⟨_, _, _, by rw [h0], by rw [hR]; exact h.sl, Kept.trans hku3 hx⟩) n' 0 u3 a3 c3 g3 (by omega) (Kept.refl _) (by rw [List.take_zero, reachB_nil]; exact h3)⟩
end
end Go.Mir

set_option maxRecDepth 100000
namespace Go.Mir
open Go Go.E Go.RowKit Go.Tr
section
variable {w w1 W : World} {p p2 : Addr} {o : Int} {a a1 b : Option Addr} {n c n1 c1 m d : Nat} {F : Nat → Prop} {nodes : List ND} {xs : List Nat}
theorem goes_two {x : ND} {f : Nat} (hi : x.inner = true) (hm : x.missing = 1 ∨ x.missing = 2) : goesP x f = 1 ∨ goesP x f = 2 := by
  unfold goesP
  unfold ND.inner at hi
  by_cases k2 : x.kind = 2
  · rw [if_pos k2]
    split
    · exact hm
    · split <;> omega
  · rw [if_neg k2]
    by_cases k3 : x.kind = 3
    · rw [if_pos k3]
      split
      · exact hm
      · split <;> omega
    · simp [k2, k3] at hi
theorem falseE_way {d : Int} (h : falseE nodes d = 0) : wayE nodes d = 0 := by
  obtain ⟨h0, hf⟩ := falseE_lv h
  exact wayE_ok (lv_shape h0).1 hf
theorem low_reach (h : falseE nodes xs.length = 0) : Go.Bt.low (reachP nodes xs) = leafK nodes xs := by
  have hw := falseE_way h
  obtain ⟨h0, hfit⟩ := falseE_lv h
  obtain ⟨hsh, _⟩ := lv_shape h0
  have hTr := treeP_spec hsh
  obtain ⟨eN, hnl⟩ := lv_nl h0
  obtain ⟨k, hk1, hk2, _⟩ := leaf_facts hw
  have hM : marksP nodes = (treeP nodes).marks 0 := by unfold marksP; rw [if_pos h0]
  have hR : reachP nodes xs = reachB (lvN nodes) (falseP nodes xs) := by unfold reachP; rw [if_pos h]
  have e1 := (treeP nodes).eidx_get (goesAt nodes xs)
  have e2 := (treeP nodes).eidx_lt (goesAt nodes xs)
  have hnd : (thoseP nodes false).Nodup := by
    unfold thoseP
    rw [if_pos hsh]
    exact hTr.nodup.sublist (List.filter_sublist)
  rw [← thoseP_leaves hsh] at e1
  have hkl := (List.getElem?_eq_some_iff.1 hk2).1
  obtain rfl : k = (treeP nodes).eidx (goesAt nodes xs) := (List.getElem?_inj hkl hnd).1 (by rw [hk2, e1]; rfl)
  rw [hk1, hR]
  have far : ∀ m ∈ (treeP nodes).marks 0, farAt nodes xs m.node.toNat = !goesAt nodes xs m.node.toNat := by
    intro m hm
    obtain ⟨i, x, h1, h2, h3⟩ := mark_node hTr.is hm
    obtain ⟨_, _, _, _, _, _, b7, _⟩ := okNode_inner (hTr.right.ok i x h2) h3
    unfold farAt goesAt
    rw [h1, Int.toNat_natCast, h2]
    show (goesP x (xs.getD x.feature.toNat 0) == 2) = !(goesP x (xs.getD x.feature.toNat 0) == 1)
    rcases goes_two (f := xs.getD x.feature.toNat 0) h3 b7 with e | e <;> rw [e] <;> rfl
  refine Go.Bt.low_at ?_ fun j hj => ?_
  · unfold reachB
    rw [Go.Bt.bit_ofB, falseP_ok h, hM]
    have : (treeP nodes).eidx (goesAt nodes xs) < 64 * Go.Bi.nW (lvN nodes) := by unfold Go.Bi.nW; omega
    rw [decide_eq_true this, decide_eq_true (by omega), Bool.true_and, Bool.true_and, List.all_eq_true]
    intro m hm
    obtain ⟨hm1, hm2⟩ := List.mem_filter.1 hm
    have := (treeP nodes).marks_keep (goesAt nodes xs) 0 m hm1 (by have := far m hm1; rw [hm2] at this; cases hg : goesAt nodes xs m.node.toNat with
      | false => rfl
      | true => rw [hg] at this; cases this)
    rw [Nat.zero_add] at this
    simp only [Bool.not_eq_true', Bool.and_eq_false_iff, decide_eq_false_iff_not]
    omega
  · unfold reachB
    rw [Go.Bt.bit_ofB, falseP_ok h, hM]
    obtain ⟨m, hm, hc, hb⟩ := (treeP nodes).marks_cut (goesAt nodes xs) 0 j (by omega) (by omega)
    have : (((treeP nodes).marks 0).filter fun m => farAt nodes xs m.node.toNat).all (fun m => !(decide (m.frm ≤ (j : Int)) && decide ((j : Int) < m.to))) = false := by
      rw [List.all_eq_false]
      exact ⟨m, List.mem_filter.2 ⟨hm, by rw [far m hm, hc]; rfl⟩, by simp; omega⟩
    rw [this]
    simp
noncomputable def exK (nodes : List ND) (xs : List Nat) : Int := if falseE nodes xs.length = 0 then leafK nodes xs else 0
noncomputable def exV (nodes : List ND) (xs : List Nat) : Int := if falseE nodes xs.length = 0 then leafV nodes xs else 0
theorem Exit_c (hTab : Go.Bi.Tab w) (hG : Good F w a n c nodes) (hx : Sl enF w a1 n1 xs) : Pure Go.Proofs.Tryd.prog 13 #[vT o a n c, .slice a1 n1 c1] w (.tuple #[.int .i64 (exK nodes xs), .int .i64 (exV nodes xs), .int .i64 (falseE nodes xs.length)]) := by
  refine masks_Exit.calls (R := fun v' u => v' = _ ∧ Below w.heap.size w u) ?_
  unfold masks_Exit masks_Exit.g0
  refine box2T fun w1 _ hT hk => ⟨_, hT.c0, _, _, _, hT.c1, ?_⟩
  refine E.CallsD.mono (Reach_c (o := o) (c1 := c1) (hG.kept hk) (hx.keep hk)) fun v u ⟨a', n', c', hv, hn⟩ => ⟨_, _, _, _, hv, ?_⟩
  have hku := Kept.trans hk hn.kept
  refine onNe (fun hne => ⟨?_, hku⟩) fun h0 => ?_
  · unfold exK exV
    rw [if_neg hne, if_neg hne]
  have hTu := hT.kept hn.kept
  have hw := falseE_way h0
  obtain ⟨k, hk1, hk2, x, hx1, hx2, hx3⟩ := leaf_facts hw
  refine ⟨_, hTu.c0, _, _, _, hTu.c1, ?_⟩
  refine E.CallsD.mono (Leaves_c (o := o) (hG.kept hku)) fun v u2 ⟨a3, n3, c3, hv, h3⟩ => ⟨_, _, _, _, hv, ?_⟩
  have hku2 := Kept.trans hku h3.kept
  have hnl := (hn.then h3.kept).sl.len
  obtain ⟨hlv, _⟩ := falseE_lv h0
  obtain ⟨hb1, _⟩ := marks_bd hlv
  have hR : reachP nodes xs = reachB (lvN nodes) (falseP nodes xs) := by unfold reachP; rw [if_pos h0]
  have hnW := Go.Bi.nW_le (n := (lvN nodes : Int)) (by omega)
  refine E.CallsD.mono (Go.Bi.Lowest_c (hTab.kept hku2) (hn.then h3.kept).sl (by rw [hnl, hR, reachB_len]; omega)) fun v u3 ⟨hv, hk3⟩ => ⟨_, hv, ?_⟩
  rw [low_reach h0, hk1]
  have hku3 := Kept.trans hku2 hk3
  refine ⟨_, _, _, (hTu.kept (Kept.trans h3.kept hk3)).c1, ?_⟩
  have hkl := (List.getElem?_eq_some_iff.1 hk2).1
  have h3l := h3.len
  rw [natL_length] at h3l
  refine (h3.sl.keep hk3).rdI (k := .i64) (by omega) (by omega) fun y hy => ?_
  rw [Int.toNat_natCast, natL_get hk2] at hy
  obtain rfl : ((endP nodes xs : Nat) : Int) = y := by simpa using hy
  have hel := (List.getElem?_eq_some_iff.1 hx1).1
  have hn' := hG.len
  refine (hG.kept hku3).ls.rdF (by omega) (by omega) fun q x' a5 n5 c5 hx' _ h8x => ⟨_, h8x.c1, ?_⟩
  rw [Int.toNat_natCast, hx1] at hx'
  obtain rfl : x = x' := by simpa using hx'
  refine ⟨?_, hku3⟩
  unfold exK exV
  rw [if_pos h0, if_pos h0, hk1, hx3, h0]
theorem refExit_c (hG : Good F w a n c nodes) (hx : Sl enF w a1 n1 xs) : Pure Go.Proofs.Tryd.prog 14 #[vT o a n c, .slice a1 n1 c1] w (.tuple #[.int .i64 (exK nodes xs), .int .i64 (exV nodes xs), .int .i64 (falseE nodes xs.length)]) := by
  refine thicketref13_Exit.calls (R := fun v' u => v' = _ ∧ Below w.heap.size w u) ?_
  unfold thicketref13_Exit thicketref13_Exit.g0
  refine box2T fun w1 _ hT hk => ⟨_, hT.c0, _, _, _, hT.c1, ?_⟩
  refine E.CallsD.mono (refReach_c (o := o) (c1 := c1) (hG.kept hk) (hx.keep hk)) fun v u ⟨a', n', c', hv, hn, hkn⟩ => ⟨_, _, _, _, hv, ?_⟩
  have hku := Kept.trans hk hkn
  refine onNe (fun hne => ⟨?_, hku⟩) fun h0 => ?_
  · unfold exK exV
    rw [if_neg hne, if_neg hne]
  have hTu := hT.kept hkn
  have hw := falseE_way h0
  obtain ⟨k, hk1, hk2, x, hx1, hx2, hx3⟩ := leaf_facts hw
  refine ⟨_, hTu.c0, _, _, _, hTu.c1, ?_⟩
  refine E.CallsD.mono (refLeaves_c (o := o) (hG.kept hku)) fun v u2 ⟨a3, n3, c3, hv, h3⟩ => ⟨_, _, _, _, hv, ?_⟩
  have hku2 := Kept.trans hku h3.kept
  have hnl := hn.len
  obtain ⟨hlv, _⟩ := falseE_lv h0
  obtain ⟨hb1, _⟩ := marks_bd hlv
  have hR : reachP nodes xs = reachB (lvN nodes) (falseP nodes xs) := by unfold reachP; rw [if_pos h0]
  have hnW := Go.Bi.nW_le (n := (lvN nodes : Int)) (by omega)
  refine E.CallsD.mono (Go.Bi.refLowest_c (hn.keep h3.kept) (by rw [hnl, hR, reachB_len]; omega)) fun v u3 ⟨hv, hk3⟩ => ⟨_, hv, ?_⟩
  rw [low_reach h0, hk1]
  have hku3 := Kept.trans hku2 hk3
  refine ⟨_, _, _, (hTu.kept (Kept.trans h3.kept hk3)).c1, ?_⟩
  have hkl := (List.getElem?_eq_some_iff.1 hk2).1
  have h3l := h3.len
  rw [natL_length] at h3l
  refine (h3.sl.keep hk3).rdI (k := .i64) (by omega) (by omega) fun y hy => ?_
  rw [Int.toNat_natCast, natL_get hk2] at hy
  obtain rfl : ((endP nodes xs : Nat) : Int) = y := by simpa using hy
  have hel := (List.getElem?_eq_some_iff.1 hx1).1
  have hn' := hG.len
  refine (hG.kept hku3).ls.rdF (by omega) (by omega) fun q x' a5 n5 c5 hx' _ h8x => ⟨_, h8x.c1, ?_⟩
  rw [Int.toNat_natCast, hx1] at hx'
  obtain rfl : x = x' := by simpa using hx'
  refine ⟨?_, hku3⟩
  unfold exK exV
  rw [if_pos h0, if_pos h0, hk1, hx3, h0]
end
end Go.Mir

set_option maxRecDepth 100000
namespace Go.Mir
open Go Go.E Go.RowKit Go.Tr
section
variable {w w1 u W : World} {a a1 b : Option Addr} {n c n1 c1 m d : Nat} {F : Nat → Prop} {nodes : List ND} {xs : List Nat}
/-! ### the document's example -/
theorem smp_lv : lvE sampleN = 0 := by
  rw [(lv_ok (nodes := sampleN) (by rw [sample_shape]) (by rw [smp_those]; decide)).1]
theorem smp_lvN : lvN sampleN = 3 := by
  rw [(lv_ok (nodes := sampleN) (by rw [sample_shape]) (by rw [smp_those]; decide)).2, smp_those]
  rfl
def smpM : List MkD := [⟨0, 0, 2⟩, ⟨2, 0, 1⟩]
theorem smp_marks : marksP sampleN = smpM := by
  unfold marksP
  rw [if_pos smp_lv, sample_tree]
  decide +kernel
def x6 : List Nat := [4611686018427387904, 4603579539098121011]
def x0 : List Nat := [4611686018427387904, 0]
theorem smp_f6 : falseE sampleN x6.length = 0 := falseE_ok smp_lv (by decide +kernel)
theorem smp_f0 : falseE sampleN x0.length = 0 := falseE_ok smp_lv (by decide +kernel)
theorem smp_end6 : endP sampleN x6 = 1 := by unfold endP; rw [sample_tree]; decide +kernel
theorem smp_exK : exK sampleN x6 = 2 := by
  unfold exK leafK
  rw [if_pos smp_f6, if_pos (falseE_way smp_f6), smp_end6, smp_those]
  decide +kernel
theorem smp_exV : exV sampleN x6 = 30 := by
  unfold exV leafV
  rw [if_pos smp_f6, if_pos (falseE_way smp_f6), smp_end6]
  decide +kernel
theorem smp_reach : reachP sampleN x0 = [6#64] := by
  unfold reachP
  rw [if_pos smp_f0, falseP_ok smp_f0, smp_marks, smp_lvN]
  decide +kernel
theorem bool_true' {b : Bool} (h : Value.bool b = .bool true) : b = true := by injection h
theorem lives_c (hTab : Go.Bi.Tab w) : Pure Go.Proofs.Tryd.prog 15 #[] w (.bool true) := by
  refine thicketlaw13_lives.calls (R := fun v' u => v' = _ ∧ Below w.heap.size w u) ?_
  unfold thicketlaw13_lives thicketlaw13_lives.g0
  have h1 := Arr.new enI 3 w [1, 3] #[.int .i64 1, .int .i64 3] rfl (by simp [maxLen])
  have k1 := Kept.new w (.cells #[.int .i64 1, .int .i64 3] 3)
  refine nw_mk ?_
  obtain ⟨w2, hw2⟩ : ∃ w2, w.alloc (.cells #[.int .i64 1, .int .i64 3] 3) = w2 := ⟨_, rfl⟩
  rw [hw2] at h1 k1 ⊢
  have s1 : w2.heap.size = w.heap.size + 1 := by rw [← hw2]; simp
  show nw (w2.alloc (.cells ((sampleH (some (na w))).flatMap enH).toArray 49)) _
  have b2 := Blk.new w2 ((sampleH (some (na w))).flatMap enH).toArray 49
  have k2 := Kept.new w2 (.cells ((sampleH (some (na w))).flatMap enH).toArray 49)
  obtain ⟨w3, hw3⟩ : ∃ w3, w2.alloc (.cells ((sampleH (some (na w))).flatMap enH).toArray 49) = w3 := ⟨_, rfl⟩
  rw [hw3] at b2 k2 ⊢
  have s2 : w3.heap.size = w2.heap.size + 1 := by rw [← hw3]; simp
  refine nw_mk ?_
  have hls : Ls tN (inW w3) w3 (some (na w2)) 5 5 sampleN := Ls_of (l := sampleH (some (na w))) b2 (show w2.heap.size < w3.heap.size by omega) (fun x hx => by
    simp only [sampleH, List.mem_cons, List.not_mem_nil, or_false] at hx
    rcases hx with h | h | h | h | h <;> subst h
    · exact Ls.nil _ _ _ _ _
    · exact Ls.nil _ _ _ _ _
    · exact ((h1.kept k2).ls (h1 := fun _ => rfl)).mono fun b hb => by show b < _; omega
    · exact Ls.nil _ _ _ _ _
    · exact Ls.nil _ _ _ _ _) 5 rfl
  have hG3 : Good (inW w3) w3 (some (na w2)) 5 5 sampleN := ⟨hls, fun b hb => hb, by decide, smp_short⟩
  have k3 := Kept.trans k1 k2
  refine box2Tz fun w4 _ hT hk4 => ⟨_, hT.c0, _, _, _, hT.c1, ?_⟩
  have k4 := Kept.trans k3 hk4
  refine E.CallsD.mono (Marks_c (o := 0) (hG3.kept hk4)) fun v u5 ⟨a5, n5, c5, hv, h5⟩ => ⟨_, _, _, _, hv, ?_⟩
  have k45 := Kept.trans hk4 h5.kept
  have k5 := Kept.trans k4 h5.kept
  have hT5 := hT.kept h5.kept
  refine ⟨_, hT5.c0, _, _, _, hT5.c1, ?_⟩
  have hx6 := Arr.new enF 46 u5 x6 #[.float .f64 4611686018427387904, .float .f64 4603579539098121011] rfl (by simp [maxLen, x6])
  have kx6 := Kept.new u5 (.cells #[.float .f64 4611686018427387904, .float .f64 4603579539098121011] 46)
  refine nw_mk ?_
  refine E.CallsD.mono (Exit_c (o := 0) (c1 := 2) (hTab.kept (Kept.trans k5 kx6)) (hG3.kept (Kept.trans k45 kx6)) hx6.sl) fun v u6 ⟨hv, hk6⟩ => ⟨_, _, _, hv, ?_⟩
  have k6x := Kept.trans kx6 hk6
  have k46 := Kept.trans k45 k6x
  have k6 := Kept.trans k5 k6x
  have hT6 := hT5.kept k6x
  refine ⟨_, hT6.c0, _, _, _, hT6.c1, ?_⟩
  have hx0 := Arr.new enF 46 u6 x0 #[.float .f64 4611686018427387904, .float .f64 0] rfl (by simp [maxLen, x0])
  have kx0 := Kept.new u6 (.cells #[.float .f64 4611686018427387904, .float .f64 0] 46)
  refine nw_mk ?_
  refine E.CallsD.mono (Reach_c (o := 0) (c1 := 2) (hG3.kept (Kept.trans k46 kx0)) hx0.sl) fun v u7 ⟨a7, n7, c7, hv, h7⟩ => ⟨_, _, _, _, hv, ?_⟩
  have k7x := Kept.trans kx0 h7.kept
  have k7 := Kept.trans k6 k7x
  refine onEq_t smp_lv ?_
  have hm := ArrK.new (k := 3) (en := enM) enM_len 44 u7 smpM #[.int .i64 0, .int .i64 0, .int .i64 2, .int .i64 2, .int .i64 0, .int .i64 1] rfl (by simp [maxLen, smpM])
  have km := Kept.new u7 (.cells #[.int .i64 0, .int .i64 0, .int .i64 2, .int .i64 2, .int .i64 0, .int .i64 1] 44)
  refine nw_mk ?_
  have h5s := h5.slk
  rw [smp_marks] at h5s
  have h5l := h5s.len
  refine E.CallsD.mono (sameM_yes (c := c5) (d := 2) (h5s.keep (Kept.trans (Kept.trans k6x k7x) km)) (hm.slk enM_len (by omega)) (by rw [h5l]; decide)) fun v u8 ⟨hv, hk8⟩ => ⟨_, hv, ?_⟩
  refine ob_t (onEq_t smp_f6 (onEq_t smp_exK (onEq_t smp_exV (onEq_t smp_f0 ?_))))
  have k78 := Kept.trans km hk8
  have h7s := (h7.then k78).sl
  rw [smp_reach] at h7s
  have h7l := h7s.len
  refine onEq_t (by rw [h7l]; rfl) ?_
  refine h7s.rdW (i := 0) (fun _ => rfl) (by omega) (by rw [h7l]; decide) fun x hx => ?_
  obtain rfl : (6#64) = x := by simpa using hx
  exact ⟨rfl, Kept.trans k7 k78⟩
end
end Go.Mir
