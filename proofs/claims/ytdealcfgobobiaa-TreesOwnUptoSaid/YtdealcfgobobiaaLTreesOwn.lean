/- Part of a proof of laws of the seat Ytdealcfgobobiaa: functions' weakest preconditions, each checked by the kernel, contracts out of them, plain lemmas; no conditions. -/
import Derived.Test.YtdealcfgobobiaaTE
import Derived.Test.YtdealcfgobobiaaEC
import Derived.Test.YtdealcfgobobiaaTLOwn
set_option linter.unusedVariables false
set_option linter.unusedSimpArgs false
set_option maxRecDepth 100000
namespace Go.Mir
open Go Go.E Go.RowKit Go.Tr
/-! ### an ensemble that is written over -/
def layT : Lay := fun e => if e = 33 then [none, some 27] else if e = 27 then [none, none, none, none, some 3, none, none, none] else [none]
def lvT (e : Nat) : Nat := if e = 46 then 3 else if e = 33 then 2 else if e = 27 then 1 else 0
theorem layT_tree : layT 33 = [none, some 27] := rfl
theorem layT_node : layT 27 = [none, none, none, none, some 3, none, none, none] := rfl
theorem layT_lev : Lev layT lvT := by
  intro e j e' h
  unfold layT at h
  split at h
  · rename_i he
    subst he
    rcases j with _ | _ | j
    · cases h
    · cases h; decide
    · cases h
  · split at h
    · rename_i he
      subst he
      rcases j with _ | _ | _ | _ | _ | _ | _ | _ | j
      all_goals first | (cases h; done) | skip
      cases h; decide
    · rcases j with _ | j
      · cases h
      · cases h
/-- How long lists may be, after so many steps. -/
def mT (i st : Nat) (e : Nat) : Nat := if e = 27 then 1048576 + 2 * i else if e = 3 then 1048576 + 3 * st else 1048584
theorem mT_up {i st i' st' : Nat} (h1 : i ≤ i') (h2 : st ≤ st') (e : Nat) : mT i st e ≤ mT i' st' e := by
  unfold mT
  split
  · omega
  · split <;> omega
theorem mT_node (i st : Nat) : mT i st 27 = 1048576 + 2 * i := rfl
theorem mT_int (i st : Nat) : mT i st 3 = 1048576 + 3 * st := rfl
theorem mT_str (i st : Nat) : mT i st 9 = 1048584 := rfl
theorem mT_i64 (i st : Nat) : mT i st 2 = 1048584 := rfl
theorem mT_tree (i st : Nat) : mT i st 33 = 1048584 := rfl
abbrev OKT (i st : Nat) (Z : Nat → Prop) (w : World) (e : Nat) (s : SH) : Prop := OK layT (mT i st) Z w e s
section
variable {w u w1 W : World} {B : Nat} {Z : Nat → Prop} {e : ED} {f b t : SH} {Bw : World} {F : Nat → Prop} {R : Value → World → Prop} {x1 x2 : Int}
theorem fresh_z {g : Nat} (h : fresh B g) (hle : g ≤ w.heap.size) (hZ : ∀ k, B ≤ k → k < w.heap.size → Z k) (k : Nat) (hk : k + 1 = g) : Z k := hZ k (by unfold fresh at h; omega) (by omega)
theorem OwnN.ok {nodes : List ND} {a : Option Addr} {n c : Nat} (h : OwnN B w a n c nodes) (hZ : ∀ k, B ≤ k → k < w.heap.size → Z k) (hn : n ≤ 1048576) (hs : Short 1048576 nodes) (i st : Nat) : OKT i st Z w 27 ⟨a, n, c⟩ := by
  obtain ⟨g, l, h1, h2, h3, h4⟩ := h
  have hl := h1.lenH
  refine .of_row h1 (fresh_z h2 h1.le hZ) rfl (by rw [mT_node]; omega) fun q j e' hq he => ?_
  rw [layT_node] at he
  have hj : j = 4 ∧ e' = 3 := by
    rcases j with _ | _ | _ | _ | _ | _ | _ | _ | j
    all_goals first | (cases he; done) | skip
    cases he; exact ⟨rfl, rfl⟩
  obtain ⟨rfl, rfl⟩ := hj
  have hx : l[q]? = some (l[q]'(by omega)) := List.getElem?_eq_getElem _
  obtain ⟨gx, k1, k2⟩ := h4 _ (List.mem_of_getElem? hx)
  refine ⟨(l[q]'(by omega)).2, flatMap_at (k := 8) l (en := enH) (fun x _ => rfl) q _ hx 4 _ rfl, ?_⟩
  refine .flat k1 (fresh_z k2 k1.le hZ) rfl ?_
  rw [mT_int, k1.len]
  have := hs (l[q]'(by omega)).1 (by rw [h3]; exact List.mem_map_of_mem (List.mem_of_getElem? hx))
  omega
theorem OwnT.ok {ts : List TD} {a : Option Addr} {n c : Nat} (h : OwnT B w a n c ts) (hZ : ∀ k, B ≤ k → k < w.heap.size → Z k) (hn : n ≤ 1048576) (hs : ∀ x ∈ ts, x.nodes.length ≤ 1048576 ∧ Short 1048576 x.nodes) (i st : Nat) : OKT i st Z w 33 ⟨a, n, c⟩ := by
  obtain ⟨g, l, h1, h2, h3, h4⟩ := h
  have hl := h1.lenTH
  refine .of_row h1 (fresh_z h2 h1.le hZ) rfl (by rw [mT_tree]; omega) fun q j e' hq he => ?_
  rw [layT_tree] at he
  have hj : j = 1 ∧ e' = 27 := by
    rcases j with _ | _ | j
    · cases he
    · cases he; exact ⟨rfl, rfl⟩
    · cases he
  obtain ⟨rfl, rfl⟩ := hj
  have hx : l[q]? = some (l[q]'(by omega)) := List.getElem?_eq_getElem _
  have k1 := h4 _ (List.mem_of_getElem? hx)
  obtain ⟨s1, s2⟩ := hs (l[q]'(by omega)).1 (by rw [h3]; exact List.mem_map_of_mem (List.mem_of_getElem? hx))
  exact ⟨(l[q]'(by omega)).2, flatMap_at (k := 2) l (en := enTH) (fun x _ => rfl) q _ hx 1 _ rfl, k1.ok hZ (by rw [k1.len]; exact s1) s2 i st⟩
/-- What the spoiler works on: the ensemble's cells, and its lists. -/
structure Sp (i st : Nat) (Z : Nat → Prop) (Bw : World) (e : ED) (f b t : SH) (w : World) : Prop where
  box : Blk w Bw.heap.size (enE e f b t).toArray 46
  fs : OKT i st Z w 9 f
  bs : OKT i st Z w 2 b
  ts : OKT i st Z w 33 t
  le : Z Bw.heap.size
  new : ∀ k, w.heap.size ≤ k → Z k
theorem Sp.znew {i st : Nat} (h : Sp i st Z Bw e f b t w) (hk : Kept w u) : Z u.heap.size := h.new _ hk.size
/-- A step on a list of other elements. -/
theorem Sp.stp {i st n c e' : Nat} {a : Option Addr} (h : Sp i st Z Bw e f b t w) (hk : OKT i st Z w e' ⟨a, n, c⟩) (hne : e' ≠ 46) (hs : Stp layT (mT i st) Z w u) (hm : Mod (fun k => a = some ⟨k, 0, none⟩) w u) : Sp i st Z Bw e f b t u :=
  ⟨hk.other hm h.box hne, h.fs.stp hs, h.bs.stp hs, h.ts.stp hs, h.le, fun k hk => h.new k (Nat.le_trans hs.fr.size hk)⟩
theorem Sp.kept {i st : Nat} (h : Sp i st Z Bw e f b t w) (hk : Kept w u) : Sp i st Z Bw e f b t u :=
  have hs : Stp layT (mT i st) Z w u := Stp.kept hk
  ⟨h.box.keep hk, h.fs.stp hs, h.bs.stp hs, h.ts.stp hs, h.le, fun k hk' => h.new k (Nat.le_trans hk.size hk')⟩
theorem Sp.up {i st i' st' : Nat} (h1 : i ≤ i') (h2 : st ≤ st') (h : Sp i st Z Bw e f b t w) : Sp i' st' Z Bw e f b t w :=
  ⟨h.box, h.fs.up (mT_up h1 h2), h.bs.up (mT_up h1 h2), h.ts.up (mT_up h1 h2), h.le, h.new⟩
/-- The ensemble's own cells are written. -/
theorem OK.box {i st e' : Nat} {s : SH} {cs : Array Value} (h : OKT i st Z w e' s) (hb : Blk w Bw.heap.size cs 46) (ho : Only (Bw.heap.size + 1) w u) (he : lvT e' < 3) : OKT i st Z u e' s :=
  OK.away layT_lev (L := 3) (fun b' cur' e'' hl hb' => hb'.mod ho (fun hk => by
      have hk' : b' + 1 = Bw.heap.size + 1 := hk
      obtain rfl : b' = Bw.heap.size := by omega
      unfold Blk at hb' hb
      rw [hb] at hb'
      cases hb'
      exact absurd hl (by decide))) h he
theorem spoil1 (hend : ∀ u, Mod Z w1 u → Sp 0 0 Z Bw e f b t u → thicketlaw07_spoil.e23 R (some (na Bw)) b.n 0 u) :
    ∀ (m i : Nat) (w : World), i + m = f.n → Mod Z w1 w → Sp 0 0 Z Bw e f b t w → thicketlaw07_spoil.l6 R (m + 1) (some (na Bw)) f.n i w
  | 0, i, w, hi, hw, hS => by
    unfold thicketlaw07_spoil.l6 thicketlaw07_spoil.g6
    refine onDec_f (by omega) ?_
    exact optN_mk ⟨_, _, _, hS.box.rd rfl, hend w hw hS⟩
  | m + 1, i, w, hi, hw, hS => by
    unfold thicketlaw07_spoil.l6 thicketlaw07_spoil.g6
    refine onDec_t (by omega) ?_
    have hmx := hS.fs.max
    rw [mT_str] at hmx
    refine optN_mk ⟨_, _, _, hS.box.rd rfl, ?_⟩
    refine OK.wr1 layT_lev hS.fs rfl (fun e' h => by cases h) (by omega) (by omega) fun u hs hm => ?_
    refine nv_succ (by omega) ?_
    exact spoil1 hend m (i + 1) u (by omega) (hw.trans hs.fr (fun _ _ h => h) (fun _ _ h => h)) (hS.stp hS.fs (by decide) hs hm)
theorem spoil2 (hend : ∀ u, Mod Z w1 u → Sp 0 0 Z Bw e f b t u → thicketlaw07_spoil.e40 R (some (na Bw)) t.n 0 u) :
    ∀ (m i : Nat) (w : World), i + m = b.n → Mod Z w1 w → Sp 0 0 Z Bw e f b t w → thicketlaw07_spoil.l23 R (m + 1) (some (na Bw)) b.n i w
  | 0, i, w, hi, hw, hS => by
    unfold thicketlaw07_spoil.l23 thicketlaw07_spoil.g23
    refine onDec_f (by omega) ?_
    exact optN_mk ⟨_, _, _, hS.box.rd rfl, hend w hw hS⟩
  | m + 1, i, w, hi, hw, hS => by
    unfold thicketlaw07_spoil.l23 thicketlaw07_spoil.g23
    refine onDec_t (by omega) ?_
    have hmx := hS.bs.max
    rw [mT_i64] at hmx
    refine optN_mk ⟨_, _, _, hS.box.rd rfl, ?_⟩
    refine OK.wr1 layT_lev hS.bs rfl (fun e' h => by cases h) (by omega) (by omega) fun u hs hm => ?_
    refine nv_succ (by omega) ?_
    exact spoil2 hend m (i + 1) u (by omega) (hw.trans hs.fr (fun _ _ h => h) (fun _ _ h => h)) (hS.stp hS.bs (by decide) hs hm)
/-- One tree's nodes' slice, as it lies. -/
structure AtT (t : SH) (i : Nat) (s : SH) (w : World) : Prop where
  ex : ∃ b cur, t.a = some ⟨b, 0, none⟩ ∧ Blk w b cur 33 ∧ w.cell? ⟨b, i * 2 + 1, none⟩ = some s.v
theorem AtT.of {j st i : Nat} (h : OKT j st Z w 33 t) (hi : i < t.n) : ∃ s : SH, AtT t i s w ∧ OKT j st Z w 27 s := by
  obtain ⟨b, hb, _, ⟨cur, hc⟩, s, hs, hOK⟩ := OK.at (k := 2) (j := 1) (e' := 27) h rfl rfl hi
  exact ⟨s, ⟨b, cur, hb, hc, hs⟩, hOK⟩
theorem AtT.mod {i j st n c e' : Nat} {a : Option Addr} {s : SH} (h : AtT t i s w) (hk : OKT j st Z w e' ⟨a, n, c⟩) (hne : e' ≠ 33) (hm : Mod (fun k => a = some ⟨k, 0, none⟩) w u) : AtT t i s u := by
  obtain ⟨b, cur, h1, h2, h3⟩ := h.ex
  have h4 := hk.other hm h2 hne
  exact ⟨b, cur, h1, h4, by rw [h4.cell, ← h2.cell]; exact h3⟩
theorem AtT.kept {i : Nat} {s : SH} (h : AtT t i s w) (hk : Kept w u) : AtT t i s u := by
  obtain ⟨b, cur, h1, h2, h3⟩ := h.ex
  exact ⟨b, cur, h1, h2.keep hk, bkeep hk h3⟩
theorem AtT.rd {i : Nat} {s : SH} (h : AtT t i s w) (hi : i < t.n) {K : Option Addr → Nat → Nat → Prop} (hK : K s.a s.n s.c) :
    optN t.a fun q => chk ((0 : Int) ≤ (i : Nat) ∧ ((i : Nat) : Int) < (t.n : Int)) (∃ ya : Option Addr, ∃ yn : Nat, ∃ yc : Nat, w.cell? ((q.add (((i : Nat) : Int).toNat * 2)).add 1) = some (.slice ya yn yc) ∧ K ya yn yc) := by
  obtain ⟨b, cur, h1, h2, h3⟩ := h.ex
  rw [h1]
  exact rdAt (k := 2) (j := 1) (by rw [Int.toNat_natCast]; exact h3) (by omega) (by omega) hK
/-- One node's categories' slice, as it lies. -/
structure AtN (t : SH) (i : Nat) (s : SH) (w : World) : Prop where
  ex : ∃ b cur, t.a = some ⟨b, 0, none⟩ ∧ Blk w b cur 27 ∧ w.cell? ⟨b, i * 8 + 4, none⟩ = some s.v
theorem AtN.of {j st i : Nat} (h : OKT j st Z w 27 t) (hi : i < t.n) : ∃ s : SH, AtN t i s w ∧ OKT j st Z w 3 s := by
  obtain ⟨b, hb, _, ⟨cur, hc⟩, s, hs, hOK⟩ := OK.at (k := 8) (j := 4) (e' := 3) h rfl rfl hi
  exact ⟨s, ⟨b, cur, hb, hc, hs⟩, hOK⟩
theorem AtN.mod {i j st n c e' : Nat} {a : Option Addr} {s : SH} (h : AtN t i s w) (hk : OKT j st Z w e' ⟨a, n, c⟩) (hne : e' ≠ 27) (hm : Mod (fun k => a = some ⟨k, 0, none⟩) w u) : AtN t i s u := by
  obtain ⟨b, cur, h1, h2, h3⟩ := h.ex
  have h4 := hk.other hm h2 hne
  exact ⟨b, cur, h1, h4, by rw [h4.cell, ← h2.cell]; exact h3⟩
theorem AtN.rd {i : Nat} {s : SH} (h : AtN t i s w) (hi : i < t.n) {K : Option Addr → Nat → Nat → Prop} (hK : K s.a s.n s.c) :
    optN t.a fun q => chk ((0 : Int) ≤ (i : Nat) ∧ ((i : Nat) : Int) < (t.n : Int)) (∃ ya : Option Addr, ∃ yn : Nat, ∃ yc : Nat, w.cell? ((q.add (((i : Nat) : Int).toNat * 8)).add 4) = some (.slice ya yn yc) ∧ K ya yn yc) := by
  obtain ⟨b, cur, h1, h2, h3⟩ := h.ex
  rw [h1]
  exact rdAt (k := 8) (j := 4) (by rw [Int.toNat_natCast]; exact h3) (by omega) (by omega) hK
/-- Reads in a world that says nothing of the categories' block. -/
theorem hide_box {i st n c e' : Nat} {a : Option Addr} (h : Sp i st Z Bw e f b t w) (hk : OKT i st Z w e' ⟨a, n, c⟩) (hne : e' ≠ 46) {q : Nat} {v : Value} (hv : (enE e f b t).toArray[q]? = some v) : (hideA a w).cell? ((na Bw).add q) = some v := by
  rw [na_add]
  exact hideA_rd hk h.box hne (by rw [h.box.cell]; exact hv)
theorem AtT.hide {i j st n c e' : Nat} {a : Option Addr} {s : SH} (h : AtT t i s w) (hk : OKT j st Z w e' ⟨a, n, c⟩) (hne : e' ≠ 33) (hi : i < t.n) {K : Option Addr → Nat → Nat → Prop} (hK : K s.a s.n s.c) :
    optN t.a fun q => chk ((0 : Int) ≤ (i : Nat) ∧ ((i : Nat) : Int) < (t.n : Int)) (∃ ya : Option Addr, ∃ yn : Nat, ∃ yc : Nat, (hideA a w).cell? ((q.add (((i : Nat) : Int).toNat * 2)).add 1) = some (.slice ya yn yc) ∧ K ya yn yc) := by
  obtain ⟨b, cur, h1, h2, h3⟩ := h.ex
  rw [h1]
  exact rdAt (k := 2) (j := 1) (by rw [Int.toNat_natCast]; exact hideA_rd hk h2 hne h3) (by omega) (by omega) hK
theorem AtN.hide {i j st n c e' : Nat} {a : Option Addr} {s : SH} (h : AtN t i s w) (hk : OKT j st Z w e' ⟨a, n, c⟩) (hne : e' ≠ 27) (hi : i < t.n) {K : Option Addr → Nat → Nat → Prop} (hK : K s.a s.n s.c) :
    optN t.a fun q => chk ((0 : Int) ≤ (i : Nat) ∧ ((i : Nat) : Int) < (t.n : Int)) (∃ ya : Option Addr, ∃ yn : Nat, ∃ yc : Nat, (hideA a w).cell? ((q.add (((i : Nat) : Int).toNat * 8)).add 4) = some (.slice ya yn yc) ∧ K ya yn yc) := by
  obtain ⟨b, cur, h1, h2, h3⟩ := h.ex
  rw [h1]
  exact rdAt (k := 8) (j := 4) (by rw [Int.toNat_natCast]; exact hideA_rd hk h2 hne h3) (by omega) (by omega) hK
theorem ck_new {a : Option Addr} {n c e' : Nat} {i st : Nat} (hk : OKT i st Z w e' ⟨a, n, c⟩) (h : Kept w u) : CK (hideA a w) u := CK.hideA hk (Kept.mod h)
theorem spoil_in {b40 : Option Addr → Int → Int → World → Prop} {b55 : Option Addr → Int → Int → Int → Int → Int → World → Prop} {i st k : Nat} {s cs : SH} (hi : i < t.n) (hi2 : i < 1048576) (hst : st < 4398050705408) (hk : k < s.n) (hk2 : s.n ≤ 3145728)
    (hend : ∀ u, Mod Z w1 u → Sp i (st + 1) Z Bw e f b t u → AtT t i s u → OKT i (st + 1) Z u 27 s → b55 (some (na Bw)) i t.n i s.n ((k : Int) + 1) u) :
    ∀ (m q : Nat) (w : World), q + m = cs.n → Mod Z w1 w → Sp i st Z Bw e f b t w → AtT t i s w → OKT i st Z w 27 s → AtN s k cs w → OKT i st Z w 3 cs → thicketlaw07_spoil.l70 R b40 b55 (m + 1) (some (na Bw)) i k t.n i s.n k cs.n q w
  | 0, q, w, hq, hw, hS, hT, hN, hA, hC => by
    unfold thicketlaw07_spoil.l70 thicketlaw07_spoil.g70
    refine onDec_f (by omega) ?_
    have hcm := hC.max
    rw [mT_int] at hcm
    refine ⟨hideA cs.a w, CK.hideA hC (Mod.refl _), optN_mk ⟨_, _, _, hide_box hS hC (by decide) rfl, ?_⟩⟩
    refine hT.hide hC (by decide) hi (optN_mk ⟨_, _, _, hide_box hS hC (by decide) rfl, hT.hide hC (by decide) hi (hA.hide hC (by decide) hk ?_)⟩)
    have k1 := Kept.new w (.cells #[.int .i64 7, .int .i64 7, .int .i64 7] 3)
    have n1 := Blk.new w #[.int .i64 7, .int .i64 7, .int .i64 7] 3
    refine nw_mk ⟨ck_new hC k1, ?_⟩
    have st1 : Stp layT (mT i (st + 1)) Z w _ := Stp.kept k1
    have up : ∀ e, mT i st e ≤ mT i (st + 1) e := mT_up (Nat.le_refl _) (by omega)
    have hC1 : OKT i (st + 1) Z _ 3 cs := (hC.up up).stp st1
    have hz1 := k1.size
    refine OK.append (e := 3) (size := 1) (m := 3) S_I rfl (by omega) hC1 (hS.znew k1) (news := [.int .i64 7, .int .i64 7, .int .i64 7]) rfl (fun j u hj => ⟨_, rfl, by rw [cell_new, ← Array.getElem?_toList]; exact hj⟩) (fun h => by cases h) (fun v hv => by simp at hv; subst hv; rfl) (fun i' j e' _ he => by
      rcases j with _ | j
      · cases he
      · cases he) (by rw [mT_int]; omega) (by simp only [maxLen]; omega) (by omega) fun a' c' u2 hO2 hs2 hm2 => ⟨_, _, _, rfl, ?_⟩
    have hm2' : Mod (fun k => cs.a = some ⟨k, 0, none⟩) w u2 := (Kept.mod k1 : Mod (fun k => cs.a = some ⟨k, 0, none⟩) w _).trans hm2 (fun _ _ h => h) (fun _ _ h => h)
    refine ⟨CK.hideA hC hm2', ?_⟩
    have hS1 := (hS.up (Nat.le_refl _) (Nat.le_succ st)).kept k1
    have hS2 := hS1.stp hC1 (by decide) hs2 hm2
    have hT2 := (hT.kept k1).mod hC1 (by decide) hm2
    have hN2 := ((hN.up up).stp st1).stp hs2
    refine OK.wr (e := 27) (k := 8) (j := 4) (x := some 3) layT_lev hN2 rfl rfl (fun e' h => by cases h; exact ⟨⟨a', cs.n + 3, c'⟩, rfl, hO2⟩) (by omega) (by omega) fun u3 hs3 hm3 => ?_
    have hS3 := hS2.stp hN2 (by decide) hs3 hm3
    have hT3 := hT2.mod hN2 (by decide) hm3
    have hN3 := hN2.stp hs3
    refine optN_mk ⟨_, _, _, hS3.box.rd rfl, hT3.rd hi ?_⟩
    have hw3 : Mod Z w1 u3 := ((hw.trans st1.fr (fun _ _ h => h) (fun _ _ h => h)).trans hs2.fr (fun _ _ h => h) (fun _ _ h => h)).trans hs3.fr (fun _ _ h => h) (fun _ _ h => h)
    refine OK.wr (e := 27) (k := 8) (j := 0) (x := none) layT_lev hN3 rfl rfl (fun e' h => by cases h) (by omega) (by omega) fun u4 hs4 hm4 => ?_
    refine nv_mk (y := (k : Int) + 1) (i64_id (by omega) (by omega)) ?_
    exact hend u4 (hw3.trans hs4.fr (fun _ _ h => h) (fun _ _ h => h)) (hS3.stp hN3 (by decide) hs4 hm4) (hT3.mod hN3 (by decide) hm4) (hN3.stp hs4)
  | m + 1, q, w, hq, hw, hS, hT, hN, hA, hC => by
    unfold thicketlaw07_spoil.l70 thicketlaw07_spoil.g70
    have hcm := hC.max
    rw [mT_int] at hcm
    refine onDec_t (by omega) ?_
    refine optN_mk ⟨_, _, _, hS.box.rd rfl, hT.rd hi (hA.rd hk ?_)⟩
    refine OK.wr1 (e := 3) layT_lev hC rfl (fun e' h => by cases h) (by omega) (by omega) fun u hs hm => ?_
    refine nv_succ (by omega) ?_
    exact spoil_in hi hi2 hst hk hk2 hend m (q + 1) u (by omega) (hw.trans hs.fr (fun _ _ h => h) (fun _ _ h => h)) (hS.stp hC (by decide) hs hm) (hT.mod hC (by decide) hm) (hN.stp hs) (hA.mod hC (by decide) hm) (hC.stp hs)
theorem spoil_mid {b40 : Option Addr → Int → Int → World → Prop} {i st0 : Nat} {s : SH} (hst0 : st0 = i * 4194304) (hi : i < t.n) (hi2 : i < 1048576) (hk2 : s.n ≤ 1048576 + 2 * i)
    (hend : ∀ u, Mod Z w1 u → Sp (i + 1) (st0 + 4194304) Z Bw e f b t u → b40 (some (na Bw)) t.n ((i : Int) + 1) u) :
    ∀ (m k : Nat) (w : World), k + m = s.n → Mod Z w1 w → Sp i (st0 + k) Z Bw e f b t w → AtT t i s w → OKT i (st0 + k) Z w 27 s → thicketlaw07_spoil.l55 R b40 (m + 1) (some (na Bw)) i t.n i s.n k w
  | 0, k, w, hk, hw, hS, hT, hN => by
    unfold thicketlaw07_spoil.l55 thicketlaw07_spoil.g55
    refine onDec_f (by omega) ?_
    refine ⟨hideA s.a w, CK.hideA hN (Mod.refl _), optN_mk ⟨_, _, _, hide_box hS hN (by decide) rfl, optN_mk ⟨_, _, _, hide_box hS hN (by decide) rfl, ?_⟩⟩⟩
    refine hT.hide hN (by decide) hi ?_
    have k1 := Kept.new w (.cells #[.int .u8 0, .int .i64 0, .int .i64 0, .float .f64 0, .slice none 0 0, .int .u8 0, .int .i64 0, .int .i64 0, .int .u8 0, .int .i64 0, .int .i64 0, .float .f64 0, .slice none 0 0, .int .u8 0, .int .i64 0, .int .i64 0] 27)
    refine nw_mk ⟨ck_new hN k1, ?_⟩
    have up : ∀ e, mT i (st0 + k) e ≤ mT (i + 1) (st0 + 4194304) e := mT_up (by omega) (by omega)
    have st1 : Stp layT (mT (i + 1) (st0 + 4194304)) Z w _ := Stp.kept k1
    have hN1 : OKT (i + 1) (st0 + 4194304) Z _ 27 s := (hN.up up).stp st1
    have hz1 := k1.size
    refine OK.append (e := 27) (size := 8) (m := 2) S_N rfl (by omega) hN1 (hS.znew k1) (news := [.int .u8 0, .int .i64 0, .int .i64 0, .float .f64 0, .slice none 0 0, .int .u8 0, .int .i64 0, .int .i64 0, .int .u8 0, .int .i64 0, .int .i64 0, .float .f64 0, .slice none 0 0, .int .u8 0, .int .i64 0, .int .i64 0]) rfl (fun j u hj => ⟨_, rfl, by rw [cell_new, ← Array.getElem?_toList]; exact hj⟩) (fun h => by cases h) (fun v hv => by
        simp only [List.mem_cons, List.not_mem_nil, or_false] at hv
        rcases hv with h | h | h | h | h | h | h | h | h | h | h | h | h | h | h | h <;> subst h <;> rfl) (fun i' j e' hi' he => by
      rw [layT_node] at he
      have hj : j = 4 := by
        rcases j with _ | _ | _ | _ | _ | _ | _ | _ | j
        all_goals first | (cases he; done) | skip
        rfl
      subst hj
      rcases i' with _ | _ | i'
      · rfl
      · rfl
      · omega) (by rw [mT_node]; omega) (by simp only [maxLen]; omega) (by omega) fun a' c' u2 hO2 hs2 hm2 => ⟨_, _, _, rfl, ?_⟩
    have hm2' : Mod (fun k => s.a = some ⟨k, 0, none⟩) w u2 := (Kept.mod k1 : Mod (fun k => s.a = some ⟨k, 0, none⟩) w _).trans hm2 (fun _ _ h => h) (fun _ _ h => h)
    refine ⟨CK.hideA hN hm2', ?_⟩
    have hS1 := (hS.up (Nat.le_succ i) (show st0 + k ≤ st0 + 4194304 by omega)).kept k1
    have hS2 := hS1.stp hN1 (by decide) hs2 hm2
    refine OK.wr (e := 33) (k := 2) (j := 1) (x := some 27) layT_lev hS2.ts rfl rfl (fun e' h => by cases h; exact ⟨⟨a', s.n + 2, c'⟩, rfl, hO2⟩) (by omega) (by omega) fun u3 hs3 hm3 => ?_
    refine nv_mk (y := (i : Int) + 1) (i64_id (by omega) (by omega)) ?_
    exact hend u3 (((hw.trans st1.fr (fun _ _ h => h) (fun _ _ h => h)).trans hs2.fr (fun _ _ h => h) (fun _ _ h => h)).trans hs3.fr (fun _ _ h => h) (fun _ _ h => h)) (hS2.stp hS2.ts (by decide) hs3 hm3)
  | m + 1, k, w, hk, hw, hS, hT, hN => by
    unfold thicketlaw07_spoil.l55 thicketlaw07_spoil.g55
    refine onDec_t (by omega) ?_
    obtain ⟨cs, hA, hC⟩ := AtN.of hN (i := k) (by omega)
    refine optN_mk ⟨_, _, _, hS.box.rd rfl, hT.rd hi (hA.rd (by omega) ?_)⟩
    exact ⟨_, spoil_in (w1 := w1) (st := st0 + k) hi hi2 (by omega) (by omega) (by omega) (fun u hu hSu hTu hNu => spoil_mid hst0 hi hi2 hk2 hend m (k + 1) u (by omega) hu hSu hTu hNu) cs.n 0 w (by omega) hw hS hT hN hA hC⟩
theorem spoil_out (hfn : f.n ≤ 1048576) (hbn : b.n ≤ 1048576) (ht : t.n ≤ 1048576) (hend : ∀ u, Mod Z w1 u → R (.tuple #[]) u) :
    ∀ (m i st0 : Nat) (w : World), st0 = i * 4194304 → i + m = t.n → Mod Z w1 w → Sp i st0 Z Bw e f b t w → thicketlaw07_spoil.l40 R (m + 1) (some (na Bw)) t.n i w
  | 0, i, st0, w, hst0, hi, hw, hS => by
    unfold thicketlaw07_spoil.l40 thicketlaw07_spoil.g40
    refine onDec_f (by omega) ?_
    have hfm := hS.fs.max
    have hbm := hS.bs.max
    have htm := hS.ts.max
    rw [mT_str] at hfm
    rw [mT_i64] at hbm
    rw [mT_tree] at htm
    refine optN_mk ⟨_, _, _, hS.box.rd rfl, ?_⟩
    have k1 := Kept.new w (.cells #[.int .i64 0, .slice none 0 0] 33)
    refine nw_mk ?_
    have hS1 := hS.kept k1
    have hz1 := k1.size
    refine OK.append (e := 33) (size := 2) (m := 1) S_T rfl (by omega) hS1.ts (hS.znew k1) (news := [.int .i64 0, .slice none 0 0]) rfl (fun j u hj => ⟨_, rfl, by rw [cell_new, ← Array.getElem?_toList]; exact hj⟩) (fun h => by cases h) (fun v hv => by
        simp only [List.mem_cons, List.not_mem_nil, or_false] at hv
        rcases hv with h | h <;> subst h <;> rfl) (fun i' j e' hi' he => by
      rw [layT_tree] at he
      have hj : j = 1 := by
        rcases j with _ | _ | j
        · cases he
        · rfl
        · cases he
      subst hj
      obtain rfl : i' = 0 := by omega
      rfl) (by rw [mT_tree]; omega) (by simp only [maxLen]; omega) (by omega) fun a2 c2 u2 hO2 hs2 hm2 => ⟨_, _, _, rfl, ?_⟩
    have hS2 := hS1.stp hS1.ts (by decide) hs2 hm2
    refine optN_mk (hS2.box.wr0 (by simp [enE]) fun u3 hb3 ho3 => optN_mk ⟨_, _, _, hb3.rd rfl, ?_⟩)
    have fr2 : Mod Z w1 u2 := (hw.trans (Kept.mod k1) (fun _ _ h => h) (fun _ _ h => h)).trans hs2.fr (fun _ _ h => h) (fun _ _ h => h)
    have fr3 : Mod Z w1 u3 := fr2.trans (only_z hS.le ho3) (fun _ _ h => h) (fun _ _ h => h)
    have fs3 := OK.box hS2.fs hS2.box ho3 (by decide)
    have bs3 := OK.box hS2.bs hS2.box ho3 (by decide)
    have z3 : ∀ k, u3.heap.size ≤ k → Z k := fun k hk => hS2.new k (Nat.le_trans ho3.size hk)
    -- features
    have k4 := Kept.new u3 (.cells #[.string ⟨#[120]⟩, .string ⟨#[121]⟩] 9)
    refine nw_mk ?_
    have st4 : Stp layT (mT i st0) Z u3 _ := Stp.kept k4
    have z4 := k4.size
    have fs4 := fs3.stp st4
    refine OK.append (e := 9) (size := 1) (m := 2) S_str rfl (by omega) fs4 (z3 _ k4.size) (news := [.string ⟨#[120]⟩, .string ⟨#[121]⟩]) rfl (fun j u hj => ⟨_, rfl, by rw [cell_new, ← Array.getElem?_toList]; exact hj⟩) (fun h => by cases h) (fun v hv => by
        simp only [List.mem_cons, List.not_mem_nil, or_false] at hv
        rcases hv with h | h <;> subst h <;> rfl) (fun i' j e' hi' he => by
      rcases j with _ | j
      · cases he
      · cases he) (by rw [mT_str]; omega) (by simp only [maxLen]; omega) (by omega) fun a5 c5 u5 hO5 hs5 hm5 => ⟨_, _, _, rfl, ?_⟩
    have hb5 := fs4.other hm5 (hb3.keep k4) (by decide)
    refine optN_mk (hb5.wr0 (by simp [enE]) fun u6 hb6 ho6 => optN_mk ⟨_, _, _, hb6.rd rfl, ?_⟩)
    have bs6 := OK.box ((bs3.stp st4).stp hs5) hb5 ho6 (by decide)
    have fr6 : Mod Z w1 u6 := (((fr3.trans (Kept.mod k4) (fun _ _ h => h) (fun _ _ h => h)).trans hs5.fr (fun _ _ h => h) (fun _ _ h => h))).trans (only_z hS.le ho6) (fun _ _ h => h) (fun _ _ h => h)
    have z6 : ∀ k, u6.heap.size ≤ k → Z k := fun k hk => z3 k (by have := hs5.fr.size; have := ho6.size; omega)
    -- base
    have k7 := Kept.new u6 (.cells #[.int .i64 1, .int .i64 2] 2)
    refine nw_mk ?_
    have st7 : Stp layT (mT i st0) Z u6 _ := Stp.kept k7
    have z7 := k7.size
    have bs7 := bs6.stp st7
    refine OK.append (e := 2) (size := 1) (m := 2) S_I64 rfl (by omega) bs7 (z6 _ k7.size) (news := [.int .i64 1, .int .i64 2]) rfl (fun j u hj => ⟨_, rfl, by rw [cell_new, ← Array.getElem?_toList]; exact hj⟩) (fun h => by cases h) (fun v hv => by
        simp only [List.mem_cons, List.not_mem_nil, or_false] at hv
        rcases hv with h | h <;> subst h <;> rfl) (fun i' j e' hi' he => by
      rcases j with _ | j
      · cases he
      · cases he) (by rw [mT_i64]; omega) (by simp only [maxLen]; omega) (by omega) fun a8 c8 u8 hO8 hs8 hm8 => ⟨_, _, _, rfl, ?_⟩
    have hb8 := bs7.other hm8 (hb6.keep k7) (by decide)
    refine optN_mk (hb8.wr0 (by simp [enE]) fun u9 hb9 ho9 => optN_mk ⟨_, _, _, hb9.rd rfl, optN_mk ⟨_, _, _, hb9.rd rfl, ?_⟩⟩)
    have fr9 : Mod Z w1 u9 := (((fr6.trans (Kept.mod k7) (fun _ _ h => h) (fun _ _ h => h)).trans hs8.fr (fun _ _ h => h) (fun _ _ h => h))).trans (only_z hS.le ho9) (fun _ _ h => h) (fun _ _ h => h)
    refine nv_mk (y := ((t.n + 1 + (f.n + 2) : Nat) : Int)) (by rw [i64_id (by omega) (by omega)]; omega) (optN_mk ⟨_, _, _, hb9.rd rfl, ?_⟩)
    refine nv_mk (y := ((t.n + 1 + (f.n + 2) + (b.n + 2) : Nat) : Int)) (by rw [i64_id (by omega) (by omega)]; omega) (onEq_f (by omega) ?_)
    exact hend u9 fr9
  | m + 1, i, st0, w, hst0, hi, hw, hS => by
    unfold thicketlaw07_spoil.l40 thicketlaw07_spoil.g40
    refine onDec_t (by omega) ?_
    obtain ⟨s, hT, hN⟩ := AtT.of hS.ts (i := i) (by omega)
    have hnm := hN.max
    rw [mT_node] at hnm
    refine optN_mk ⟨_, _, _, hS.box.rd rfl, hT.rd (by omega) ?_⟩
    exact ⟨_, spoil_mid (w1 := w1) hst0 (by omega) (by omega) hnm (fun u hu hSu => spoil_out hfn hbn ht hend m (i + 1) (st0 + 4194304) u (by omega) (by omega) hu hSu) s.n 0 w (by omega) hw hS hT hN⟩
/-- An ensemble's lists. -/
structure OKE (Z : Nat → Prop) (w : World) (f b t : SH) : Prop where
  fs : OKT 0 0 Z w 9 f
  bs : OKT 0 0 Z w 2 b
  ts : OKT 0 0 Z w 33 t
  fm : f.n ≤ 1048576
  bm : b.n ≤ 1048576
  tm : t.n ≤ 1048576
theorem OwnE.ok (hE : OwnE B w e f b t) (hz : Sized e) (hZ : ∀ k, B ≤ k → k < w.heap.size → Z k) : OKE Z w f b t := by
  obtain ⟨gf, h1, h1'⟩ := hE.fs
  obtain ⟨gb, h2, h2'⟩ := hE.bs
  have l3 := hE.ts.ls.len
  have n1 := h1.len
  have n2 := h2.len
  have s1 := hz.fm
  have s2 := hz.bm
  have s3 := hz.tm
  exact ⟨.flat h1 (fresh_z h1' h1.le hZ) rfl (by rw [mT_str]; omega), .flat h2 (fresh_z h2' h2.le hZ) rfl (by rw [mT_i64]; omega), hE.ts.ok hZ (by omega) hz.good 0 0, by omega, by omega, by omega⟩
theorem OKE.mod {S : Nat → Prop} (h : OKE Z w f b t) (hm : Mod S w u) (hS : ∀ k, Z k → k < w.heap.size → ¬ S k) : OKE Z u f b t := ⟨h.fs.elsewhere hm hS, h.bs.elsewhere hm hS, h.ts.elsewhere hm hS, h.fm, h.bm, h.tm⟩
theorem OKE.kept (h : OKE Z w f b t) (hk : Kept w u) : OKE Z u f b t := h.mod (S := fun _ => False) (Kept.mod hk) (fun _ _ _ h => h)
theorem spoil_c (hO : OKE Z w f b t) (hZ2 : ∀ k, w.heap.size ≤ k → Z k) : E.CallsD Go.Proofs.Try.prog 36 #[vE e f b t] w fun v u => v = .tuple #[] ∧ Mod Z w u := by
  refine thicketlaw07_spoil.calls ?_
  unfold thicketlaw07_spoil thicketlaw07_spoil.g0
  refine box5 fun w1 hb1 h5 hk1 => ?_
  have hO1 := hO.kept hk1
  have hS : Sp 0 0 Z w e f b t w1 := ⟨hb1, hO1.fs, hO1.bs, hO1.ts, hZ2 _ (Nat.le_refl _), fun k hk => hZ2 k (Nat.le_trans hk1.size hk)⟩
  refine ⟨_, _, _, h5.c1, ?_⟩
  exact ⟨_, spoil1 (w1 := w) (fun u hu hSu => ⟨_, spoil2 (w1 := w) (fun u hu hSu => ⟨_, spoil_out (w1 := w) hO.fm hO.bm hO.tm (fun u hu => ⟨rfl, hu⟩) t.n 0 0 u (by omega) (by omega) hu hSu⟩) b.n 0 u (by omega) hu hSu⟩) f.n 0 w1 (by omega) (Kept.mod hk1) hS⟩
/-! ### what lies elsewhere -/
theorem OwnN.modZ {S : Nat → Prop} {nodes : List ND} {a : Option Addr} {n c : Nat} (h : OwnN B w a n c nodes) (hm : Mod S w u) (hS : ∀ k, B ≤ k → k < w.heap.size → ¬ S k) : OwnN B u a n c nodes := by
  obtain ⟨g, l, h1, h2, h3, h4⟩ := h
  have hl := h1.le
  unfold fresh at h2
  refine ⟨g, l, h1.mod hm (fun k hk => hS k (by omega) (by omega)), h2, h3, fun x hx => ?_⟩
  obtain ⟨gx, k1, k2⟩ := h4 x hx
  have hl2 := k1.le
  unfold fresh at k2
  exact ⟨gx, k1.mod hm (fun k hk => hS k (by omega) (by omega)), k2⟩
theorem OwnE.modZ {S : Nat → Prop} (h : OwnE B w e f b t) (hm : Mod S w u) (hS : ∀ k, B ≤ k → k < w.heap.size → ¬ S k) : OwnE B u e f b t := by
  obtain ⟨⟨g1, h1, k1⟩, ⟨g2, h2, k2⟩, g, l, h3, h4, h5, h6⟩ := h
  have l1 := h1.le
  have l2 := h2.le
  have l3 := h3.le
  unfold fresh at k1 k2 h4
  exact ⟨⟨g1, h1.mod hm (fun k hk => hS k (by omega) (by omega)), k1⟩, ⟨g2, h2.mod hm (fun k hk => hS k (by omega) (by omega)), k2⟩, g, l, h3.mod hm (fun k hk => hS k (by omega) (by omega)), h4, h5, fun x hx => (h6 x hx).modZ hm hS⟩
theorem GoodE.modZ {S : Nat → Prop} (h : GoodE F w e f b t) (hm : Mod S w u) (hS : ∀ k, F k → ¬ S k) : GoodE F u e f b t :=
  ⟨h.fs.mod hm hS, h.bs.mod hm hS, h.ts.mod hm hS, fun k hk => Nat.lt_of_lt_of_le (h.old k hk) hm.size, h.fm, h.bm, h.tm, h.good⟩
theorem GoodE.kept' (h : GoodE F w e f b t) (hk : Kept w u) : GoodE F u e f b t :=
  ⟨h.fs.kept hk, h.bs.kept hk, h.ts.kept hk, fun k hb => Nat.lt_of_lt_of_le (h.old k hb) hk.size, h.fm, h.bm, h.tm, h.good⟩
section
variable {p2 p10 : Addr} {a1 a13 a15 a17 a22 a24 a26 a28 a30 a32 : Option Addr} {n1 c1 n13 c13 n15 c15 n17 c17 n22 c22 n24 c24 n26 c26 n28 c28 n30 c30 n32 c32 g13 g22 g24 : Nat} {xs : List Nat} {ss l m : List Int} {fc bc tc : SH} {Fc : Nat → Prop} {p q : List Int}
/-- What stays. -/
structure Env (F Fc : Nat → Prop) (p2 p10 : Addr) (e : ED) (f b t fc bc tc : SH) (a1 : Option Addr) (n1 : Nat) (xs : List Nat) (w : World) : Prop where
  ge : GoodE F w e f b t
  gc : GoodE Fc w e fc bc tc
  b2 : At5 w p2 e f b t
  b10 : At5 w p10 e fc bc tc
  x : Sl enF w a1 n1 xs
  xm : n1 ≤ 1048576
theorem Env.kept (h : Env F Fc p2 p10 e f b t fc bc tc a1 n1 xs w) (hk : Kept w u) : Env F Fc p2 p10 e f b t fc bc tc a1 n1 xs u := ⟨h.ge.kept' hk, h.gc.kept' hk, h.b2.kept hk, h.b10.kept hk, h.x.keep hk, h.xm⟩
theorem Env.from (h : Env F Fc p2 p10 e f b t fc bc tc a1 n1 xs w1) (hw : From w1.heap.size w1 w) : Env F Fc p2 p10 e f b t fc bc tc a1 n1 xs w := h.kept (From.kept hw)
theorem own164 {b69 : Option Addr → Nat → Nat → Option Addr → Option Addr → Option Addr → Nat → Nat → Int → Int → World → Prop} {a130 : Option Addr} {n130 c130 : Nat} {x131 x132 : Int} {ms : List Int} (hms : Sl enI w a24 n24 ms) (hn : n30 ≤ n24) (hnb : n24 ≤ 16777216) (hall : ∀ k, k < n30 → ms[k]? = some (-2)) (h132 : 0 ≤ x132 ∧ x132 < 4611686018427387904)
    (hend : b69 a1 n1 c1 (some p2) (some p10) a130 n130 c130 x131 (x132 + 1) w) :
    ∀ (m k : Nat), k + m = n30 → thicketlaw07_TreesOwn.l164 R b69 (m + 1) a1 n1 c1 (some p2) (some p10) a24 n24 c24 a130 n130 c130 x131 x132 n30 k w
  | 0, k, hk => by
    unfold thicketlaw07_TreesOwn.l164 thicketlaw07_TreesOwn.g164
    refine onDec_f (by omega) ?_
    exact nv_mk (y := x132 + 1) (i64_id (by omega) (by omega)) hend
  | m + 1, k, hk => by
    unfold thicketlaw07_TreesOwn.l164 thicketlaw07_TreesOwn.g164
    refine onDec_t (by omega) ?_
    refine hms.rdI (k := .i64) (by omega) (by omega) fun y hy => ?_
    rw [Int.toNat_natCast, hall k (by omega)] at hy
    obtain rfl := Option.some.inj hy
    refine onNe_f rfl ?_
    refine nv_succ (by omega) ?_
    exact own164 hms hn hnb hall h132 hend m (k + 1) (by omega)
theorem own142 {b69 : Option Addr → Nat → Nat → Option Addr → Option Addr → Option Addr → Nat → Nat → Int → Int → World → Prop} {a130 : Option Addr} {n130 c130 : Nat} {x131 x132 : Int} {ls ms : List Int} (hls : Sl enI w a22 n22 ls) (hms : Sl enI w a24 n24 ms) (hn28 : n28 ≤ n22) (hn : n30 ≤ n24) (hnb : n22 ≤ 16777216) (hnc : n24 ≤ 16777216) (hall1 : ∀ k, k < n28 → ls[k]? = some (-1)) (hall : ∀ k, k < n30 → ms[k]? = some (-2)) (h132 : 0 ≤ x132 ∧ x132 < 4611686018427387904)
    (hend : b69 a1 n1 c1 (some p2) (some p10) a130 n130 c130 x131 (x132 + 1) w) :
    ∀ (m k : Nat), k + m = n28 → thicketlaw07_TreesOwn.l142 R b69 (m + 1) a1 n1 c1 (some p2) (some p10) a22 n22 c22 a24 n24 c24 a30 n30 c30 a130 n130 c130 x131 x132 n28 k w
  | 0, k, hk => by
    unfold thicketlaw07_TreesOwn.l142 thicketlaw07_TreesOwn.g142
    refine onDec_f (by omega) ?_
    exact ⟨_, own164 hms hn hnc hall h132 hend n30 0 (by omega)⟩
  | m + 1, k, hk => by
    unfold thicketlaw07_TreesOwn.l142 thicketlaw07_TreesOwn.g142
    refine onDec_t (by omega) ?_
    refine hls.rdI (k := .i64) (by omega) (by omega) fun y hy => ?_
    rw [Int.toNat_natCast, hall1 k (by omega)] at hy
    obtain rfl := Option.some.inj hy
    refine onNe_f rfl ?_
    refine nv_succ (by omega) ?_
    exact own142 hls hms hn28 hn hnb hnc hall1 hall h132 hend m (k + 1) (by omega)
theorem Mod.union3 {g g' : Nat} {v x y : World} (h : Only g w v) (h1 : Only g' v x) (h2 : Only g x y) : Mod (fun k => k + 1 = g' ∨ k + 1 = g ∨ w.heap.size ≤ k) w y :=
  (h.trans h1 (U := fun k => k + 1 = g' ∨ k + 1 = g ∨ w.heap.size ≤ k) (fun _ _ h => .inr (.inl h)) (fun _ _ h => .inl h)).trans h2 (fun _ _ h => h) (fun _ _ h => .inr (.inl h))
theorem own113 {b69 : Option Addr → Nat → Nat → Option Addr → Option Addr → Option Addr → Nat → Nat → Int → Int → World → Prop} {a130 : Option Addr} {n130 c130 : Nat} {x131 x132 : Int} {ls : List Int} {ys : List Int} (h22 : Arr enI 3 w1 a22 n22 c22 ls g22) (hg22 : g22 = 0 ∨ g24 = 0 ∨ g22 ≠ g24) (hl22 : ∀ k, k < n22 → ls[k]? = some (-1)) (hnb : n22 ≤ 1048576 ∧ n24 ≤ 1048576 ∧ n26 ≤ 1048576) (e28 : n28 = n22) (e30 : n30 = n24) (h132 : 0 ≤ x132 ∧ x132 < 4611686018427387904) (hf22 : fresh B g22) (hf24 : fresh B g24) (hB1 : B ≤ w1.heap.size)
    (hx : ∀ u, Mod (fun k => k + 1 = g22 ∨ k + 1 = g24 ∨ w1.heap.size ≤ k) w1 u → Sl enI u a26 n26 ys ∧ Sl enI u a32 n32 ys)
    (hend : ∀ u, From B w1 u → b69 a1 n1 c1 (some p2) (some p10) a130 n130 c130 x131 (x132 + 1) u) :
    ∀ (m k : Nat) (w : World) (ms : List Int), k + m = n24 → From B w1 w → Only g24 w1 w → Arr enI 3 w a24 n24 c24 ms g24 → (∀ q, q < k → ms[q]? = some (-2)) → thicketlaw07_TreesOwn.l113 R b69 (m + 1) a1 n1 c1 (some p2) (some p10) a22 n22 c22 a24 n24 c24 a26 n26 c26 a28 n28 c28 a30 n30 c30 a32 n32 c32 a130 n130 c130 x131 x132 n24 k w
  | 0, k, w, ms, hk, hw, hm, h24, hms => by
    unfold thicketlaw07_TreesOwn.l113 thicketlaw07_TreesOwn.g113
    refine onDec_f (by omega) ?_
    have h22w : Arr enI 3 w a22 n22 c22 ls g22 := h22.mod hm fun k h1 h2 => by have h2' : k + 1 = g24 := h2; omega
    refine h22w.pushL (m := 4) S_I (fun _ => rfl) (ys := [9, 9, 9, 9]) rfl rfl (by omega) (by simp only [maxLen]; omega) (by omega) fun a' c' g' u1 h1 hg' hg0 ho1 => ⟨_, _, _, rfl, ?_⟩
    have h241 := h24.mod ho1 fun k h1 h2 => by have h2' : k + 1 = g22 := h2; omega
    refine h241.pushL (m := 4) S_I (fun _ => rfl) (ys := [8, 8, 8, 8]) rfl rfl (by omega) (by simp only [maxLen]; omega) (by omega) fun a'' c'' g'' u2 h2 hg'' hg0' ho2 => ⟨_, _, _, rfl, ?_⟩
    unfold fresh at hf22 hf24
    have z1 := hw.size
    have z2 := ho1.size
    have le24 := h24.le
    have le22 := h22w.le
    have h12 := h1.mod ho2 fun k q1 q2 => by have q2' : k + 1 = g24 := q2; omega
    have fr2 := (hw.only ho1 hf22).only ho2 hf24
    obtain ⟨x26, x32⟩ := hx u2 (Mod.union3 hm ho1 ho2)
    refine E.CallsD.mono (Ints_c (c := c26) (d := c32) x26 x32 (by omega)) fun v u3 ⟨hv, k3⟩ => ⟨_, hv, ?_⟩
    rw [decide_eq_true rfl]
    refine ob_f (nv_mk (y := ((n28 + 4 : Nat) : Int)) (by rw [i64_id (by omega) (by omega)]; omega) (onNe_f (by omega) (nv_mk (y := ((n30 + 4 : Nat) : Int)) (by rw [i64_id (by omega) (by omega)]; omega) (onNe_f (by omega) ?_))))
    have l22 := h22.len
    have l24 := h24.len
    exact ⟨_, own142 (h12.kept k3).sl (h2.kept k3).sl (by omega) (by omega) (by omega) (by omega) (fun k hk => by rw [List.getElem?_append_left (by omega)]; exact hl22 k (by omega)) (fun k hk => by rw [List.getElem?_append_left (by omega)]; exact hms k (by omega)) h132 (hend u3 (fr2.keptThen k3)) n28 0 (by omega)⟩
  | m + 1, k, w, ms, hk, hw, hm, h24, hms => by
    unfold thicketlaw07_TreesOwn.l113 thicketlaw07_TreesOwn.g113
    refine onDec_t (by omega) ?_
    have l24 := h24.len
    refine h24.wr (by omega) (by omega) (x := -2) rfl fun u2 h2 ho => ?_
    rw [Int.toNat_natCast] at h2
    refine nv_succ (by omega) ?_
    refine own113 h22 hg22 hl22 hnb e28 e30 h132 hf22 hf24 hB1 hx hend m (k + 1) u2 _ (by omega) (hw.only ho hf24) (hm.trans ho (fun _ _ h => h) (fun _ _ h => h)) h2 fun q hq => ?_
    by_cases hqk : q = k
    · subst hqk; rw [List.getElem?_set_self (by omega)]
    · rw [List.getElem?_set_ne (fun h => hqk h.symm)]; exact hms q (by omega)
theorem own96 {b69 : Option Addr → Nat → Nat → Option Addr → Option Addr → Option Addr → Nat → Nat → Int → Int → World → Prop} {a130 : Option Addr} {n130 c130 : Nat} {x131 x132 : Int} {ms : List Int} {ys : List Int} (h24 : Arr enI 3 w1 a24 n24 c24 ms g24) (hg22 : g22 = 0 ∨ g24 = 0 ∨ g22 ≠ g24) (hnb : n22 ≤ 1048576 ∧ n24 ≤ 1048576 ∧ n26 ≤ 1048576) (e28 : n28 = n22) (e30 : n30 = n24) (h132 : 0 ≤ x132 ∧ x132 < 4611686018427387904) (hf22 : fresh B g22) (hf24 : fresh B g24) (hB1 : B ≤ w1.heap.size)
    (hx : ∀ u, Mod (fun k => k + 1 = g22 ∨ k + 1 = g24 ∨ w1.heap.size ≤ k) w1 u → Sl enI u a26 n26 ys ∧ Sl enI u a32 n32 ys)
    (hend : ∀ u, From B w1 u → b69 a1 n1 c1 (some p2) (some p10) a130 n130 c130 x131 (x132 + 1) u) :
    ∀ (m k : Nat) (w : World) (ls : List Int), k + m = n22 → From B w1 w → Only g22 w1 w → Arr enI 3 w a22 n22 c22 ls g22 → (∀ q, q < k → ls[q]? = some (-1)) → thicketlaw07_TreesOwn.l96 R b69 (m + 1) a1 n1 c1 (some p2) (some p10) a22 n22 c22 a24 n24 c24 a26 n26 c26 a28 n28 c28 a30 n30 c30 a32 n32 c32 a130 n130 c130 x131 x132 n22 k w
  | 0, k, w, ls, hk, hw, hm, h22, hls => by
    unfold thicketlaw07_TreesOwn.l96 thicketlaw07_TreesOwn.g96
    refine onDec_f (by omega) ?_
    have z1 := hm.size
    have h24w : Arr enI 3 w a24 n24 c24 ms g24 := h24.mod hm fun k h1 h2 => by have h2' : k + 1 = g22 := h2; omega
    exact ⟨_, own113 (w1 := w) (B := B) h22 hg22 (fun q hq => hls q (by omega)) hnb e28 e30 h132 hf22 hf24 (by omega) (fun u hu => hx u ((hm.trans hu (U := fun k => k + 1 = g22 ∨ k + 1 = g24 ∨ w1.heap.size ≤ k) (fun _ _ h => .inl h) (fun k _ h => by omega)))) (fun u hu => hend u (hw.trans hu (fun _ _ h => h) (fun _ _ h => h))) n24 0 w ms (by omega) (From.refl _ _) (Mod.refl _) h24w (fun q hq => by omega)⟩
  | m + 1, k, w, ls, hk, hw, hm, h22, hls => by
    unfold thicketlaw07_TreesOwn.l96 thicketlaw07_TreesOwn.g96
    refine onDec_t (by omega) ?_
    have l22 := h22.len
    refine h22.wr (by omega) (by omega) (x := -1) rfl fun u2 h2 ho => ?_
    rw [Int.toNat_natCast] at h2
    refine nv_succ (by omega) ?_
    refine own96 h24 hg22 hnb e28 e30 h132 hf22 hf24 hB1 hx hend m (k + 1) u2 _ (by omega) (hw.only ho hf22) (hm.trans ho (fun _ _ h => h) (fun _ _ h => h)) h2 fun q hq => ?_
    by_cases hqk : q = k
    · subst hqk; rw [List.getElem?_set_self (by omega)]
    · rw [List.getElem?_set_ne (fun h => hqk h.symm)]; exact hls q (by omega)
theorem way_le {nodes : List ND} : (wayP nodes xs).length ≤ nodes.length := by
  by_cases h : wayE nodes xs.length = 0
  · exact (wayP_last h).2.2.2
  · rw [wayP_no h]; simp
theorem own69 {a130 : Option Addr} {n130 c130 : Nat} (hV : Env F Fc p2 p10 e f b t fc bc tc a1 n1 xs w1) (h130 : Ls tT F w1 a130 n130 c130 e.trees) (hn130 : n130 ≤ 1048576) (hR : ∀ u, From w1.heap.size w1 u → R (.bool true) u) :
    ∀ (m i : Nat) (w : World), i + m = n130 → From w1.heap.size w1 w → thicketlaw07_TreesOwn.l69 R (m + 1) a1 n1 c1 (some p2) (some p10) a130 n130 c130 n130 i w
  | 0, i, w, hi, hw => by
    unfold thicketlaw07_TreesOwn.l69 thicketlaw07_TreesOwn.g69
    refine onDec_f (by omega) ?_
    have hE := hV.from hw
    refine optN_mk (hE.b2.ld (optN_mk (hE.b10.ld ?_)))
    refine E.CallsD.mono (refSame_c (f := f) (b := b) (t := t) (f' := fc) (b' := bc) (t' := tc) hE.ge hE.gc) fun v u ⟨hv, hk⟩ => ⟨_, hv, ?_⟩
    rw [decB_t rfl]
    exact hR u (hw.keptThen hk)
  | m + 1, i, w, hi, hw => by
    unfold thicketlaw07_TreesOwn.l69 thicketlaw07_TreesOwn.g69
    refine onDec_t (by omega) ?_
    have hE := hV.from hw
    have hT0 : Ls tT F w a130 n130 c130 e.trees := h130.kept (From.kept hw)
    refine hT0.rdT (by omega) (by omega) fun x a' n' c' hx hl => ?_
    have hxm := List.mem_of_getElem? hx
    have hG : Good F w a' n' c' x.nodes := hE.ge.at hx hl
    refine box2Tz fun w2 _ hT hk2 => ⟨_, hT.c0, _, _, _, hT.c1, ?_⟩
    have hG2 := hG.kept hk2
    have hx2 := hE.x.keep hk2
    refine E.CallsD.mono (Leaves_c (o := x.output) hG2) fun v w3 ⟨a3, n3, c3, hv, g3, h3, hg3, k3⟩ => ⟨_, _, _, _, hv, ?_⟩
    have hT3 := hT.kept k3
    refine ⟨_, hT3.c0, _, _, _, hT3.c1, ?_⟩
    refine E.CallsD.mono (Inner_c (o := x.output) (hG2.kept k3)) fun v w4 ⟨a4, n4, c4, hv, g4, h4, hg4, k4⟩ => ⟨_, _, _, _, hv, ?_⟩
    have k24 := Kept.trans k3 k4
    have hT4 := hT.kept k24
    refine ⟨_, hT4.c0, _, _, _, hT4.c1, ?_⟩
    refine E.CallsD.mono (Way_c (o := x.output) (c1 := c1) (hG2.kept k24) (hx2.keep k24) hE.xm) fun v w5 ⟨a5, n5, c5, hv, g5, h5, hg5, k5⟩ => ⟨_, _, _, _, hv, ?_⟩
    have k25 := Kept.trans k24 k5
    have hT5 := hT.kept k25
    refine ⟨_, hT5.c0, _, _, _, hT5.c1, ?_⟩
    refine E.CallsD.mono (refLeaves_c (o := x.output) (hG2.kept k25)) fun v w6 ⟨a6, n6, c6, hv, h6⟩ => ⟨_, _, _, _, hv, ?_⟩
    have k26 := Kept.trans k25 h6.kept
    have hT6 := hT.kept k26
    refine ⟨_, hT6.c0, _, _, _, hT6.c1, ?_⟩
    refine E.CallsD.mono (refInner_c (o := x.output) (hG2.kept k26)) fun v w7 ⟨a7, n7, c7, hv, h7⟩ => ⟨_, _, _, _, hv, ?_⟩
    have k27 := Kept.trans k26 h7.kept
    have hT7 := hT.kept k27
    refine ⟨_, hT7.c0, _, _, _, hT7.c1, ?_⟩
    refine E.CallsD.mono (refWay_c (o := x.output) (c1 := c1) (hG2.kept k27) (hx2.keep k27) hE.xm) fun v w8 ⟨a8, n8, c8, hv, g8, h8, hg8, k8⟩ => ⟨_, _, _, _, hv, ?_⟩
    have k28 := Kept.trans k27 k8
    have k58 := Kept.trans (Kept.trans h6.kept h7.kept) k8
    have k48 := Kept.trans k5 k58
    have k38 := Kept.trans k4 k48
    have l3 := h3.len
    have l4 := h4.len
    have l5 := h5.len
    have l6 := h6.len
    have l7 := h7.len
    have l8 := h8.len
    have hnn := hG.len
    have hnm := hG.max
    have b1 := those_le (nodes := x.nodes) false
    have b2 := those_le (nodes := x.nodes) true
    have b3 := way_le (nodes := x.nodes) (xs := xs)
    rw [natL_length] at l3 l4 l5 l6 l7 l8
    have z2 := hk2.size
    have z3 := k3.size
    have z4 := k4.size
    have z5 := k5.size
    have z6 := h6.kept.size
    have z7 := h7.kept.size
    have z8 := k8.size
    have zw := hw.size
    have le3 := h3.le
    have le4 := h4.le
    have le5 := h5.le
    have le8 := h8.le
    refine ⟨_, own96 (ys := natL (wayP x.nodes xs)) (w1 := w8) (B := w1.heap.size) (g22 := g3) (g24 := g4) (h4.kept k48) (by omega) (by omega) (by omega) (by omega) (by omega) (by unfold fresh; omega) (by unfold fresh; omega) (by omega) (fun u hu => ⟨?_, ?_⟩) (fun u hu => ?_) n3 0 w8 _ (by omega) (From.refl _ _) (Mod.refl _) (h3.kept k38) (fun q hq => by omega)⟩
    · exact ((h5.kept k58).mod hu (fun k q1 q2 => by omega)).sl
    · exact (h8.mod hu (fun k q1 q2 => by omega)).sl
    · exact own69 hV h130 hn130 hR m (i + 1) u (by omega) ((hw.keptThen (Kept.trans hk2 k28)).trans hu (fun _ _ h => h) (fun _ _ h => h))
theorem own42 {vs : List Int} (hV : Env F Fc p2 p10 e f b t fc bc tc a1 n1 xs w1) (h15 : Sl enI w1 a15 n15 vs) (h17 : Sl enI w1 a17 n17 vs) (hn : n13 = n15) (hnb : n15 ≤ 1048576) (hf13 : g13 = 0 ∨ g13 ≤ w1.heap.size) (hB1 : B ≤ w1.heap.size) (hg13 : fresh B g13) (hVm : ∀ u, Mod (fun k => k + 1 = g13 ∨ w1.heap.size ≤ k) w1 u → Env F Fc p2 p10 e f b t fc bc tc a1 n1 xs u ∧ Sl enI u a15 n15 vs ∧ Sl enI u a17 n17 vs) (hR : ∀ u, From B w1 u → R (.bool true) u) :
    ∀ (m i : Nat) (w : World) (ss : List Int), i + m = n13 → Only g13 w1 w → Arr enI 2 w a13 n13 c13 ss g13 → thicketlaw07_TreesOwn.l42 R (m + 1) a1 n1 c1 (some p2) (some p10) a13 n13 c13 a15 n15 c15 a17 n17 c17 n13 i w
  | 0, i, w, ss, hi, hm, h13 => by
    unfold thicketlaw07_TreesOwn.l42 thicketlaw07_TreesOwn.g42
    refine onDec_f (by omega) ?_
    refine h13.pushL (m := 3) S_I64 (fun _ => rfl) (ys := [1, 2, 3]) rfl rfl (by omega) (by simp only [maxLen]; omega) (by omega) fun a' c' g' u1 h1 hg' hg0 ho1 => ⟨_, _, _, rfl, ?_⟩
    have m1 : Mod (fun k => k + 1 = g13 ∨ w1.heap.size ≤ k) w1 u1 := (hm.trans ho1 (fun _ _ h => h) (fun _ _ h => h) : Only g13 w1 u1).weak fun _ _ h => .inl h
    have fr1 : From B w1 u1 := ((From.refl B w1).only hm hg13).only ho1 hg13
    obtain ⟨hE, q15, q17⟩ := hVm u1 m1
    have l15 := h15.len
    have l17 := h17.len
    refine E.CallsD.mono (sums_c (c := c15) (d := c17) q15 q17 (by omega)) fun v u2 ⟨hv, k2⟩ => ⟨_, hv, ?_⟩
    rw [decide_eq_true rfl]
    refine ob_f (nv_mk (y := ((n17 + 3 : Nat) : Int)) (by rw [i64_id (by omega) (by omega)]; omega) (onNe_f (by omega) ?_))
    have hE2 := hE.kept k2
    refine optN_mk (hE2.b2.ld (optN_mk (hE2.b10.ld ?_)))
    refine E.CallsD.mono (refSame_c (f := f) (b := b) (t := t) (f' := fc) (b' := bc) (t' := tc) hE2.ge hE2.gc) fun v u3 ⟨hv, k3⟩ => ⟨_, hv, ?_⟩
    rw [decB_t rfl]
    have hE3 := hE2.kept k3
    refine ob_f (optN_mk ⟨_, _, _, hE3.b2.c4, ?_⟩)
    have z1 := fr1.size
    have z2 := k2.size
    have z3 := k3.size
    exact ⟨_, own69 (w1 := u3) hE3 hE3.ge.ts hE3.ge.tm (fun u hu => hR u (fr1.keptThen (Kept.trans (Kept.trans k2 k3) (From.kept hu)))) t.n 0 u3 (by omega) (From.refl _ _)⟩
  | m + 1, i, w, ss, hi, hm, h13 => by
    unfold thicketlaw07_TreesOwn.l42 thicketlaw07_TreesOwn.g42
    refine onDec_t (by omega) ?_
    refine h13.sl.rdI (k := .i64) (by omega) (by omega) fun y hy => nv_mk rfl ?_
    refine h13.wr (by omega) (by omega) (x := IntKind.i64.wrap (y + 1)) rfl fun u2 h2 ho => ?_
    refine nv_succ (by omega) ?_
    exact own42 hV h15 h17 hn hnb hf13 hB1 hg13 hVm hR m (i + 1) u2 _ (by omega) (hm.trans ho (fun _ _ h => h) (fun _ _ h => h)) h2
theorem scoreL_le (outs : Int) (xs : List Nat) : ∀ (ts : List TD) (acc : List Int), (scoreL outs xs ts acc).1.length ≤ acc.length
  | [], acc => Nat.le_refl _
  | t :: ts, acc => by
    rw [scoreL_cons]
    split
    · exact Nat.zero_le _
    · split
      · exact Nat.zero_le _
      · split
        · exact Nat.zero_le _
        · refine Nat.le_trans (scoreL_le outs xs ts _) ?_
          simp
theorem score_le : (scoreP e xs).1.length ≤ e.base.length := by
  unfold scoreP
  split
  · exact Nat.zero_le _
  · split
    · exact Nat.zero_le _
    · exact scoreL_le _ _ _ _
set_option maxHeartbeats 2000000 in
/-- The law TreesOwn. -/
theorem treesOwn_law (hE : GoodE F w e f b t) (hx : Sl enF w a1 n1 xs) (hm1 : n1 ≤ 1048576) : Pure Go.Proofs.Try.prog 8 #[vE e f b t, .slice a1 n1 c1] w (.bool true) := by
  refine thicketlaw07_TreesOwn.calls (R := fun v' u => v' = _ ∧ Below w.heap.size w u) ?_
  unfold thicketlaw07_TreesOwn thicketlaw07_TreesOwn.g0
  have hz := hE.sized
  have hzm := model_sized hz
  refine box5 fun v1 _ h5 hk1 => ?_
  refine E.CallsD.mono (lives_c v1) fun v v2 ⟨hv, k12⟩ => ⟨_, hv, ob_f ?_⟩
  have k2 := Kept.trans hk1 k12
  have b2 := h5.kept k12
  have e2 := hE.kept' k2
  have x2 := hx.keep k2
  clear h5 hk1 k12
  have lw := b2.lt
  refine b2.ld ?_
  refine E.CallsD.mono (Copy_c e2) fun v v3 ⟨fa, ba, ta, hv, o3, k23⟩ => ⟨_, _, _, _, _, _, _, _, _, _, _, hv, ?_⟩
  refine box5z fun v4 _ a4 k34 => ?_
  have k24 := Kept.trans k23 k34
  refine (b2.kept k24).ld ?_
  refine E.CallsD.mono (Model_c (e2.kept' k24)) fun v v5 ⟨fb, bb, tb, hv, o5, k45⟩ => ⟨_, _, _, _, _, _, _, _, _, _, _, _, hv, ?_⟩
  refine box5z fun v6 _ a6 k56 => ?_
  have k46 := Kept.trans k45 k56
  have k26 := Kept.trans k24 k46
  refine (b2.kept k26).ld ?_
  refine E.CallsD.mono (refModel_c (e2.kept' k26)) fun v v7 ⟨fw, bw, tw, hv, o7, k67⟩ => ⟨_, _, _, _, _, _, _, _, _, _, _, _, hv, ?_⟩
  refine box5z fun v8 _ a8 k78 => ?_
  have k68 := Kept.trans k67 k78
  have k28 := Kept.trans k26 k68
  refine (b2.kept k28).ld ?_
  refine E.CallsD.mono (refCopy_c (e2.kept' k28)) fun v v9 ⟨fc, bc, tc, hv, o9, k89⟩ => ⟨_, _, _, _, _, _, _, _, _, _, _, hv, ?_⟩
  refine box5z fun v10 _ a10 k910 => ?_
  have k810 := Kept.trans k89 k910
  have k210 := Kept.trans k28 k810
  have k410 := Kept.trans (Kept.trans k46 k68) k810
  have k610 := Kept.trans k68 k810
  have k310 := Kept.trans k34 k410
  have k510 := Kept.trans k56 k610
  have k710 := Kept.trans k78 k810
  have z23 := k23.size
  have z34 := k34.size
  have z45 := k45.size
  have z56 := k56.size
  have z67 := k67.size
  have z78 := k78.size
  have z89 := k89.size
  have z910 := k910.size
  have la4 := a4.lt
  have la6 := a6.lt
  have la8 := a8.lt
  have la10 := a10.lt
  simp only [na] at la4 la6 la8 la10
  have Fl : ∀ k, F k → k < v2.heap.size := e2.old
  refine (a4.kept k410).ld ?_
  have oa := (o3.ok (Z := fun k => (v2.heap.size ≤ k ∧ k < v3.heap.size) ∨ v10.heap.size ≤ k) hz (fun k h1 h2 => .inl ⟨h1, h2⟩)).kept k310
  refine E.CallsD.mono (spoil_c (e := e) oa (fun k h => .inr h)) fun v v11 ⟨hv, m11⟩ => ⟨hv, ?_⟩
  have z11 := m11.size
  have a611 := (a6.kept k610).mod m11 (by simp only [na]; omega)
  refine a611.ld ?_
  have mo : ∀ {w' : World}, Kept w' v10 → Mod (fun k => (v2.heap.size ≤ k ∧ k < v3.heap.size) ∨ v10.heap.size ≤ k) w' v11 := fun hk => (Kept.mod (S := fun _ => False) hk).trans m11 (fun _ _ h => h.elim) (fun _ _ h => h)
  have ob := (o5.ok (Z := fun k => (v4.heap.size ≤ k ∧ k < v5.heap.size) ∨ v11.heap.size ≤ k) hzm (fun k h1 h2 => .inl ⟨h1, h2⟩)).mod (mo k510) (fun k h1 h2 => by omega)
  refine E.CallsD.mono (spoil_c (e := modelP e) ob (fun k h => .inr h)) fun v v12 ⟨hv, m12⟩ => ⟨hv, ?_⟩
  have z12 := m12.size
  -- what both turn
  have mb : ∀ {w' : World}, Kept w' v10 → Mod (fun k => (v2.heap.size ≤ k ∧ k < v3.heap.size) ∨ (v4.heap.size ≤ k ∧ k < v5.heap.size) ∨ v10.heap.size ≤ k) w' v12 := fun hk => (mo hk).trans m12 (fun k _ h => by omega) (fun k _ h => by omega)
  have k212 : Kept v2 v12 := Mod.kept (mb k210) (fun k hk h => by omega)
  have b12 := b2.kept k212
  have e12 := e2.kept' k212
  have o712 := o7.modZ (mb k710) (fun k h1 h2 => by omega)
  have o912 := o9.modZ (mb k910) (fun k h1 h2 => by omega)
  have a812 := (a8.kept k810).mod m11 (by simp only [na]; omega) |>.mod m12 (by simp only [na]; omega)
  have a1012 := (a10.mod m11 (by simp only [na]; omega)).mod m12 (by simp only [na]; omega)
  have x12 := x2.keep k212
  refine b12.ld ?_
  refine E.CallsD.mono (Model_c e12) fun v v13 ⟨fd, bd, td, hv, o13, k1213⟩ => ⟨_, _, _, _, _, _, _, _, _, _, _, _, hv, ?_⟩
  refine box5z fun v14 _ a14 k1314 => ?_
  have k1214 := Kept.trans k1213 k1314
  refine (b12.kept k1214).ld ((a1012.kept k1214).ld ?_)
  have c14 := (o912.kept k1214).good hz
  refine E.CallsD.mono (refSame_c (f := f) (b := b) (t := t) (f' := fc) (b' := bc) (t' := tc) (e12.kept' k1214) c14) fun v v15 ⟨hv, k1415⟩ => ⟨_, hv, ?_⟩
  rw [decB_t rfl]
  have k1215 := Kept.trans k1214 k1415
  refine ob_f ((a14.kept k1415).ld ((a812.kept k1215).ld ?_))
  refine E.CallsD.mono (refSame_c (f := fd) (b := bd) (t := td) (f' := fw) (b' := bw) (t' := tw) ((o13.kept (Kept.trans k1314 k1415)).good hzm) ((o712.kept k1215).good hzm)) fun v v16 ⟨hv, k1516⟩ => ⟨_, hv, ?_⟩
  rw [decB_t rfl]
  have k1216 := Kept.trans k1215 k1516
  refine ob_f (onNe_f rfl ((b12.kept k1216).ld ?_))
  refine E.CallsD.mono (Score_c (c1 := c1) (e12.kept' k1216) (x12.keep k1216) hm1) fun v v17 ⟨a17, n17, c17, hv, g17, h17, hg17, k1617⟩ => ⟨_, _, _, _, hv, ?_⟩
  have k1217 := Kept.trans k1216 k1617
  refine (b12.kept k1217).ld ?_
  refine E.CallsD.mono (Score_c (c1 := c1) (e12.kept' k1217) (x12.keep k1217) hm1) fun v v18 ⟨a18, n18, c18, hv, g18, h18, hg18, k1718⟩ => ⟨_, _, _, _, hv, ?_⟩
  have k1218 := Kept.trans k1217 k1718
  refine (a1012.kept k1218).ld ?_
  refine E.CallsD.mono (refScore_c (c1 := c1) ((o912.kept k1218).good hz) (x12.keep k1218) hm1) fun v v19 ⟨a19, n19, c19, hv, g19, h19, hg19, k1819⟩ => ⟨_, _, _, _, hv, ?_⟩
  have k1219 := Kept.trans k1218 k1819
  have k1719 := Kept.trans k1718 k1819
  have l17 := h17.len
  have l18 := h18.len
  have l19 := h19.len
  have y1 := k1617.size
  have y2 := k1718.size
  have y3 := k1819.size
  have y4 := k1216.size
  have q17 := h17.le
  have q18 := h18.le
  have q19 := h19.le
  have sl := score_le (e := e) (xs := xs)
  have hbm := hE.bm
  have hbs := hE.bs.len
  have env19 : Env F (newB v8.heap.size v12) (na w) (na v9) e f b t fc bc tc a1 n1 xs v19 := ⟨e12.kept' k1219, (o912.good hz).kept' k1219, b12.kept k1219, a1012.kept k1219, x12.keep k1219, hm1⟩
  have k2u : ∀ {u : World}, Mod (fun k => k + 1 = g17 ∨ v19.heap.size ≤ k) v19 u → Kept v2 u := fun hu => by
    have k219 := Kept.trans k212 k1219
    have y5 := k219.size
    exact Mod.kept ((Kept.mod k219).trans hu (S := fun k => k + 1 = g17 ∨ v19.heap.size ≤ k) (fun _ _ h => h) (fun _ _ h => h)) (fun k hk h => by omega)
  refine ⟨_, own42 (w1 := v19) (g13 := g17) (B := v16.heap.size) (vs := (scoreP e xs).1) env19 (h18.kept k1819).sl h19.sl (by omega) (by omega) (by omega) (by omega) hg17 (fun u hu => ⟨⟨?_, ?_, ?_, ?_, ?_, hm1⟩, ?_, ?_⟩) (fun u hu => ⟨rfl, ?_⟩) n17 0 v19 _ (by omega) (Mod.refl _) (h17.kept k1719)⟩
  · exact e2.kept' (k2u hu)
  · exact env19.gc.modZ hu (fun k hk h => by have hk1 := hk.1; have hk2 := hk.2; omega)
  · exact b2.kept (k2u hu)
  · exact env19.b10.mod hu (by simp only [na]; omega)
  · exact x2.keep (k2u hu)
  · exact ((h18.kept k1819).mod hu (fun k q1 q2 => by omega)).sl
  · exact (h19.mod hu (fun k q1 q2 => by omega)).sl
  · have k219 := Kept.trans k212 k1219
    exact Kept.trans k2 (Mod.kept (S := fun k => v16.heap.size ≤ k) ((Kept.mod k219).trans hu (S := fun k => v16.heap.size ≤ k) (fun _ _ h => h) (fun _ _ h => h)) (fun k hk h => by omega))
end
end
end Go.Mir
