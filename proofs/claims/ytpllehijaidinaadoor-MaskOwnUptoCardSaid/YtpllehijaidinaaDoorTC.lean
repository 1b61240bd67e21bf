/- Part of a proof of laws of the seat YtpllehijaidinaaDoor: functions' weakest preconditions, each checked by the kernel, contracts out of them, plain lemmas; no conditions. -/
import Derived.Test.YtpllehijaidinaaDoorTB
import Derived.Test.YtpllehijaidinaaDoorEC
set_option linter.unusedVariables false
set_option linter.unusedSimpArgs false
set_option maxRecDepth 100000
namespace Go.Mir
open Go Go.E Go.RowKit Go.Tr
abbrev enS (s : ByteArray) : Value := .string s
structure GoodE (F : Nat → Prop) (w : World) (e : ED) (f b t : SH) : Prop where
  fs : Ls tStr F w f.a f.n f.c e.features
  bs : Ls (tInt .i64) F w b.a b.n b.c e.base
  ts : Ls tT F w t.a t.n t.c e.trees
  old : ∀ b, F b → b < w.heap.size
  fm : f.n ≤ 1048576
  bm : b.n ≤ 1048576
  tm : t.n ≤ 1048576
  good : ∀ x ∈ e.trees, x.nodes.length ≤ 1048576 ∧ Short 1048576 x.nodes
/-- The sum over the trees. -/
noncomputable def scoreL (outs : Int) (xs : List Nat) : List TD → List Int → List Int × Int
  | [], acc => (acc, 0)
  | t :: ts, acc =>
    if (shapeP nanB t.nodes).1 ≠ 0 then ([], (shapeP nanB t.nodes).1) else
    if t.output < 0 ∨ outs ≤ t.output then ([], 6) else
    if wayE t.nodes xs.length ≠ 0 then ([], wayE t.nodes xs.length) else
    scoreL outs xs ts (acc.set t.output.toNat (IntKind.i64.wrap (acc.getD t.output.toNat 0 + valAt t.nodes (endP t.nodes xs))))
theorem scoreL_cons (outs : Int) (xs : List Nat) (t : TD) (ts : List TD) (acc : List Int) : scoreL outs xs (t :: ts) acc = if (shapeP nanB t.nodes).1 ≠ 0 then ([], (shapeP nanB t.nodes).1) else
    if t.output < 0 ∨ outs ≤ t.output then ([], 6) else
    if wayE t.nodes xs.length ≠ 0 then ([], wayE t.nodes xs.length) else
    scoreL outs xs ts (acc.set t.output.toNat (IntKind.i64.wrap (acc.getD t.output.toNat 0 + valAt t.nodes (endP t.nodes xs)))) := rfl
noncomputable def scoreP (e : ED) (xs : List Nat) : List Int × Int :=
  if e.outputs < 1 ∨ (e.base.length : Int) ≠ e.outputs then ([], 6) else
  if xs.length ≠ e.features.length then ([], 72) else scoreL e.outputs xs e.trees e.base
section
variable {w u w1 : World} {p : Addr} {o : Int} {a a1 : Option Addr} {n c n1 c1 : Nat} {F : Nat → Prop} {nodes : List ND} {xs : List Nat} {ys : List Int} {e : ED} {f b t : SH}
theorem GoodE.kept (h : GoodE F w e f b t) (hk : Kept w u) : GoodE F u e f b t := ⟨h.fs.kept hk, h.bs.kept hk, h.ts.kept hk, fun b hb => Nat.lt_of_lt_of_le (h.old b hb) hk.size, h.fm, h.bm, h.tm, h.good⟩
theorem GoodE.from (h : GoodE F w e f b t) (hk : From w.heap.size w u) : GoodE F u e f b t := h.kept (From.kept hk)
end
end Go.Mir

set_option maxRecDepth 100000
namespace Go.Mir
open Go Go.E Go.RowKit Go.Tr
section
variable {w : World} {a b : Option Addr} {n c m d : Nat} {xs ys : List Int}
theorem drop_ne {i : Nat} {x y : Int} (hx : xs[i]? = some x) (hy : ys[i]? = some y) (h : x ≠ y) : xs ≠ ys := fun e => by subst e; rw [hx] at hy; exact h (by simpa using hy)
theorem ints_loop {R : Value → World → Prop} (hn : n = xs.length) (hm : n ≤ 16777216) (he : xs.length = ys.length) (hs : Sl enI w a n xs) (ht : Sl enI w b m ys) (hR : R (.bool (decide (xs = ys))) w) : ∀ (k i : Nat), i + k = n → xs.take i = ys.take i → thicketref07_Ints.l14 R (k + 1) a n c b m d n i w
  | 0, i, hi, hp => by
    unfold thicketref07_Ints.l14 thicketref07_Ints.g14
    refine onDec_f (by omega) ?_
    rw [List.take_of_length_le (by omega), List.take_of_length_le (by omega)] at hp
    rw [decide_eq_true hp] at hR
    exact hR
  | k + 1, i, hi, hp => by
    unfold thicketref07_Ints.l14 thicketref07_Ints.g14
    refine onDec_t (by omega) ?_
    have hml := ht.len
    refine hs.rdI (k := .i64) (by omega) (by omega) fun x hx => ?_
    refine ht.rdI (k := .i64) (by omega) (by omega) fun y hy => ?_
    rw [Int.toNat_natCast] at hx hy
    refine onNe (fun h => ?_) fun h => ?_
    · rw [decide_eq_false (drop_ne hx hy h)] at hR
      exact hR
    · subst h
      refine nv_succ (by omega) ?_
      exact ints_loop hn hm he hs ht hR k (i + 1) (by omega) (by rw [take_snoc hx, take_snoc hy, hp])
theorem Ints_c (hs : Sl enI w a n xs) (ht : Sl enI w b m ys) (hm : n ≤ 16777216) : Pure Go.Proofs.Tryd.prog 50 #[.slice a n c, .slice b m d] w (.bool (decide (xs = ys))) := by
  refine thicketref07_Ints.calls (R := fun v' u => v' = _ ∧ Below w.heap.size w u) ?_
  unfold thicketref07_Ints thicketref07_Ints.g0
  have hl := hs.len
  have hl2 := ht.len
  refine onNe (fun h => ⟨by rw [decide_eq_false]; intro e; subst e; omega, Below.refl _ _⟩) fun h => ?_
  exact ⟨n + 1, ints_loop hl hm (by omega) hs ht ⟨rfl, Below.refl _ _⟩ n 0 (by omega) rfl⟩
end
end Go.Mir

set_option maxRecDepth 100000
namespace Go.Mir
open Go Go.E Go.RowKit Go.Tr
section
variable {w u w1 : World} {p : Addr} {o : Int} {a a1 : Option Addr} {n c n1 c1 : Nat} {F : Nat → Prop} {nodes : List ND} {xs : List Nat} {ys : List Int} {e : ED} {f b t : SH}
end
end Go.Mir

set_option maxRecDepth 100000
namespace Go.Mir
open Go Go.E Go.RowKit Go.Tr
def nd0 : ND := ⟨2, 0, 1, 4602678819172646912, [], 2, 2, 1⟩
def nd1 : ND := ⟨1, 30, 0, 0, [], 0, 0, 0⟩
def nd2 : ND := ⟨3, 0, 0, 0, [1, 3], 1, 3, 4⟩
def nd3 : ND := ⟨1, 10, 0, 0, [], 0, 0, 0⟩
def nd4 : ND := ⟨1, 20, 0, 0, [], 0, 0, 0⟩
def sampleN : List ND := [nd0, nd1, nd2, nd3, nd4]
def sampleT : BT := .node 0 (.node 2 (.leaf 3) (.leaf 4)) (.leaf 1)
theorem sample_shape : shapeP nanB sampleN = (0, 0) := by decide +kernel
theorem Is.uniq {nodes : List ND} : ∀ {T U : BT}, Is nodes T → Is nodes U → T.root = U.root → T = U
  | .leaf i, .leaf j, _, _, h => by simp [BT.root] at h; subst h; rfl
  | .leaf i, .node j l r, ⟨x, hx, hn⟩, ⟨y, hy, hi, _⟩, h => by simp [BT.root] at h; subst h; rw [hx] at hy; cases hy; rw [hn] at hi; cases hi
  | .node j l r, .leaf i, ⟨y, hy, hi, _⟩, ⟨x, hx, hn⟩, h => by simp [BT.root] at h; subst h; rw [hx] at hy; cases hy; rw [hn] at hi; cases hi
  | .node i l r, .node j l' r', ⟨x, hx, hi, hl, hr, h1, h2⟩, ⟨y, hy, hi', hl', hr', h1', h2'⟩, h => by
    simp [BT.root] at h; subst h
    rw [hx] at hy; cases hy
    rw [Is.uniq h1 h1' (by omega), Is.uniq h2 h2' (by omega)]
theorem sample_is : Is sampleN sampleT := ⟨nd0, rfl, by decide, rfl, rfl, ⟨nd2, rfl, by decide, rfl, rfl, ⟨nd3, rfl, by decide⟩, ⟨nd4, rfl, by decide⟩⟩, ⟨nd1, rfl, by decide⟩⟩
theorem sample_tree : treeP sampleN = sampleT := by
  have h := treeP_spec (nodes := sampleN) (by rw [sample_shape])
  exact Is.uniq h.is sample_is (by rw [h.root]; rfl)
end Go.Mir

set_option maxRecDepth 100000
namespace Go.Mir
open Go Go.E Go.RowKit Go.Tr
section
variable {w u : World}
def sampleH (q : Option Addr) : List (ND × SH) := [(nd0, ⟨none, 0, 0⟩), (nd1, ⟨none, 0, 0⟩), (nd2, ⟨q, 2, 2⟩), (nd3, ⟨none, 0, 0⟩), (nd4, ⟨none, 0, 0⟩)]
theorem Ls_of {F : Nat → Prop} {b e : Nat} {l : List (ND × SH)} (hb : Blk u b (l.flatMap enH).toArray e) (hF : F b) (hc : ∀ x ∈ l, Ls (tInt .i64) F u x.2.a x.2.n x.2.c x.1.cats) (n : Nat) (hn : n = l.length) : Ls tN F u (some ⟨b, 0, none⟩) n n (l.map (·.1)) := by
  refine ⟨by simp [hn], Nat.le_refl _, fun i x hi => ?_⟩
  rw [List.getElem?_map] at hi
  obtain ⟨y, hy, rfl⟩ := Option.map_eq_some_iff.1 hi
  refine ⟨_, enH y, rfl, hF, ⟨_, _, _, rfl, hc y (List.mem_of_getElem? hy)⟩, fun j v hj => ?_⟩
  rw [addr_add, Nat.zero_add, hb.cell]
  have := flatMap_at (k := 8) l (en := enH) (fun x _ => rfl) i y hy j v hj
  rw [List.getElem?_toArray]
  exact this
theorem Blk.rd' {w : World} {b i : Nat} {cs : Array Value} {v : Value} {e : Nat} (h : Blk w b cs e) (hi : cs[i]? = some v) : w.cell? ⟨b, i, none⟩ = some v := by rw [h.cell, hi]
end
end Go.Mir

set_option maxRecDepth 100000
namespace Go.Mir
open Go Go.E Go.RowKit Go.Tr
def nanF : Nat := 9221120237041090561
def smpF : List ByteArray := [⟨#[97]⟩, ⟨#[98]⟩]
def smpE : ED := ⟨⟨#[]⟩, smpF, 1, [7], [⟨0, sampleN⟩]⟩
theorem smp_those : thoseP sampleN false = [3, 4, 1] := by
  unfold thoseP
  rw [if_pos (by rw [sample_shape]), sample_tree]
  decide +kernel
theorem smp_wayE : wayE sampleN (([4611686018427387904, 4602678819172646912] : List Nat).length) = 0 := by decide +kernel
theorem smp_wayE2 : wayE sampleN (([0, nanF] : List Nat).length) = 0 := by decide +kernel
theorem smp_end : endP sampleN [4611686018427387904, 4602678819172646912] = 4 := by unfold endP; rw [sample_tree]; decide +kernel
theorem smp_end2 : endP sampleN [0, nanF] = 1 := by unfold endP; rw [sample_tree]; decide +kernel
theorem smp_leafK : leafK sampleN [4611686018427387904, 4602678819172646912] = 1 := by
  unfold leafK; rw [if_pos smp_wayE, smp_end, smp_those]; decide +kernel
theorem smp_leafV : leafV sampleN [4611686018427387904, 4602678819172646912] = 20 := by
  unfold leafV; rw [if_pos smp_wayE, smp_end]; decide +kernel
theorem smp_score : scoreP smpE [0, nanF] = ([37], 0) := by
  unfold scoreP
  rw [if_neg (by decide), if_neg (by decide)]
  show scoreL 1 [0, nanF] [⟨0, sampleN⟩] [7] = _
  rw [scoreL_cons]
  simp only
  rw [if_neg (by rw [sample_shape]; decide), if_neg (by decide), if_neg (by rw [smp_wayE2]; decide), smp_end2]
  decide +kernel
theorem smp_goes : goesP nd0 4602678819172646912 = 1 := by decide +kernel
theorem smp_short : Short 1048576 sampleN := by
  intro x hx
  simp only [sampleN, List.mem_cons, List.not_mem_nil, or_false] at hx
  rcases hx with h | h | h | h | h <;> subst h <;> decide
def inW (u : World) (b : Nat) : Prop := b < u.heap.size
def FL : Nat → Value → World → Prop := fun i v u => match i with
  | 0 => ∃ q, v = .slice (some q) 2 2 ∧ Ls tStr (inW u) u (some q) 2 2 smpF
  | 1 => ∃ q, v = .slice (some q) 1 1 ∧ Ls (tInt .i64) (inW u) u (some q) 1 1 [7]
  | 3 => ∃ q, v = .slice (some q) 1 1 ∧ Ls tT (inW u) u (some q) 1 1 [⟨0, sampleN⟩]
  | 5 => v = .float .f64 nanF
  | 6 => ∃ q, v = .slice (some q) 2 2 ∧ Sl enF u (some q) 2 [0, nanF]
  | 7 => ∃ a' n' c', v = .tuple #[.slice a' n' c', .int .i64 0] ∧ Sl enI u a' n' [37]
  | _ => True
section
variable {w u : World} {a : Option Addr} {n c : Nat}
theorem Ls.grow {α : Type} {T : Ty α} {xs : List α} (h : Ls T (inW w) w a n c xs) (hk : Kept w u) : Ls T (inW u) u a n c xs := (h.kept hk).mono fun b hb => Nat.lt_of_lt_of_le hb hk.size
theorem FL_keep (i : Nat) (v : Value) (u u' : World) (h : FL i v u) (hk : Below u.heap.size u u') : FL i v u' := by
  unfold FL at *
  split at h
  · obtain ⟨q, h1, h2⟩ := h; exact ⟨q, h1, Ls.grow h2 hk⟩
  · obtain ⟨q, h1, h2⟩ := h; exact ⟨q, h1, Ls.grow h2 hk⟩
  · obtain ⟨q, h1, h2⟩ := h; exact ⟨q, h1, Ls.grow h2 hk⟩
  · exact h
  · obtain ⟨q, h1, h2⟩ := h; exact ⟨q, h1, h2.keep hk⟩
  · obtain ⟨a', n', c', h1, h2⟩ := h; exact ⟨a', n', c', h1, h2.keep hk⟩
  · trivial
theorem lit_ls {α : Type} {en : α → Value} {h1 : ∀ x, (en x).oneCell' = true} (e : Nat) (w : World) (xs : List α) (cs : Array Value) (hc : cs.toList = xs.map en) (hn : xs.length ≤ maxLen) : Ls (Ty.flat en h1) (inW (w.alloc (.cells cs e))) (w.alloc (.cells cs e)) (some (na w)) xs.length xs.length xs := by
  have h := Arr.new en e w xs cs hc hn
  exact (h.ls (h1 := h1)).mono fun b hb => by have := h.le; show b < _; omega
theorem pq {P : Program} {fn : FuncId} {args : Array Value} {w u : World} {v : Value} (h : Pure P fn args u v) (hu : Kept w u) : E.CallsD P fn args u fun v' u' => v' = v ∧ Below w.heap.size w u' :=
  E.CallsD.mono h fun _ _ ⟨hv, hk⟩ => ⟨hv, Kept.trans hu hk⟩
end
end Go.Mir
