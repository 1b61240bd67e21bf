/- Part of a proof of laws of the seat Ytmjlipmapfofmaa: functions' weakest preconditions, each checked by the kernel, contracts out of them, plain lemmas; no conditions. -/
import Derived.Test.YtmjlipmapfofmaaTB
import Derived.Test.YtmjlipmapfofmaaEC
set_option linter.unusedVariables false
set_option linter.unusedSimpArgs false
set_option linter.unusedSectionVars false
set_option maxRecDepth 100000
namespace Go.Mir
open Go Go.E Go.RowKit Go.Tr
theorem S_I64 : SliceT Go.Proofs.Try.prog 23 2 1 8 := sliceT (by kernel_rfl)
abbrev enS (s : ByteArray) : Value := .string s
structure GoodE (F : Nat → Prop) (w : World) (e : ED) (f b t : SH) : Prop where
  fs : Ls tStr F w f.a f.n f.c e.features
  bs : Ls (tInt .i64) F w b.a b.n b.c e.base
  ts : Ls tT F w t.a t.n t.c e.trees
  old : ∀ b, F b → b < w.heap.size
  fm : f.n ≤ 1048576
  bm : b.n ≤ 1048576
  tm : t.n ≤ 1048576
  good : ∀ x ∈ e.trees, x.nodes.length ≤ 1048576 ∧ Short 1048576 x.nodes
section
variable {w u w1 : World} {p : Addr} {o : Int} {a a1 : Option Addr} {n c n1 c1 : Nat} {F : Nat → Prop} {nodes : List ND} {xs : List Nat} {ys : List Int} {e : ED} {f b t : SH}
theorem GoodE.kept (h : GoodE F w e f b t) (hk : Kept w u) : GoodE F u e f b t := ⟨h.fs.kept hk, h.bs.kept hk, h.ts.kept hk, fun b hb => Nat.lt_of_lt_of_le (h.old b hb) hk.size, h.fm, h.bm, h.tm, h.good⟩
theorem cloneI64_c (hs : Sl enI w a n ys) (hm : n ≤ 1048576) : E.CallsD Go.Proofs.Try.prog 29 #[.slice a n c] w fun v u => ∃ a' n' c', v = .slice a' n' c' ∧ NewA enI 2 w u a' n' c' ys ∧ (a = none → a' = none) := by
  refine slices_Clone_i64.calls ?_
  unfold slices_Clone_i64 slices_Clone_i64.g0
  by_cases ha : a = none
  · subst ha
    refine ob_t ⟨_, _, _, rfl, ⟨0, ?_, .inl rfl, Below.refl _ _⟩, fun _ => rfl⟩
    have : ys = [] := by
      cases ys with
      | nil => rfl
      | cons x xs => obtain ⟨p, hp, _⟩ := hs.get 0 x rfl; cases hp
    rw [this]; exact Arr.nil _ _ _
  · exact cloneA (R := fun v u => ∃ a' n' c', v = .slice a' n' c' ∧ NewA enI 2 w u a' n' c' ys ∧ (a = none → a' = none)) S_I64 (fun _ => rfl) hs (by simp only [maxLen]; omega) (by omega) (fun h => absurd h ha) fun a' c' u h => ⟨_, _, _, rfl, _, _, _, rfl, h, fun h => absurd h ha⟩
end
end Go.Mir

set_option maxRecDepth 100000
namespace Go.Mir
open Go Go.E Go.RowKit Go.Tr
section
variable {w : World} {a b : Option Addr} {n c m d : Nat} {xs ys : List Int}
end
end Go.Mir

set_option maxRecDepth 100000
namespace Go.Mir
open Go Go.E Go.RowKit Go.Tr
section
variable {w u w1 : World} {p : Addr} {o : Int} {a a1 : Option Addr} {n c n1 c1 : Nat} {F : Nat → Prop} {nodes : List ND} {xs : List Nat} {ys : List Int} {e : ED} {f b t : SH}
end
end Go.Mir

set_option maxRecDepth 100000
namespace Go.Mir
open Go Go.E Go.RowKit Go.Tr
def nd2 : ND := ⟨3, 0, 0, 0, [1, 3], 1, 3, 4⟩
theorem Is.uniq {nodes : List ND} : ∀ {T U : BT}, Is nodes T → Is nodes U → T.root = U.root → T = U
  | .leaf i, .leaf j, _, _, h => by simp [BT.root] at h; subst h; rfl
  | .leaf i, .node j l r, ⟨x, hx, hn⟩, ⟨y, hy, hi, _⟩, h => by simp [BT.root] at h; subst h; rw [hx] at hy; cases hy; rw [hn] at hi; cases hi
  | .node j l r, .leaf i, ⟨y, hy, hi, _⟩, ⟨x, hx, hn⟩, h => by simp [BT.root] at h; subst h; rw [hx] at hy; cases hy; rw [hn] at hi; cases hi
  | .node i l r, .node j l' r', ⟨x, hx, hi, hl, hr, h1, h2⟩, ⟨y, hy, hi', hl', hr', h1', h2'⟩, h => by
    simp [BT.root] at h; subst h
    rw [hx] at hy; cases hy
    rw [Is.uniq h1 h1' (by omega), Is.uniq h2 h2' (by omega)]
end Go.Mir

set_option maxRecDepth 100000
namespace Go.Mir
open Go Go.E Go.RowKit Go.Tr
section
variable {w u : World}
end
end Go.Mir

set_option maxRecDepth 100000
namespace Go.Mir
open Go Go.E Go.RowKit Go.Tr
section
variable {w u : World} {a : Option Addr} {n c : Nat}
theorem pq {P : Program} {fn : FuncId} {args : Array Value} {w u : World} {v : Value} (h : Pure P fn args u v) (hu : Kept w u) : E.CallsD P fn args u fun v' u' => v' = v ∧ Below w.heap.size w u' :=
  E.CallsD.mono h fun _ _ ⟨hv, hk⟩ => ⟨hv, Kept.trans hu hk⟩
end
end Go.Mir
