/- Part of a proof of laws of the seat Ytfcablfoenhiiaa: functions' weakest preconditions, each checked by the kernel, and contracts out of them; no conditions. -/
import Derived.Test.YtfcablfoenhiiaaLB
set_option linter.unusedVariables false
set_option linter.unusedSimpArgs false
namespace Go.Mir
open Go Go.E Go.RowKit

theorem unpacked_packed {l : List (List Nat)} {D : Nat} (h : ∀ r ∈ l, r.length = D) : unpacked (packed l D) l.length D = l := by
  apply List.ext_getElem
  · simp [unpacked]
  intro i h1 h2
  have hlen : (l[i]).length = D := h _ (List.getElem_mem h2)
  apply List.ext_getElem
  · simp [unpacked, unRow, hlen]
  intro f h3 h4
  have hf : f < D := by omega
  have e1 : (packed l D).getD (i / 8) [] = packRow l D (i / 8) := by
    unfold packed
    rw [List.getD_eq_getElem?_getD, List.getElem?_map, List.getElem?_range (by omega)]
    rfl
  have e2 : (packRow l D (i / 8)).getD f (fun _ => 0) = fun k => packV l (i / 8) f k := by
    unfold packRow
    rw [List.getD_eq_getElem?_getD, List.getElem?_map, List.getElem?_range hf]
    rfl
  simp only [unpacked, unRow, List.getElem_map, List.getElem_range]
  unfold unV
  rw [e1, e2]
  show rowAt l (min (8 * (i / 8) + i % 8) (l.length - 1)) f = _
  rw [show min (8 * (i / 8) + i % 8) (l.length - 1) = i by omega, rowAt_get h2 (by omega)]

theorem lanesTurned_law {w : World} {a : Option Addr} {n c : Nat} {d : Int} {l : List (List Nat)} (hx : Sl2 encF w a n l) (hs : n ≤ 1048576) (hsr : ∀ r ∈ l, r.length ≤ 1048576) :
    Pure Proofs.Try.prog 6 #[.slice a n c, .int .i64 d] w (.bool true) := by
  have hln := hx.len
  refine thicketlaw18_LanesTurned.calls (R := fun v' u => v' = _ ∧ Below w.heap.size w u) ?_
  unfold thicketlaw18_LanesTurned thicketlaw18_LanesTurned.g0
  refine E.CallsD.mono (begins w) fun v u1 ⟨hv, b1⟩ => ⟨_, hv, ?_⟩
  show onBool false _ _
  rw [onBool_f]
  refine E.CallsD.mono (lanesPack (hx.keep b1) hs) fun v u2 ⟨a2, n2, c2, hv, hg, b2⟩ => ⟨_, _, _, _, hv, ?_⟩
  have B2 := bthen b1 b2
  refine onBool_mk (fun hb => ⟨?_, B2⟩) (fun hb => ?_)
  · have hne : packCode l d ≠ 0 := by simpa using hb
    have := hg.len
    unfold packAns at this
    rw [if_neg hne] at this
    simp at this
    simp [this]
  · have h0 : packCode l d = 0 := by simpa using hb
    have hd : 0 ≤ d ∧ d ≤ 65536 ∧ allLen l d = true := by
      unfold packCode at h0
      split at h0
      · cases h0
      · split at h0
        · cases h0
        · split at h0
          · exact ⟨by omega, by omega, by assumption⟩
          · cases h0
    obtain ⟨D, rfl⟩ : ∃ D : Nat, d = D := ⟨d.toNat, by omega⟩
    have hall := allLen_nat hd.2.2
    have hgs : packAns l D = packed l D := by unfold packAns; rw [if_pos h0]; rfl
    rw [hgs] at hg
    have hpl : (packed l D).length = (n + 7) / 8 := by simp [packed, hln]
    have hn2 := hg.len
    have hcode : unCode (packed l D) (n : Int) (D : Int) = 0 := by
      unfold unCode
      rw [if_neg (by omega), if_neg (by omega), if_neg (by omega), if_neg (by rw [hpl]; simp), if_pos]
      unfold allLenG
      rw [List.all_eq_true]
      intro r hr
      simp only [packed, List.mem_map] at hr
      obtain ⟨g, _, rfl⟩ := hr
      simp [packRow]
    refine E.CallsD.mono (lanesUnpack (N := n) (d := D) hg (by omega) (by omega)) fun v u3 ⟨a3, n3, c3, hv, hm, b3⟩ => ⟨_, _, _, _, hv, ?_⟩
    have B3 := bthen B2 b3
    rw [hcode]
    show onBool true _ _
    rw [onBool_t]
    have hun : unAns (packed l D) (n : Int) (D : Int) = l := by
      unfold unAns
      rw [if_pos hcode]
      show unpacked (packed l D) n D = l
      rw [hln]
      exact unpacked_packed hall
    rw [hun] at hm
    refine E.CallsD.mono (alike ⟨by omega, hsr⟩ hm (hx.keep B3)) fun v u4 ⟨hv, b4⟩ => ⟨_, hv, rfl, bthen B3 b4⟩
end Go.Mir
