/- Part of a proof of laws of the seat YtabmjhhjbifagaaDoor: functions' weakest preconditions, each checked by the kernel, and contracts out of them; no conditions. -/
import Derived.Test.YtabmjhhjbifagaaDoorM2
import Derived.Laws.IdiomStrings
set_option linter.unusedVariables false
set_option linter.unusedSimpArgs false
namespace Go.E
open Go Go.RowKit

def enB (x : UInt8) : Value := .int .u8 (x.toNat : Int)
theorem run_convert_nil_bytes' {P : Program} (w : World) (src dst e : TypeId) (c : Nat) (hs : P.underlying src = some (.slice e)) (he : P.underlying e = some (.int .u8)) (hd : P.underlying dst = some .string) :
    (convert src dst (.slice none 0 c)).run P w = .ok (.string ⟨#[]⟩) w := by
  rw [run_convert_bytes_string w src dst e none 0 c hs he hd]
  simp [Conv.bytesToString]
  rfl
/-- string(bytes). -/
theorem rawN_bytes {P : Program} {w : World} {src dst e : TypeId} {a : Option Addr} {n c : Nat} {bs : List UInt8} {K : Value → World → Prop} (hs : P.underlying src = some (.slice e)) (he : P.underlying e = some (.int .u8)) (hd : P.underlying dst = some .string)
    (h : Sl enB w a n bs) (hK : K (.string ⟨bs.toArray⟩) w) : rawN P (convert src dst (.slice a n c)) w K := by
  obtain rfl := h.len
  cases a with
  | none =>
    have : bs = [] := by
      cases bs with
      | nil => rfl
      | cons b l => obtain ⟨p, hp, _⟩ := h.get 0 b rfl; cases hp
    subst this
    exact rawN.of (fun d => run_convert_nil_bytes' (dr w d) src dst e c hs he hd) hK
  | some p =>
    refine rawN.of (fun d => run_convert_bytes_back (dr w d) src dst e p c bs hs he hd fun j hj => ?_) hK
    obtain ⟨q, hq, hc⟩ := h.get j _ (List.getElem?_eq_getElem hj)
    cases hq
    exact hc
theorem Sl.rdB {w : World} {a : Option Addr} {n : Nat} {xs : List UInt8} (h : Sl enB w a n xs) {i : Int} {K : Int → Prop} (h0 : 0 ≤ i) (hi : i < n) (hk : ∀ x : UInt8, xs[i.toNat]? = some x → K (x.toNat : Int)) :
    optN a fun q => chk (0 ≤ i ∧ i < (n : Int)) (∃ y : Int, w.cell? (q.add (i.toNat * 1)) = some (.int .u8 y) ∧ K y) := h.rd (f := fun y => .int .u8 y) (sel := fun x => (x.toNat : Int)) (fun _ => rfl) h0 hi hk
/-- A slice of nothing but a new block. -/
theorem Sl.new {α : Type} (en : α → Value) (e : Nat) (w : World) (xs : List α) (cs : Array Value) (hc : cs = (xs.map en).toArray) : Sl en (w.alloc (.cells cs e)) (some (na w)) xs.length xs := by
  subst hc
  refine ⟨rfl, fun i x hi => ⟨_, rfl, ?_⟩⟩
  rw [cell_new]
  simp [hi]
end Go.E
