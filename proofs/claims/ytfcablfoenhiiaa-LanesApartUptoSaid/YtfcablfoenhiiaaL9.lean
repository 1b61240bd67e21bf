/- Part of a proof of laws of the seat Ytfcablfoenhiiaa: functions' weakest preconditions, each checked by the kernel, and contracts out of them; no conditions. -/
import Derived.Test.YtfcablfoenhiiaaL8
set_option linter.unusedVariables false
set_option linter.unusedSimpArgs false
namespace Go.Mir
open Go Go.E Go.RowKit

/-! ### the document's Unpack -/
abbrev B53 := Option Addr → Nat → Nat → Int → Int → Option Addr → Nat → Nat → Int → World → Prop

theorem runpack_f {R : Value → World → Prop} {b53 : B53} {wg : World} {a a10 : Option Addr} {n c n10 c10 N d i : Nat} {gs : List (List (Nat → Nat))} (hU : UIn wg a n gs N d) (hi : i < N)
    (h : ∀ v w, Below wg.heap.size wg w → Own1 22 encF wg.heap.size w v (unRow gs d i) → ∀ a9 n9 c9, v = .slice a9 n9 c9 → nw (w.alloc (.cells #[.slice a9 n9 c9] 48)) fun w25 =>
      rawN Go.Proofs.Try.prog (Builtin.append_ #[31, 31] 31 #[.slice a10 n10 c10, .slice (some (na w)) 1 1]) w25 fun v26 u27 => ∃ ya : Option Addr, ∃ yn yc : Nat, v26 = .slice ya yn yc ∧ b53 a n c N d ya yn yc (i + 1 : Nat) u27) :
    ∀ (k f : Nat) (a12 : Option Addr) (n12 c12 : Nat) (w : World), f + k = d → Below wg.heap.size wg w → w.ownsRow wg.heap.size 22 1 (.slice a12 n12 c12) f (((unRow gs d i).take f).map encF) →
      thicketref18_Unpack.l68 R b53 (k + 1) a n c N d a10 n10 c10 i a12 n12 c12 f w := by
  have hm := hU.many
  have hs := hU.short
  have hd6 := hU.dim
  have hpl : (unRow gs d i).length = d := by simp [unRow]
  intro k
  induction k with
  | zero =>
    intro f a12 n12 c12 w hf hb hO
    unfold thicketref18_Unpack.l68 thicketref18_Unpack.g68
    refine onDec_f (by omega) ?_
    rw [List.take_of_length_le (by omega)] at hO
    have hfd : f = d := by omega
    rw [hfd] at hO
    have := h _ w hb (by unfold Own1; rw [hpl]; exact hO) a12 n12 c12 rfl
    rw [i64_succ (by omega)]
    exact this
  | succ k ih =>
    intro f a12 n12 c12 w hf hb hO
    have hfd : f < d := by omega
    unfold thicketref18_Unpack.l68 thicketref18_Unpack.g68
    rw [tdiv8 (by omega), tmod8]
    refine onDec_t (by omega) (hU.at' hi hfd fun p a' n' c' hc hn' hrd => ite_mk (by omega) ⟨_, _, _, cix (bkeep hb hc), hrd fun q hq => ite_mk (by omega) (ite_mk (by omega) ⟨_, by rw [add_add, Int.toNat_natCast, Int.toNat_natCast, Nat.mul_one]; exact bkeep hb hq, ?_⟩)⟩)
    unfold nw
    refine append_one S48 (by omega) hO (cl := #[.float .f64 (unV gs i f)]) rfl (fun u hu => ?_) (by simp only [maxLen]; omega) (by omega) hb.size fun v2 w2 h2 h3 => ?_
    · simp at hu
      subst hu
      rfl
    · have hrow : ((unRow gs d i).take f).map encF ++ (#[Value.float .f64 (unV gs i f)] : Array Value).toList = ((unRow gs d i).take (f + 1)).map encF := by
        rw [List.take_add_one, List.map_append]
        have : (unRow gs d i)[f]? = some (unV gs i f) := by
          unfold unRow
          rw [List.getElem?_map, List.getElem?_range hfd]
          rfl
        rw [this]
        rfl
      rw [hrow] at h2
      have hform : ∃ a c, v2 = .slice a (f + 1) c := by
        rcases h2.2 with ⟨_, h0⟩ | ⟨g', cap, cur, rfl, _⟩
        · omega
        · exact ⟨_, _, rfl⟩
      obtain ⟨a2, c2, rfl⟩ := hform
      refine ⟨_, _, _, rfl, ?_⟩
      rw [i64_succ (by omega)]
      exact ih (f + 1) _ _ _ w2 (by omega) (grown_below hb hO h3 (Nat.le_refl _) hb.size) h2

theorem runpack_i {R : Value → World → Prop} {w0 : World} {a : Option Addr} {n c N d : Nat} {gs : List (List (Nat → Nat))} (hU : UIn w0 a n gs N d)
    (hR : ∀ v u, Nest 48 (Own1 22 encF w0.heap.size) u w0.heap.size v (unpacked gs N d) → Below w0.heap.size w0 u → R (.tuple #[v, .int .i64 0]) u) :
    ∀ (k i : Nat) (a8 : Option Addr) (n8 c8 : Nat) (w : World), i + k = N → Below w0.heap.size w0 w → Nest 48 (Own1 22 encF w0.heap.size) w w0.heap.size (.slice a8 n8 c8) ((unpacked gs N d).take i) →
      thicketref18_Unpack.l53 R (k + 1) a n c N d a8 n8 c8 i w := by
  have hm := hU.many
  have hs := hU.short
  have hd6 := hU.dim
  have hpl : (unpacked gs N d).length = N := by simp [unpacked]
  intro k
  induction k with
  | zero =>
    intro i a8 n8 c8 w hi hb hN
    unfold thicketref18_Unpack.l53 thicketref18_Unpack.g53
    refine onDec_f (by omega) (hR _ _ ?_ hb)
    rwa [List.take_of_length_le (by omega)] at hN
  | succ k ih =>
    intro i a8 n8 c8 w hi hb hN
    unfold thicketref18_Unpack.l53 thicketref18_Unpack.g53
    refine onDec_t (by omega) ⟨d + 1, runpack_f (hU.keep hb) (by omega) (fun v w' hb' hO' a9 n9 c9 hv => ?_) d 0 none 0 0 w (by omega) (Below.refl _ _) (by simpa using own_nil w w.heap.size 22 1)⟩
    subst hv
    unfold nw
    have hbw : Below w0.heap.size w0 w' := bthen hb hb'
    have hN' : Nest 48 (Own1 22 encF w0.heap.size) w' w0.heap.size (.slice a8 n8 c8) ((unpacked gs N d).take i) := hN.to (fun _ _ h => own_keep h hb') (fun _ _ h => own_keep h hb')
    have hI : Own1 22 encF w0.heap.size w' (.slice a9 n9 c9) (unRow gs d i) := own_base hO' hb.size
    have htl : ((unpacked gs N d).take i).length = i := by simp; omega
    refine Nest.push S31 hN' hI rfl (by rw [htl]; simp only [maxLen]; omega) (by rw [htl]; omega) hbw.size (fun w2 n2 xs ho hg v0 x0 h0 => own_grown h0 ho (by decide) hg) ?_
    intro a4 c4 w2 hN3 hg3 ⟨_, _, ho3⟩
    refine ⟨_, _, _, rfl, ?_⟩
    refine ih (i + 1) _ _ _ w2 (by omega) (grown_below hbw ho3 hg3 (Nat.le_refl _) hbw.size) ?_
    rw [List.take_add_one]
    have : (unpacked gs N d)[i]? = some (unRow gs d i) := by
      unfold unpacked
      rw [List.getElem?_map, List.getElem?_range (by omega)]
      rfl
    rw [this]
    exact hN3

theorem runpack_check {R : Value → World → Prop} {w : World} {a : Option Addr} {n c : Nat} {d N : Int} {gs : List (List (Nat → Nat))} (hx : SlG w a n gs) (hs : n ≤ 1048576)
    (hok : allLenG gs d = true → thicketref18_Unpack.e53 R a n c N d none 0 0 0 w) (hbad : allLenG gs d = false → R (.tuple #[.slice none 0 0, .int .i64 6]) w) :
    ∀ (k i : Nat), i + k = n → (∀ b, allLenG (gs.drop i) d = b → allLenG gs d = b) → thicketref18_Unpack.l30 R (k + 1) a n c N d i w := by
  have hln := hx.len
  intro k
  induction k with
  | zero =>
    intro i hi hb
    unfold thicketref18_Unpack.l30 thicketref18_Unpack.g30
    refine onDec_f (by omega) (hok (hb true ?_))
    rw [List.drop_eq_nil_of_le (by omega)]
    rfl
  | succ k ih =>
    intro i hi hb
    unfold thicketref18_Unpack.l30 thicketref18_Unpack.g30
    refine onDec_t (by omega) (hx.read (i := i) (by omega) fun p a' n' c' hc hr => ite_mk (by omega) ⟨_, _, _, by simpa using hc, ?_⟩)
    have hl := hr.len
    have hd := allLenG_drop (l := gs) (d := d) (i := i) (by omega)
    refine onBool_mk (fun hne => hbad (hb false ?_)) (fun heq => ?_)
    · rw [hd]
      have : ((gs[i]'(by omega)).length : Int) ≠ d := by rw [← hl]; simpa using hne
      simp [this]
    · rw [i64_succ (by omega)]
      refine ih (i + 1) (by omega) fun b hbb => hb b ?_
      have : ((gs[i]'(by omega)).length : Int) = d := by rw [← hl]; simpa using heq
      rw [hd, hbb]
      simp [this]

theorem refUnpack {w : World} {a : Option Addr} {n c : Nat} {N d : Int} {gs : List (List (Nat → Nat))} (hx : SlG w a n gs) (hs : n ≤ 1048576) (hN : N ≤ 9223372036854775807) :
    E.CallsD Proofs.Try.prog 18 #[.slice a n c, .int .i64 N, .int .i64 d] w (UnR w gs N d) := by
  have hln := hx.len
  refine thicketref18_Unpack.calls ?_
  unfold thicketref18_Unpack thicketref18_Unpack.g0
  refine onDec (fun h => ?_) (fun h => onDec (fun h2 => ?_) (fun h2 => onDec (fun h3 => ?_) (fun h3 => ?_)))
  · exact unR_bad (by unfold unCode; rw [if_pos h]) (by decide) (Below.refl _ _)
  · exact unR_bad (by unfold unCode; rw [if_neg h, if_pos h2]) (by decide) (Below.refl _ _)
  · exact unR_bad (by unfold unCode; rw [if_neg h, if_neg h2, if_pos h3]) (by decide) (Below.refl _ _)
  obtain ⟨D, rfl⟩ : ∃ D : Nat, d = D := ⟨d.toNat, by omega⟩
  obtain ⟨M, rfl⟩ : ∃ M : Nat, N = M := ⟨N.toNat, by omega⟩
  have go : n = (M + 7) / 8 → thicketref18_Unpack.e30 (UnR w gs M D) a n c M D 0 w := by
    intro hm
    refine ⟨n + 1, runpack_check hx hs (fun hall => ?_) (fun hall => ?_) n 0 (by omega) (fun b hb => by simpa using hb)⟩
    · have hc : unCode gs M D = 0 := by unfold unCode; rw [if_neg h, if_neg h2, if_neg h3, if_neg (by simp; omega), if_pos hall]
      refine ⟨M + 1, runpack_i ⟨hx, hs, by omega, allLenG_nat hall, hm⟩ (fun v x hN hb => ?_) _ 0 none 0 0 w (by omega) (Below.refl _ _) (by simpa using Nest.nil w)⟩
      obtain ⟨a', c', rfl, hg⟩ := hN.sl2
      exact ⟨a', _, c', by rw [hc], by unfold unAns; rw [if_pos hc]; exact hg, hb⟩
    · exact unR_bad (by unfold unCode; rw [if_neg h, if_neg h2, if_neg h3, if_neg (by simp; omega), if_neg (by rw [hall]; simp)]) (by decide) (Below.refl _ _)
  have bad : n ≠ (M + 7) / 8 → UnR w gs M D (.tuple #[.slice none 0 0, .int .i64 6]) w := by
    intro hm
    refine unR_bad ?_ (by decide) (Below.refl _ _)
    unfold unCode
    rw [if_neg h, if_neg h2, if_neg h3, if_pos (by simp; omega)]
  have e1 : IntKind.i64.wrap (Int.tdiv (M : Int) 8) = ((M / 8 : Nat) : Int) := by rw [show Int.tdiv (M : Int) 8 = ((M / 8 : Nat) : Int) from rfl, i64_id (by omega) (by omega)]
  rw [tmod8, e1]
  refine onDec (fun hm => ?_) (fun hm => ?_)
  · rw [i64_succ (by omega)]
    exact onBool_mk (fun hb => bad (by simp at hb; omega)) (fun hb => go (by simp at hb; omega))
  · exact onBool_mk (fun hb => bad (by simp at hb; omega)) (fun hb => go (by simp at hb; omega))

/-! ### the law -/
theorem packed_short {l : List (List Nat)} {d : Int} (hs : l.length ≤ 1048576) : Short (packAns l d) := by
  unfold packAns
  split
  · rename_i h
    have hd : d ≤ 65536 := by
      unfold packCode at h
      split at h
      · cases h
      · split at h
        · cases h
        · omega
    refine ⟨by simp [packed]; omega, fun xs hx => ?_⟩
    simp only [packed, List.mem_map] at hx
    obtain ⟨g, _, rfl⟩ := hx
    simp [packRow]
    omega
  · exact ⟨by simp, fun xs hx => by cases hx⟩
theorem unpacked_short {gs : List (List (Nat → Nat))} {n d : Int} (hs : gs.length ≤ 1048576) : Short (unAns gs n d) := by
  unfold unAns
  split
  · rename_i h
    unfold unCode at h
    split at h
    · cases h
    · split at h
      · cases h
      · split at h
        · cases h
        · split at h
          · cases h
          · rename_i h1 h2 h3 h4
            refine ⟨by simp [unpacked]; simp at h4; omega, fun xs hx => ?_⟩
            simp only [unpacked, List.mem_map] at hx
            obtain ⟨g, _, rfl⟩ := hx
            simp [unRow]
            omega
  · exact ⟨by simp, fun xs hx => by cases hx⟩

theorem lanesPacks_law {w : World} {a a2 : Option Addr} {n c n2 c2 : Nat} {d N : Int} {l : List (List Nat)} {gs : List (List (Nat → Nat))} (hx : Sl2 encF w a n l) (hg : SlG w a2 n2 gs) (hs : n ≤ 1048576) (hsr : ∀ r ∈ l, r.length ≤ 1048576) (hs2 : n2 ≤ 1048576) (hN : N ≤ 9223372036854775807) :
    Pure Proofs.Try.prog 4 #[.slice a n c, .int .i64 d, .slice a2 n2 c2, .int .i64 N] w (.bool true) := by
  have hln := hx.len
  have hlg := hg.len
  have hS : Short l := ⟨by omega, hsr⟩
  refine thicketlaw18_LanesPacks.calls (R := fun v' u => v' = _ ∧ Below w.heap.size w u) ?_
  unfold thicketlaw18_LanesPacks thicketlaw18_LanesPacks.g0
  refine copied hS hx fun a1 c1 u1 h1 b1 => ⟨_, _, _, rfl, ?_⟩
  refine E.CallsD.mono (lanesPack h1 (by omega)) fun v u2 ⟨a3, n3, c3, hv, h3, b2⟩ => ⟨_, _, _, _, hv, ?_⟩
  have B2 := bthen b1 b2
  refine E.CallsD.mono (refPack (hx.keep B2) hs) fun v u3 ⟨a4, n4, c4, hv, h4, b3⟩ => ⟨_, _, _, _, hv, ?_⟩
  have B3 := bthen B2 b3
  refine E.CallsD.mono (lanesUnpack (hg.keep (fun _ _ _ hi => hi.keep B3) B3) hs2 hN) fun v u4 ⟨a5, n5, c5, hv, h5, b4⟩ => ⟨_, _, _, _, hv, ?_⟩
  have B4 := bthen B3 b4
  refine E.CallsD.mono (refUnpack (hg.keep (fun _ _ _ hi => hi.keep B4) B4) hs2 hN) fun v u5 ⟨a6, n6, c6, hv, h6, b5⟩ => ⟨_, _, _, _, hv, ?_⟩
  have B5 := bthen B4 b5
  have b35 := bthen b3 (bthen b4 b5)
  have b45 := bthen b4 b5
  refine E.CallsD.mono (groups (packed_short (by omega)) (h3.keep (fun _ _ _ hi => hi.keep b35) b35) (h4.keep (fun _ _ _ hi => hi.keep b45) b45)) fun v u6 ⟨hv, b6⟩ => ⟨_, hv, ?_⟩
  rw [onBool_t, show ∀ z : Int, (z == z) = true from fun z => by simp, onBool_t]
  have b56 := bthen b5 b6
  refine E.CallsD.mono (alike (unpacked_short (by omega)) (h5.keep b56) (h6.keep b6)) fun v u7 ⟨hv, b7⟩ => ⟨_, hv, ?_⟩
  rw [onBool_t, show ∀ z : Int, (z == z) = true from fun z => by simp, onBool_t]
  have B7 := bthen (bthen B5 b6) b7
  have b17 := bthen b2 (bthen b3 (bthen b4 (bthen b5 (bthen b6 b7))))
  refine E.CallsD.mono (alike hS (h1.keep b17) (hx.keep B7)) fun v u8 ⟨hv, b8⟩ => ⟨_, hv, rfl, bthen B7 b8⟩
end Go.Mir
