/- Part of a proof of laws of the seat YtabmjhhjbifagaaDoor: functions' weakest preconditions, each checked by the kernel, and contracts out of them; no conditions. -/
import Derived.Test.YtabmjhhjbifagaaDoorB11
set_option linter.unusedVariables false
set_option linter.unusedSimpArgs false
namespace Go.Mir
open Go Go.E Go.RowKit Go.Bt
section
variable {w : World} {a b : Option Addr} {n c m d g : Nat} {xs ys : W}

/-! ### Of -/
def okR (n : Int) : Int → Rs → Bool
  | _, [] => true
  | last, r :: l => decide (last ≤ r.1 ∧ r.1 < r.2 ∧ r.2 ≤ n) && okR n r.2 l
def inR (l : Rs) (i : Nat) : Bool := l.any fun r => decide (r.1 ≤ (i : Int)) && decide ((i : Int) < r.2)
def ofR (n : Int) (l : Rs) : W := ofB (nW n) (inR l)
def ofAns (n : Int) (l : Rs) : W × Int := if okN n then (if okR n 0 l then (ofR n l, 0) else ([], 50)) else ([], 2)
theorem inR_take {l : Rs} {i : Nat} {r : Int × Int} (h : l[i]? = some r) (j : Nat) : inR (l.take (i + 1)) j = (inR (l.take i) j || (decide (r.1 ≤ (j : Int)) && decide ((j : Int) < r.2))) := by
  unfold inR
  rw [List.take_add_one, h, List.any_append]
  simp
theorem Of_loop {w0 w1 : World} {N : Int} {l : Rs} {a b : Option Addr} {n c d g : Nat} (hN : okN N) (hl : SlK 2 enR w0 b n l) (hn : n ≤ 1048576) (hk0 : Kept w0 w1) (hg : w0.heap.size < g ∨ g = 0) (hle : g ≤ w1.heap.size) :
    ∀ (k i : Nat) (last : Int) (w : World), i + k = n → 0 ≤ last → okR N last (l.drop i) = okR N 0 l → Arr enW 56 w a (nW N) c (ofB (nW N) (inR (l.take i))) g → Only g w1 w →
      bits_Of.l18 (fun v u => Ans w0 u v (ofAns N l).1 (ofAns N l).2) (k + 1) N a (nW N) c last b n d n i w
  | 0, i, last, w, hi, h0, hok, ha, ho => by
    have hll := hl.len
    unfold bits_Of.l18 bits_Of.g18
    refine onDec_f (by omega) ?_
    rw [List.drop_of_length_le (by omega)] at hok
    rw [List.take_of_length_le (by omega)] at ha
    have e : ofAns N l = (ofR N l, 0) := by unfold ofAns; rw [if_pos hN, ← hok]; rfl
    rw [e]
    exact ⟨_, _, _, rfl, ha.sl, Kept.own hk0 ho hg⟩
  | k + 1, i, last, w, hi, h0, hok, ha, ho => by
    have hll := hl.len
    have hkw := Kept.own hk0 ho hg
    obtain ⟨hN0, hN1⟩ := hN
    unfold bits_Of.l18 bits_Of.g18
    refine onDec_t (by omega) ?_
    refine SlK.rd2 (hl.keep hkw) (by omega) (by omega) fun r hr => ?_
    rw [Int.toNat_natCast] at hr
    obtain ⟨hlt, hre⟩ := List.getElem?_eq_some_iff.1 hr
    rw [List.drop_eq_getElem_cons hlt, hre] at hok
    refine box2 fun u hB hk => ?_
    have hku := Kept.trans hkw hk
    have bad : okR N 0 l = false → ∀ u, Kept w0 u → Ans w0 u (.tuple #[.slice none 0 0, .int .i64 50]) (ofAns N l).1 (ofAns N l).2 := fun hb u hk => by
      have e : ofAns N l = ([], 50) := by unfold ofAns; rw [if_pos ⟨hN0, hN1⟩, hb]; rfl
      rw [e]
      exact ⟨_, _, _, rfl, Sl.nil _ _, hk⟩
    have no : ¬ (last ≤ r.1 ∧ r.1 < r.2 ∧ r.2 ≤ N) → okR N 0 l = false := fun h => by
      rw [← hok, okR, decide_eq_false h]; rfl
    refine ⟨_, hB.rd rfl, onDec (fun h1 => bad (no (by omega)) _ hku) fun h1 => ⟨_, hB.rd rfl, onDec (fun h2 => bad (no (by omega)) _ hku) fun h2 => ⟨_, hB.rd rfl, _, hB.rd rfl, onDec (fun h3 => bad (no (by omega)) _ hku) fun h3 => ⟨_, hB.rd rfl, onDec (fun h4 => bad (no (by omega)) _ hku) fun h4 => ⟨_, hB.rd rfl, _, hB.rd rfl, _, hB.rd rfl, ?_⟩⟩⟩⟩⟩
    have hau := ha.kept hk
    have hnw := nW_le hN1
    refine E.CallsD.mono (fill_c (f := r.1) (t := r.2) hau (by omega) (by omega) (by omega)) fun v u2 ⟨hv, ha2, ho2⟩ => ⟨hv, ?_⟩
    refine nv_succ (by omega) ?_
    refine Of_loop ⟨hN0, hN1⟩ hl hn hk0 hg hle k (i + 1) r.2 u2 (by omega) (by omega) ?_ ?_ (Only.then (Only.kept ho hk) ho2)
    · rw [← hok, okR, decide_eq_true (by omega), Bool.true_and]
    · have e : fillW (ofB (nW N) (inR (l.take i))) r.1 r.2 = ofB (nW N) (inR (l.take (i + 1))) := by
        unfold fillW
        rw [ofB_length]
        apply ofB_ext
        intro j hj
        rw [bit_ofB, inR_take hr]
        simp [hj]
      rwa [e] at ha2
theorem Of_c {l : Rs} (N : Int) (hl : SlK 2 enR w b n l) (hn : n ≤ 1048576) : E.CallsD Go.Proofs.Tryd.prog 34 #[.int .i64 N, .slice b n d] w fun v u => Ans w u v (ofAns N l).1 (ofAns N l).2 := by
  refine bits_Of.calls ?_
  unfold bits_Of bits_Of.g0
  by_cases h : okN N
  · refine E.CallsD.mono (Empty_ok h.1 h.2 w) fun v u ⟨a, c, hv, g, ha, hg, hk⟩ => ⟨_, _, _, _, hv, ?_⟩
    refine onNe_f (by omega) ?_
    exact ⟨n + 1, Of_loop (a := a) h hl hn hk hg ha.le n 0 0 u (by omega) (by omega) rfl (by rw [List.take_zero]; exact ha) (Mod.refl _)⟩
  · refine E.CallsD.mono (Empty_no (n := N) (by unfold okN at h; omega) w) fun v u ⟨hv, hk⟩ => ⟨_, _, _, _, hv, ?_⟩
    refine onNe_t (by omega) ?_
    have e : ofAns N l = ([], 2) := by unfold ofAns; rw [if_neg h]
    rw [e]
    exact ⟨_, _, _, rfl, Sl.nil _ _, hk⟩

/-! ### the document's Of -/
/-- One run's bits are put in, one by one. -/
theorem refOf_in {R : Value → World → Prop} {b43 : Option Addr → Nat → Nat → Option Addr → Nat → Nat → Int → Int → World → Prop} {w1 : World} {r : Int × Int} {p : Nat → Bool} {a b : Option Addr} {L c n d g B i : Nat} (hL : (64 * L : Nat) ≤ (4611686018427387904 : Int)) (hr : 0 ≤ r.1 ∧ r.1 ≤ r.2 ∧ r.2 ≤ (64 * L : Nat)) (hB : B + 1 ≠ g) (hi : i < 1048577)
    (H : ∀ u, Arr enW 56 u a L c (ofB L fun j => p j || (decide (r.1 ≤ (j : Int)) && decide ((j : Int) < r.2))) g → Only g w1 u → b43 a L c b n d n (i + 1 : Nat) u) :
    ∀ (k j : Nat) (w : World), (j : Int) + k = r.2 → r.1 ≤ j → Arr enW 56 w a L c (ofB L fun x => p x || (decide (r.1 ≤ (x : Int)) && decide (x < j))) g → Only g w1 w → Blk w B #[.int .i64 r.1, .int .i64 r.2] 58 →
      thicketref05_Of.l57 R b43 (k + 1) a L c (some ⟨B, 0, none⟩) j b n d n i w
  | 0, j, w, hj, h1, ha, ho, hb => by
    unfold thicketref05_Of.l57 thicketref05_Of.g57
    refine ⟨_, by rw [addr_add, hb.cell]; rfl, ?_⟩
    refine onDec_f (by omega) ?_
    refine nv_succ (by omega) ?_
    refine H w ?_ ho
    have e : (fun x : Nat => p x || (decide (r.1 ≤ (x : Int)) && decide ((x : Int) < r.2))) = fun x => p x || (decide (r.1 ≤ (x : Int)) && decide (x < j)) := by
      funext x
      congr 2
      exact decide_eq_decide.2 (by omega)
    rw [e]
    exact ha
  | k + 1, j, w, hj, h1, ha, ho, hb => by
    unfold thicketref05_Of.l57 thicketref05_Of.g57
    refine ⟨_, by rw [addr_add, hb.cell]; rfl, ?_⟩
    refine onDec_t (by omega) ?_
    refine putR ha (by omega) (by omega) fun u x hx hu mu => ?_
    refine nv_succ (by omega) ?_
    refine refOf_in hL hr hB hi H k (j + 1) u (by omega) (by omega) ?_ (Only.then ho mu) (hb.mod mu hB)
    rw [put_step hx] at hu
    have e : (fun x : Nat => p x || (decide (r.1 ≤ (x : Int)) && decide (x < j + 1))) = fun x => (p x || (decide (r.1 ≤ (x : Int)) && decide (x < j))) || decide (x = j) := by
      funext x
      by_cases hxj : x = j
      · subst hxj
        rw [decide_eq_true (show r.1 ≤ (x : Int) from h1), decide_eq_true (show x < x + 1 by omega), decide_eq_true (show x = x from rfl)]
        simp
      · rw [decide_eq_false hxj, Bool.or_false]
        congr 2
        exact decide_eq_decide.2 (by omega)
    rw [e]
    exact hu
theorem refOf_fill {w0 w1 : World} {N : Int} {l : Rs} {a b : Option Addr} {n c d g : Nat} (hN : okN N) (hok : okR N 0 l = true) (hl : SlK 2 enR w0 b n l) (hn : n ≤ 1048576) (hk0 : Kept w0 w1) (hg : w0.heap.size < g) (hle : g ≤ w1.heap.size) :
    ∀ (k i : Nat) (last : Int) (w : World), i + k = n → 0 ≤ last → okR N last (l.drop i) = true → Arr enW 56 w a (nW N) c (ofB (nW N) (inR (l.take i))) g → Only g w1 w →
      thicketref05_Of.l43 (fun v u => Ans w0 u v (ofAns N l).1 (ofAns N l).2) (k + 1) a (nW N) c b n d n i w
  | 0, i, last, w, hi, h0, hok2, ha, ho => by
    have hll := hl.len
    unfold thicketref05_Of.l43 thicketref05_Of.g43
    refine onDec_f (by omega) ?_
    rw [List.take_of_length_le (by omega)] at ha
    have e : ofAns N l = (ofR N l, 0) := by unfold ofAns; rw [if_pos hN, hok]; rfl
    rw [e]
    exact ⟨_, _, _, rfl, ha.sl, Kept.only hk0 ho hg⟩
  | k + 1, i, last, w, hi, h0, hok2, ha, ho => by
    have hll := hl.len
    have hkw := Kept.only hk0 ho hg
    obtain ⟨hN0, hN1⟩ := hN
    unfold thicketref05_Of.l43 thicketref05_Of.g43
    refine onDec_t (by omega) ?_
    refine SlK.rd2 (hl.keep hkw) (by omega) (by omega) fun r hr => ?_
    rw [Int.toNat_natCast] at hr
    obtain ⟨hlt, hre⟩ := List.getElem?_eq_some_iff.1 hr
    rw [List.drop_eq_getElem_cons hlt, hre, okR, Bool.and_eq_true, decide_eq_true_iff] at hok2
    obtain ⟨⟨h1, h2, h3⟩, hok3⟩ := hok2
    refine box2 fun u hB hk => ⟨_, hB.rd rfl, ?_⟩
    have hsz := ho.size
    have hnw := nW_le hN1
    have hW : (64 * nW N : Nat) ≥ N := by unfold nW; omega
    obtain ⟨f, hf⟩ : ∃ f : Nat, r.1 = f := ⟨r.1.toNat, by omega⟩
    obtain ⟨len, hlen⟩ : ∃ len : Nat, r.1 + len = r.2 := ⟨(r.2 - r.1).toNat, by omega⟩
    have key := refOf_in (R := fun v u => Ans w0 u v (ofAns N l).1 (ofAns N l).2) (b43 := thicketref05_Of.l43 (fun v u => Ans w0 u v (ofAns N l).1 (ofAns N l).2) (k + 1)) (w1 := w1) (r := r) (p := inR (l.take i)) (a := a) (b := b) (L := nW N) (c := c) (n := n) (d := d) (g := g) (B := w.heap.size) (i := i)
      (by omega) ⟨by omega, by omega, by omega⟩ (by omega) (by omega) (fun u' h4 h5 => refOf_fill ⟨hN0, hN1⟩ hok hl hn hk0 hg hle k (i + 1) r.2 u' (by omega) (by omega) hok3 (by
        have e : (fun j => inR (l.take i) j || (decide (r.1 ≤ (j : Int)) && decide ((j : Int) < r.2))) = inR (l.take (i + 1)) := by
          funext j; rw [inR_take hr]
        rw [← e]; exact h4) h5)
      len f u (by omega) (by omega) (by
        have e : (fun x : Nat => inR (l.take i) x || (decide (r.1 ≤ (x : Int)) && decide (x < f))) = inR (l.take i) := by
          funext x
          have : (decide (r.1 ≤ (x : Int)) && decide (x < f)) = false := by
            rw [Bool.and_eq_false_iff, decide_eq_false_iff_not, decide_eq_false_iff_not]; omega
          rw [this, Bool.or_false]
        rw [e]; exact ha.kept hk) (Only.kept ho hk) hB
    rw [← hf] at key
    exact ⟨_, key⟩
theorem refOf_loop {w0 : World} {N : Int} {l : Rs} {b : Option Addr} {n d : Nat} (hN : okN N) (hl : SlK 2 enR w0 b n l) (hn : n ≤ 1048576) :
    ∀ (k i : Nat) (last : Int) (w : World), i + k = n → 0 ≤ last → okR N last (l.drop i) = okR N 0 l → Kept w0 w →
      thicketref05_Of.l16 (fun v u => Ans w0 u v (ofAns N l).1 (ofAns N l).2) (k + 1) N b n d last b n d n i w
  | 0, i, last, w, hi, h0, hok, hk => by
    have hll := hl.len
    have hN' := hN
    obtain ⟨hN0, hN1⟩ := hN'
    unfold thicketref05_Of.l16 thicketref05_Of.g16
    rw [List.drop_of_length_le (by omega)] at hok
    refine onDec_f (by omega) ?_
    refine nv_i64 (by omega) (by omega) ?_
    refine nv_div (by omega) (by omega) (by omega) ?_
    refine Arr.make (en := enW) (x := 0#64) rfl (by omega) (by omega) (by omega) fun u1 ha hk1 => ?_
    have e : ((N + 63) / 64).toNat = nW N := rfl
    rw [e] at ha ⊢
    have hsz := hk.size
    exact ⟨n + 1, refOf_fill (g := w.heap.size + 1) hN hok.symm hl hn (Kept.trans hk hk1) (by omega) ha.le n 0 0 u1 (by omega) (by omega) hok.symm (by rw [zeros] at ha; rw [List.take_zero]; exact ha) (Mod.refl _)⟩
  | k + 1, i, last, w, hi, h0, hok, hk => by
    have hll := hl.len
    obtain ⟨hN0, hN1⟩ := hN
    unfold thicketref05_Of.l16 thicketref05_Of.g16
    refine onDec_t (by omega) ?_
    refine SlK.rd2 (hl.keep hk) (by omega) (by omega) fun r hr => ?_
    rw [Int.toNat_natCast] at hr
    obtain ⟨hlt, hre⟩ := List.getElem?_eq_some_iff.1 hr
    rw [List.drop_eq_getElem_cons hlt, hre] at hok
    refine box2 fun u hB hk2 => ?_
    have hku := Kept.trans hk hk2
    have bad : okR N 0 l = false → ∀ u, Kept w0 u → Ans w0 u (.tuple #[.slice none 0 0, .int .i64 50]) (ofAns N l).1 (ofAns N l).2 := fun hb u hk => by
      have e : ofAns N l = ([], 50) := by unfold ofAns; rw [if_pos ⟨hN0, hN1⟩, hb]; rfl
      rw [e]
      exact ⟨_, _, _, rfl, Sl.nil _ _, hk⟩
    have no : ¬ (last ≤ r.1 ∧ r.1 < r.2 ∧ r.2 ≤ N) → okR N 0 l = false := fun h => by
      rw [← hok, okR, decide_eq_false h]; rfl
    refine ⟨_, hB.rd rfl, onDec (fun h1 => bad (no (by omega)) _ hku) fun h1 => ⟨_, hB.rd rfl, _, hB.rd rfl, onDec (fun h3 => bad (no (by omega)) _ hku) fun h3 => ⟨_, hB.rd rfl, onDec (fun h4 => bad (no (by omega)) _ hku) fun h4 => ⟨_, hB.rd rfl, ?_⟩⟩⟩⟩
    refine nv_succ (by omega) ?_
    refine refOf_loop ⟨hN0, hN1⟩ hl hn k (i + 1) r.2 u (by omega) (by omega) ?_ hku
    rw [← hok, okR, decide_eq_true (by omega), Bool.true_and]
theorem refOf_c {l : Rs} (N : Int) (hl : SlK 2 enR w b n l) (hn : n ≤ 1048576) : E.CallsD Go.Proofs.Tryd.prog 35 #[.int .i64 N, .slice b n d] w fun v u => Ans w u v (ofAns N l).1 (ofAns N l).2 := by
  refine thicketref05_Of.calls ?_
  unfold thicketref05_Of thicketref05_Of.g0
  by_cases h : okN N
  · have h0 := h.1
    have h1 := h.2
    refine onDec_f (by omega) ?_
    refine onDec_f (by omega) ?_
    exact ⟨n + 1, refOf_loop h hl hn n 0 0 w (by omega) (by omega) rfl (Kept.refl _)⟩
  · have e : ofAns N l = ([], 2) := by unfold ofAns; rw [if_neg h]
    rw [e]
    have r : Ans w w (.tuple #[.slice none 0 0, .int .i64 2]) [] 2 := ⟨_, _, _, rfl, Sl.nil _ _, Kept.refl _⟩
    refine onDec (fun _ => r) fun h0 => ?_
    have h1 : N > 1048576 := by unfold okN at h; omega
    refine onDec_t (by omega) ?_
    exact r

/-! ### two lists of runs -/
theorem part0 (a b : Int) (w : World) : (Go.part 3 #[.int .i64 a, .int .i64 b] 0).run Go.Proofs.Tryd.prog w = .ok (.int .i64 a) w := by kernel_rfl
theorem part1 (a b : Int) (w : World) : (Go.part 3 #[.int .i64 a, .int .i64 b] 1).run Go.Proofs.Tryd.prog w = .ok (.int .i64 b) w := by kernel_rfl
theorem flds (xs ys : Array Value) : Op.eqFields 9999 xs ys ((Go.Proofs.Tryd.prog).fieldsOf 58).toList = (do
      let a ← Go.part 3 xs 0
      let b ← Go.part 3 ys 0
      let r ← Op.equalIn 9999 3 a b
      if (!r) = true then pure false else do
      let a ← Go.part 3 xs 1
      let b ← Go.part 3 ys 1
      let r ← Op.equalIn 9999 3 a b
      if (!r) = true then pure false else pure true) := by kernel_rfl
theorem eqRun (a b c d : Int) (w : World) : (Op.equal 58 (.agg #[.int .i64 a, .int .i64 b]) (.agg #[.int .i64 c, .int .i64 d])).run Go.Proofs.Tryd.prog w = .ok (a == c && b == d) w := by
  unfold Op.equal
  rw [show Op.maxDepth = 9999 + 1 from rfl, run_equalIn_struct w 9999 58 _ _ (by kernel_rfl) (by kernel_rfl), flds]
  have e : ∀ a b : Int, (Op.equalIn 9999 3 (.int .i64 a) (.int .i64 b)).run Go.Proofs.Tryd.prog w = .ok (a == b) w := fun a b => run_equalIn_int w 9998 3 _ .i64 a b (by kernel_rfl)
  simp only [Sem.run_bind, part0, part1, Result.andThen_ok, e, Sem.run_ite, Sem.run_pure]
  cases a == c <;> cases b == d <;> rfl
theorem runs_loop {R : Value → World → Prop} {l : Rs} (h : SlK 2 enR w a n l) (h2 : SlK 2 enR w b n l) (hn : n ≤ 1099511627776) (hR : R (.bool true) w) :
    ∀ (k i : Nat), i + k = n → thicketlaw05_runs.l14 R (k + 1) a n c b n d n i w
  | 0, i, hi => by
    unfold thicketlaw05_runs.l14 thicketlaw05_runs.g14
    refine onDec_f (by omega) ?_
    exact hR
  | k + 1, i, hi => by
    unfold thicketlaw05_runs.l14 thicketlaw05_runs.g14
    refine onDec_t (by omega) ?_
    refine SlK.rd2 h (by omega) (by omega) fun r hr => SlK.rd2 h2 (by omega) (by omega) fun r2 hr2 => ⟨_, fun w => eqRun _ _ _ _ w, ?_⟩
    rw [hr] at hr2
    obtain rfl := Option.some.inj hr2
    rw [show (r.1 == r.1 && r.2 == r.2) = true from by simp]
    show onBool false _ _
    rw [onBool_f]
    refine nv_succ (by omega) ?_
    exact runs_loop h h2 hn hR k (i + 1) (by omega)
theorem runs_yes {l : Rs} (h : SlK 2 enR w a n l) (h2 : SlK 2 enR w b m l) (hn : n ≤ 1099511627776) : Pure Go.Proofs.Tryd.prog 36 #[.slice a n c, .slice b m d] w (.bool true) := by
  refine thicketlaw05_runs.calls (R := fun v' u => v' = _ ∧ Below w.heap.size w u) ?_
  unfold thicketlaw05_runs thicketlaw05_runs.g0
  have e1 := h.len
  have e2 := h2.len
  obtain rfl : n = m := by omega
  refine onNe_f (by omega) ?_
  exact ⟨n + 1, runs_loop h h2 hn ⟨rfl, Below.refl _ _⟩ n 0 (by omega)⟩
end
end Go.Mir
