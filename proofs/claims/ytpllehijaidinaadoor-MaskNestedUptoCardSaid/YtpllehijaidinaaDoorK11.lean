/- Part of a proof of laws of the seat YtpllehijaidinaaDoor: functions' weakest preconditions, each checked by the kernel, contracts out of them, plain lemmas; no conditions. -/
import Derived.Test.YtpllehijaidinaaDoorKA
import Derived.Test.YtpllehijaidinaaDoorEC
set_option linter.unusedVariables false
set_option linter.unusedSimpArgs false
set_option maxRecDepth 100000
namespace Go.Mir
open Go Go.E Go.RowKit Go.Tr
/-! The subtree below a node, numbered anew. -/
section
variable {w w1 u W : World} {o : Int} {a a1 a5 a8 b : Option Addr} {n c n1 c1 c5 c8 g5 g8 m d : Nat} {F : Nat → Prop} {nodes : List ND} {U : BT} {od : List Nat}
theorem under_loop {R : Value → World → Prop} (hG : Good F w1 a n c nodes) (hkd : ∀ (i : Nat) x, nodes[i]? = some x → (x.kind ≠ 1 ↔ x.inner = true)) (hU : U.size ≤ 1048576)
    (hend : ∀ (w : World) (a5 : Option Addr) (c5 g5 : Nat) (od : List Nat) (a8 : Option Addr) (g8 : Nat), From w1.heap.size w1 w → Arr enI 3 w a5 od.length c5 (natL od) g5 → w1.heap.size < g5 → Ord U od → Arr enI 3 w a8 n n (List.replicate n 0) g8 → w1.heap.size < g8 → g5 ≠ g8 → thicketlaw13_under.e31 R a n c a5 od.length c5 a8 n n a5 od.length c5 od.length 0 w) :
    ∀ (m : Nat) (Ts : List BT) (i : Nat) (od : List Nat) (w : World) (a5 : Option Addr) (c5 g5 : Nat), sumS Ts ≤ m → Bfs U od i Ts → (∀ V ∈ Ts, Is nodes V) → From w1.heap.size w1 w → Arr enI 3 w a5 od.length c5 (natL od) g5 → w1.heap.size < g5 → thicketlaw13_under.l8 R (m + 1) a n c a5 od.length c5 i w := by
  intro m
  have hn := hG.len
  have hmx := hG.max
  have fin : ∀ (k i : Nat) (od : List Nat) (w : World) (a5 : Option Addr) (c5 g5 : Nat), Bfs U od i [] → From w1.heap.size w1 w → Arr enI 3 w a5 od.length c5 (natL od) g5 → w1.heap.size < g5 → thicketlaw13_under.l8 R (k + 1) a n c a5 od.length c5 i w := by
    intro k i od w a5 c5 g5 hB hw h5 hg5
    have hl := hB.len
    simp only [List.length_nil, Nat.add_zero] at hl
    unfold thicketlaw13_under.l8 thicketlaw13_under.g8
    refine onDec_f (by omega) ?_
    refine Arr.make (en := enI) (x := 0) rfl (by omega) (by omega) (by omega) fun u2 h6 hk2 => ?_
    rw [Int.toNat_natCast] at h6 ⊢
    have z := hw.size
    have z5 := h5.le
    exact hend u2 a5 c5 g5 od _ _ (hw.keptThen hk2) (h5.kept hk2) hg5 hB.done h6 (by omega) (by omega)
  induction m with
  | zero =>
    intro Ts i od w a5 c5 g5 hm hB hIs hw h5 hg5
    have := len_le_sumS Ts
    obtain rfl : Ts = [] := List.eq_nil_of_length_eq_zero (by omega)
    exact fin 0 i od w a5 c5 g5 hB hw h5 hg5
  | succ m ih =>
    intro Ts i od w a5 c5 g5 hm hB hIs hw h5 hg5
    cases Ts with
    | nil => exact fin (m + 1) i od w a5 c5 g5 hB hw h5 hg5
    | cons V Ts =>
      unfold thicketlaw13_under.l8 thicketlaw13_under.g8
      have hIV := hIs V (by simp)
      have hroot := hIV.root_lt
      have hl := hB.len
      have hs := hB.size
      rw [sumS_cons] at hs hm
      have hts := len_le_sumS Ts
      have hvp := V.size_pos
      simp only [List.length_cons] at hl
      obtain ⟨h0, _, _⟩ := hB.get
      refine onDec_t (by omega) ?_
      refine h5.sl.rdI (k := .i64) (by omega) (by omega) fun y hy => ?_
      rw [Int.toNat_natCast, natL_get h0] at hy
      obtain rfl : y = (V.root : Int) := by simpa using hy.symm
      refine (hG.from hw).ls.rdN (by omega) (by omega) fun x a6 n6 c6 hx _ => ?_
      rw [Int.toNat_natCast] at hx
      refine box8z fun u1 _ hb hk1 => ⟨_, hb.c0, ?_⟩
      have hu1 := hw.keptThen hk1
      cases V with
      | leaf j =>
        obtain ⟨y, hy, hyi⟩ := hIV
        obtain rfl : x = y := by have hx' : nodes[j]? = some x := hx; rw [hy] at hx'; simpa using hx'.symm
        have hkx : x.kind = 1 := Classical.byContradiction fun h => by have := (hkd j x hy).1 h; rw [hyi] at this; cases this
        refine onNe_f hkx ?_
        refine nv_succ (by omega) ?_
        simp only [BT.size] at hm
        exact ih Ts (i + 1) od u1 a5 c5 g5 (by omega) hB.leaf (fun V hV => hIs V (by simp [hV])) hu1 (h5.kept hk1) hg5
      | node j l r =>
        obtain ⟨y, hy, hyi, hlf, hrg, hIl, hIr⟩ := hIV
        obtain rfl : x = y := by have hx' : nodes[j]? = some x := hx; rw [hy] at hx'; simpa using hx'.symm
        refine onNe_t ((hkd j x hy).2 hyi) ⟨_, hb.c6, _, hb.c7, ?_⟩
        rw [hlf, hrg]
        simp only [BT.size] at hm hs
        have pl := l.size_pos
        have pr := r.size_pos
        have hod : od.length + 2 = (od ++ [l.root, r.root]).length := by simp
        refine (h5.kept hk1).pushL (m := 2) S_I (fun _ => rfl) (ys := [(l.root : Int), (r.root : Int)]) rfl rfl (by omega) (by simp only [maxLen]; omega) (by omega) fun a6 c6 g6 u3 h6 hg6 hg60 ho3 => ⟨_, _, _, rfl, ?_⟩
        rw [hod] at h6 ⊢
        have e : natL od ++ [(l.root : Int), (r.root : Int)] = natL (od ++ [l.root, r.root]) := by simp [natL]
        rw [e] at h6
        have z1 := hu1.size
        refine nv_succ (by omega) ?_
        refine ih (Ts ++ [l, r]) (i + 1) _ u3 a6 c6 g6 ?_ hB.node (fun V hV => ?_) (hu1.only ho3 (.inr hg5)) h6 (by omega)
        · have : sumS (Ts ++ [l, r]) = sumS Ts + l.size + r.size := by simp [sumS]; omega
          omega
        · rcases List.mem_append.1 hV with h | h
          · exact hIs V (by simp [h])
          · simp only [List.mem_cons, List.not_mem_nil, or_false] at h
            rcases h with h | h
            · subst h; exact hIl
            · subst h; exact hIr
theorem place_loop {R : Value → World → Prop} (hnd : od.Nodup) (hlt : ∀ j ∈ od, j < n) (hn : n ≤ 1048576) (hol : od.length ≤ 1048576) (h58 : g5 ≠ g8) (hg8 : w1.heap.size < g8)
    (hend : ∀ w ps, From w1.heap.size w1 w → Arr enI 3 w a5 od.length c5 (natL od) g5 → Arr enI 3 w a8 n c8 ps g8 → (∀ (k j : Nat), od[k]? = some j → ps[j]? = some (k : Int)) → thicketlaw13_under.e50 R a n c a8 n c8 none 0 0 a5 od.length c5 od.length 0 w) :
    ∀ (m k : Nat) (w : World) (ps : List Int), k + m = od.length → From w1.heap.size w1 w → Arr enI 3 w a5 od.length c5 (natL od) g5 → Arr enI 3 w a8 n c8 ps g8 → (∀ (k' j : Nat), k' < k → od[k']? = some j → ps[j]? = some (k' : Int)) → thicketlaw13_under.l31 R (m + 1) a n c a5 od.length c5 a8 n c8 a5 od.length c5 od.length k w
  | 0, k, w, ps, hk, hw, h5, h8, hp => by
    unfold thicketlaw13_under.l31 thicketlaw13_under.g31
    refine onDec_f (by omega) ?_
    exact hend w ps hw h5 h8 fun k' j hj => hp k' j (by have := (List.getElem?_eq_some_iff.1 hj).1; omega) hj
  | m + 1, k, w, ps, hk, hw, h5, h8, hp => by
    unfold thicketlaw13_under.l31 thicketlaw13_under.g31
    refine onDec_t (by omega) ?_
    have hkl : k < od.length := by omega
    have hj : od[k]? = some (od[k]'hkl) := List.getElem?_eq_getElem _
    obtain ⟨j, hje⟩ : ∃ j, od[k]'hkl = j := ⟨_, rfl⟩
    rw [hje] at hj
    have hjn := hlt j (List.mem_of_getElem? hj)
    refine h5.sl.rdI (k := .i64) (by omega) (by omega) fun y hy => ?_
    rw [Int.toNat_natCast, natL_get hj] at hy
    obtain rfl : y = (j : Int) := by simpa using hy.symm
    have h8l := h8.len
    refine h8.wr (by omega) (by omega) (x := (k : Int)) rfl fun u2 h82 ho => ?_
    rw [Int.toNat_natCast] at h82
    refine nv_succ (by omega) ?_
    refine place_loop hnd hlt hn hol h58 hg8 hend m (k + 1) u2 _ (by omega) (hw.only ho (.inr hg8)) (h5.mod ho fun b h1 h2 => by omega) h82 fun k' j' hk' hj' => ?_
    by_cases he : j' = j
    · subst he
      have : k' = k := (List.getElem?_inj (by omega) hnd).1 (by rw [hj', hj])
      rw [List.getElem?_set_self (by omega), this]
    · rw [List.getElem?_set_ne (fun h => he h.symm)]
      refine hp k' j' ?_ hj'
      rcases Nat.lt_or_ge k' k with h | h
      · exact h
      · obtain rfl : k' = k := by omega
        rw [hj] at hj'
        exact absurd (by simpa using hj'.symm) he
/-- The k-th node of the new list. -/
def nthO (od : List Nat) (nodes : List ND) (i : Nat) : ND := renum od (nodes.getD i default)
theorem out_loop {R : Value → World → Prop} {ps : List Int} (hG : Good F w1 a n c nodes) (hkd : ∀ (i : Nat) x, nodes[i]? = some x → (x.kind ≠ 1 ↔ x.inner = true)) (hch : ∀ (i : Nat) x, i ∈ od → nodes[i]? = some x → x.inner = true → 0 ≤ x.left ∧ x.left < n ∧ 0 ≤ x.right ∧ x.right < n ∧ x.left.toNat ∈ od ∧ x.right.toNat ∈ od) (hlt : ∀ j ∈ od, j < n) (hol : od.length ≤ 1048576)
    (hps : ∀ (k j : Nat), od[k]? = some j → ps[j]? = some (k : Int)) (h5 : Sl enI w1 a5 od.length (natL od)) (h8 : Sl enI w1 a8 n ps)
    (hend : ∀ w a11 c11 l g11, From w1.heap.size w1 w → ArrK 8 enH 49 w a11 od.length c11 l g11 → fresh w1.heap.size g11 → l.map (·.1) = canonN od nodes → (∀ x ∈ l, Ls (tInt .i64) F w x.2.a x.2.n x.2.c x.1.cats) → R (.slice a11 od.length c11) w) :
    ∀ (m k : Nat) (w : World) (a11 : Option Addr) (c11 g11 : Nat) (l : List (ND × SH)), k + m = od.length → From w1.heap.size w1 w → ArrK 8 enH 49 w a11 k c11 l g11 → fresh w1.heap.size g11 → l.map (·.1) = (od.take k).map (nthO od nodes) → (∀ x ∈ l, Ls (tInt .i64) F w x.2.a x.2.n x.2.c x.1.cats) → thicketlaw13_under.l50 R (m + 1) a n c a8 n c8 a11 k c11 a5 od.length c5 od.length k w
  | 0, k, w, a11, c11, g11, l, hk, hw, h11, hg, hl, hc => by
    unfold thicketlaw13_under.l50 thicketlaw13_under.g50
    refine onDec_f (by omega) ?_
    obtain rfl : k = od.length := by omega
    rw [List.take_of_length_le (Nat.le_refl _)] at hl
    exact hend w a11 c11 l g11 hw h11 hg hl hc
  | m + 1, k, w, a11, c11, g11, l, hk, hw, h11, hg, hl, hc => by
    unfold thicketlaw13_under.l50 thicketlaw13_under.g50
    refine onDec_t (by omega) ?_
    have hmx := hG.max
    have hn := hG.len
    have hkl : k < od.length := by omega
    have hj : od[k]? = some (od[k]'hkl) := List.getElem?_eq_getElem _
    obtain ⟨j, hje⟩ : ∃ j, od[k]'hkl = j := ⟨_, rfl⟩
    rw [hje] at hj
    have hjm := List.mem_of_getElem? hj
    have hjn := hlt j hjm
    refine (h5.from hw).rdI (k := .i64) (by omega) (by omega) fun y hy => ?_
    rw [Int.toNat_natCast, natL_get hj] at hy
    obtain rfl : y = (j : Int) := by simpa using hy.symm
    refine (hG.from hw).ls.rdN (by omega) (by omega) fun x a6 n6 c6 hx hcs => ?_
    rw [Int.toNat_natCast] at hx
    refine box8z fun u1 hb1 hb hk1 => ⟨_, hb.c0, ?_⟩
    have hu1 := hw.keptThen hk1
    have hz := hw.size
    have hln := h11.lenH
    have hgl := h11.le
    have nx : nthO od nodes j = renum od x := by unfold nthO; rw [List.getD_eq_getElem?_getD, hx]; rfl
    have tk : (od.take (k + 1)).map (nthO od nodes) = (od.take k).map (nthO od nodes) ++ [renum od x] := by rw [take_snoc hj, List.map_append, List.map_cons, nx]; rfl
    -- how a round ends
    have fin : ∀ (u2 : World) (x' : ND), x' = renum od x → At8 u2 (na w) x' a6 n6 c6 → Mod (fun b => w.heap.size ≤ b) w u2 →
        (∃ yx : Int, u2.cell? ((na w).add 0) = some (.int .u8 yx) ∧ ∃ y1 : Int, u2.cell? ((na w).add 1) = some (.int .i64 y1) ∧ ∃ y2 : Int, u2.cell? ((na w).add 2) = some (.int .i64 y2) ∧ ∃ y3 : Nat, u2.cell? ((na w).add 3) = some (.float .f64 y3) ∧ ∃ ya : Option Addr, ∃ yn : Nat, ∃ yc : Nat, u2.cell? ((na w).add 4) = some (.slice ya yn yc) ∧ ∃ y5 : Int, u2.cell? ((na w).add 5) = some (.int .u8 y5) ∧ ∃ y6 : Int, u2.cell? ((na w).add 6) = some (.int .i64 y6) ∧ ∃ y7 : Int, u2.cell? ((na w).add 7) = some (.int .i64 y7) ∧
          nw (u2.alloc (.cells #[.int .u8 yx, .int .i64 y1, .int .i64 y2, .float .f64 y3, .slice ya yn yc, .int .u8 y5, .int .i64 y6, .int .i64 y7] 49)) fun w153 => rawN Go.Proofs.Tryd.prog (Builtin.append_ #[22, 22] 22 #[.slice a11 k c11, .slice (some (na u2)) 1 1]) w153 fun yv u155 => ∃ ya' : Option Addr, ∃ yn' : Nat, ∃ yc' : Nat, yv = .slice ya' yn' yc' ∧ nv (IntKind.i64.wrap ((k : Int) + 1)) fun t => thicketlaw13_under.l50 R (m + 1) a n c a8 n c8 ya' yn' yc' a5 od.length c5 od.length t u155) := by
      intro u2 x' hx' hb2 hm2
      have hu2 : From w1.heap.size w1 u2 := hw.then hm2 (fun b _ h => by omega)
      have hk2 : Kept w u2 := From.kept hm2
      refine hb2.ld ?_
      have h112 := h11.kept hk2
      have hz2 := hu2.size
      refine h112.push S_N (fun _ => rfl) (by omega) (x := (x', ⟨a6, n6, c6⟩)) rfl (enH_one _) (by simp only [maxLen]; omega) (by omega) fun a' c' g' u3 h3 hg' hg0 ho => ⟨_, _, _, rfl, ?_⟩
      refine nv_succ (by omega) ?_
      unfold fresh at hg
      refine out_loop hG hkd hch hlt hol hps h5 h8 hend m (k + 1) u3 a' c' g' _ (by omega) (hu2.only ho hg) h3 (by unfold fresh; omega) ?_ fun y hy => ?_
      · rw [List.map_append, hl, tk, hx']; rfl
      · have keep : ∀ {a : Option Addr} {n c : Nat} {l : List Int}, Ls (tInt .i64) F w a n c l → Ls (tInt .i64) F u3 a n c l := fun h => (h.kept hk2).keep fun b hb hlt => ho.block b hlt (fun hh => by
          have := hG.old b hb
          have hh' : b + 1 = g11 := hh
          omega)
        rcases List.mem_append.1 hy with h | h
        · exact keep (hc y h)
        · obtain rfl : y = (x', ⟨a6, n6, c6⟩) := by simpa using h
          have := keep hcs
          rw [hx', renum_cats]
          exact this
    have ck : ∀ {v : World}, Mod (fun b => w.heap.size ≤ b) w v → CK w v := fun hm a v hc => hm.cell (fun h => by have := block_lt_of_cell hc; omega) hc
    refine onNe (fun hk1' => ?_) fun hk1' => ?_
    · have hin := (hkd j x hx).1 hk1'
      obtain ⟨b1, b2, b3, b4, b5, b6⟩ := hch j x hjm hx hin
      have rdp : ∀ {q : Nat}, q ∈ od → ps[q]? = some (od.idxOf q : Int) := fun hq => hps _ _ (idx_get hq)
      refine ⟨w, ck hk1.fr, _, hb.c6, ?_⟩
      refine ((h8.from hw).keep hk1).rdI (k := .i64) b1 b2 fun y hy => ?_
      rw [rdp b5] at hy
      obtain rfl : y = (od.idxOf x.left.toNat : Int) := by simpa using hy.symm
      refine ⟨_, hb.c7, ?_⟩
      refine (h8.from hw).rdI (k := .i64) b3 b4 fun y hy => ?_
      rw [rdp b6] at hy
      obtain rfl : y = (od.idxOf x.right.toNat : Int) := by simpa using hy.symm
      refine hb1.wr0 (by simp [enN]) fun w6 hb6 ho6 => ⟨ck (hk1.fr.only ho6 (.inr (by omega))), hb6.wr0 (by simp [enN]) fun w7 hb7 ho7 => ⟨ck ((hk1.fr.only ho6 (.inr (by omega))).only ho7 (.inr (by omega))), ?_⟩⟩
      refine fin w7 { x with left := (od.idxOf x.left.toNat : Int), right := (od.idxOf x.right.toNat : Int) } (by unfold renum; rw [if_pos hin]) (.of_blk hb7) ((hk1.fr.only ho6 (.inr (by omega))).only ho7 (.inr (by omega)))
    · have hin : x.inner = false := by
        cases hh : x.inner with
        | false => rfl
        | true => exact absurd hk1' ((hkd j x hx).2 hh)
      exact fin u1 x (by unfold renum; rw [if_neg (by simp [hin])]) hb hk1.fr
theorem is_get {V : BT} (hI : Is nodes V) : ∀ i ∈ V.pre, i < nodes.length := by
  induction V with
  | leaf j => obtain ⟨x, hx, _⟩ := hI; intro i hi; simp [BT.pre] at hi; subst hi; exact (List.getElem?_eq_some_iff.1 hx).1
  | node j l r ihl ihr =>
    obtain ⟨x, hx, _, _, _, hIl, hIr⟩ := hI
    intro i hi
    simp only [BT.pre, List.mem_cons, List.mem_append] at hi
    rcases hi with h | h | h
    · subst h; exact (List.getElem?_eq_some_iff.1 hx).1
    · exact ihl hIl i h
    · exact ihr hIr i h
theorem under_c (hG : Good F w a n c nodes) (hR : Right nanB nodes) (hI : Is nodes U) (hnd : U.pre.Nodup) (hU : U.size ≤ 1048576) : E.CallsD Go.Proofs.Tryd.prog 22 #[.slice a n c, .int .i64 (U.root : Nat)] w fun v u =>
    ∃ a' c' od, v = .slice a' od.length c' ∧ Ord U od ∧ Good (fun b => F b ∨ (w.heap.size ≤ b ∧ b < u.heap.size)) u a' od.length c' (canonN od nodes) ∧ Kept w u := by
  refine thicketlaw13_under.calls ?_
  unfold thicketlaw13_under thicketlaw13_under.g0
  have h1 := Arr.new enI 3 w [(U.root : Int)] #[.int .i64 (U.root : Nat)] rfl (by simp [maxLen])
  have k1 := Kept.new w (.cells #[.int .i64 (U.root : Nat)] 3)
  refine nw_mk ?_
  have hn := hG.len
  have hmx := hG.max
  have hkd : ∀ (i : Nat) x, nodes[i]? = some x → (x.kind ≠ 1 ↔ x.inner = true) := fun i x hx => kind_inner (hR.ok i x hx)
  refine ⟨_, under_loop (w1 := w) (F := F) hG hkd hU (fun w2 a5 c5 g5 od a8 g8 hw2 h5 hg5 hod h8 hg8 h58 => ?_) (sumS [U]) [U] 0 [U.root] _ _ 1 (w.heap.size + 1) (Nat.le_refl _) (Bfs.start U) (fun V hV => by simp at hV; subst hV; exact hI) k1.fr h1 (by omega)⟩
  have hlt : ∀ j ∈ od, j < n := fun j hj => by rw [hn]; exact is_get hI j (hod.perm.mem_iff.1 hj)
  have hol : od.length = U.size := by rw [hod.perm.length_eq, BT.pre_length]
  refine ⟨_, place_loop (w1 := w) (hod.nodup hnd) hlt hmx (by omega) h58 hg8 (fun w3 ps hw3 h53 h83 hps => ?_) od.length 0 w2 _ (by omega) hw2 h5 h8 (fun k' j hk' => by omega)⟩
  have hk3 := From.kept hw3
  refine ⟨_, out_loop (w1 := w3) (F := F) (hG.kept hk3) hkd (fun i x hi hx hin => ?_) hlt (by omega) hps h53.sl h83.sl (fun w4 a11 c11 l g11 hw4 hl hg11 hlm hlc => ⟨_, _, od, rfl, hod, ?_, Kept.trans hk3 (From.kept hw4)⟩) od.length 0 w3 none 0 0 [] (by omega) (From.refl _ _) (ArrK.nil _ _ _ _) (.inl rfl) rfl (fun x hx => by cases hx)⟩
  · obtain ⟨b1, b2, b3, b4, _⟩ := okNode_inner (hR.ok i x hx) hin
    have hc := hI.child (hod.perm.mem_iff.1 hi) hx hin
    exact ⟨by omega, by omega, by omega, by omega, hod.perm.mem_iff.2 hc.1, hod.perm.mem_iff.2 hc.2⟩
  · have hle := hl.le
    have z3 := hk3.size
    have z4 := (From.kept hw4).size
    unfold fresh at hg11
    have hls := hl.lsN (F := fun b => F b ∨ (w.heap.size ≤ b ∧ b < w4.heap.size)) (fun b hb => .inr (by omega)) (fun x hx => (hlc x hx).mono fun b hb => .inl hb)
    rw [hlm] at hls
    refine ⟨hls, fun b hb => by rcases hb with h | h
                                · have := hG.old b h; omega
                                · exact h.2, by omega, fun x hx => ?_⟩
    unfold canonN at hx
    obtain ⟨i, hi, rfl⟩ := List.mem_map.1 hx
    have hil := hlt i hi
    rw [renum_cats, List.getD_eq_getElem?_getD, List.getElem?_eq_getElem (by omega)]
    exact hG.short _ (List.getElem_mem _)
theorem under_leaves (hR : Right nanB nodes) (hI : Is nodes U) (hnd : U.pre.Nodup) (ho : Ord U od) : (shapeP nanB (canonN od nodes)).1 = 0 ∧ (thoseP (canonN od nodes) false).length = U.nl := by
  have hs := ho.shape hR hI hnd
  have h0 : (shapeP nanB (canonN od nodes)).1 = 0 := by rw [hs]
  refine ⟨h0, ?_⟩
  have hTr := treeP_spec h0
  have hIs := canon_isO (o := od) hI (fun j hj => ho.perm.mem_iff.2 hj)
  have := Is.uniq hTr.is hIs (by rw [hTr.root, BT.mapN_root, ho.idx_zero])
  rw [thoseP_leaves h0, this, BT.mapN_leaves, List.length_map]
  rfl
end
end Go.Mir
