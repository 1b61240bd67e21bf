/- Part of a proof of laws of the seat Ytdealcfgobobiaa: functions' weakest preconditions, each checked by the kernel, contracts out of them, plain lemmas; no conditions. -/
import Derived.Test.YtdealcfgobobiaaT33
import Derived.Test.YtdealcfgobobiaaT30
import Derived.Test.YtdealcfgobobiaaTLSums
set_option linter.unusedVariables false
set_option linter.unusedSimpArgs false
set_option maxRecDepth 100000
namespace Go.Mir
open Go Go.E Go.RowKit Go.Tr
/-! ### sums in whatever order -/
noncomputable def addV (xs : List Nat) (acc : List Int) (t : TD) : List Int := acc.set t.output.toNat (IntKind.i64.wrap (acc.getD t.output.toNat 0 + valAt t.nodes (endP t.nodes xs)))
def fineT (outs : Int) (d : Nat) (t : TD) : Prop := (shapeP nanB t.nodes).1 = 0 ∧ 0 ≤ t.output ∧ t.output < outs ∧ wayE t.nodes d = 0
theorem addV_len (xs : List Nat) (acc : List Int) (t : TD) : (addV xs acc t).length = acc.length := by simp [addV]
theorem wrap2 (a b c : Int) : IntKind.i64.wrap (IntKind.i64.wrap (a + b) + c) = IntKind.i64.wrap (IntKind.i64.wrap (a + c) + b) := by
  simp only [IntKind.wrap_i64]
  omega
theorem addV_comm (xs : List Nat) (acc : List Int) (s t : TD) : addV xs (addV xs acc s) t = addV xs (addV xs acc t) s := by
  unfold addV
  by_cases h : s.output.toNat = t.output.toNat
  · rw [h]
    by_cases hl : t.output.toNat < acc.length
    · have e : ∀ v : Int, (acc.set t.output.toNat v).getD t.output.toNat 0 = v := fun v => by
        rw [List.getD_eq_getElem?_getD, List.getElem?_set_self hl]; rfl
      rw [e, e, List.set_set, List.set_set, wrap2]
    · rw [List.set_eq_of_length_le (by rw [List.length_set]; omega), List.set_eq_of_length_le (by omega), List.set_eq_of_length_le (by rw [List.length_set]; omega), List.set_eq_of_length_le (by omega)]
  · have e : ∀ (l : List Int) (v : Int) (i j : Nat), i ≠ j → (l.set i v).getD j 0 = l.getD j 0 := fun l v i j h => by
      rw [List.getD_eq_getElem?_getD, List.getElem?_set_ne h, List.getD_eq_getElem?_getD]
    rw [e _ _ _ _ h, e _ _ _ _ (fun h' => h h'.symm), List.set_comm _ _ h]
theorem scoreL_fine {outs : Int} {xs : List Nat} : ∀ (ts : List TD) (acc : List Int), (scoreL outs xs ts acc).2 = 0 → (∀ t ∈ ts, fineT outs xs.length t) ∧ (scoreL outs xs ts acc).1 = ts.foldl (addV xs) acc
  | [], acc, _ => ⟨fun t h => (by cases h), rfl⟩
  | t :: ts, acc, h => by
    rw [scoreL_cons] at h ⊢
    by_cases h1 : (shapeP nanB t.nodes).1 ≠ 0
    · rw [if_pos h1] at h; exact absurd h h1
    · rw [if_neg h1] at h ⊢
      by_cases h2 : t.output < 0 ∨ outs ≤ t.output
      · rw [if_pos h2] at h; cases h
      · rw [if_neg h2] at h ⊢
        by_cases h3 : wayE t.nodes xs.length ≠ 0
        · rw [if_pos h3] at h; exact absurd h h3
        · rw [if_neg h3] at h ⊢
          obtain ⟨k1, k2⟩ := scoreL_fine ts _ h
          refine ⟨fun s hs => ?_, k2⟩
          rcases List.mem_cons.1 hs with e | hs
          · subst e; exact ⟨by simpa using h1, by omega, by omega, by simpa using h3⟩
          · exact k1 s hs
theorem scoreL_of {outs : Int} {xs : List Nat} : ∀ (ts : List TD) (acc : List Int), (∀ t ∈ ts, fineT outs xs.length t) → scoreL outs xs ts acc = (ts.foldl (addV xs) acc, 0)
  | [], acc, _ => rfl
  | t :: ts, acc, h => by
    obtain ⟨h1, h2, h3, h4⟩ := h t (by simp)
    rw [scoreL_cons, if_neg (by simpa using h1), if_neg (by omega), if_neg (by simpa using h4)]
    exact scoreL_of ts _ fun s hs => h s (by simp [hs])
theorem scoreL_no {outs : Int} {xs : List Nat} : ∀ (ts : List TD) (acc : List Int), (scoreL outs xs ts acc).2 ≠ 0 → (scoreL outs xs ts acc).1 = []
  | [], acc, h => absurd rfl h
  | t :: ts, acc, h => by
    rw [scoreL_cons] at h ⊢
    by_cases h1 : (shapeP nanB t.nodes).1 ≠ 0
    · rw [if_pos h1]
    · rw [if_neg h1] at h ⊢
      by_cases h2 : t.output < 0 ∨ outs ≤ t.output
      · rw [if_pos h2]
      · rw [if_neg h2] at h ⊢
        by_cases h3 : wayE t.nodes xs.length ≠ 0
        · rw [if_pos h3]
        · rw [if_neg h3] at h ⊢
          exact scoreL_no ts _ h
theorem scoreP_no {e : ED} {xs : List Nat} (h : (scoreP e xs).2 ≠ 0) : (scoreP e xs).1 = [] := by
  unfold scoreP at h ⊢
  split
  · rfl
  · rw [if_neg ‹_›] at h
    split
    · rfl
    · rw [if_neg ‹_›] at h
      exact scoreL_no _ _ h
theorem foldl_perm {xs : List Nat} {ts us : List TD} (h : ts.Perm us) (acc : List Int) : ts.foldl (addV xs) acc = us.foldl (addV xs) acc := by
  induction h generalizing acc with
  | nil => rfl
  | cons t _ ih => exact ih _
  | swap s t l => simp only [List.foldl_cons]; rw [addV_comm]
  | trans _ _ ih1 ih2 => exact (ih1 _).trans (ih2 _)
theorem fold_len {xs : List Nat} : ∀ (ts : List TD) (acc : List Int), (ts.foldl (addV xs) acc).length = acc.length
  | [], acc => rfl
  | t :: ts, acc => by rw [List.foldl_cons, fold_len ts, addV_len]
/-- What a right score says. -/
theorem scoreP_ok {e : ED} {xs : List Nat} (h : (scoreP e xs).2 = 0) : 1 ≤ e.outputs ∧ (e.base.length : Int) = e.outputs ∧ xs.length = e.features.length ∧ (∀ t ∈ e.trees, fineT e.outputs xs.length t) ∧ (scoreP e xs).1 = e.trees.foldl (addV xs) e.base := by
  unfold scoreP at h ⊢
  by_cases h1 : e.outputs < 1 ∨ (e.base.length : Int) ≠ e.outputs
  · rw [if_pos h1] at h; cases h
  · rw [if_neg h1] at h ⊢
    by_cases h2 : xs.length ≠ e.features.length
    · rw [if_pos h2] at h; cases h
    · rw [if_neg h2] at h ⊢
      obtain ⟨k1, k2⟩ := scoreL_fine _ _ h
      exact ⟨by omega, by omega, by omega, k1, k2⟩
theorem scoreP_of {e : ED} {xs : List Nat} (h0 : 1 ≤ e.outputs) (h1 : (e.base.length : Int) = e.outputs) (h2 : xs.length = e.features.length) (h3 : ∀ t ∈ e.trees, fineT e.outputs xs.length t) : scoreP e xs = (e.trees.foldl (addV xs) e.base, 0) := by
  unfold scoreP
  rw [if_neg (by omega), if_neg (by omega)]
  exact scoreL_of _ _ h3
theorem swap_perm {α : Type} {l : List α} {i k : Nat} {x y : α} (hi : l[i]? = some x) (hk : l[k]? = some y) : ((l.set i y).set k x).Perm l := by
  obtain ⟨hil, rfl⟩ := List.getElem?_eq_some_iff.1 hi
  obtain ⟨hkl, rfl⟩ := List.getElem?_eq_some_iff.1 hk
  classical
  rw [List.perm_iff_count]
  intro a
  rw [List.count_set (by rw [List.length_set]; exact hkl), List.count_set hil]
  by_cases h : i = k
  · subst h
    rw [List.getElem_set_self]
    have : 0 < List.count l[i] l := List.count_pos_iff.2 (List.getElem_mem hil)
    by_cases e : l[i] = a
    · subst e; simp; try omega
    · simp [e]
  · rw [List.getElem_set_ne h]
    have p1 : l[i] = a → 0 < List.count a l := fun e => e ▸ List.count_pos_iff.2 (List.getElem_mem hil)
    have p2 : l[k] = a → 0 < List.count a l := fun e => e ▸ List.count_pos_iff.2 (List.getElem_mem hkl)
    by_cases e1 : l[i] = a <;> by_cases e2 : l[k] = a <;> simp [e1, e2] <;> first | (have := p1 e1; omega) | (have := p2 e2; omega) | skip
theorem canonT_fine {outs : Int} {d : Nat} {t : TD} (h : fineT outs d t) : fineT outs d (canonT t) := by
  obtain ⟨h1, h2, h3, h4⟩ := h
  exact ⟨by show (shapeP nanB (canonP t.nodes)).1 = 0; rw [canonP_shape h1], h2, h3, canon_wayE h4⟩
theorem canonT_add {outs : Int} {xs : List Nat} {t : TD} (acc : List Int) (h : fineT outs xs.length t) : addV xs acc (canonT t) = addV xs acc t := by
  obtain ⟨h1, h2, h3, h4⟩ := h
  have := (canon_leaf h4).2
  unfold leafV at this
  rw [if_pos h4, if_pos (canon_wayE h4)] at this
  unfold addV
  show acc.set t.output.toNat (IntKind.i64.wrap (acc.getD t.output.toNat 0 + valAt (canonP t.nodes) (endP (canonP t.nodes) xs))) = _
  rw [this]
theorem canonT_fold {outs : Int} {xs : List Nat} : ∀ (ts : List TD) (acc : List Int), (∀ t ∈ ts, fineT outs xs.length t) → (ts.map canonT).foldl (addV xs) acc = ts.foldl (addV xs) acc
  | [], acc, _ => rfl
  | t :: ts, acc, h => by
    rw [List.map_cons, List.foldl_cons, List.foldl_cons, canonT_add acc (h t (by simp))]
    exact canonT_fold ts _ fun s hs => h s (by simp [hs])
theorem modelE_fine {outs : Int} {d : Nat} : ∀ (ts : List TD), (∀ t ∈ ts, fineT outs d t) → modelE ts = 0
  | [], _ => rfl
  | t :: ts, h => by
    rw [modelE_cons, if_neg (by have := (h t (by simp)).1; omega)]
    exact modelE_fine ts fun s hs => h s (by simp [hs])
section
variable {w u w1 W0 : World} {p : Addr} {o : Int} {a a1 a2 a7 a9 : Option Addr} {n c n1 c1 n2 c2 n7 c7 n9 c9 g gs g9 gb gt B B' : Nat} {F F' S : Nat → Prop} {nodes : List ND} {xs : List Nat} {perm r acc : List Int} {e : ED} {f b t f' b' t' : SH} {l : List (TD × SH)}
/-- What the loop of TreesSums holds. -/
structure SmI (B : Nat) (B10 : World) (e : ED) (f' b' t' : SH) (a7 : Option Addr) (n7 c7 : Nat) (r : List Int) (gs : Nat) (a9 : Option Addr) (n9 c9 : Nat) (acc : List Int) (g9 gb : Nat) (l : List (TD × SH)) (gt : Nat) (w : World) : Prop where
  s : Arr enI 2 w a7 n7 c7 r gs
  want : Arr enI 2 w a9 n9 c9 acc g9
  box : Blk w B10.heap.size (enE e f' b' t').toArray 46
  fs : ∃ g, Arr enS 9 w f'.a f'.n f'.c e.features g ∧ fresh B g
  bs : Arr enI 2 w b'.a b'.n b'.c e.base gb
  row : ArrK 2 enTH 33 w t'.a t'.n t'.c l gt
  own : ∀ x ∈ l, OwnN B w x.2.a x.2.n x.2.c x.1.nodes
theorem SmI.kept {B10 : World} (h : SmI B B10 e f' b' t' a7 n7 c7 r gs a9 n9 c9 acc g9 gb l gt w) (hk : Kept w u) : SmI B B10 e f' b' t' a7 n7 c7 r gs a9 n9 c9 acc g9 gb l gt u :=
  ⟨h.s.kept hk, h.want.kept hk, h.box.mod (Kept.mod (S := fun _ => False) hk) (fun h => h), let ⟨g, h1, h2⟩ := h.fs; ⟨g, h1.kept hk, h2⟩, h.bs.kept hk, h.row.kept hk, fun x hx => (h.own x hx).kept hk⟩
theorem SmI.add {B10 : World} {acc' : List Int} (h : SmI B B10 e f' b' t' a7 n7 c7 r gs a9 n9 c9 acc g9 gb l gt w) (hw : Arr enI 2 u a9 n9 c9 acc' g9) (ho : Only g9 w u) (h1 : gs ≠ g9) (h2 : gb = 0 ∨ gb ≠ g9) : SmI B B10 e f' b' t' a7 n7 c7 r gs a9 n9 c9 acc' g9 gb l gt u := by
  have ap : ∀ {es : List Nat}, 2 ∉ es → Apart (fun k => k + 1 = g9) w es := fun hes => Row.apart h.want hes
  obtain ⟨g, k1, k2⟩ := h.fs
  exact ⟨h.s.mod ho (fun k e1 e2 => by omega), hw, h.box.mod ho (fun hs => ap (es := [46]) (by decide) _ _ _ hs h.box (by simp)), ⟨g, Row.modS k1 ho (ap (es := [9]) (by decide)) (by simp), k2⟩, h.bs.mod ho (fun k e1 e2 => by omega), Row.modS h.row ho (ap (es := [33]) (by decide)) (by simp), fun x hx => (h.own x hx).modS ho (ap (by decide))⟩
theorem SmI.put {B10 : World} {l' : List (TD × SH)} (h : SmI B B10 e f' b' t' a7 n7 c7 r gs a9 n9 c9 acc g9 gb l gt w) (hr : ArrK 2 enTH 33 u t'.a t'.n t'.c l' gt) (ho : Only gt w u) (hl : ∀ x ∈ l', x ∈ l) : SmI B B10 e f' b' t' a7 n7 c7 r gs a9 n9 c9 acc g9 gb l' gt u := by
  have ap : ∀ {es : List Nat}, 33 ∉ es → Apart (fun k => k + 1 = gt) w es := fun hes => Row.apart h.row hes
  obtain ⟨g, k1, k2⟩ := h.fs
  exact ⟨Row.modS h.s ho (ap (es := [2]) (by decide)) (by simp), Row.modS h.want ho (ap (es := [2]) (by decide)) (by simp), h.box.mod ho (fun hs => ap (es := [46]) (by decide) _ _ _ hs h.box (by simp)), ⟨g, Row.modS k1 ho (ap (es := [9]) (by decide)) (by simp), k2⟩, Row.modS h.bs ho (ap (es := [2]) (by decide)) (by simp), hr, fun x hx => (h.own x (hl x hx)).modS ho (ap (by decide))⟩
theorem u64_mod {y : Int} {m : Nat} (hm : 0 < m) (hm2 : m ≤ 1048576) : 0 ≤ Int.tmod (IntKind.u64.wrap y) (m : Int) ∧ Int.tmod (IntKind.u64.wrap y) (m : Int) < m := by
  have h0 : 0 ≤ IntKind.u64.wrap y := by rw [IntKind.wrap_u64]; omega
  rw [tmod_pos h0]
  exact ⟨Int.emod_nonneg _ (by omega), Int.emod_lt_of_pos _ (by omega)⟩
theorem sums_loop2 {R : Value → World → Prop} {B10 : World} (hE : GoodE F W0 e f b t) (h5 : At5 W0 p e f b t) (hx : Sl enF W0 a1 n1 xs) (hm1 : n1 ≤ 1048576) (hp : Sl enI W0 a2 n2 perm) (hm2 : n2 ≤ 1048576) (hfine : ∀ x ∈ e.trees, fineT e.outputs xs.length x) (hbl : (e.base.length : Int) = e.outputs)
    (hg9 : W0.heap.size < g9) (hgt : fresh W0.heap.size gt) (hgs : gs ≠ g9) (hgb : gb = 0 ∨ gb ≠ g9) (htn : t'.n = t.n)
    (hend : ∀ (u : World) (l' : List (TD × SH)) (i : Int), From W0.heap.size W0 u → (l'.map (·.1)).Perm e.trees → SmI W0.heap.size B10 e f' b' t' a7 n7 c7 r gs a9 n9 c9 (e.trees.foldl (addV xs) e.base) g9 gb l' gt u → i = t.n → thicketlaw07_TreesSums.l28 R 1 a1 n1 c1 a2 n2 c2 (some p) a7 n7 c7 a9 n9 c9 (some (na B10)) t.a t.n t.c t.n i u) :
    ∀ (k i : Nat) (w : World) (acc : List Int) (l : List (TD × SH)), i + k = t.n → From W0.heap.size W0 w → e.trees.foldl (addV xs) e.base = (e.trees.drop i).foldl (addV xs) acc → acc.length = e.base.length → (l.map (·.1)).Perm e.trees → SmI W0.heap.size B10 e f' b' t' a7 n7 c7 r gs a9 n9 c9 acc g9 gb l gt w →
      thicketlaw07_TreesSums.l28 R (k + 1) a1 n1 c1 a2 n2 c2 (some p) a7 n7 c7 a9 n9 c9 (some (na B10)) t.a t.n t.c t.n i w := by
  have htl := hE.ts.len
  have htm := hE.tm
  have hbm := hE.bm
  have hbL := hE.bs.len
  intro k
  induction k with
  | zero =>
    intro i w acc l hi hw hacc hal hl hI
    rw [List.drop_eq_nil_of_le (by omega)] at hacc
    have ha : e.trees.foldl (addV xs) e.base = acc := hacc
    rw [← ha] at hI
    exact hend w l i hw hl hI (by omega)
  | succ k ih =>
    intro i w acc l hi hw hacc hal hl hI
    unfold thicketlaw07_TreesSums.l28 thicketlaw07_TreesSums.g28
    refine onDec_t (by omega) ?_
    have hEw := hE.from hw
    refine hEw.ts.rdT (by omega) (by omega) fun x a' n' c' hxi hL => ?_
    rw [Int.toNat_natCast] at hxi
    have hGx := Go.Mir.GoodE.at hEw hxi hL
    have hfx := hfine x (List.mem_of_getElem? hxi)
    obtain ⟨q1, q2, q3, q4⟩ := hfx
    rw [drop_cons hxi, List.foldl_cons] at hacc
    refine box2Tz fun w2 _ hT2 hk2 => ⟨_, hT2.c0, _, _, _, hT2.c1, ?_⟩
    have hx2 := (hx.from hw).keep hk2
    refine E.CallsD.mono (Leaf_c (o := x.output) (c1 := c1) (hGx.kept hk2) hx2 hm1) fun v w3 ⟨hv, hk3⟩ => ⟨_, _, _, hv, ?_⟩
    have hk23 := Kept.trans hk2 hk3
    have hw3 := hw.keptThen hk23
    have hT3 := hT2.kept hk3
    have hI3 := hI.kept hk23
    have h9l := hI3.want.len
    refine onNe_f q4 ⟨_, hT3.c0, ?_⟩
    refine hI3.want.sl.rdI (k := .i64) (by omega) (by omega) fun y hy => nv_mk rfl ?_
    refine hI3.want.wr (by omega) (by omega) (x := IntKind.i64.wrap (y + leafV x.nodes xs)) rfl fun w4 hw4 ho4 => ?_
    have hy' : acc.getD x.output.toNat 0 = y := by rw [List.getD_eq_getElem?_getD, hy]; rfl
    have hadd : acc.set x.output.toNat (IntKind.i64.wrap (y + leafV x.nodes xs)) = addV xs acc x := by
      unfold addV; rw [hy']; unfold leafV; rw [if_pos q4]
    rw [hadd] at hw4
    have hI4 := SmI.add hI3 hw4 ho4 hgs hgb
    have hf4 := hw3.only ho4 (.inr hg9)
    have hk4 : Kept W0 w4 := From.kept hf4
    have hll : l.length = t.n := by
      have := hl.length_eq
      rw [List.length_map] at this; omega
    have hlr := hI4.row.lenTH
    have next : ∀ (u : World) (l' : List (TD × SH)), From W0.heap.size W0 u → (l'.map (·.1)).Perm e.trees → SmI W0.heap.size B10 e f' b' t' a7 n7 c7 r gs a9 n9 c9 (addV xs acc x) g9 gb l' gt u → nv (IntKind.i64.wrap ((i : Int) + 1)) fun t199 => thicketlaw07_TreesSums.l28 R (k + 1) a1 n1 c1 a2 n2 c2 (some p) a7 n7 c7 a9 n9 c9 (some (na B10)) t.a t.n t.c t.n t199 u := fun u l' hu hl' hI' => by
      refine nv_succ (by omega) ?_
      exact ih (i + 1) u _ l' (by omega) hu hacc (by rw [addV_len]; exact hal) hl' hI'
    refine onDec (fun hlt => ?_) fun _ => next w4 l hf4 hl hI4
    refine (hp.keep hk4).rdI (k := .i64) (by omega) (by omega) fun z hz => nv_mk rfl ?_
    refine optN_mk ⟨_, _, _, (h5.kept hk4).c4, ?_⟩
    refine nv_u64 (by omega) (by omega) ?_
    refine nchk_mk (by omega) (nv_mk rfl ?_)
    obtain ⟨m1, m2⟩ := u64_mod (y := z) (m := t.n) (by omega) (by omega)
    obtain ⟨kk, hkk⟩ : ∃ kk : Nat, Int.tmod (IntKind.u64.wrap z) (t.n : Int) = (kk : Int) := ⟨_, (Int.toNat_of_nonneg m1).symm⟩
    rw [hkk] at m2 ⊢
    refine nv_i64 (by omega) (by omega) ?_
    obtain ⟨bt, hbt, hba⟩ : ∃ bt, gt = bt + 1 ∧ t'.a = some ⟨bt, 0, none⟩ := by
      rcases hI4.row.2 with ⟨_, _, h0, _⟩ | ⟨b, cur, h0, h1, _⟩
      · omega
      · exact ⟨b, h0, h1⟩
    have hne : B10.heap.size ≠ bt := fun h => Row.apart (es := [46]) hI4.row (by decide) B10.heap.size _ _ (by show B10.heap.size + 1 = gt; omega) hI4.box (by simp)
    have ck : ∀ {v : World}, Only gt w4 v → CK (w4.putObj bt (.deferred none)) v := fun ho => CK.hide (ho.weak fun k _ h => by show k = bt; omega)
    have hb5 : At5 w4 (na B10) e f' b' t' := .of_blk hI4.box
    have hwm : (w4.putObj bt (.deferred none)).cell? ((na B10).add 4) = some (.slice t'.a t'.n t'.c) := hide_rd hb5.c4 (by rw [add_block]; exact hne)
    have rowsl := ArrK.slk (k := 2) (en := enTH) (fun _ => rfl) (by omega) hI4.row
    refine ⟨w4.putObj bt (.deferred none), ck (Mod.refl _), optN_mk ⟨_, _, _, hb5.c4, optN_mk ⟨_, _, _, hwm, optN_mk ⟨_, _, _, hb5.c4, ?_⟩⟩⟩⟩
    refine rowsl.rdTH (by omega) (by omega) fun y1 hy1 => optN_mk ⟨_, _, _, hwm, ?_⟩
    refine rowsl.rdTH (by omega) (by omega) fun y2 hy2 => ?_
    rw [Int.toNat_natCast] at hy1 hy2
    refine hI4.row.wrT (i := (i : Int)) (by omega) (by omega) (x := y1) fun w5 h55 ho5 => ⟨ck ho5, ?_⟩
    refine h55.wrT (i := (kk : Int)) (by omega) (by omega) (x := y2) fun w6 h66 ho6 => ⟨ck (ho5.trans ho6 (fun _ _ h => h) (fun _ _ h => h)), ?_⟩
    rw [Int.toNat_natCast, Int.toNat_natCast] at h66
    have hsp := swap_perm hy2 hy1
    have ho56 : Only gt w4 w6 := ho5.trans ho6 (fun _ _ h => h) (fun _ _ h => h)
    refine next w6 _ (hf4.only ho56 hgt) ((hsp.map (·.1)).trans hl) (SmI.put hI4 h66 ho56 fun x hx => hsp.mem_iff.1 hx)
/-- The law TreesSums. -/
theorem treesSums_law (hE : GoodE F w e f b t) (hx : Sl enF w a1 n1 xs) (hm1 : n1 ≤ 1048576) (hp : Sl enI w a2 n2 perm) (hm2 : n2 ≤ 1048576) : Pure Go.Proofs.Try.prog 7 #[vE e f b t, .slice a1 n1 c1, .slice a2 n2 c2] w (.bool true) := by
  refine thicketlaw07_TreesSums.calls (R := fun v' u => v' = _ ∧ Below w.heap.size w u) ?_
  unfold thicketlaw07_TreesSums thicketlaw07_TreesSums.g0
  have hbm := hE.bm
  have hbL := hE.bs.len
  have htl := hE.ts.len
  refine box5 fun w1 _ h5 hk1 => ?_
  refine E.CallsD.mono (lives_c w1) fun v w2 ⟨hv, hk2⟩ => ⟨_, hv, ob_f ?_⟩
  have k2 := Kept.trans hk1 hk2
  have h52 := h5.kept hk2
  refine h52.ld ?_
  refine E.CallsD.mono (Score_c (c1 := c1) (hE.kept k2) (hx.keep k2) hm1) fun v w3 ⟨a7, n7, c7, hv, ⟨gs, h7, hg7, hk3⟩⟩ => ⟨_, _, _, _, hv, ?_⟩
  have k3 := Kept.trans k2 hk3
  have h7l := h7.len
  refine onNe (fun hne => ⟨?_, k3⟩) fun h0 => ?_
  · rw [scoreP_no hne] at h7l
    subst h7l; rfl
  obtain ⟨p1, p2, p3, hfine, hsc⟩ := scoreP_ok h0
  refine nw_mk ?_
  have hk4 := Kept.new w3 (.cells #[] 2)
  have h00 := Arr.new enI 2 w3 [] #[] rfl (by simp [maxLen])
  obtain ⟨w4, hw4⟩ : ∃ w4, w3.alloc (.cells #[] 2) = w4 := ⟨_, rfl⟩
  have hsz : w3.heap.size < w4.heap.size := by rw [← hw4]; simp
  rw [hw4] at hk4 h00 ⊢
  have h54 := h52.kept (Kept.trans hk3 hk4)
  have k4 := Kept.trans k3 hk4
  refine ⟨_, _, _, h54.c3, ?_⟩
  refine Arr.pushes S_I64 h00 (fun _ => rfl) (hE.kept k4).bs.sl (by simp only [maxLen, List.length_nil]; omega) (by simp only [List.length_nil]; omega) fun a9 c9 g9 w5 h9 hg9 ho5 => ⟨_, _, _, rfl, ?_⟩
  simp only [List.length_nil, Nat.zero_add, List.nil_append] at h9 ⊢
  have hk35 : Kept w3 w5 := From.kept (hk4.fr.only ho5 (.inr (by omega)))
  have k5 := Kept.trans k3 hk35
  have h55 := h52.kept (Kept.trans hk3 hk35)
  have hg9' : w3.heap.size < g9 := by omega
  have l7 := h7.le
  refine h55.ld ?_
  refine E.CallsD.mono (refCopy_c (hE.kept k5)) fun v w6 ⟨f', b', t', hv, ho6, hk6⟩ => ⟨_, _, _, _, _, _, _, _, _, _, _, hv, ?_⟩
  refine box5z (f := f') (b := b') (t := t') fun w7 hb7 _ hk7 => ?_
  have k57 := Kept.trans hk6 hk7
  have h57 := h55.kept k57
  refine ⟨_, _, _, h57.c4, ?_⟩
  have ho7 := ho6.kept hk7
  obtain ⟨gf, hf1, hf2⟩ := ho7.fs
  obtain ⟨gb, hb1, hb2⟩ := ho7.bs
  obtain ⟨gt, l, ht1, ht2, ht3, ht4⟩ := ho7.ts
  have s1 := hk1.size
  have s2 := hk2.size
  have s3 := hk3.size
  have s35 := hk35.size
  have s6 := hk6.size
  have s7 := hk7.size
  have k17 : Kept w1 w7 := Kept.trans hk2 (Kept.trans hk3 (Kept.trans hk35 k57))
  have l9 := h9.le
  have hlt' : t'.n = t.n := by
    have h1 := ht1.lenTH
    have h2 := congrArg List.length ht3
    rw [List.length_map] at h2
    omega
  refine ⟨t.n + 1, sums_loop2 (W0 := w1) (p := na w) (F := F) (B10 := w6) (gs := gs) (g9 := g9) (gb := gb) (gt := gt) (r := (scoreP e xs).1) (hE.kept hk1) h5 (hx.keep hk1) hm1 (hp.keep hk1) hm2 hfine p2 (by omega) (fresh_mono ht2 (by omega)) (by omega) (by unfold fresh at hb2; omega) hlt' (fun u l' i hu hl' hI hi => ?_) t.n 0 w7 e.base l (by omega) k17.fr rfl rfl (by rw [← ht3]) ⟨h7.kept (Kept.trans hk35 k57), h9.kept k57, hb7, ⟨gf, hf1, fresh_mono hf2 (by omega)⟩, hb1, ht1, fun x hx => (ht4 x hx).weak (by omega)⟩⟩
  -- behind the loop
  subst hi
  unfold thicketlaw07_TreesSums.l28 thicketlaw07_TreesSums.g28
  refine onDec_f (by omega) ?_
  have hku := From.kept hu
  have ku := Kept.trans hk1 hku
  have hxu := hx.keep ku
  obtain ⟨E2, hE2⟩ : ∃ E2 : ED, E2 = ⟨e.name, e.features, e.outputs, e.base, l'.map (·.1)⟩ := ⟨_, rfl⟩
  have hboxu : At5 u (na w6) E2 f' b' t' := by rw [hE2]; exact .of_blk hI.box
  have hes := Go.Mir.GoodE.sized hE
  have hown2 : OwnE 0 u E2 f' b' t' := by
    rw [hE2]
    exact ⟨let ⟨g, q1, q2⟩ := hI.fs; ⟨g, q1, fresh_mono q2 (Nat.zero_le _)⟩, ⟨gb, hI.bs, by unfold fresh; omega⟩, gt, l', hI.row, by unfold fresh; omega, rfl, fun x hx => (hI.own x hx).weak (Nat.zero_le _)⟩
  have hsz2 : Sized E2 := by
    rw [hE2]
    exact ⟨hes.fm, hes.bm, by have := hl'.length_eq; have := hes.tm; simp only; omega, fun x hx => hes.good x (hl'.mem_iff.1 hx)⟩
  have hg2 := Go.Mir.OwnE.good hown2 hsz2
  have hsc2 : scoreP E2 xs = (e.trees.foldl (addV xs) e.base, 0) := by
    have := scoreP_of (e := E2) (xs := xs) (by rw [hE2]; exact p1) (by rw [hE2]; exact p2) (by rw [hE2]; exact p3) (by rw [hE2]; exact fun x hx => hfine x (hl'.mem_iff.1 hx))
    rw [this, hE2]
    simp only [foldl_perm hl']
  refine optN_mk (hboxu.ld ?_)
  refine E.CallsD.mono (Score_c (c1 := c1) hg2 hxu hm1) fun v u1 ⟨a8, n8, c8, hv, h8⟩ => ⟨_, _, _, _, hv, ?_⟩
  rw [hsc2] at h8 ⊢
  have q1 := h8.kept
  have h5u1 := h5.kept (Kept.trans hku q1)
  refine optN_mk (h5u1.ld ?_)
  have ku1 := Kept.trans ku q1
  refine E.CallsD.mono (Model_c (hE.kept ku1)) fun v u2 ⟨f3, b3, t3, hv, ho3, q2⟩ => ⟨_, _, _, _, _, _, _, _, _, _, _, _, hv, ?_⟩
  refine box5z (f := f3) (b := b3) (t := t3) fun u3 _ h53 q3 => h53.ld ?_
  have ku3 := Kept.trans ku1 (Kept.trans q2 q3)
  have hm0 : modelE e.trees = 0 := modelE_fine e.trees hfine
  have hmp : modelP e = ⟨e.name, e.features, e.outputs, e.base, e.trees.map canonT⟩ := by unfold modelP; rw [if_pos hm0]
  have hg3 := Go.Mir.OwnE.good (ho3.kept q3) (model_sized hes)
  have hsc3 : scoreP (modelP e) xs = (e.trees.foldl (addV xs) e.base, 0) := by
    rw [hmp]
    have := scoreP_of (e := ⟨e.name, e.features, e.outputs, e.base, e.trees.map canonT⟩) (xs := xs) p1 p2 p3 (fun x hx => by
      obtain ⟨y, hy, rfl⟩ := List.mem_map.1 hx
      exact canonT_fine (hfine y hy))
    rw [this]
    simp only [canonT_fold e.trees e.base hfine]
  refine E.CallsD.mono (Score_c (c1 := c1) hg3 (hx.keep ku3) hm1) fun v u4 ⟨a4, n4, c4, hv, h4⟩ => ⟨_, _, _, _, hv, ?_⟩
  rw [hsc3] at h4 ⊢
  have q14 := Kept.trans q2 (Kept.trans q3 h4.kept)
  have q04 := Kept.trans q1 q14
  have hI4 := hI.kept q04
  have hlen : (e.trees.foldl (addV xs) e.base).length = e.base.length := fold_len _ _
  have l8 := h8.len
  have l4 := h4.len
  have sl7 := hI4.s.sl
  rw [hsc] at sl7 h7l
  simp only at l8 l4
  refine E.CallsD.mono (sums_c sl7 hI4.want.sl (by omega)) fun v u5 ⟨hv, q5⟩ => ⟨_, hv, ?_⟩
  rw [decide_eq_true rfl]
  refine ob_t (onEq_t rfl ?_)
  refine E.CallsD.mono (sums_c (h8.sl.keep (Kept.trans q14 q5)) (hI4.want.kept q5).sl (by omega)) fun v u6 ⟨hv, q6⟩ => ⟨_, hv, ?_⟩
  rw [decide_eq_true rfl]
  refine ob_t (onEq_t hm0 (onEq_t rfl ?_))
  refine E.CallsD.mono (sums_c (h4.sl.keep (Kept.trans q5 q6)) (hI4.want.kept (Kept.trans q5 q6)).sl (by omega)) fun v u7 ⟨hv, q7⟩ => ⟨_, hv, ?_, Kept.trans ku (Kept.trans q04 (Kept.trans q5 (Kept.trans q6 q7)))⟩
  rw [decide_eq_true rfl]
end
end Go.Mir
