/- Part of a proof of laws of the seat Ytmjlipmapfofmaa: functions' weakest preconditions, each checked by the kernel, contracts out of them, plain lemmas; no conditions. -/
import Derived.Test.YtmjlipmapfofmaaSSA
import Derived.Test.YtmjlipmapfofmaaED
import Derived.Test.YtmjlipmapfofmaaTMA
set_option linter.unusedVariables false
set_option linter.unusedSimpArgs false
set_option linter.unusedSectionVars false
set_option linter.unusedVariables false
namespace Go.Mir
open Go Go.E Go.RowKit Go.Ss
noncomputable abbrev ev_asked (x : AskR) : Value := ag125 x.nd.kind x.nd.value x.nd.feature x.nd.thr x.nd.cats.a x.nd.cats.n x.nd.cats.c x.nd.missing x.nd.left x.nd.right x.frm x.to
abbrev CC_asked (lt : AskR → AskR → Bool) (X : World → Prop) (G : AskR → Prop) : Prop := ∀ w x y, X w → G x → G y → E.CallsD Go.Proofs.Try.prog 82 #[ev_asked x, ev_asked y] w fun v u => ∃ r : Int, v = .int .i64 r ∧ decide (r < 0) = lt x y ∧ Kept w u
noncomputable def S_asked (a : OA) (n c g : Nat) (lt : AskR → AskR → Bool) (X : World → Prop) (G : AskR → Prop) (wk : Wk lt) (hs : n ≤ 1152921504606846975) (hX : ∀ w u, X w → Only g w u → X u) (hc : CC_asked lt X G) : SM AskR :=
  smK Go.Proofs.Try.prog (fun w q K => ld125 w q fun k v f z a n c m l r s t => K ⟨⟨k, v, f, z, ⟨a, n, c⟩, m, l, r⟩, s, t⟩) (fun w q x K => st125 w q x.nd.kind x.nd.value x.nd.feature x.nd.thr x.nd.cats.a x.nd.cats.n x.nd.cats.c x.nd.missing x.nd.left x.nd.right x.frm x.to K) 10 a n c 126 g enAskR lt 82 (fun x y => #[ev_asked x, ev_asked y]) X G (fun _ => rfl) (by omega) wk hs
    (fun w q x K h hk => ⟨_, h 0 _ rfl, _, h 1 _ rfl, _, h 2 _ rfl, _, h 3 _ rfl, _, _, _, h 4 _ rfl, _, h 5 _ rfl, _, h 6 _ rfl, _, h 7 _ rfl, _, h 8 _ rfl, _, h 9 _ rfl, hk⟩) (fun w q x K h => h) hX hc
section
variable {a : OA} {n c g : Nat} {lt : AskR → AskR → Bool} {X : World → Prop} {G : AskR → Prop} (wk : Wk lt) (hs : n ≤ 1152921504606846975) (hX : ∀ w u, X w → Only g w u → X u) (hc : CC_asked lt X G)
theorem swp_asked : (S_asked a n c g lt X G wk hs hX hc).SwpOK fun x1 x2 x3 w R => E.CallsD Go.Proofs.Try.prog 112 #[.slice a n c, .int .i64 x1, .int .i64 x2, .int .i64 x3, .func (.func 82) #[] #[]] w R :=
  fun P x q y s w R hxy hH hR => Swp_asked.calls (Exists.intro (p := fun k => Swp_asked.l3 R k a n c _ _ _ 0 w) _ ((S_asked a n c g lt X G wk hs hX hc).swpLoop (l := fun k z w => Swp_asked.l3 R k a n c _ _ _ z w) (fun k z w h => (Swp_asked.u3 ..).mpr h) hxy rfl rfl rfl hR x.length 0 w (Nat.zero_add _) ((S_asked a n c g lt X G wk hs hX hc).refl _) (by rw [rng_zero]; exact hH)))
theorem rot_asked : (S_asked a n c g lt X G wk hs hX hc).RotOK fun x1 x2 x3 w R => E.CallsD Go.Proofs.Try.prog 107 #[.slice a n c, .int .i64 x1, .int .i64 x2, .int .i64 x3, .func (.func 82) #[] #[]] w R := by
  intro P L R' Q w R hL hR' hH hR
  have hn := SM.lenT _ hH
  have hln : (P ++ L ++ R' ++ Q).length = P.length + L.length + R'.length + Q.length := by simp; omega
  have hn' : (S_asked a n c g lt X G wk hs hX hc).n = n := rfl
  refine Rot_asked.calls ?_
  unfold Rot_asked Rot_asked.g0
  refine nv_mk (y := ((L.length : Nat) : Int)) (by rw [i64_id (by omega) (by omega)]; omega) (nv_mk (y := ((R'.length : Nat) : Int)) (by rw [i64_id (by omega) (by omega)]; omega) ?_)
  exact Exists.intro _ ((S_asked a n c g lt X G wk hs hX hc).rotLoop (swp_asked wk hs hX hc) (l := fun k i j w => Rot_asked.l6 R k a n c (P.length + L.length : Nat) i j w) (fun k i j w h => (Rot_asked.u6 ..).mpr h) (F := P ++ R' ++ L ++ Q) hR _ P L R' Q w (Nat.le_refl _) hL hR' rfl rfl ((S_asked a n c g lt X G wk hs hX hc).refl _) hH)
theorem sym_asked : ∀ N, (S_asked a n c g lt X G wk hs hX hc).SymOK (fun x1 x2 x3 w R => E.CallsD Go.Proofs.Try.prog 101 #[.slice a n c, .int .i64 x1, .int .i64 x2, .int .i64 x3, .func (.func 82) #[] #[]] w R) N :=
  (S_asked a n c g lt X G wk hs hX hc).symMerge (rot_asked wk hs hX hc) (l29 := fun R k i x w => Sym_asked.l29 R k a n c i x w) (l71 := fun R k i x w => Sym_asked.l71 R k a n c i x w) (l10 := fun R k x1 i j w => Sym_asked.l10 R k a n c x1 i j w) (l52 := fun R k x2 i j w => Sym_asked.l52 R k a n c x2 i j w)
    (l104 := fun R k x1 x2 x3 mid n' s r q w => Sym_asked.l104 R k a n c x1 x2 x3 mid n' s r q w) (fun R k x10 x w h => (Sym_asked.u29 ..).mpr h) (fun R k x14 x w h => (Sym_asked.u71 ..).mpr h) (fun R k x1 i j w h => (Sym_asked.u10 ..).mpr h) (fun R k x2 i j w h => (Sym_asked.u52 ..).mpr h) (fun R k a' m b mid n' q s r w h => (Sym_asked.u104 ..).mpr h) (fun R x1 x2 x3 w h => Sym_asked.calls h)
theorem ins_asked : (S_asked a n c g lt X G wk hs hX hc).InsOK fun x1 x2 w R => E.CallsD Go.Proofs.Try.prog 100 #[.slice a n c, .int .i64 x1, .int .i64 x2, .func (.func 82) #[] #[]] w R :=
  (S_asked a n c g lt X G wk hs hX hc).insSort (l3 := fun R k x1 x2 x8 w => Ins_asked.l3 R k a n c x1 x2 x8 w) (l15 := fun R k0 k x1 x2 x8 x w => Ins_asked.l15 R (Ins_asked.l3 R k0) k a n c x1 x2 x8 x w) (fun R k x1 x2 x8 w h => (Ins_asked.u3 ..).mpr h) (fun R k0 k x1 x2 x8 x w h => h) (fun R x1 x2 w h => Ins_asked.calls h)
end
theorem Stable_asked_c {a : OA} {n c g : Nat} {lt : AskR → AskR → Bool} {X : World → Prop} {G : AskR → Prop} (wk : Wk lt) (hs : n ≤ 1152921504606846975) (hX : ∀ w u, X w → Only g w u → X u) (hc : CC_asked lt X G) {R : VP} {w : World} {xs : List AskR} (h : ArrK 10 enAskR 126 w a n c xs g) (hx : X w) (hG : ∀ x ∈ xs, G x)
    (hR : ∀ u, ArrK 10 enAskR 126 u a n c (sorted lt xs) g → X u → Only g w u → R (.tuple #[]) u) : E.CallsD Go.Proofs.Try.prog 93 #[.slice a n c, .int .i64 n, .func (.func 82) #[] #[]] w R :=
  Stable_asked.calls ((S_asked a n c g lt X G wk hs hX hc).stable (R := R) (ins_asked wk hs hX hc) (sym_asked wk hs hX hc) (l6 := fun k x y w => Stable_asked.l6 R k a n c n 20 x y w) (l22 := fun k x w => Stable_asked.l22 R k a n c n x w)
    (l34 := fun k k' x6 x y w => Stable_asked.l34 R (Stable_asked.l22 R k) k' a n c n x6 x y w) (fun k x y w h => (Stable_asked.u6 ..).mpr h) (fun k x w h => (Stable_asked.u22 ..).mpr h) (fun k k' x6 x y w h => h) (xs := xs) ⟨h, hx, hG⟩ fun u hu ru => hR u hu.1 hu.2.1 ru)
theorem Sort_asked_c {a : OA} {n c g : Nat} {lt : AskR → AskR → Bool} {X : World → Prop} {G : AskR → Prop} (wk : Wk lt) (hs : n ≤ 1152921504606846975) (hX : ∀ w u, X w → Only g w u → X u) (hc : CC_asked lt X G) {R : VP} {w : World} {xs : List AskR} (h : ArrK 10 enAskR 126 w a n c xs g) (hx : X w) (hG : ∀ x ∈ xs, G x)
    (hR : ∀ u, ArrK 10 enAskR 126 u a n c (sorted lt xs) g → X u → Only g w u → R (.tuple #[]) u) : E.CallsD Go.Proofs.Try.prog 81 #[.slice a n c, .func (.func 82) #[] #[]] w R :=
  Sort_asked.calls (E.CallsD.mono (Stable_asked_c wk hs hX hc (R := fun v u => v = .tuple #[] ∧ R (.tuple #[]) u) h hx hG fun u a b c => ⟨rfl, hR u a b c⟩) fun v u h => h)
noncomputable abbrev ev_cut (x : CutR) : Value := ag71 x.thr x.cats.a x.cats.n x.cats.c x.tree x.frm x.to
abbrev CC_cut (p : Addr) (lt : CutR → CutR → Bool) (X : World → Prop) (G : CutR → Prop) : Prop := ∀ w x y, X w → G x → G y → E.CallsD Go.Proofs.Try.prog 88 #[ev_cut x, ev_cut y, .pointer (some p)] w fun v u => ∃ r : Int, v = .int .i64 r ∧ decide (r < 0) = lt x y ∧ Kept w u
noncomputable def S_cut (a : OA) (n c g : Nat) (p : Addr) (lt : CutR → CutR → Bool) (X : World → Prop) (G : CutR → Prop) (wk : Wk lt) (hs : n ≤ 1152921504606846975) (hX : ∀ w u, X w → Only g w u → X u) (hc : CC_cut p lt X G) : SM CutR :=
  smK Go.Proofs.Try.prog (fun w q K => ld71 w q fun z a n c x y v => K ⟨z, ⟨a, n, c⟩, x, y, v⟩) (fun w q x K => st71 w q x.thr x.cats.a x.cats.n x.cats.c x.tree x.frm x.to K) 5 a n c 72 g enCutR lt 88 (fun x y => #[ev_cut x, ev_cut y, .pointer (some p)]) X G (fun _ => rfl) (by omega) wk hs
    (fun w q x K h hk => ⟨_, h 0 _ rfl, _, _, _, h 1 _ rfl, _, h 2 _ rfl, _, h 3 _ rfl, _, h 4 _ rfl, hk⟩) (fun w q x K h => h) hX hc
section
variable {a : OA} {n c g : Nat} {p : Addr} {lt : CutR → CutR → Bool} {X : World → Prop} {G : CutR → Prop} (wk : Wk lt) (hs : n ≤ 1152921504606846975) (hX : ∀ w u, X w → Only g w u → X u) (hc : CC_cut p lt X G)
theorem swp_cut : (S_cut a n c g p lt X G wk hs hX hc).SwpOK fun x1 x2 x3 w R => E.CallsD Go.Proofs.Try.prog 113 #[.slice a n c, .int .i64 x1, .int .i64 x2, .int .i64 x3, .func (.func 88) #[] #[.pointer (some p)]] w R :=
  fun P x q y s w R hxy hH hR => Swp_cut.calls (Exists.intro (p := fun k => Swp_cut.l3 R k a n c _ _ _ 0 w) _ ((S_cut a n c g p lt X G wk hs hX hc).swpLoop (l := fun k z w => Swp_cut.l3 R k a n c _ _ _ z w) (fun k z w h => (Swp_cut.u3 ..).mpr h) hxy rfl rfl rfl hR x.length 0 w (Nat.zero_add _) ((S_cut a n c g p lt X G wk hs hX hc).refl _) (by rw [rng_zero]; exact hH)))
theorem rot_cut : (S_cut a n c g p lt X G wk hs hX hc).RotOK fun x1 x2 x3 w R => E.CallsD Go.Proofs.Try.prog 110 #[.slice a n c, .int .i64 x1, .int .i64 x2, .int .i64 x3, .func (.func 88) #[] #[.pointer (some p)]] w R := by
  intro P L R' Q w R hL hR' hH hR
  have hn := SM.lenT _ hH
  have hln : (P ++ L ++ R' ++ Q).length = P.length + L.length + R'.length + Q.length := by simp; omega
  have hn' : (S_cut a n c g p lt X G wk hs hX hc).n = n := rfl
  refine Rot_cut.calls ?_
  unfold Rot_cut Rot_cut.g0
  refine nv_mk (y := ((L.length : Nat) : Int)) (by rw [i64_id (by omega) (by omega)]; omega) (nv_mk (y := ((R'.length : Nat) : Int)) (by rw [i64_id (by omega) (by omega)]; omega) ?_)
  exact Exists.intro _ ((S_cut a n c g p lt X G wk hs hX hc).rotLoop (swp_cut wk hs hX hc) (l := fun k i j w => Rot_cut.l6 R k a n c (P.length + L.length : Nat) p i j w) (fun k i j w h => (Rot_cut.u6 ..).mpr h) (F := P ++ R' ++ L ++ Q) hR _ P L R' Q w (Nat.le_refl _) hL hR' rfl rfl ((S_cut a n c g p lt X G wk hs hX hc).refl _) hH)
theorem sym_cut : ∀ N, (S_cut a n c g p lt X G wk hs hX hc).SymOK (fun x1 x2 x3 w R => E.CallsD Go.Proofs.Try.prog 104 #[.slice a n c, .int .i64 x1, .int .i64 x2, .int .i64 x3, .func (.func 88) #[] #[.pointer (some p)]] w R) N :=
  (S_cut a n c g p lt X G wk hs hX hc).symMerge (rot_cut wk hs hX hc) (l29 := fun R k i x w => Sym_cut.l29 R k a n c i x w) (l71 := fun R k i x w => Sym_cut.l71 R k a n c i x w) (l10 := fun R k x1 i j w => Sym_cut.l10 R k a n c x1 p i j w) (l52 := fun R k x2 i j w => Sym_cut.l52 R k a n c x2 p i j w)
    (l104 := fun R k x1 x2 x3 mid n' s r q w => Sym_cut.l104 R k a n c x1 x2 x3 p mid n' s r q w) (fun R k x10 x w h => (Sym_cut.u29 ..).mpr h) (fun R k x14 x w h => (Sym_cut.u71 ..).mpr h) (fun R k x1 i j w h => (Sym_cut.u10 ..).mpr h) (fun R k x2 i j w h => (Sym_cut.u52 ..).mpr h) (fun R k a' m b mid n' q s r w h => (Sym_cut.u104 ..).mpr h) (fun R x1 x2 x3 w h => Sym_cut.calls h)
theorem ins_cut : (S_cut a n c g p lt X G wk hs hX hc).InsOK fun x1 x2 w R => E.CallsD Go.Proofs.Try.prog 103 #[.slice a n c, .int .i64 x1, .int .i64 x2, .func (.func 88) #[] #[.pointer (some p)]] w R :=
  (S_cut a n c g p lt X G wk hs hX hc).insSort (l3 := fun R k x1 x2 x8 w => Ins_cut.l3 R k a n c x1 x2 p x8 w) (l15 := fun R k0 k x1 x2 x8 x w => Ins_cut.l15 R (Ins_cut.l3 R k0) k a n c x1 x2 p x8 x w) (fun R k x1 x2 x8 w h => (Ins_cut.u3 ..).mpr h) (fun R k0 k x1 x2 x8 x w h => h) (fun R x1 x2 w h => Ins_cut.calls h)
end
theorem Stable_cut_c {a : OA} {n c g : Nat} {p : Addr} {lt : CutR → CutR → Bool} {X : World → Prop} {G : CutR → Prop} (wk : Wk lt) (hs : n ≤ 1152921504606846975) (hX : ∀ w u, X w → Only g w u → X u) (hc : CC_cut p lt X G) {R : VP} {w : World} {xs : List CutR} (h : ArrK 5 enCutR 72 w a n c xs g) (hx : X w) (hG : ∀ x ∈ xs, G x)
    (hR : ∀ u, ArrK 5 enCutR 72 u a n c (sorted lt xs) g → X u → Only g w u → R (.tuple #[]) u) : E.CallsD Go.Proofs.Try.prog 96 #[.slice a n c, .int .i64 n, .func (.func 88) #[] #[.pointer (some p)]] w R :=
  Stable_cut.calls ((S_cut a n c g p lt X G wk hs hX hc).stable (R := R) (ins_cut wk hs hX hc) (sym_cut wk hs hX hc) (l6 := fun k x y w => Stable_cut.l6 R k a n c n p 20 x y w) (l22 := fun k x w => Stable_cut.l22 R k a n c n p x w)
    (l34 := fun k k' x6 x y w => Stable_cut.l34 R (Stable_cut.l22 R k) k' a n c n p x6 x y w) (fun k x y w h => (Stable_cut.u6 ..).mpr h) (fun k x w h => (Stable_cut.u22 ..).mpr h) (fun k k' x6 x y w h => h) (xs := xs) ⟨h, hx, hG⟩ fun u hu ru => hR u hu.1 hu.2.1 ru)
theorem Sort_cut_c {a : OA} {n c g : Nat} {p : Addr} {lt : CutR → CutR → Bool} {X : World → Prop} {G : CutR → Prop} (wk : Wk lt) (hs : n ≤ 1152921504606846975) (hX : ∀ w u, X w → Only g w u → X u) (hc : CC_cut p lt X G) {R : VP} {w : World} {xs : List CutR} (h : ArrK 5 enCutR 72 w a n c xs g) (hx : X w) (hG : ∀ x ∈ xs, G x)
    (hR : ∀ u, ArrK 5 enCutR 72 u a n c (sorted lt xs) g → X u → Only g w u → R (.tuple #[]) u) : E.CallsD Go.Proofs.Try.prog 87 #[.slice a n c, .func (.func 88) #[] #[.pointer (some p)]] w R :=
  Sort_cut.calls (E.CallsD.mono (Stable_cut_c wk hs hX hc (R := fun v u => v = .tuple #[] ∧ R (.tuple #[]) u) h hx hG fun u a b c => ⟨rfl, hR u a b c⟩) fun v u h => h)
noncomputable abbrev ev_list (x : LstR) : Value := ag68 x.feature x.numbers.a x.numbers.n x.numbers.c x.cats.a x.cats.n x.cats.c x.lost.a x.lost.n x.lost.c
abbrev CC_list (p : Addr) (lt : LstR → LstR → Bool) (X : World → Prop) (G : LstR → Prop) : Prop := ∀ w x y, X w → G x → G y → E.CallsD Go.Proofs.Try.prog 91 #[ev_list x, ev_list y, .pointer (some p)] w fun v u => ∃ r : Int, v = .int .i64 r ∧ decide (r < 0) = lt x y ∧ Kept w u
noncomputable def S_list (a : OA) (n c g : Nat) (p : Addr) (lt : LstR → LstR → Bool) (X : World → Prop) (G : LstR → Prop) (wk : Wk lt) (hs : n ≤ 1152921504606846975) (hX : ∀ w u, X w → Only g w u → X u) (hc : CC_list p lt X G) : SM LstR :=
  smK Go.Proofs.Try.prog (fun w q K => ld68 w q fun f a n c a1 n1 c1 a2 n2 c2 => K ⟨f, ⟨a, n, c⟩, ⟨a1, n1, c1⟩, ⟨a2, n2, c2⟩⟩) (fun w q x K => st68 w q x.feature x.numbers.a x.numbers.n x.numbers.c x.cats.a x.cats.n x.cats.c x.lost.a x.lost.n x.lost.c K) 4 a n c 69 g enLstR lt 91 (fun x y => #[ev_list x, ev_list y, .pointer (some p)]) X G (fun _ => rfl) (by omega) wk hs
    (fun w q x K h hk => ⟨_, h 0 _ rfl, _, _, _, h 1 _ rfl, _, _, _, h 2 _ rfl, _, _, _, h 3 _ rfl, hk⟩) (fun w q x K h => h) hX hc
section
variable {a : OA} {n c g : Nat} {p : Addr} {lt : LstR → LstR → Bool} {X : World → Prop} {G : LstR → Prop} (wk : Wk lt) (hs : n ≤ 1152921504606846975) (hX : ∀ w u, X w → Only g w u → X u) (hc : CC_list p lt X G)
theorem swp_list : (S_list a n c g p lt X G wk hs hX hc).SwpOK fun x1 x2 x3 w R => E.CallsD Go.Proofs.Try.prog 114 #[.slice a n c, .int .i64 x1, .int .i64 x2, .int .i64 x3, .func (.func 91) #[] #[.pointer (some p)]] w R :=
  fun P x q y s w R hxy hH hR => Swp_list.calls (Exists.intro (p := fun k => Swp_list.l3 R k a n c _ _ _ 0 w) _ ((S_list a n c g p lt X G wk hs hX hc).swpLoop (l := fun k z w => Swp_list.l3 R k a n c _ _ _ z w) (fun k z w h => (Swp_list.u3 ..).mpr h) hxy rfl rfl rfl hR x.length 0 w (Nat.zero_add _) ((S_list a n c g p lt X G wk hs hX hc).refl _) (by rw [rng_zero]; exact hH)))
theorem rot_list : (S_list a n c g p lt X G wk hs hX hc).RotOK fun x1 x2 x3 w R => E.CallsD Go.Proofs.Try.prog 111 #[.slice a n c, .int .i64 x1, .int .i64 x2, .int .i64 x3, .func (.func 91) #[] #[.pointer (some p)]] w R := by
  intro P L R' Q w R hL hR' hH hR
  have hn := SM.lenT _ hH
  have hln : (P ++ L ++ R' ++ Q).length = P.length + L.length + R'.length + Q.length := by simp; omega
  have hn' : (S_list a n c g p lt X G wk hs hX hc).n = n := rfl
  refine Rot_list.calls ?_
  unfold Rot_list Rot_list.g0
  refine nv_mk (y := ((L.length : Nat) : Int)) (by rw [i64_id (by omega) (by omega)]; omega) (nv_mk (y := ((R'.length : Nat) : Int)) (by rw [i64_id (by omega) (by omega)]; omega) ?_)
  exact Exists.intro _ ((S_list a n c g p lt X G wk hs hX hc).rotLoop (swp_list wk hs hX hc) (l := fun k i j w => Rot_list.l6 R k a n c (P.length + L.length : Nat) p i j w) (fun k i j w h => (Rot_list.u6 ..).mpr h) (F := P ++ R' ++ L ++ Q) hR _ P L R' Q w (Nat.le_refl _) hL hR' rfl rfl ((S_list a n c g p lt X G wk hs hX hc).refl _) hH)
theorem sym_list : ∀ N, (S_list a n c g p lt X G wk hs hX hc).SymOK (fun x1 x2 x3 w R => E.CallsD Go.Proofs.Try.prog 106 #[.slice a n c, .int .i64 x1, .int .i64 x2, .int .i64 x3, .func (.func 91) #[] #[.pointer (some p)]] w R) N :=
  (S_list a n c g p lt X G wk hs hX hc).symMerge (rot_list wk hs hX hc) (l29 := fun R k i x w => Sym_list.l29 R k a n c i x w) (l71 := fun R k i x w => Sym_list.l71 R k a n c i x w) (l10 := fun R k x1 i j w => Sym_list.l10 R k a n c x1 p i j w) (l52 := fun R k x2 i j w => Sym_list.l52 R k a n c x2 p i j w)
    (l104 := fun R k x1 x2 x3 mid n' s r q w => Sym_list.l104 R k a n c x1 x2 x3 p mid n' s r q w) (fun R k x10 x w h => (Sym_list.u29 ..).mpr h) (fun R k x14 x w h => (Sym_list.u71 ..).mpr h) (fun R k x1 i j w h => (Sym_list.u10 ..).mpr h) (fun R k x2 i j w h => (Sym_list.u52 ..).mpr h) (fun R k a' m b mid n' q s r w h => (Sym_list.u104 ..).mpr h) (fun R x1 x2 x3 w h => Sym_list.calls h)
theorem ins_list : (S_list a n c g p lt X G wk hs hX hc).InsOK fun x1 x2 w R => E.CallsD Go.Proofs.Try.prog 105 #[.slice a n c, .int .i64 x1, .int .i64 x2, .func (.func 91) #[] #[.pointer (some p)]] w R :=
  (S_list a n c g p lt X G wk hs hX hc).insSort (l3 := fun R k x1 x2 x8 w => Ins_list.l3 R k a n c x1 x2 p x8 w) (l15 := fun R k0 k x1 x2 x8 x w => Ins_list.l15 R (Ins_list.l3 R k0) k a n c x1 x2 p x8 x w) (fun R k x1 x2 x8 w h => (Ins_list.u3 ..).mpr h) (fun R k0 k x1 x2 x8 x w h => h) (fun R x1 x2 w h => Ins_list.calls h)
end
theorem Stable_list_c {a : OA} {n c g : Nat} {p : Addr} {lt : LstR → LstR → Bool} {X : World → Prop} {G : LstR → Prop} (wk : Wk lt) (hs : n ≤ 1152921504606846975) (hX : ∀ w u, X w → Only g w u → X u) (hc : CC_list p lt X G) {R : VP} {w : World} {xs : List LstR} (h : ArrK 4 enLstR 69 w a n c xs g) (hx : X w) (hG : ∀ x ∈ xs, G x)
    (hR : ∀ u, ArrK 4 enLstR 69 u a n c (sorted lt xs) g → X u → Only g w u → R (.tuple #[]) u) : E.CallsD Go.Proofs.Try.prog 98 #[.slice a n c, .int .i64 n, .func (.func 91) #[] #[.pointer (some p)]] w R :=
  Stable_list.calls ((S_list a n c g p lt X G wk hs hX hc).stable (R := R) (ins_list wk hs hX hc) (sym_list wk hs hX hc) (l6 := fun k x y w => Stable_list.l6 R k a n c n p 20 x y w) (l22 := fun k x w => Stable_list.l22 R k a n c n p x w)
    (l34 := fun k k' x6 x y w => Stable_list.l34 R (Stable_list.l22 R k) k' a n c n p x6 x y w) (fun k x y w h => (Stable_list.u6 ..).mpr h) (fun k x w h => (Stable_list.u22 ..).mpr h) (fun k k' x6 x y w h => h) (xs := xs) ⟨h, hx, hG⟩ fun u hu ru => hR u hu.1 hu.2.1 ru)
theorem Sort_list_c {a : OA} {n c g : Nat} {p : Addr} {lt : LstR → LstR → Bool} {X : World → Prop} {G : LstR → Prop} (wk : Wk lt) (hs : n ≤ 1152921504606846975) (hX : ∀ w u, X w → Only g w u → X u) (hc : CC_list p lt X G) {R : VP} {w : World} {xs : List LstR} (h : ArrK 4 enLstR 69 w a n c xs g) (hx : X w) (hG : ∀ x ∈ xs, G x)
    (hR : ∀ u, ArrK 4 enLstR 69 u a n c (sorted lt xs) g → X u → Only g w u → R (.tuple #[]) u) : E.CallsD Go.Proofs.Try.prog 90 #[.slice a n c, .func (.func 91) #[] #[.pointer (some p)]] w R :=
  Sort_list.calls (E.CallsD.mono (Stable_list_c wk hs hX hc (R := fun v u => v = .tuple #[] ∧ R (.tuple #[]) u) h hx hG fun u a b c => ⟨rfl, hR u a b c⟩) fun v u h => h)
end Go.Mir
