/- Part of a proof of laws of the seat YtmjlipmapfofmaaGreat: functions' weakest preconditions, each checked by the kernel, contracts out of them, plain lemmas; no conditions. -/
import Derived.Test.YtmjlipmapfofmaaGreatFB
import Derived.Test.YtmjlipmapfofmaaGreatED
set_option linter.unusedVariables false
set_option linter.unusedSimpArgs false
set_option linter.unusedSectionVars false
set_option maxRecDepth 100000
namespace Go.Mir
open Go Go.E Go.RowKit Go.Tr Go.Ss Go.ChangeShapes
abbrev tA':Nat:=115
abbrev I5:=MOK tA'
section
variable {w u w1:World} {a a1:OA} {n c n1 c1:Nat} {F F' S:Nat→Prop} {p q:Addr} {B mb:Nat} {H:List (Int×RA)} {r:RA} {x:AE}
theorem mJ (x:AE):(nR x).length=10:=rfl
theorem zG (x:AE):∀ v∈nR x,v.oneCell'=true:=by
 intro v hv
 simp only [nR,List.mem_cons,List.not_mem_nil,or_false] at hv
 rcases hv with h | h | h | h | h | h | h | h | h | h <;> subst h <;> rfl
theorem WM:fE Go.Proofs.Tryz.prog 113 tA' 10 96:=sliceT (by kernel_rfl)
theorem t147:(Go.Proofs.Tryz.prog).underlying 144=some (.map 3 113):=by kernel_rfl
theorem zSl (w:World):(zeroValue 113).run Go.Proofs.Tryz.prog w = .ok (.slice none 0 0) w:=by kernel_rfl
def VO (r:RA) (u:World):Prop:=Row u tA' 10 r.1.a r.1.n r.1.c (r.2.1.flatMap nR) r.2.2
def Row1 (r:RA) (x:AE) (u:World):Prop:=Row u tA' 10 r.1.a (r.1.n+1) r.1.c (r.2.1.flatMap nR++nR x) r.2.2
def LeR (r:RA) (x:AE) (u u':World):Prop:=Only r.2.2 u u'∧(VO r u→VO r u')∧(Row1 r x u→Row1 r x u')
theorem Am {u':World} (h:Kept u u'):LeR r x u u':=⟨Kept.mod h,fun k=>Row.kept k h,fun k=>Row.kept k h⟩
def FR (B:Nat) (r:RA) (x:AE):Nat→Value→World→Prop:=fun i v u=>match i with
 | 6=>v=r.1.v
 | 8=>∃ q,v = .slice (some q) 1 1∧AtL u q (nR x)∧q.block+1≠r.2.2
 | 9=>∃ r':RA,v=r'.1.v∧r'.2.1=r.2.1++[x]∧Row u tA' 10 r'.1.a r'.1.n r'.1.c (r.2.1.flatMap nR++nR x) r'.2.2∧((r'.2.2=r.2.2∧r'.1.a=r.1.a∧r'.1.n=r.1.n+1∧r'.1.c=r.1.c)∨B<r'.2.2)
 | _=>True
theorem Tq {w0:World} (hr:aO 10 nR tA' w0 r.1.a r.1.n r.1.c r.2.1 r.2.2):D9 (rO r.1.a w0) w0 (fun u=>Only r.2.2 w0 u∧VO r u) (LeR r x) (FR w0.heap.size r x) where
 ck u hu:=tu hr hu.1
 start:=⟨Mod.refl _,hr⟩
 dr u d:=Am (lZ (Below.refl _ _))
 tr u u' u'' h k:=⟨h.1.trans k.1 (fun _ _ h=>h) (fun _ _ h=>h),fun hh=>k.2.1 (h.2.1 hh),fun hh=>k.2.2 (h.2.2 hh)⟩
 cls u u' hu h:=⟨Mod.trans hu.1 h.1 (fun _ _ h=>h) (fun _ _ h=>h),h.2.1 hu.2⟩
 st i v u u' hu h k:=by
  have hle:=Row.le hr
  unfold FR at h ⊢
  split at h
  ·exact h
  ·obtain ⟨q,h1,h2,h3⟩:=h
   exact ⟨q,h1,h2.mod k.1 h3,h3⟩
  ·obtain ⟨r',h1,h2,h3,h4⟩:=h
   refine ⟨r',h1,h2,?_,h4⟩
   rcases h4 with ⟨e1,e2,e3,e4⟩ | h4
   ·rw [e1,e2,e3,e4] at h3 ⊢
    exact k.2.2 h3
   ·exact h3.mod k.1 (fun j hj hS=>by have hS':j+1=r.2.2:=hS; omega)
  ·trivial
def tA:Ty AD where
 k:=10
 rd F w x cs:=∃ s:SH,cs=nR (x,s)∧LsI F w s.a s.n s.c x.nd.bH
 len:=by rintro F w x cs ⟨s,rfl,_⟩; rfl
 one:=by rintro F w x cs ⟨s,rfl,_⟩; exact zG (x,s)
 mono:=by rintro F F' w x cs hF ⟨s,rfl,h⟩; exact ⟨s,rfl,h.mono hF⟩
 keep:=by rintro F w u x cs hu ⟨s,rfl,h⟩; exact ⟨s,rfl,h.keep hu⟩
def okA (n:Int) (x:AD):Bool:=decide (0≤x.frm)&&decide (x.frm<x.to)&&decide (x.to<n)
def GN:List (Int×List AD)→AD→List (Int×List AD)
 | [],x=>[(x.frm,[x])]
 | (y,l)::L,x=>if y=x.frm then (y,l++[x])::L else (y,l)::GN L x
abbrev dRA (h:Int×RA):Int×List AD:=(h.1,h.2.2.1.map (·.1))
theorem Oz:∀ (H:List (Int×RA)) (x:AE) (r':RA),r'.2.1=(sW H x.1.frm).2.1++[x]→(CP H x.1.frm r').map dRA=GN (H.map dRA) x.1
 | [],x,r',h=>by
  have h':r'.2.1=[x]:=h
  simp [CP,GN,dRA,h']
 | (y,s)::H,x,r',h=>by
  unfold CP
  rw [List.map_cons]
  unfold GN
  unfold sW at h
  by_cases hy:y=x.1.frm
  ·rw [if_pos hy] at h
   rw [if_pos hy,if_pos hy]
   simp [dRA,h]
  ·rw [if_neg hy] at h
   rw [if_neg hy,if_neg hy,List.map_cons,Oz H x r' h]
def Ep (F:Nat→Prop) (w:World) (H:List (Int×RA)):Prop:=∀ h∈H,∀ x∈h.2.2.1,LsI F w x.2.a x.2.n x.2.c x.1.nd.bH
theorem UY {R:VP} {b8:aQ.T8} {p3 p4 a15:OA} {n15 c15:Nat} {x16:Int} {pm i:Nat} (hi:i<1048576) (hM:I5 B w mb H) (hB:B≤w.heap.size) (hpm:Blk w pm #[.map (some mb)] 144) (hx:AtL w q (nR x)) (hqr:q.block+1≠(sW H x.1.frm).2.2) (hlen:∀ h∈H,h.2.2.1.length≤1048576)
    (hk:∀ u r',r'.2.1=(sW H x.1.frm).2.1++[x]→I5 B u mb (CP H x.1.frm r')→From B w u→(∀ k cur e,Blk w k cur e→e≠tA'→Blk u k cur e)→b8 p3 p4 (some ⟨pm,0,none⟩) a15 n15 c15 x16 ((i+1:Nat):Int) u) :
    ∃ (wm75:World) (C76:World→Prop) (Le77:World→World→Prop) (F74:Nat→Value→World→Prop),D9 wm75 w C76 Le77 F74 ∧
            (bK (some ⟨pm,0,none⟩) fun q78 =>
            cM wm75 q78 fun m79' =>
            cI wm75 (q.add 8) .i64 fun x80' =>
            bK (some ⟨pm,0,none⟩) fun q81 =>
            cM wm75 q81 fun m82' =>
            cI wm75 (q.add 8) .i64 fun x83' =>
            (∀ u84:World,C76 u84→dm Go.Proofs.Tryz.prog (Instr.lookup 144 (.map m82') (.int .i64 x83') false) u84 fun v86 u87=>∃ a85' n85' c85',v86 = .slice a85' n85' c85'∧F74 6 (.slice a85' n85' c85') u87∧Le77 u84 u87) ∧
              (∀ a88':Option Addr,∀ n88':Nat,∀ c88':Nat,(∃ u,C76 u∧F74 6 (.slice a88' n88' c88') u) →
              lC wm75 q fun x89'0 x89'1 x89'2 z89'3 a89'4 n89'4 c89'4 x89'5 x89'6 x89'7 x89'8 x89'9 =>
              (∀ u90:World,C76 u90→F74 8 (.slice (some (na u90)) 1 1) (u90.alloc (.cells (qY x89'0 x89'1 x89'2 z89'3 a89'4 n89'4 c89'4 x89'5 x89'6 x89'7 x89'8 x89'9) 115))∧Le77 u90 (u90.alloc (.cells (qY x89'0 x89'1 x89'2 z89'3 a89'4 n89'4 c89'4 x89'5 x89'6 x89'7 x89'8 x89'9) 115))) ∧
                (∀ q91:Addr,(∃ u,C76 u∧F74 8 (.slice (some q91) 1 1) u) →
                (∀ u92:World,C76 u92→F74 6 (.slice a88' n88' c88') u92→F74 8 (.slice (some q91) 1 1) u92→dm Go.Proofs.Tryz.prog (Builtin.append_ #[113,113] 113 #[.slice a88' n88' c88',.slice (some q91) 1 1]) u92 fun v94 u95=>∃ a93' n93' c93',v94 = .slice a93' n93' c93'∧F74 9 (.slice a93' n93' c93') u95∧Le77 u92 u95) ∧
                  (∀ a96':Option Addr,∀ n96':Nat,∀ c96':Nat,(∃ u,C76 u∧F74 9 (.slice a96' n96' c96') u) →
                  ∀ u97:World,C76 u97→F74 6 (.slice a88' n88' c88') u97→F74 8 (.slice (some q91) 1 1) u97→F74 9 (.slice a96' n96' c96') u97 →
                    dm Go.Proofs.Tryz.prog (do Instr.mapUpdate 144 (.map m79') (.int .i64 x80') (.slice a96' n96' c96'); pure undef) u97 fun _ u98 =>
                      inc i fun t99 =>
                      b8 p3 p4 (some ⟨pm,0,none⟩) a15 n15 c15 x16 t99 u98)))):=by
  obtain ⟨r,hr⟩:∃ r,r=sW H x.1.frm:=⟨_,rfl⟩
  have hget:=hM.get x.1.frm
  rw [← hr] at hget hqr
  have hle:=Row.le hget.1
  have hn:=aO.len mJ (by omega) hget.1
  have hrl:r.2.1.length≤1048576:=by
    rcases mP (H:=H) (f:=x.1.frm) with h1 | ⟨h1,_⟩
    · rw [hr]; exact hlen _ h1
    · rw [hr,h1]; exact Nat.zero_le _
  have rd:∀ {y:Addr} {v:Value},y.block+1≠r.2.2→w.cell? y=some v→(rO r.1.a w).cell? y=some v:=fun h1 h2=>zT hget.1 h1 h2
  have hpmr:pm+1≠r.2.2:=fun h=>by obtain ⟨cur,hb⟩:=Row.blk hget.1 h; exact absurd (hb.ne hpm) (by decide)
  have hpc:(rO r.1.a w).cell? (⟨pm,0,none⟩:Addr)=some (.map (some mb)):=rd hpmr (by rw [hpm.cell]; rfl)
  have hxq:AtL (rO r.1.a w) q (nR x):=fun j v hj=>rd (by rw [add_block]; exact hqr) (hx j v hj)
  have hmap:∀ u,Only r.2.2 w u→iU (enK .i64) u mb (H.map kvA):=fun u ho=>hM.map.mod ho fun hk=>by
    obtain ⟨cur,hb⟩:=Row.blk hget.1 hk
    exact hM.map.kQ hb
  refine ⟨_,_,LeR r x,FR w.heap.size r x,Tq hget.1,⟨_,hpc,⟨_,hxq 8 _ rfl,⟨_,hpc,⟨_,hxq 8 _ rfl,fun u hu=>?_,?_⟩⟩⟩⟩⟩
  · refine iU.lookup PD t147 zSl (hmap u hu.1) ?_
    rw [Ij,← hr]
    exact ⟨_,_,_,rfl,rfl,Am (Kept.refl u)⟩
  · rintro a6 n6 c6 ⟨_,_,h6⟩
    have h6':Value.slice a6 n6 c6=r.1.v:=h6
    cases h6'
    refine ⟨_,hxq 0 _ rfl,_,hxq 1 _ rfl,_,hxq 2 _ rfl,_,hxq 3 _ rfl,_,_,_,hxq 4 _ rfl,_,hxq 5 _ rfl,_,hxq 6 _ rfl,_,hxq 7 _ rfl,_,hxq 8 _ rfl,_,hxq 9 _ rfl,fun u hu=>?_,fun q8 _=>⟨fun u hu _ h8=>?_,fun a9 n9 c9 _ u hu _ _ h9=>?_⟩⟩
    · have hs:=hu.1.size
      refine ⟨⟨na u,rfl,AtL.new u (nR x) tA',?_⟩,Am (Kept.new u _)⟩
      show u.heap.size+1≠r.2.2
      omega
    · obtain ⟨q',hv,hA,hqg⟩:=h8
      cases hv
      have hs:=hu.1.size
      refine Ce WM (by omega) hu.2 (news:=nR x) (m:=1) rfl (fun j v hj=>⟨_,rfl,hA j v hj⟩) (fun h=>by cases h) (zG x) (by simp only [maxLen]; omega) (by omega) fun a' c' g' u2 hrow2 hg' ho=>⟨_,_,_,rfl,?_,ho,?_,?_⟩
      · refine ⟨(⟨a',r.1.n+1,c'⟩,r.2.1++[x],g'),rfl,rfl,hrow2,?_⟩
        rcases hg' with ⟨h1,h2,h3⟩ | h1
        · exact .inl ⟨h1,h2,rfl,h3⟩
        · exact .inr (by show w.heap.size<g'; omega)
      · intro h
        rcases hg' with ⟨h1,h2,h3⟩ | h1
        · have:=Row.take hrow2 (m:=r.1.n) (by omega)
          rw [List.take_left' (by rw [gQ (k:=10) r.2.1 (fun x _=>mJ x)]; rw [hn])] at this
          rw [h1,h2,h3] at this
          exact this
        · exact Row.kept h h1.2
      · intro h
        rcases hg' with ⟨h1,h2,h3⟩ | h1
        · unfold Row1; rw [← h1,← h2,← h3]; exact hrow2
        · exact Row.kept h h1.2
    · obtain ⟨r',hv,hl,hrow,hg⟩:=h9
      have hv':Value.slice a9 n9 c9=r'.1.v:=hv
      rw [hv']
      have hrow':aO 10 nR tA' u r'.1.a r'.1.n r'.1.c r'.2.1 r'.2.2:=by
        unfold aO
        rw [hl]
        simpa using hrow
      have hh:∀ R,(∀ v,iU (enK .i64) v mb (oP (H.map kvA) x.1.frm r'.1.v)→Only (mb+1) u v→R undef v)→dm Go.Proofs.Tryz.prog (do Instr.mapUpdate 144 (.map (some mb)) (enK .i64 x.1.frm) r'.1.v; pure undef) u R:=fun R hR=>iU.update PD t147 (hmap u hu.1) hR
      refine hh _ fun v hmv hov=>aA (by omega) (hk v r' (by rw [hl,hr]) ?_ ?_ ?_)
      · exact hM.put (w1:=u) (by rw [← hr]; exact hu.1) hrow' (by rw [← hr]; rcases hg with h | h; exact .inl h.1; exact .inr h) hB hmv hov
      · exact hu.1.trans hov (fun k _ hk=>by have hk':k+1=r.2.2:=hk; have:=hget.2; show B≤k; omega) (fun k _ hk=>by have hk':k+1=mb+1:=hk; have:=hM.mB; show B≤k; omega)
      · intro k cur e hb he
        refine (hb.mod hu.1 fun hk=>gq hget.1 hb (Ne.symm he) hk).mod hov fun hk=>?_
        have hk':k+1=mb+1:=hk
        obtain rfl:k=mb:=by omega
        exact hM.map.kQ hb
end
end Go.Mir
set_option maxRecDepth 100000
namespace Go.Mir
open Go Go.E Go.RowKit Go.Tr Go.Ss Go.ChangeShapes
def TQ (x:AE):uQ:=⟨⟨x.1.nd.kind,x.1.nd.value,x.1.nd.feature,x.1.nd.thr,x.2,x.1.nd.missing,x.1.nd.left,x.1.nd.right⟩,x.1.frm,x.1.to⟩
def ltA (x y:uQ):Bool:=decide (-x.to < -y.to)
def Lh (x y:AD):Bool:=decide (-x.to < -y.to)
theorem wkA:Wk ltA:=Em fun x:uQ => -x.to
def Ns (h:Int×RA):Int×RA:=(h.1,h.2.1,sorted (fun a b=>Lh a.1 b.1) h.2.2.1,h.2.2.2)
def stA (D:List Int) (h:Int×RA):Int×RA:=if h.1∈D then Ns h else h
theorem RX (D:List Int) (h:Int×RA):kvA (stA D h)=kvA h:=by unfold stA; split <;> rfl
theorem wC (D:List Int) (h:Int×RA):(stA D h).1=h.1:=by unfold stA; split <;> rfl
theorem TM (D:List Int) (h:Int×RA):(stA D h).2.2.2=h.2.2.2:=by unfold stA; split <;> rfl
theorem Iz (l:List AE):(l.map TQ).flatMap qH=l.flatMap nR:=by
 induction l with
 | nil=>rfl
 | cons x l ih=>rw [List.map_cons,List.flatMap_cons,List.flatMap_cons,ih]; rfl
theorem Dq (l:List AE):sorted ltA (l.map TQ)=(sorted (fun a b=>Lh a.1 b.1) l).map TQ:=kD TQ l
section
variable {w u w1:World} {a a1:OA} {n c n1 c1:Nat} {F F' S:Nat→Prop} {p q:Addr} {B mb:Nat} {H:List (Int×RA)} {r:RA} {x:AE} {l:List AD}
theorem Ui {x y:uQ} (hx:0≤x.to∧x.to≤16777216) (hy:0≤y.to∧y.to≤16777216):E.CallsD Go.Proofs.Tryz.prog 80 #[oH x,oH y] w fun v u=>∃ r:Int,v = .int .i64 r∧decide (r<0)=ltA x y∧Kept w u:=by
 refine dP.calls (R:=fun v u=>∃ r:Int,v = .int .i64 r∧decide (r<0)=ltA x y∧Kept w u) ?_
 unfold dP dP.g0
 refine vG (cs:=(qH x).toArray) fun w1 hA hk1=>vG (cs:=(qH y).toArray) fun w2 hB hk2=>?_
 refine ⟨_,hB 9 _ rfl,_,hA.kept hk2 9 _ rfl,bM (by omega) (by omega) ⟨_,rfl,?_,Kept.trans hk1 hk2⟩⟩
 unfold ltA
 by_cases h:y.to<x.to
 ·rw [decide_eq_true (by omega),decide_eq_true (by omega)]
 ·rw [decide_eq_false (by omega),decide_eq_false (by omega)]
theorem sortA (h:aO 10 nR tA' w r.1.a r.1.n r.1.c r.2.1 r.2.2) (hl:r.2.1.length≤1048576) (hG:∀ x∈r.2.1,0≤x.1.to∧x.1.to≤16777216) {K:World→Prop}
  (hk:∀ u,aO 10 nR tA' u r.1.a r.1.n r.1.c (sorted (fun a b=>Lh a.1 b.1) r.2.1) r.2.2→Only r.2.2 w u→K u) :
  E.CallsD Go.Proofs.Tryz.prog 79 #[.slice r.1.a r.1.n r.1.c,.func (.func 80) #[] #[]] w fun v u=>v = .tuple #[]∧K u:=by
 have hn:=aO.len mJ (by omega) h
 have h0:aO 10 qH tA' w r.1.a r.1.n r.1.c (r.2.1.map TQ) r.2.2:=by
  unfold aO at h ⊢
  rw [Iz]
  exact h
 refine E.CallsD.mono (BL (lt:=ltA) (X:=fun _=>True) (G:=fun x=>0≤x.to∧x.to≤16777216) wkA (by omega) (fun _ _ _ _=>trivial) (fun u x y _ hx hy=>Ui hx hy) (R:=fun v u=>v = .tuple #[]∧K u) h0 trivial (fun y hy=>?_) fun u h1 _ h3=>⟨rfl,hk u ?_ h3⟩) fun v u h=>h
 ·obtain ⟨z,hz,rfl⟩:=List.mem_map.1 hy
  exact hG z hz
 ·rw [Dq] at h1
  unfold aO at h1 ⊢
  rw [← Iz]
  exact h1
theorem JD (h:I5 B w mb H) (hm:Mod S w u) (hS:∀ k cur,Blk w k cur tA'→¬ S k) (hmb:¬ S mb):I5 B u mb H :=
 ⟨h.map.mod hm hmb,h.mB,fun x hx=>⟨(h.row x hx).1.mod hm fun k hk=>by obtain ⟨cur,hb⟩:=Row.blk (h.row x hx).1 hk; exact hS _ _ hb,(h.row x hx).2⟩,h.gn,h.nd⟩
theorem NS {D:List Int} {h y:Int×RA} (hne:y.1≠h.1):stA (D++[h.1]) y=stA D y:=by
 unfold stA
 by_cases hd:y.1∈D
 ·rw [if_pos hd,if_pos (by simp [hd])]
 ·rw [if_neg hd,if_neg (by simp [hd,hne])]
theorem LJ {D:List Int} {h:Int×RA} (hM:I5 B w mb (H.map (stA D))) (hh:h∈H) (hD:h.1∉D) (hnd:(H.map (·.1)).Nodup)
  (hu:aO 10 nR tA' u h.2.1.a h.2.1.n h.2.1.c (sorted (fun a b=>Lh a.1 b.1) h.2.2.1) h.2.2.2) (ho:Only h.2.2.2 w u):I5 B u mb (H.map (stA (D++[h.1]))):=by
 have hsame:∀ y∈H,y.1=h.1→y=h:=fun y hy e=>by
  obtain ⟨i,hi⟩:=List.getElem?_of_mem hy
  obtain ⟨j,hj⟩:=List.getElem?_of_mem hh
  have li:=(List.getElem?_eq_some_iff.1 hi).1
  have lj:=(List.getElem?_eq_some_iff.1 hj).1
  have:i=j:=kz hnd (by simpa using li) (by simpa using lj) (by
   simp only [List.getElem_map]
   rw [(List.getElem?_eq_some_iff.1 hi).2,(List.getElem?_eq_some_iff.1 hj).2,e])
  subst this
  rw [hi] at hj
  cases hj
  rfl
 have hst:stA D h=h:=by unfold stA; rw [if_neg hD]
 have hrow:=(hM.row _ (List.mem_map_of_mem (f:=stA D) hh))
 rw [hst] at hrow
 have kv:∀ E:List Int,(H.map (stA E)).map kvA=H.map kvA:=fun E=>by rw [List.map_map]; exact List.map_congr_left fun y _=>RX E y
 refine ⟨?_,hM.mB,fun y' hy'=>?_,fun x' hx' y' hy' hne=>?_,?_⟩
 ·rw [kv]
  have:=hM.map
  rw [kv] at this
  exact this.mod ho fun hk=>by obtain ⟨cur,hb⟩:=Row.blk hrow.1 hk; exact this.kQ hb
 ·obtain ⟨y,hy,rfl⟩:=List.mem_map.1 hy'
  by_cases hyh:y.1=h.1
  ·obtain rfl:=hsame y hy hyh
   have e:stA (D++[y.1]) y=Ns y:=by unfold stA; rw [if_pos (by simp)]
   rw [e]
   exact ⟨hu,hrow.2⟩
  ·rw [NS hyh]
   have hy2:=hM.row _ (List.mem_map_of_mem (f:=stA D) hy)
   have hg:=hM.gn _ (List.mem_map_of_mem (f:=stA D) hy) _ (List.mem_map_of_mem (f:=stA D) hh) (by rw [wC,wC]; exact hyh)
   rw [hst] at hg
   exact ⟨hy2.1.mod ho fun k hk hS=>by have hS':k+1=h.2.2.2:=hS; omega,hy2.2⟩
 ·obtain ⟨x,hx,rfl⟩:=List.mem_map.1 hx'
  obtain ⟨y,hy,rfl⟩:=List.mem_map.1 hy'
  have:=hM.gn _ (List.mem_map_of_mem (f:=stA D) hx) _ (List.mem_map_of_mem (f:=stA D) hy) (by rw [wC,wC] at hne ⊢; exact hne)
  rw [TM,TM] at this ⊢
  exact this
 ·have:=hM.nd
  rw [List.map_map] at this ⊢
  have e:H.map ((fun x=>x.1)∘stA (D++[h.1]))=H.map ((fun x=>x.1)∘stA D):=List.map_congr_left fun y _=>by simp [wC]
  rw [e]
  exact this
def Je (R:VP) (p3 p4 p6:OA) (Rz:World):Prop :=
  nw (Rz.alloc (.cells (lg 0 none 0 0) 50)) fun w109 =>
   nw (w109.alloc (.cells #[.bool false] 4)) fun w110 =>
   st w110 ((na w109).add 0) (.bool true) fun w111 =>
   nw (w111.alloc (.cells #[.nilFunc] 147)) fun w112 =>
   st w112 ((na w111).add 0) (.func (.func 81) #[] #[.pointer (some (na w109)),.pointer (some (na Rz)),.pointer p3,.pointer p6,.pointer (some (na w111))]) fun w113 =>
   cV w113 (na w111) fun v114' =>
   bK p3 fun q115 =>
   cL w113 q115 fun a116' n116' c116' =>
   uV Go.Proofs.Tryz.prog v114' #[.int .i64 0,.int .i64 (n116':Int)] w113 fun v117 u118 =>
    v117 = .tuple #[] ∧
     (∃ wm120:World,CK wm120 u118 ∧
      (lK u118 (na Rz) fun x121'0 a121'1 n121'1 c121'1 =>
      cB wm120 (na w109) fun b122' =>
      bK p4 fun q123 =>
      DN u118 q123 x121'0 a121'1 n121'1 c121'1 fun w124 =>
      CK wm120 w124 ∧
       (bK p4 fun q125 =>
       lK w124 q125 fun x126'0 a126'1 n126'1 c126'1 =>
       R (.tuple #[jv x126'0 a126'1 n126'1 c126'1,.bool b122']) w124)))
theorem Oe {R:VP} {rg:Nat} {p3 p4 p6:OA} {w0:World} (hG:∀ h∈H,h.2.2.1.length≤1048576∧∀ x∈h.2.2.1,0≤x.1.to∧x.1.to≤16777216) (hBr:B≤rg) (hnd:(H.map (·.1)).Nodup)
  (hfin:∀ u,I5 B u mb (H.map Ns)→From B w0 u→(∀ k cur e,Blk w0 k cur e→e≠tA'→Blk u k cur e)→Je R p3 p4 p6 u) :
  ∀ (k:Nat) (w:World) (rem O:List (Int×Value)),rem.length=k→I5 B w mb (H.map (stA (O.map (·.1))))→Rng (enK .i64) w mb rg (H.map kvA) rem→(O++rem).Perm (H.map kvA)→From B w0 w→(∀ k cur e,Blk w0 k cur e→e≠tA'→Blk w k cur e) →
   aQ.l33 R (k+1) p3 p4 p6 (some ⟨rg,0,none⟩) w:=by
 intro k
 induction k with
 | zero =>
  intro w rem O hk hM hrng hp hf hb
  have hrem:rem=[]:=List.eq_nil_of_length_eq_zero hk
  subst hrem
  rw [List.append_nil] at hp
  rw [aQ.u33]; unfold aQ.g33
  refine hrng.next (fun _ => .inl ⟨rfl,?_⟩) (fun u r1 x r2 h=>by simp at h)
  have e:H.map (stA (O.map (·.1)))=H.map Ns:=List.map_congr_left fun y hy=>by
   unfold stA
   rw [if_pos ((hp.map (·.1)).mem_iff.2 (by rw [List.map_map]; exact List.mem_map_of_mem (f:=(fun x=>x.1)∘kvA) hy))]
  rw [e] at hM
  exact hfin w hM hf hb
 | succ k ih =>
  intro w rem O hk hM hrng hp hf hb
  rw [aQ.u33]; unfold aQ.g33
  refine hrng.next (fun h=>by rw [h] at hk; cases hk) (fun u r1 x r2 hrem hrng' ho hent => .inr ⟨_,_,rfl,dm.of hent ⟨_,_,rfl,?_⟩⟩)
  have hxm:x∈H.map kvA:=hp.mem_iff.1 (List.mem_append_right _ (by rw [hrem]; simp))
  obtain ⟨h,hh,rfl⟩:=List.mem_map.1 hxm
  have hD:h.1∉O.map (·.1):=fun hmem=>by
   have hnd2:((O++rem).map (·.1)).Nodup:=((hp.map (·.1)).nodup_iff).2 (by rw [List.map_map]; exact hnd)
   rw [List.map_append,hrem] at hnd2
   exact (List.nodup_append.1 hnd2).2.2 h.1 hmem h.1 (by simp) rfl
  have hst:stA (O.map (·.1)) h=h:=by unfold stA; rw [if_neg hD]
  have hMu:I5 B u mb (H.map (stA (O.map (·.1)))):=JD hM ho (fun k cur hbk hk=>by
   have hk':k+1=rg+1:=hk
   obtain rfl:k=rg:=by omega
   exact lM hrng hbk) (fun hk=>OZ hrng (by have hk':mb+1=rg+1:=hk; omega))
  have hrow:=hMu.row _ (List.mem_map_of_mem (f:=stA (O.map (·.1))) hh)
  rw [hst] at hrow
  obtain ⟨g1,g2⟩:=hG h hh
  refine sortA hrow.1 g1 g2 fun v hv hov=>?_
  refine ih v (r1++r2) (O++[kvA h]) (by rw [hrem] at hk; simp at hk ⊢; omega) ?_ (Dl hrng' hrow.1 hov) ?_ ?_ ?_
  ·rw [List.map_append]
   exact LJ hMu hh hD hnd hv hov
  ·refine List.Perm.trans ?_ hp
   rw [hrem,List.append_assoc]
   exact List.Perm.append_left _ (show (kvA h::(r1++r2)).Perm (r1++kvA h::r2) from List.perm_middle.symm)
  ·exact (hf.trans ho (fun _ _ h=>h) (fun k _ hk=>by have hk':k+1=rg+1:=hk; show B≤k; omega)).trans hov (fun _ _ h=>h) (fun k _ hk=>by have hk':k+1=h.2.2.2:=hk; have:=hrow.2; show B≤k; omega)
  ·intro k cur e hbk he
   have h1:=hb k cur e hbk he
   refine (h1.mod ho fun hk=>?_).mod hov fun hk=>?_
   ·have hk':k+1=rg+1:=hk
    obtain rfl:k=rg:=by omega
    exact lM hrng h1
   ·have h2:=h1.mod ho fun hk=>by
     have hk':k+1=rg+1:=hk
     obtain rfl:k=rg:=by omega
     exact lM hrng h1
    exact gq hrow.1 h2 (Ne.symm he) hk
end
end Go.Mir
set_option maxRecDepth 100000
namespace Go.Mir
open Go Go.E Go.RowKit Go.Tr Go.Ss Go.ChangeShapes
def l9:List (Int×List AD)→Int→List AD
 | [],_=>[]
 | (y,l)::S,f=>if y=f then l else l9 S f
def Ap:List (Int×List AD)→Int→List AD→List (Int×List AD)
 | [],f,l=>[(f,l)]
 | (y,x)::S,f,l=>if y=f then (y,l)::S else (y,x)::Ap S f l
def NW (v:Int):ND:=⟨1,v,0,0,[],0,0,0⟩
def iK (N:List ND) (i:Nat):List ND:=match N[i]? with
 | some x=>N.set i { x with right:=N.length }
 | none=>N
def eG (vals:List Int):Nat→Int→Int→List (Int×List AD)→List ND→Bool×List (Int×List AD)×List ND
 | 0,_,_,S,N=>(false,S,N)
 | k+1,f,t,S,N =>
  if t - f=1 then (true,S,N++[NW (vals.getD f.toNat 0)]) else
  match l9 S f with
  | []=>(false,S,N)
  | s::rest=>if s.to≥t then (false,S,N) else
   match eG vals k f s.to (Ap S f rest) (N++[{ s.nd with left:=(N.length:Int)+1 }]) with
   | (false,S1,N1)=>(false,S1,iK N1 N.length)
   | (true,S1,N1)=>eG vals k s.to t S1 (iK N1 N.length)
def InS (n:Int) (S:List (Int×List AD)):Prop:=∀ f,∀ x∈l9 S f,x.frm=f∧f<x.to∧x.to<n
theorem yY:∀ (S:List (Int×List AD)) (f:Int) (l:List AD) (g:Int),l9 (Ap S f l) g=if g=f then l else l9 S g
 | [],f,l,g=>by
  by_cases h:g=f
  ·subst h; simp [Ap,l9]
  ·simp [Ap,l9,h,Ne.symm h]
 | (y,x)::S,f,l,g=>by
  unfold Ap
  by_cases hy:y=f
  ·subst hy
   by_cases h:g=y
   ·subst h; simp [l9]
   ·simp [l9,h,Ne.symm h]
  ·rw [if_neg hy]
   by_cases h:y=g
   ·subst h; simp [l9,hy]
   ·simp only [l9,h,if_false]; exact yY S f l g
theorem InS.set {n:Int} {S:List (Int×List AD)} (h:InS n S) {f:Int} {s:AD} {rest:List AD} (hg:l9 S f=s::rest):InS n (Ap S f rest):=fun g x hx=>by
 rw [yY] at hx
 split at hx
 ·rename_i e; subst e; exact h g x (by rw [hg]; exact .tail _ hx)
 ·exact h g x hx
theorem kW (N:List ND) (i:Nat):(iK N i).length=N.length:=by unfold iK; split <;> simp
theorem mr {vals:List Int} {n:Int}:∀ (k:Nat) (f t:Int) (S:List (Int×List AD)) (N:List ND),f<t→InS n S→InS n (eG vals k f t S N).2.1∧N.length≤(eG vals k f t S N).2.2.length∧((eG vals k f t S N).2.2.length:Int)≤N.length+2*(t - f) - 1
 | 0,f,t,S,N,hft,hS=>⟨hS,Nat.le_refl _,by simp [eG]; omega⟩
 | k+1,f,t,S,N,hft,hS=>by
  unfold eG
  by_cases h1:t - f=1
  ·rw [if_pos h1]; exact ⟨hS,by simp,by simp; omega⟩
  rw [if_neg h1]
  cases hg:l9 S f with
  | nil=>exact ⟨hS,Nat.le_refl _,by simp; omega⟩
  | cons s rest =>
   simp only
   by_cases h2:s.to≥t
   ·rw [if_pos h2]; exact ⟨hS,Nat.le_refl _,by simp; omega⟩
   rw [if_neg h2]
   obtain ⟨_,e2,_⟩:=hS f s (by rw [hg]; exact .head _)
   obtain ⟨r1,r2,r3⟩:=mr (vals:=vals) k f s.to (Ap S f rest) (N++[{ s.nd with left:=(N.length:Int)+1 }]) e2 (hS.set hg)
   cases hb:eG vals k f s.to (Ap S f rest) (N++[{ s.nd with left:=(N.length:Int)+1 }]) with
   | mk b p =>
    obtain ⟨S1,N1⟩:=p
    rw [hb] at r1 r2 r3
    simp only [List.length_append,List.length_cons,List.length_nil] at r1 r2 r3
    cases b with
    | false=>exact ⟨r1,by simp only [kW]; omega,by simp only [kW]; omega⟩
    | true =>
     obtain ⟨q1,q2,q3⟩:=mr (vals:=vals) k s.to t S1 (iK N1 N.length) (by omega) r1
     rw [kW] at q2 q3
     exact ⟨q1,(show N.length≤(eG vals k s.to t S1 (iK N1 N.length)).2.2.length by omega),(show ((eG vals k s.to t S1 (iK N1 N.length)).2.2.length:Int)≤(N.length:Int)+2*(t - f) - 1 by omega)⟩
abbrev UR:Nat:=4
abbrev kvS (x:Int×SH):Int×Value:=(x.1,x.2.v)
def RP (FA:Nat→Prop) (w0:World):List (Int×SH)→List (Int×List AD)→Prop
 | [],[]=>True
 | (y,s)::L,(z,l)::S=>y=z∧Ls tA FA w0 s.a s.n s.c l∧RP FA w0 L S
 | _,_=>False
def BC:List (Int×SH)→Int→SH
 | [],_=>⟨none,0,0⟩
 | (y,s)::L,f=>if y=f then s else BC L f
def Gl:List (Int×SH)→Int→SH→List (Int×SH)
 | [],f,s=>[(f,s)]
 | (y,x)::L,f,s=>if y=f then (y,s)::L else (y,x)::Gl L f s
theorem Ey:∀ (L:List (Int×SH)) (f:Int),(lh (L.map kvS) f).getD (.slice none 0 0)=(BC L f).v
 | [],f=>rfl
 | (y,s)::L,f=>by
  unfold BC
  rw [List.map_cons]
  unfold lh
  split
  ·rfl
  ·exact Ey L f
theorem EH:∀ (L:List (Int×SH)) (f:Int) (s:SH),(Gl L f s).map kvS=oP (L.map kvS) f s.v
 | [],f,s=>rfl
 | (y,x)::L,f,s=>by
  unfold Gl
  rw [List.map_cons]
  unfold oP
  split
  ·rename_i h; subst h; simp
  ·rename_i h; simp [EH L f s]
theorem E5 {FA:Nat→Prop} {w0:World}:∀ {L:List (Int×SH)} {S:List (Int×List AD)} (f:Int),RP FA w0 L S→Ls tA FA w0 (BC L f).a (BC L f).n (BC L f).c (l9 S f)
 | [],[],f,_=>Ls.nil _ _ _ _ _
 | (y,s)::L,(z,l)::S,f,h=>by
  obtain ⟨rfl,h1,h2⟩:=h
  unfold BC l9
  by_cases hy:y=f
  ·rw [if_pos hy,if_pos hy]; exact h1
  ·rw [if_neg hy,if_neg hy]; exact E5 f h2
 | [],_::_,_,h=>h.elim
 | _::_,[],_,h=>h.elim
theorem FI {FA:Nat→Prop} {w0:World} {s:SH} {l:List AD} (hl:Ls tA FA w0 s.a s.n s.c l):∀ {L:List (Int×SH)} {S:List (Int×List AD)} (f:Int),RP FA w0 L S→RP FA w0 (Gl L f s) (Ap S f l)
 | [],[],f,_=>⟨rfl,hl,trivial⟩
 | (y,x)::L,(z,k)::S,f,h=>by
  obtain ⟨rfl,h1,h2⟩:=h
  unfold Gl Ap
  by_cases hy:y=f
  ·rw [if_pos hy,if_pos hy]; exact ⟨rfl,hl,h2⟩
  ·rw [if_neg hy,if_neg hy]; exact ⟨rfl,h1,FI hl f h2⟩
 | [],_::_,_,h=>h.elim
 | _::_,[],_,h=>h.elim
structure SW (w0 w:World) (FA:Nat→Prop) (pk pt mb:Nat) (ok:Bool) (S:List (Int×List AD)) (N:List (ND×SH)) (sN:SH) (gN:Nat):Prop where
 bk:Blk w pk #[.bool ok] UR
 bt:Blk w pt #[.int .i64 0,sN.v] tT'
 nr:aO 8 enH tN' w sN.a sN.n sN.c N gN
 gB:gN=0∨w0.heap.size<gN
 mp:∃ L:List (Int×SH),iU (enK .i64) w mb (L.map kvS)∧RP FA w0 L S
 ct:∀ x∈N,LsI FA w0 x.2.a x.2.n x.2.c x.1.bH
 fr:Mod (fun k=>k=pk∨k=pt∨k=mb) w0 w
section
variable {w0 w u w1:World} {a a1:OA} {n c n1 c1:Nat} {FA:Nat→Prop} {p q:Addr} {pk pt mb:Nat} {ok:Bool} {S:List (Int×List AD)} {N:List (ND×SH)} {sN:SH} {gN:Nat}
theorem Xb:fE Go.Proofs.Tryz.prog 48 tN' 8 80:=sliceT (by kernel_rfl)
theorem oO (x:ND×SH):(enH x).length=8:=rfl
theorem LK (x:ND×SH):∀ v∈enH x,v.oneCell'=true:=by
 intro v hv
 simp only [enH,enN,List.mem_cons,List.not_mem_nil,or_false] at hv
 rcases hv with h | h | h | h | h | h | h | h <;> subst h <;> rfl
theorem SW.kept (h:SW w0 w FA pk pt mb ok S N sN gN) (hk:Kept w u):SW w0 u FA pk pt mb ok S N sN gN :=
 ⟨h.bk.keep hk,h.bt.keep hk,h.nr.kept hk,h.gB,by obtain ⟨L,h1,h2⟩:=h.mp; exact ⟨L,h1.kept hk,h2⟩,h.ct,h.fr.trans (Kept.mod (S:=fun _=>False) hk) (fun _ _ h=>h) (fun _ _ h=>h.elim)⟩
theorem SW.push (h:SW w0 w FA pk pt mb ok S N sN gN) (hpt:pt≠pk) (hlen:N.length≤4194304) {nd:ND} {s:SH} (hq:AtL w q (enH (nd,s))) (hs:LsI FA w0 s.a s.n s.c nd.bH) {K:World→Prop}
  (hk:∀ u sN' gN',SW w0 u FA pk pt mb ok S (N++[(nd,s)]) sN' gN'→K u) :
  dm Go.Proofs.Tryz.prog (Builtin.append_ #[48,48] 48 #[.slice sN.a sN.n sN.c,.slice (some q) 1 1]) w fun v u2=>∃ a2 n2 c2,v = .slice a2 n2 c2∧(st u2 (((⟨pt,0,none⟩:Addr).add 1).add 0) (.slice a2 n2 c2) K):=by
 have hn:=aO.len oO (by omega) h.nr
 refine jH Xb (by omega) h.nr (news:=enH (nd,s)) (m:=1) rfl (fun j v hj=>⟨_,rfl,hq j v hj⟩) (fun h=>by cases h) (LK _) (by simp only [maxLen]; omega) (by omega) fun a' c' g' u2 hrow hg' ho=>⟨_,_,_,rfl,?_⟩
 have hbt:=h.bt.mod ho (fun hk=>gq h.nr h.bt (by decide) hk)
 have hbk:=h.bk.mod ho (fun hk=>gq h.nr h.bk (by decide) hk)
 have hset:=hbt.set 1 (.slice a' (sN.n+1) c')
 have hon:=Only.set u2 pt 1 (.slice a' (sN.n+1) c')
 have hrow':aO 8 enH tN' u2 a' (sN.n+1) c' (N++[(nd,s)]) g':=by
  unfold aO
  simpa using hrow
 have hsz:=h.fr.size
 rw [addr_add,addr_add,Nat.zero_add,Nat.add_zero]
 refine ⟨hbt.ok (by simp),bU (hk _ ⟨a',sN.n+1,c'⟩ g' ⟨?_,hset,hrow'.mod hon (fA hbt hrow' (by decide)),by have:=h.gB; omega,?_,fun x hx=>?_,?_⟩)⟩
 ·exact hbk.mod hon fun hk=>hpt (by have hk':pk+1=pt+1:=hk; omega)
 ·obtain ⟨L,h1,h2⟩:=h.mp
  refine ⟨L,(h1.mod ho fun hk=>by obtain ⟨cur,hb⟩:=Row.blk h.nr hk; exact h1.kQ hb).mod hon fun hk=>?_,h2⟩
  have hk':mb+1=pt+1:=hk
  obtain rfl:mb=pt:=by omega
  exact h1.kQ h.bt
 ·rcases List.mem_append.1 hx with hx | hx
  ·exact h.ct x hx
  ·obtain rfl:x=(nd,s):=by simpa using hx
   exact hs
 ·exact (h.fr.trans ho (fun _ _ h=>h) (fun k hk1 hk=>by have hk':k+1=gN:=hk; have:=h.gB; omega)).trans hon (fun _ _ h=>h) (fun k _ hk => .inr (.inl (by have hk':k+1=pt+1:=hk; omega)))
end
end Go.Mir
set_option maxRecDepth 100000
namespace Go.Mir
open Go Go.E Go.RowKit Go.Tr Go.Ss Go.ChangeShapes
section
variable {w0 w u w1:World} {a a1:OA} {n c n1 c1:Nat} {FA:Nat→Prop} {p q:Addr} {pk pt pv pm pb mb:Nat} {ok:Bool} {S:List (Int×List AD)} {N:List (ND×SH)} {sN:SH} {gN:Nat} {vals:List Int}
abbrev ptr (b:Nat):Value := .pointer (some ⟨b,0,none⟩)
abbrev yB (pk pt pv pm pb:Nat):Value := .func (.func 81) #[] #[ptr pk,ptr pt,ptr pv,ptr pm,ptr pb]
structure Sta (w0:World) (FA:Nat→Prop) (pk pt pv pm pb mb:Nat) (a1:OA) (n1 c1:Nat) (vals:List Int):Prop where
 v:Blk w0 pv #[.slice a1 n1 c1] 23
 m:Blk w0 pm #[.map (some mb)] 144
 b:Blk w0 pb #[yB pk pt pv pm pb] 147
 vs:∃ FV:Nat→Prop,(∀ b,FV b→b<w0.heap.size∧b≠pk∧b≠pt∧b≠mb)∧LsI FV w0 a1 n1 c1 vals
 ne:pt≠pk
 old:∀ b,FA b→b<w0.heap.size
 away:∀ b,(FA b∨b=pv∨b=pm∨b=pb)→b≠pk∧b≠pt∧b≠mb
theorem SW.ls {α:Type} {T:Ty α} {xs:List α} (h:SW w0 w FA pk pt mb ok S N sN gN) (hst:Sta w0 FA pk pt pv pm pb mb a1 n1 c1 vals) (hl:Ls T FA w0 a n c xs):Ls T FA w a n c xs :=
 hl.mod h.fr fun b hb hk=>by have:=hst.away b (.inl hb); omega
theorem SW.vls (h:SW w0 w FA pk pt mb ok S N sN gN) (hst:Sta w0 FA pk pt pv pm pb mb a1 n1 c1 vals):∃ FV:Nat→Prop,LsI FV w a1 n1 c1 vals:=by
 obtain ⟨FV,h1,h2⟩:=hst.vs
 exact ⟨FV,h2.mod h.fr fun b hb hk=>by have:=h1 b hb; omega⟩
theorem SW.blk {b e:Nat} {cs:Array Value} (h:SW w0 w FA pk pt mb ok S N sN gN) (hst:Sta w0 FA pk pt pv pm pb mb a1 n1 c1 vals) (hb:b=pv∨b=pm∨b=pb) (hl:Blk w0 b cs e):Blk w b cs e :=
 hl.mod h.fr fun hk=>by have:=hst.away b (.inr hb); omega
theorem SW.get (h:SW w0 w FA pk pt mb ok S N sN gN) (f:Int):∃ s:SH,Ls tA FA w0 s.a s.n s.c (l9 S f)∧(∀ R:Value→World→Prop,R s.v w→dm Go.Proofs.Tryz.prog (Instr.lookup 144 (.map (some mb)) (.int .i64 f) false) w R):=by
 obtain ⟨L,h1,h2⟩:=h.mp
 refine ⟨BC L f,E5 f h2,fun R hR=>iU.lookup PD t147 zSl h1 ?_⟩
 rw [Ey]
 exact hR
theorem SW.set (h:SW w0 w FA pk pt mb ok S N sN gN) (hpk:pk≠mb) (hpt:pt≠mb) (f:Int) {s:SH} {l:List AD} (hl:Ls tA FA w0 s.a s.n s.c l) {R:Value→World→Prop} (hR:∀ u,SW w0 u FA pk pt mb ok (Ap S f l) N sN gN→R undef u) :
  dm Go.Proofs.Tryz.prog (do Instr.mapUpdate 144 (.map (some mb)) (.int .i64 f) s.v; pure undef) w R:=by
 obtain ⟨L,h1,h2⟩:=h.mp
 have hh:∀ R,(∀ v,iU (enK .i64) v mb (oP (L.map kvS) f s.v)→Only (mb+1) w v→R undef v)→dm Go.Proofs.Tryz.prog (do Instr.mapUpdate 144 (.map (some mb)) (enK .i64 f) s.v; pure undef) w R:=fun R hR=>iU.update PD t147 h1 hR
 refine hh R fun v hv ho=>hR v ⟨h.bk.mod ho (fun hk=>hpk (by have hk':pk+1=mb+1:=hk; omega)),h.bt.mod ho (fun hk=>hpt (by have hk':pt+1=mb+1:=hk; omega)),h.nr.mod ho (fun k hk hS=>?_),h.gB,⟨Gl L f s,by rw [EH]; exact hv,FI hl f h2⟩,h.ct,h.fr.trans ho (fun _ _ h=>h) (fun k _ hk => .inr (.inr (by have hk':k+1=mb+1:=hk; omega)))⟩
 obtain ⟨cur,hb⟩:=Row.blk h.nr hk
 have hS':k+1=mb+1:=hS
 obtain rfl:k=mb:=by omega
 exact h1.kQ hb
theorem SW.no (h:SW w0 w FA pk pt mb ok S N sN gN):pk≠mb∧pt≠mb:=by
 obtain ⟨L,h1,_⟩:=h.mp
 exact ⟨fun e=>by subst e; exact h1.kQ h.bk,fun e=>by subst e; exact h1.kQ h.bt⟩
theorem SW.fail (h:SW w0 w FA pk pt mb ok S N sN gN) (hne:pt≠pk) {K:World→Prop} (hk:∀ u,SW w0 u FA pk pt mb false S N sN gN→K u):st w ((⟨pk,0,none⟩:Addr).add 0) (.bool false) K:=by
 have hset:=h.bk.set 0 (.bool false)
 have hon:=Only.set w pk 0 (.bool false)
 obtain ⟨n1,n2⟩:=h.no
 rw [addr_add,Nat.zero_add]
 refine ⟨h.bk.ok (by simp),bU (hk _ ⟨hset,h.bt.mod hon (fun hk=>hne (by have hk':pt+1=pk+1:=hk; omega)),h.nr.mod hon (fA h.bk h.nr (by decide)),h.gB,?_,h.ct,h.fr.trans hon (fun _ _ h=>h) (fun k _ hk => .inl (by have hk':k+1=pk+1:=hk; omega))⟩)⟩
 obtain ⟨L,h1,h2⟩:=h.mp
 exact ⟨L,h1.mod hon (fun hk=>n1 (by have hk':mb+1=pk+1:=hk; omega)),h2⟩
theorem Nc {f t:Int} (hbk:Blk w pk #[.bool false] UR):E.CallsD Go.Proofs.Tryz.prog 81 #[.int .i64 f,.int .i64 t,ptr pk,ptr pt,ptr pv,ptr pm,ptr pb] w fun v u=>v = .tuple #[]∧u=w:=by
 refine cO.calls (R:=fun v u=>v = .tuple #[]∧u=w) ?_
 unfold cO cO.g0
 refine Exists.intro false ⟨by rw [hbk.cell]; rfl,?_⟩
 exact ⟨rfl,rfl⟩
theorem Px:jT Go.Proofs.Tryz.prog 81=true:=by kernel_rfl
theorem Q4 {f t:Int} {K:Value→World→Prop} (h:E.CallsD Go.Proofs.Tryz.prog 81 #[.int .i64 f,.int .i64 t,ptr pk,ptr pt,ptr pv,ptr pm,ptr pb] w K):Ob Go.Proofs.Tryz.prog (yB pk pt pv pm pb) #[.int .i64 f,.int .i64 t] w K:=by
 unfold Ob yB
 simp only
 rw [if_pos Px]
 exact h
end
end Go.Mir
set_option maxRecDepth 100000
namespace Go.Mir
open Go Go.E Go.RowKit Go.Tr Go.Ss Go.ChangeShapes
section
variable {w0 w u w1:World} {a a1:OA} {n c n1 c1:Nat} {FA:Nat→Prop} {p q:Addr} {pk pt pv pm pb mb:Nat} {ok:Bool} {S:List (Int×List AD)} {N:List (ND×SH)} {sN:SH} {gN:Nat} {vals:List Int}
def FNd (x:ND×SH):Nat→Value→World→Prop:=fun _ v u=>∃ q,v = .slice (some q) 1 1∧AtL u q (enH x)
theorem FNd.keep {x:ND×SH} (i:Nat) (v:Value) (u u':World) (h:FNd x i v u) (hk:Below u.heap.size u u'):FNd x i v u':=by
 obtain ⟨q,h1,h2⟩:=h; exact ⟨q,h1,h2.kept hk⟩
theorem SW.right (h:SW w0 w FA pk pt mb ok S N sN gN) {i:Nat} (hi:i<N.length) {v:Int} {K:World→Prop} (hk:∀ u N',N'.map (·.1)=(match (N.map (·.1))[i]? with | some x=>(N.map (·.1)).set i { x with right:=v } | none=>N.map (·.1))→SW w0 u FA pk pt mb ok S N' sN gN→K u) :
  ix sN.a sN.n (i:Int) fun q68=>st w (((q68.add ((i:Int).toNat*8)).add 7).add 0) (.int .i64 v) K:=by
 have hn:=aO.len oO (by omega) h.nr
 obtain ⟨x,hx⟩:∃ x,N[i]?=some x:=⟨N[i]'hi,List.getElem?_eq_getElem hi⟩
 obtain ⟨b,hb,ha,h3,h4,h5⟩:=aO.set (k:=8) (en:=enH) oO h.nr (i:=i) (j:=7) (x:=x) (y:=({ x.1 with right:=v },x.2)) (v := .int .i64 v) hx (by omega) (by omega) rfl
 rw [ha]
 refine dJ ⟨by omega,by omega⟩ ?_
 rw [Int.toNat_natCast]
 simp only [addr_add,Nat.zero_add,Nat.add_zero]
 have hbt:=h.bt.mod h5 (fun hk=>gq h.nr h.bt (by decide) hk)
 have hbk:=h.bk.mod h5 (fun hk=>gq h.nr h.bk (by decide) hk)
 have hgB:=h.gB
 refine ⟨h3,bU (hk _ (N.set i ({ x.1 with right:=v },x.2)) ?_ ⟨hbk,hbt,by rw [ha] at h4 ⊢; exact h4,h.gB,?_,fun y hy=>?_,h.fr.trans h5 (fun _ _ h=>h) (fun k hk1 hk=>by have hk':k+1=gN:=hk; omega)⟩)⟩
 ·rw [List.getElem?_map,hx]
  simp [List.map_set]
 ·obtain ⟨L,h1,h2⟩:=h.mp
  exact ⟨L,h1.mod h5 (fun hk=>by obtain ⟨cur,hb'⟩:=Row.blk h.nr hk; exact h1.kQ hb'),h2⟩
 ·rcases mem_set hy with rfl | ⟨j,_,hj⟩
  ·exact h.ct x (List.mem_of_getElem? hx)
  ·exact h.ct y (List.mem_of_getElem? hj)
theorem SW.other (h:SW w0 w FA pk pt mb ok S N sN gN) {b:Nat} (ho:Only (b+1) w u) (h1:b≠pk) (h2:b≠pt) (h3:b≠mb) (h4:b+1≠gN) (h5:w0.heap.size≤b):SW w0 u FA pk pt mb ok S N sN gN:=by
 refine ⟨h.bk.mod ho (fun hk=>h1 (by have hk':pk+1=b+1:=hk; omega)),h.bt.mod ho (fun hk=>h2 (by have hk':pt+1=b+1:=hk; omega)),h.nr.mod ho (fun k hk hS=>by have hS':k+1=b+1:=hS; omega),h.gB,?_,h.ct,h.fr.trans ho (fun _ _ h=>h) (fun k hk1 hk=>by have hk':k+1=b+1:=hk; omega)⟩
 obtain ⟨L,g1,g2⟩:=h.mp
 exact ⟨L,g1.mod ho (fun hk=>h3 (by have hk':mb+1=b+1:=hk; omega)),g2⟩
theorem Qd (hst:Sta w0 FA pk pt pv pm pb mb a1 n1 c1 vals) (hn1:n1≤1048576) :
  ∀ (k:Nat) (f t:Int) (w:World) (S:List (Int×List AD)) (N:List (ND×SH)) (sN:SH) (gN:Nat),0≤f→f<t→t≤n1→t - f≤k→InS n1 S→(N.length:Int)+2*(t - f)≤4194304→SW w0 w FA pk pt mb true S N sN gN →
   E.CallsD Go.Proofs.Tryz.prog 81 #[.int .i64 f,.int .i64 t,ptr pk,ptr pt,ptr pv,ptr pm,ptr pb] w fun v u=>v = .tuple #[]∧∃ N' sN' gN',SW w0 u FA pk pt mb (eG vals k f t S (N.map (·.1))).1 (eG vals k f t S (N.map (·.1))).2.1 N' sN' gN'∧N'.map (·.1)=(eG vals k f t S (N.map (·.1))).2.2:=by
 intro k
 induction k with
 | zero=>intro f t w S N sN gN h0 h1 h2 h3; omega
 | succ k ih =>
  intro f t w S N sN gN h0 h1 h2 h3 hS hlen hW
  refine cO.calls (R:=fun v u=>v = .tuple #[]∧∃ N' sN' gN',SW w0 u FA pk pt mb (eG vals (k+1) f t S (N.map (·.1))).1 (eG vals (k+1) f t S (N.map (·.1))).2.1 N' sN' gN'∧N'.map (·.1)=(eG vals (k+1) f t S (N.map (·.1))).2.2) ?_
  unfold cO cO.g0
  obtain ⟨FV,hvs⟩:=hW.vls hst
  have hvl:=hvs.len
  have cell1:∀ {u:World} {b:Nat} {e:Nat} {v:Value},Blk u b #[v] e→u.cell? (⟨b,0,none⟩:Addr)=some v:=fun h=>by rw [h.cell]; rfl
  have cellT:∀ {u:World} {s:SH},Blk u pt #[.int .i64 0,s.v] tT'→u.cell? ((⟨pt,0,none⟩:Addr).add 1)=some s.v:=fun h=>by rw [addr_add,Nat.zero_add,h.cell]; rfl
  have hnl:(N.map (·.1)).length=N.length:=by simp
  refine Exists.intro true ⟨cell1 hW.bk,DR ?_⟩
  refine bM (x:=t - f) (by omega) (by omega) ?_
  refine oJ (fun he=>?_) fun hne=>?_
  ·-- a leaf
   have hb:eG vals (k+1) f t S (N.map (·.1))=(true,S,N.map (·.1)++[NW (vals.getD f.toNat 0)]):=by unfold eG; rw [if_pos he]
   rw [hb]
   refine ⟨FNd (NW (vals.getD f.toNat 0),⟨none,0,0⟩),FNd.keep,?_⟩
   refine Exists.intro sN.a (Exists.intro sN.n (Exists.intro sN.c ⟨cellT hW.bt,?_⟩))
   refine Exists.intro a1 (Exists.intro n1 (Exists.intro c1 ⟨cell1 (hW.blk hst (.inl rfl) hst.v),?_⟩))
   refine Ls.rdI hvs (by omega) (by omega) fun x hx=>?_
   have hxv:vals.getD f.toNat 0=x:=by rw [List.getD_eq_getElem?_getD,hx]; rfl
   rw [hxv]
   refine ⟨fun u hu=>⟨na u,rfl,AtL.new u (enH (NW x,⟨none,0,0⟩)) tN'⟩,fun q _ u hu hF=>?_⟩
   obtain ⟨q',hv,hA⟩:=hF
   cases hv
   exact SW.push (hW.kept hu) hst.ne (by omega) hA (Ls.nil _ _ _ _ _) fun u2 sN' gN' hW2=>⟨rfl,_,sN',gN',hW2,by simp⟩
  ·refine Exists.intro (some mb) ⟨cell1 (hW.blk hst (.inr (.inl rfl)) hst.m),?_⟩
   obtain ⟨sg,hls,hlk⟩:=hW.get f
   refine hlk _ ?_
   refine Exists.intro sg.a (Exists.intro sg.n (Exists.intro sg.c ⟨rfl,?_⟩))
   have hll:=hls.len
   cases hg:l9 S f with
   | nil =>
    rw [hg] at hll
    have hb:eG vals (k+1) f t S (N.map (·.1))=(false,S,N.map (·.1)):=by unfold eG; rw [if_neg hne]; simp only [hg]
    rw [hb]
    refine kV (by simp at hll; omega) ?_
    exact hW.fail hst.ne fun u hWu=>⟨rfl,N,sN,gN,hWu,rfl⟩
   | cons s rest =>
    rw [hg] at hls hll
    simp only [List.length_cons] at hll
    refine xP (by omega) ?_
    have hlsw:=hW.ls hst hls
    obtain ⟨e1,e2,e3⟩:=hS f s (by rw [hg]; exact .head _)
    have rd0:∀ {u:World} {K:Addr→Prop},Ls tA FA u sg.a sg.n sg.c (s::rest)→(∀ p s',AtL u p (nR (s,s'))→LsI FA u s'.a s'.n s'.c s.nd.bH→K p)→ix sg.a sg.n 0 fun q=>K (q.add 0):=fun {u K} hl hK=>by
     refine Ls.at (i:=0) hl (by omega) (by omega) fun p x cs hx _ ⟨s',hcs,hcat⟩ hA=>?_
     have:x=s:=by simpa using hx.symm
     subst this
     subst hcs
     exact hK p s' hA hcat
    refine rd0 (K:=fun p=>cI w (p.add 9) .i64 _) hlsw fun p1 s1 hA1 _=>⟨_,hA1 9 _ rfl,?_⟩
    refine eF (fun hge=>?_) fun hlt=>?_
    ·have hb:eG vals (k+1) f t S (N.map (·.1))=(false,S,N.map (·.1)):=by unfold eG; rw [if_neg hne]; simp only [hg]; rw [if_pos hge]
     rw [hb]
     exact hW.fail hst.ne fun u hWu=>⟨rfl,N,sN,gN,hWu,rfl⟩
    ·refine Exists.intro (some mb) ⟨cell1 (hW.blk hst (.inr (.inl rfl)) hst.m),dJ (by omega) ?_⟩
     have hlt':s.to<t:=Int.lt_of_not_ge hlt
     obtain ⟨m1,m2⟩:=hW.no
     have hsub:Ls tA FA w0 (slA sg.a sg.c 1 10) (sg.n - 1) (sg.c - 1) rest:=by
      have:=hls.sub (i:=1) (j:=sg.n) (by omega) (Nat.le_refl _)
      rw [List.take_of_length_le (by simp; omega)] at this
      exact this
     refine hW.set m1 m2 f (s:=⟨slA sg.a sg.c 1 10,sg.n - 1,sg.c - 1⟩) hsub fun u1 hW1=>?_
     refine Exists.intro sN.a (Exists.intro sN.n (Exists.intro sN.c ⟨cellT hW1.bt,?_⟩))
     have hNn:=aO.len oO (by omega) hW1.nr
     refine rd0 (K:=fun p=>lU u1 (p.add 0) _) (hW1.ls hst hls) fun p2 s2 hA2 hcat2=>?_
     rw [add_zero]
     refine ⟨_,hA2 0 _ rfl,_,hA2 1 _ rfl,_,hA2 2 _ rfl,_,hA2 3 _ rfl,_,_,_,hA2 4 _ rfl,_,hA2 5 _ rfl,_,hA2 6 _ rfl,_,hA2 7 _ rfl,?_⟩
     refine boxS (zs:=[.int .u8 0,.int .i64 0,.int .i64 0,.float .f64 0,.slice none 0 0,.int .u8 0,.int .i64 0,.int .i64 0]) (vs:=enN s.nd s2.a s2.n s2.c) (e:=tN') rfl fun u2 hAn bn hk2=>?_
     have ew:IntKind.i64.wrap ((sN.n:Int)+1)=(N.length:Int)+1:=by rw [hNn]; exact nY (by omega) (by omega)
     rw [ew]
     have hgN:=Row.le hW1.nr
     have hz1:w0.heap.size≤u1.heap.size:=hW1.fr.size
     have hW2:=hW1.kept hk2
     have hpkl:=hW1.bk.lt
     have hptl:=hW1.bt.lt
     have hmbl:mb<u1.heap.size:=by obtain ⟨L,g1,_⟩:=hW1.mp; exact g1.lt
     have hset:=bn.set 6 (.int .i64 ((N.length:Int)+1))
     have hon:=Only.set u2 u1.heap.size 6 (.int .i64 ((N.length:Int)+1))
     have hW3:=hW2.other hon (by omega) (by omega) (by omega) (by omega) hz1
     have e6:(((na u1:Addr).add 6).add 0)=⟨u1.heap.size,6,none⟩:=by rw [fQ,addr_add,Nat.add_zero]
     rw [e6]
     refine ⟨bn.ok (by simp [enN]),bU ?_⟩
     generalize u2.setCell ⟨u1.heap.size,6,none⟩ (.int .i64 ((N.length:Int)+1))=u3 at hset hon hW3
     refine Exists.intro sN.a (Exists.intro sN.n (Exists.intro sN.c ⟨cellT hW3.bt,?_⟩))
     have hA3:AtL u3 (na u1) (enN { s.nd with left:=(N.length:Int)+1 } s2.a s2.n s2.c):=by
      have:=AtL.blk (b:=u1) hset
      simpa [enN] using this
     refine ⟨_,hA3 0 _ rfl,_,hA3 1 _ rfl,_,hA3 2 _ rfl,_,hA3 3 _ rfl,_,_,_,hA3 4 _ rfl,_,hA3 5 _ rfl,_,hA3 6 _ rfl,_,hA3 7 _ rfl,bU ?_⟩
     have hq4:=AtL.new u3 (enH ({ s.nd with left:=(N.length:Int)+1 },s2)) tN'
     have hcat0:LsI FA w0 s2.a s2.n s2.c s.nd.bH:=hcat2.keep fun b hb _=>(hW1.fr.block b (hst.old b hb) (fun hk=>by have:=hst.away b (.inl hb); omega)).symm
     refine SW.push (hW3.kept (Kept.new u3 _)) hst.ne (by omega) hq4 hcat0 fun u4 sN4 gN4 hW4=>?_
     refine Exists.intro _ ⟨cell1 (hW4.blk hst (.inr (.inr rfl)) hst.b),?_⟩
     refine rd0 (K:=fun p=>cI u4 (p.add 9) .i64 _) (hW4.ls hst hls) fun p5 s5 hA5 _=>⟨_,hA5 9 _ rfl,?_⟩
     have hmap4:(N++[(({ s.nd with left:=(N.length:Int)+1 }:ND),s2)]).map (·.1)=N.map (·.1)++[{ s.nd with left:=((N.map (·.1)).length:Int)+1 }]:=by simp
     have hS2:=hS.set hg
     obtain ⟨b1,b2,b3⟩:=mr (vals:=vals) k f s.to (Ap S f rest) (N.map (·.1)++[{ s.nd with left:=((N.map (·.1)).length:Int)+1 }]) e2 hS2
     obtain ⟨RES,hRES⟩:∃ r,r=eG vals k f s.to (Ap S f rest) (N.map (·.1)++[{ s.nd with left:=((N.map (·.1)).length:Int)+1 }]):=⟨_,rfl⟩
     rw [← hRES] at b1 b2 b3
     simp only [List.length_append,List.length_map,List.length_cons,List.length_nil] at b2 b3
     refine Q4 (E.CallsD.mono (ih f s.to u4 (Ap S f rest) _ sN4 gN4 h0 e2 (by omega) (by omega) hS2 (by simp; omega) hW4) fun v u5 ⟨hv,N5,sN5,gN5,hW5,hN5⟩=>⟨hv,?_⟩)
     rw [hmap4,← hRES] at hW5 hN5
     have hN5l:N5.length=RES.2.2.length:=by rw [← hN5,List.length_map]
     have hn5:=aO.len oO (by omega) hW5.nr
     refine Exists.intro sN5.a (Exists.intro sN5.n (Exists.intro sN5.c ⟨cellT hW5.bt,?_⟩))
     refine Exists.intro sN5.a (Exists.intro sN5.n (Exists.intro sN5.c ⟨cellT hW5.bt,?_⟩))
     rw [hNn]
     refine hW5.right (i:=N.length) (by omega) (v:=(sN5.n:Int)) fun u6 N6 hN6 hW6=>?_
     have hN6':N6.map (·.1)=iK RES.2.2 (N.map (·.1)).length:=by
      rw [hN6,hN5]
      unfold iK
      rw [hnl,hn5,hN5l]
      all_goals (split <;> simp_all)
     refine Exists.intro _ ⟨cell1 (hW6.blk hst (.inr (.inr rfl)) hst.b),?_⟩
     refine rd0 (K:=fun p=>cI u6 (p.add 9) .i64 _) (hW6.ls hst hls) fun p7 s7 hA7 _=>⟨_,hA7 9 _ rfl,?_⟩
     obtain ⟨bb,S1,N1⟩:=RES
     ·skip
      have hB:eG vals (k+1) f t S (N.map (·.1))=(match (bb,S1,N1) with | (false,S1,N1)=>(false,S1,iK N1 (N.map (·.1)).length) | (true,S1,N1)=>eG vals k s.to t S1 (iK N1 (N.map (·.1)).length)):=by
       rw [hRES]
       conv=>lhs; unfold eG
       rw [if_neg hne]
       simp only [hg]
       rw [if_neg hlt,← hRES]
       all_goals (cases bb <;> rfl)
      rw [hB]
      cases bb with
      | false =>
       refine Q4 (E.CallsD.mono (Nc hW6.bk) fun v u7 ⟨hv,hu7⟩=>⟨hv,rfl,N6,sN5,gN5,?_,hN6'⟩)
       subst hu7
       exact hW6
      | true =>
       refine Q4 (E.CallsD.mono (ih s.to t u6 S1 N6 sN5 gN5 (by omega) (by omega) h2 (by omega) b1 (by
        have:N6.length=N1.length:=by have:=congrArg List.length hN6'; simpa [kW] using this
        simp only at b3
        omega) hW6) fun v u7 ⟨hv,N7,sN7,gN7,hW7,hN7⟩=>⟨hv,rfl,N7,sN7,gN7,?_,?_⟩)
       ·rw [hN6'] at hW7; exact hW7
       ·rw [hN6'] at hN7; exact hN7
end
end Go.Mir
set_option maxRecDepth 100000
namespace Go.Mir
open Go Go.E Go.RowKit Go.Tr Go.Ss Go.ChangeShapes
def gZ (l:List AD):List (Int×List AD):=l.foldl GN []
def pz (S:List (Int×List AD)):List (Int×List AD):=S.map fun x=>(x.1,sorted Lh x.2)
def rE (l:List AD) (vals:List Int):Bool×List ND:=if l.all (okA vals.length) then ((eG vals vals.length 0 vals.length (pz (gZ l)) []).1,(eG vals vals.length 0 vals.length (pz (gZ l)) []).2.2) else (false,[])
theorem Ah:∀ (S:List (Int×List AD)) (x:AD) (f:Int),l9 (GN S x) f=if f=x.frm then l9 S f++[x] else l9 S f
 | [],x,f=>by
  by_cases h:x.frm=f
  ·subst h; simp [GN,l9]
  ·simp [GN,l9,h,Ne.symm h]
 | (y,l)::S,x,f=>by
  unfold GN
  by_cases hy:y=x.frm
  ·subst hy
   by_cases h:f=x.frm
   ·subst h; simp [l9]
   ·simp [l9,h,Ne.symm h]
  ·rw [if_neg hy]
   by_cases h:y=f
   ·subst h; simp [l9,hy]
   ·simp only [l9,h,if_false]; exact Ah S x f
theorem wX:∀ (S:List (Int×List AD)) (f:Int),l9 (pz S) f=sorted Lh (l9 S f)
 | [],f=>rfl
 | (y,l)::S,f=>by
  show l9 ((y,sorted Lh l)::pz S) f=_
  unfold l9
  split
  ·rfl
  ·exact wX S f
theorem rY {n:Int}:∀ (l:List AD) (S:List (Int×List AD)),(∀ f,∀ x∈l9 S f,x.frm=f∧okA n x=true)→l.all (okA n)=true→∀ f,∀ x∈l9 (l.foldl GN S) f,x.frm=f∧okA n x=true
 | [],S,h,_,f,x,hx=>h f x hx
 | y::l,S,h,ha,f,x,hx=>by
  rw [List.all_cons,Bool.and_eq_true] at ha
  refine rY l (GN S y) (fun g z hz=>?_) ha.2 f x hx
  rw [Ah] at hz
  split at hz
  ·rename_i e
   rcases List.mem_append.1 hz with hz | hz
   ·exact h g z hz
   ·obtain rfl:z=y:=by simpa using hz
    exact ⟨e.symm,ha.1⟩
  ·exact h g z hz
theorem zx {n:Int} {x:AD} (h:okA n x=true):0≤x.frm∧x.frm<x.to∧x.to<n:=by
 unfold okA at h
 simp only [Bool.and_eq_true,decide_eq_true_eq] at h
 omega
theorem Fa {n:Int} {l:List AD} (ha:l.all (okA n)=true):InS n (pz (gZ l)):=fun f x hx=>by
 rw [wX] at hx
 have hx':=(sorted_perm Lh _).mem_iff.1 hx
 obtain ⟨h1,h2⟩:=rY l [] (fun f x hx=>by cases hx) ha f x hx'
 have:=zx h2
 omega
section
variable {w w0 u w1:World} {a a1:OA} {n c n1 c1:Nat} {F F' S:Nat→Prop} {p q:Addr} {B mb:Nat} {H:List (Int×RA)} {l:List AD} {vals:List Int}
theorem Qp (h:Int×RA):dRA (Ns h)=(h.1,sorted Lh (dRA h).2):=by
 unfold Ns dRA
 rw [kD]
theorem OC:∀ {H:List (Int×RA)},(∀ h∈H,aO 10 nR tA' w h.2.1.a h.2.1.n h.2.1.c h.2.2.1 h.2.2.2)→(∀ h∈H,∀ b,b+1=h.2.2.2→F b)→(∀ h∈H,∀ x∈h.2.2.1,LsI F w x.2.a x.2.n x.2.c x.1.nd.bH)→RP F w (H.map fun h=>(h.1,h.2.1)) (H.map dRA)
 | [],_,_,_=>trivial
 | h::H,hM,hF,hc=>by
  refine ⟨rfl,?_,OC (fun x hx=>hM x (.tail _ hx)) (fun x hx=>hF x (.tail _ hx)) (fun x hx=>hc x (.tail _ hx))⟩
  refine aO.lsK (T:=tA) (f:=fun x:AE=>x.1) (en:=nR) (k:=10) mJ (by omega) rfl (hM h (.head _)) (fun b hb=>hF h (.head _) b hb) fun x hx=>⟨x.2,rfl,hc h (.head _) x hx⟩
theorem S9 {pk pt pv pm pb:Nat} {f t:Int} {K:Value→World→Prop} (h:E.CallsD Go.Proofs.Tryz.prog 81 #[.int .i64 f,.int .i64 t,ptr pk,ptr pt,ptr pv,ptr pm,ptr pb] w K):uV Go.Proofs.Tryz.prog (yB pk pt pv pm pb) #[.int .i64 f,.int .i64 t] w K:=by
 unfold uV yB
 simp only
 rw [if_pos Px]
 exact h
set_option maxHeartbeats 1000000 in
theorem ML {wB:World} {l:List AD} {pv pr pm:Nat} (hn1:n1≤1048576) (hn0:0<n1) (hM:I5 wB.heap.size w mb (H.map Ns)) (hd:H.map dRA=gZ l) (hall:l.all (okA n1)=true) (hcats:∀ h∈H,∀ x∈h.2.2.1,LsI F wB x.2.a x.2.n x.2.c x.1.nd.bH) (hF:∀ b,F b→b<wB.heap.size) {FV:Nat→Prop} (hFV:∀ b,FV b→b<wB.heap.size) (hvs:LsI FV wB a1 n1 c1 vals)
  (hf:From wB.heap.size wB w) (bv:Blk w pv #[.slice a1 n1 c1] 23) (br:Blk w pr #[.int .i64 0,.slice none 0 0] tT') (bm:Blk w pm #[.map (some mb)] 144) (hpr:wB.heap.size≤pr) {R:VP}
  (hR:∀ u b (o:Int) a' n' c',b=(rE l vals).1→(b=true→o=0∧Ls tN (fun b=>F b∨(wB.heap.size≤b∧b<u.heap.size)) u a' n' c' (rE l vals).2)→From wB.heap.size wB u→R (.tuple #[vT o a' n' c',.bool b]) u) :
  Je R (some ⟨pv,0,none⟩) (some ⟨pr,0,none⟩) (some ⟨pm,0,none⟩) w:=by
 unfold Je
 have hvl:=hvs.len
 refine bU (bU ?_)
 have bt0:Blk (w.alloc (.cells (lg 0 none 0 0) 50)) w.heap.size #[.int .i64 0,.slice none 0 0] tT':=Blk.new w _ _
 have k1:=Kept.new w (.cells (lg 0 none 0 0) 50)
 have z1:(w.alloc (.cells (lg 0 none 0 0) 50)).heap.size=w.heap.size+1:=by simp
 generalize w.alloc (.cells (lg 0 none 0 0) 50)=W1 at bt0 k1 z1
 have bk0:Blk (W1.alloc (.cells #[.bool false] 4)) W1.heap.size #[.bool false] UR:=Blk.new W1 _ _
 have k2:=Kept.new W1 (.cells #[.bool false] 4)
 have z2:(W1.alloc (.cells #[.bool false] 4)).heap.size=W1.heap.size+1:=by simp
 generalize W1.alloc (.cells #[.bool false] 4)=W2 at bk0 k2 z2
 have bk1:=bk0.set 0 (.bool true)
 have ho3:=Only.set W2 W1.heap.size 0 (.bool true)
 have z3:(W2.setCell ⟨W1.heap.size,0,none⟩ (.bool true)).heap.size=W2.heap.size:=fP _ _ _
 have e1:((na W1:Addr).add 0)=⟨W1.heap.size,0,none⟩:=by rw [fQ]
 rw [e1]
 refine ⟨bk0.ok (by simp),bU (bU ?_)⟩
 generalize W2.setCell ⟨W1.heap.size,0,none⟩ (.bool true)=W3 at bk1 ho3 z3
 have bb0:Blk (W3.alloc (.cells #[.nilFunc] 147)) W3.heap.size #[.nilFunc] 147:=Blk.new W3 _ _
 have k4:=Kept.new W3 (.cells #[.nilFunc] 147)
 have z4:(W3.alloc (.cells #[.nilFunc] 147)).heap.size=W3.heap.size+1:=by simp
 generalize W3.alloc (.cells #[.nilFunc] 147)=W4 at bb0 k4 z4
 have bb1:=bb0.set 0 (.func (.func 81) #[] #[.pointer (some (na W1)),.pointer (some (na w)),.pointer (some ⟨pv,0,none⟩),.pointer (some ⟨pm,0,none⟩),.pointer (some (na W3))])
 have ho5:=Only.set W4 W3.heap.size 0 (.func (.func 81) #[] #[.pointer (some (na W1)),.pointer (some (na w)),.pointer (some ⟨pv,0,none⟩),.pointer (some ⟨pm,0,none⟩),.pointer (some (na W3))])
 have z5:(W4.setCell ⟨W3.heap.size,0,none⟩ (.func (.func 81) #[] #[.pointer (some (na W1)),.pointer (some (na w)),.pointer (some ⟨pv,0,none⟩),.pointer (some ⟨pm,0,none⟩),.pointer (some (na W3))])).heap.size=W4.heap.size:=fP _ _ _
 have e3:((na W3:Addr).add 0)=⟨W3.heap.size,0,none⟩:=by rw [fQ]
 rw [e3]
 refine ⟨bb0.ok (by simp),bU ?_⟩
 show cV (W4.setCell ⟨W3.heap.size,0,none⟩ (.func (.func 81) #[] #[.pointer (some (na W1)),.pointer (some (na w)),.pointer (some ⟨pv,0,none⟩),.pointer (some ⟨pm,0,none⟩),.pointer (some (na W3))])) (na W3) _
 generalize W4.setCell ⟨W3.heap.size,0,none⟩ (.func (.func 81) #[] #[.pointer (some (na W1)),.pointer (some (na w)),.pointer (some ⟨pv,0,none⟩),.pointer (some ⟨pm,0,none⟩),.pointer (some (na W3))])=W5 at bb1 ho5 z5
 -- what was there stays
 have fw:From w.heap.size w W5:=by
  have f1:From w.heap.size w W2:=Kept.mod (S:=fun k=>w.heap.size≤k) (Kept.trans k1 k2)
  have f3:From w.heap.size w W3:=f1.then ho3 (fun k _ hk=>by have hk':k+1=W1.heap.size+1:=hk; omega)
  exact (f3.aF k4).then ho5 (fun k _ hk=>by have hk':k+1=W3.heap.size+1:=hk; omega)
 have kw:=From.kept fw
 have hM5:=hM.kept kw
 have bv5:=bv.keep kw
 have br5:=br.keep kw
 have bm5:=bm.keep kw
 have bt5:Blk W5 w.heap.size #[.int .i64 0,.slice none 0 0] tT':=(((bt0.keep k2).mod ho3 (fun hk=>by have hk':w.heap.size+1=W1.heap.size+1:=hk; omega)).keep k4).mod ho5 (fun hk=>by have hk':w.heap.size+1=W3.heap.size+1:=hk; omega)
 have bk5:Blk W5 W1.heap.size #[.bool true] UR:=(bk1.keep k4).mod ho5 (fun hk=>by have hk':W1.heap.size+1=W3.heap.size+1:=hk; omega)
 have bb5:Blk W5 W3.heap.size #[yB W1.heap.size w.heap.size pv pm W3.heap.size] 147:=bb1
 have hB5:From wB.heap.size wB W5:=hf.trans fw (fun _ _ h=>h) (fun k _ hk=>by have hk':w.heap.size≤k:=hk; have:=hf.size; show wB.heap.size≤k; omega)
 have hmb:=hM.map.lt
 have hpvl:=bv.lt
 have hprl:=br.lt
 have hpml:=bm.lt
 have hbs:=hf.size
 obtain ⟨FA,hFA⟩:∃ FA:Nat→Prop,FA=fun b=>F b∨(wB.heap.size≤b∧∃ cur,Blk W5 b cur tA'):=⟨_,rfl⟩
 have fa1:∀ b,F b→FA b:=fun b h=>by rw [hFA]; exact .inl h
 have keepF:∀ {α:Type} {T:Ty α} {xs:List α} {a:OA} {n c:Nat},Ls T F wB a n c xs→Ls T FA W5 a n c xs:=fun h=>(h.mod hB5 fun b hb hk=>by have:=hF b hb; have hk':wB.heap.size≤b:=hk; omega).mono fa1
 have hst:Sta W5 FA W1.heap.size w.heap.size pv pm W3.heap.size mb a1 n1 c1 vals:=by
  refine ⟨bv5,bm5,bb5,⟨FV,fun b hb=>by have:=hFV b hb; have:=hM.mB; have:=hB5.size; omega,hvs.mod hB5 fun b hb hk=>by have:=hFV b hb; have hk':wB.heap.size≤b:=hk; omega⟩,by omega,fun b hb=>?_,fun b hb=>?_⟩
  ·rw [hFA] at hb
   rcases hb with hb | ⟨_,cur,hb⟩
   ·have:=hF b hb; omega
   ·exact hb.lt
  ·rcases hb with hb | hb | hb | hb
   ·rw [hFA] at hb
    rcases hb with hb | ⟨_,cur,hb⟩
    ·have:=hF b hb; have:=hM.mB; omega
    ·exact ⟨fun e=>by subst e; exact absurd (hb.ne bk5) (by decide),fun e=>by subst e; exact absurd (hb.ne bt5) (by decide),fun e=>by subst e; exact hM5.map.kQ hb⟩
   ·exact ⟨by omega,by omega,fun e=>by subst e; subst hb; exact hM5.map.kQ bv5⟩
   ·exact ⟨by omega,by omega,fun e=>by subst e; subst hb; exact hM5.map.kQ bm5⟩
   ·exact ⟨by omega,by omega,fun e=>by subst e; subst hb; exact hM5.map.kQ bb5⟩
 have hS:(H.map Ns).map dRA=pz (gZ l):=by
  rw [← hd]
  unfold pz
  rw [List.map_map,List.map_map]
  exact List.map_congr_left fun h _=>Qp h
 have hSW:SW W5 W5 FA W1.heap.size w.heap.size mb true (pz (gZ l)) [] ⟨none,0,0⟩ 0:=by
  refine ⟨bk5,bt5,aO.nil _ _ _ _,.inl rfl,⟨(H.map Ns).map fun h=>(h.1,h.2.1),?_,?_⟩,(fun x hx=>by cases hx),Mod.refl _⟩
  ·have:=hM5.map
   rw [List.map_map]
   exact this
  ·rw [← hS]
   refine OC (fun h hh=>(hM5.row h hh).1) (fun h hh b hb=>?_) fun h hh x hx=>?_
   ·rw [hFA]
    obtain ⟨cur,hbk⟩:=Row.blk (hM5.row h hh).1 hb
    exact .inr ⟨by have:=(hM5.row h hh).2; omega,cur,hbk⟩
   ·obtain ⟨h',hh',rfl⟩:=List.mem_map.1 hh
    have hx':=(sorted_perm _ h'.2.2.1).mem_iff.1 hx
    exact keepF (hcats h' hh' x hx')
 refine Exists.intro _ ⟨by show W5.cell? ⟨W3.heap.size,0,none⟩=_; rw [bb5.cell]; rfl,?_⟩
 refine Exists.intro a1 (Exists.intro n1 (Exists.intro c1 ⟨by rw [bv5.cell]; rfl,?_⟩))
 refine S9 (E.CallsD.mono (Qd hst hn1 n1 0 n1 W5 _ [] ⟨none,0,0⟩ 0 (by omega) (by omega) (by omega) (by omega) (Fa hall) (by simp; omega) hSW) fun v u ⟨hv,N',sN',gN',hW,hN⟩=>⟨hv,?_⟩)
 have hkR:rE l vals=((eG vals n1 0 n1 (pz (gZ l)) []).1,(eG vals n1 0 n1 (pz (gZ l)) []).2.2):=by
  unfold rE
  rw [← hvl,if_pos hall]
 have bru:Blk u pr #[.int .i64 0,.slice none 0 0] tT':=br5.mod hW.fr fun hk=>by
  rcases hk with hk | hk | hk
  ·omega
  ·omega
  ·subst hk; exact hM5.map.kQ br5
 refine ⟨u.putObj pr (.deferred none),CK.hide (Mod.refl _),?_⟩
 have hbt:=hW.bt
 refine Exists.intro 0 ⟨by rw [fQ,hbt.cell]; rfl,Exists.intro sN'.a (Exists.intro sN'.n (Exists.intro sN'.c ⟨by rw [fQ,hbt.cell]; rfl,?_⟩))⟩
 refine Exists.intro (eG vals n1 0 n1 (pz (gZ l)) []).1 ⟨JV (by show u.cell? ⟨W1.heap.size,0,none⟩=_; rw [hW.bk.cell]; rfl) (show W1.heap.size≠pr by omega),?_⟩
 refine wrA (e:=tT') (b:=pr) (vs:=[.int .i64 0,sN'.v]) bru rfl fun u2 bru2 ho2=>⟨CK.hide (ho2.weak fun k _ hk=>by have hk':k+1=pr+1:=hk; show k=pr; omega),?_⟩
 refine Exists.intro 0 ⟨by rw [addr_add,bru2.cell]; rfl,Exists.intro sN'.a (Exists.intro sN'.n (Exists.intro sN'.c ⟨by rw [addr_add,bru2.cell]; rfl,?_⟩))⟩
 have hW5u:From wB.heap.size W5 u:=hW.fr.weak fun k _ hk=>by have:=hM.mB; show wB.heap.size≤k; omega
 have hfin:From wB.heap.size wB u2:=(hB5.trans hW5u (fun _ _ h=>h) (fun _ _ h=>h)).trans ho2 (fun _ _ h=>h) (fun k _ hk=>by have hk':k+1=pr+1:=hk; show wB.heap.size≤k; omega)
 refine hR u2 _ 0 _ _ _ (by rw [hkR]) (fun _=>⟨rfl,?_⟩) hfin
 rw [hkR]
 show Ls tN _ u2 sN'.a sN'.n sN'.c (eG vals n1 0 n1 (pz (gZ l)) (([]:List (ND×SH)).map fun x=>x.1)).2.2
 rw [← hN]
 have hnr:=hW.nr.mod ho2 (fA bru hW.nr (by decide))
 have hgl:=Row.le hnr
 refine aO.lsK (T:=tN) (f:=fun x:ND×SH=>x.1) (en:=enH) (k:=8) oO (by omega) rfl hnr (fun b hb => .inr ⟨by have:=hW.gB; have:=hB5.size; omega,by omega⟩) fun x hx=>⟨x.2.a,x.2.n,x.2.c,rfl,?_⟩
 have hc:=hW.ct x hx
 have hcu:LsI FA u2 x.2.a x.2.n x.2.c x.1.bH:=(hc.mod hW.fr fun b hb hk=>by have:=hst.away b (.inl hb); omega).mod ho2 fun b hb hk=>by
  have hk':b+1=pr+1:=hk
  obtain rfl:b=pr:=by omega
  rw [hFA] at hb
  rcases hb with hb | ⟨_,cur,hb⟩
  ·have:=hF b hb; omega
  ·exact absurd (hb.ne br5) (by decide)
 refine hcu.mono fun b hb=>?_
 rw [hFA] at hb
 rcases hb with hb | ⟨h1,cur,hb⟩
 ·exact .inl hb
 ·exact .inr ⟨h1,by have:=hb.lt; have:=hW.fr.size; have:=ho2.size; omega⟩
end
end Go.Mir
set_option maxRecDepth 100000
namespace Go.Mir
open Go Go.E Go.RowKit Go.Tr Go.Ss Go.ChangeShapes
section
variable {w w0 u w1 wB:World} {a a0 a1:OA} {n c n0 c0 n1 c1:Nat} {F F' S:Nat→Prop} {p q:Addr} {B mb:Nat} {H:List (Int×RA)} {l:List AD} {vals:List Int} {R:VP} {pv pr pm:Nat}
theorem LU {i:Nat} {x:AE} {r':RA} (hr':r'.2.1=(sW H x.1.frm).2.1++[x]) (hnd:(H.map (·.1)).Nodup) (h:∀ y∈H,y.2.2.1.length≤i):∀ y∈CP H x.1.frm r',y.2.2.1.length≤i+1:=fun y hy=>by
 rcases nN hnd hy with rfl | ⟨h1,_⟩
 ·show r'.2.1.length≤i+1
  rw [hr',List.length_append]
  rcases mP (H:=H) (f:=x.1.frm) with h1 | ⟨h1,_⟩
  ·have:=h _ h1
   simp at this ⊢
   exact this
  ·rw [h1]; simp
 ·have:=h y h1; omega
theorem JG {x:AE} {r':RA} (hr':r'.2.1=(sW H x.1.frm).2.1++[x]) (hnd:(H.map (·.1)).Nodup) (hx:LsI F w x.2.a x.2.n x.2.c x.1.nd.bH) (h:Ep F w H):Ep F w (CP H x.1.frm r'):=fun y hy z hz=>by
 rcases nN hnd hy with rfl | ⟨h1,_⟩
 ·have hz':z∈r'.2.1:=hz
  rw [hr',List.mem_append] at hz'
  rcases hz' with hz' | hz'
  ·rcases mP (H:=H) (f:=x.1.frm) with h1 | ⟨h1,_⟩
   ·exact h _ h1 z hz'
   ·rw [h1] at hz'; cases hz'
  ·obtain rfl:z=x:=by simpa using hz'
   exact hx
 ·exact h y h1 z hz
theorem Qz (H:List (Int×RA)):H.map (stA [])=H:=by
 have:∀ h∈H,stA [] h=h:=fun h _=>by unfold stA; rw [if_neg (by simp)]
 exact (List.map_congr_left this).trans (by simp)
theorem FM:∀ {H:List (Int×RA)} {h:Int×RA},(H.map (·.1)).Nodup→h∈H→l9 (H.map dRA) h.1=h.2.2.1.map (·.1)
 | y::H,h,hnd,hh=>by
  rw [List.map_cons]
  unfold l9
  rw [List.map_cons,List.nodup_cons] at hnd
  rcases List.mem_cons.1 hh with rfl | hh
  ·rw [if_pos rfl]
  ·rw [if_neg fun e=>hnd.1 (List.mem_map.2 ⟨h,hh,e.symm⟩)]
   exact FM hnd.2 hh
theorem Q5 (hn1:n1≤1048576) (hn0:0<n1) (hl:l.length≤1048576) {FV:Nat→Prop} (hFV:∀ b,FV b→b<wB.heap.size) (hvs:LsI FV wB a1 n1 c1 vals) (hF:∀ b,F b→b<wB.heap.size)
  (hM:I5 wB.heap.size w mb H) (hd:H.map dRA=gZ l) (hall:l.all (okA n1)=true) (hcats:Ep F wB H) (hlen:∀ h∈H,h.2.2.1.length≤1048576)
  (hf:From wB.heap.size wB w) (bv:Blk w pv #[.slice a1 n1 c1] 23) (br:Blk w pr #[.int .i64 0,.slice none 0 0] tT') (bm:Blk w pm #[.map (some mb)] 144) (hpr:wB.heap.size≤pr)
  (hR:∀ u b (o:Int) a' n' c',b=(rE l vals).1→(b=true→o=0∧Ls tN (fun b=>F b∨(wB.heap.size≤b∧b<u.heap.size)) u a' n' c' (rE l vals).2)→From wB.heap.size wB u→R (.tuple #[vT o a' n' c',.bool b]) u) :
  dm Go.Proofs.Tryz.prog (Instr.range 144 (.map (some mb))) w fun v102 u103 =>
   ∃ OQ:Addr,v102 = .pointer (some OQ)∧aQ.e33 R (some ⟨pv,0,none⟩) (some ⟨pr,0,none⟩) (some ⟨pm,0,none⟩) (some OQ) u103:=by
 refine iU.range t147 hM.map fun u hrng hku=>⟨_,rfl,(H.map kvA).length+1,?_⟩
 have hs:=hf.size
 have hG:∀ h∈H,h.2.2.1.length≤1048576∧∀ x∈h.2.2.1,0≤x.1.to∧x.1.to≤16777216:=fun h hh=>⟨hlen h hh,fun x hx=>by
  have h1:dRA h∈gZ l:=by rw [← hd]; exact List.mem_map_of_mem hh
  have h2:l9 (H.map dRA) h.1=h.2.2.1.map (·.1):=FM hM.nd hh
  obtain ⟨_,h3⟩:=rY l [] (fun f x hx=>by cases hx) hall h.1 x.1 (by show x.1∈l9 (gZ l) h.1; rw [← hd,h2]; exact List.mem_map_of_mem hx)
  have:=zx h3
  omega⟩
 refine Oe (w0:=u) (B:=wB.heap.size) hG hs hM.nd (fun v hMv hfv hbv=>?_) (H.map kvA).length u (H.map kvA) [] rfl (by rw [List.map_nil,Qz]; exact hM.kept hku) hrng (List.Perm.refl _) (From.refl _ _) (fun _ _ _ h _=>h)
 refine ML hn1 hn0 hMv hd hall hcats hF hFV hvs ((hf.aF hku).trans hfv (fun _ _ h=>h) (fun _ _ h=>h)) (hbv _ _ _ (bv.keep hku) (by decide)) (hbv _ _ _ (br.keep hku) (by decide)) (hbv _ _ _ (bm.keep hku) (by decide)) hpr hR
theorem SY (hn1:n1≤1048576) (hn0:0<n1) (hl:l.length≤1048576) (ha:Ls tA F wB a0 n0 c0 l) {FV:Nat→Prop} (hFV:∀ b,FV b→b<wB.heap.size) (hvs:LsI FV wB a1 n1 c1 vals) (hF:∀ b,F b→b<wB.heap.size) (hpv:wB.heap.size≤pv) (hpr:wB.heap.size≤pr) (hpm:wB.heap.size≤pm)
  (hR:∀ u b (o:Int) a' n' c',b=(rE l vals).1→(b=true→o=0∧Ls tN (fun b=>F b∨(wB.heap.size≤b∧b<u.heap.size)) u a' n' c' (rE l vals).2)→From wB.heap.size wB u→R (.tuple #[vT o a' n' c',.bool b]) u) :
  ∀ (k i:Nat) (w:World) (H:List (Int×RA)),i+k=n0→I5 wB.heap.size w mb H→H.map dRA=gZ (l.take i)→(l.take i).all (okA n1)=true→Ep F wB H→(∀ h∈H,h.2.2.1.length≤i) →
   From wB.heap.size wB w→Blk w pv #[.slice a1 n1 c1] 23→Blk w pr #[.int .i64 0,.slice none 0 0] tT'→Blk w pm #[.map (some mb)] 144 →
   aQ.l8 R (k+1) (some ⟨pv,0,none⟩) (some ⟨pr,0,none⟩) (some ⟨pm,0,none⟩) a0 n0 c0 n0 i w:=by
 intro k
 have hla:=ha.len
 have hlv:=hvs.len
 induction k with
 | zero =>
  intro i w H hi hM hd hall hcats hlen hf bv br bm
  obtain rfl:i=n0:=by omega
  rw [List.take_of_length_le (by omega)] at hd hall
  rw [aQ.u8]; unfold aQ.g8
  refine az (by omega) ⟨some mb,by rw [bm.cell]; rfl,?_⟩
  exact Q5 hn1 hn0 hl hFV hvs hF hM hd hall hcats (fun h hh=>by have:=hlen h hh; omega) hf bv br bm hpr hR
 | succ k ih =>
  intro i w H hi hM hd hall hcats hlen hf bv br bm
  rw [aQ.u8]; unfold aQ.g8
  refine aI (by omega) ?_
  obtain ⟨p,x,cs,rfl,hx,hFp,⟨s,e,hcB⟩,hA0⟩:=ha.elem (i:=i) (by omega)
  subst e
  have hA:=hA0.mod (S:=fun k=>wB.heap.size≤k) hf (by rw [add_block]; have:=hF _ hFp; omega)
  refine dJ ⟨by omega,by omega⟩ ?_
  have hxm:=List.mem_of_getElem? hx
  obtain ⟨hxl,hxe⟩:=List.getElem?_eq_some_iff.1 hx
  have htk:l.take (i+1)=l.take i++[x]:=by rw [List.take_add_one,hx]; rfl
  refine ⟨_,hA 0 _ rfl,_,hA 1 _ rfl,_,hA 2 _ rfl,_,hA 3 _ rfl,_,_,_,hA 4 _ rfl,_,hA 5 _ rfl,_,hA 6 _ rfl,_,hA 7 _ rfl,_,hA 8 _ rfl,_,hA 9 _ rfl,?_⟩
  refine boxS (zs:=(qY 0 0 0 0 none 0 0 0 0 0 0 0).toList) (vs:=nR (x,s)) rfl fun u hAu hbu hku=>?_
  have hf1:From wB.heap.size wB u:=hf.aF hku
  have bv1:=bv.keep hku
  have br1:=br.keep hku
  have bm1:=bm.keep hku
  have fail:∀ hno:¬ okA n1 x=true,bK (some ⟨pr,0,none⟩) fun q57 =>
   DN u q57 0 none 0 0 fun w58 =>
   bK (some ⟨pr,0,none⟩) fun q59 =>
   lK w58 q59 fun x60'0 a60'1 n60'1 c60'1 =>
   R (.tuple #[jv x60'0 a60'1 n60'1 c60'1,.bool false]) w58:=fun hno=>by
   refine wrA (e:=tT') (b:=pr) (vs:=[.int .i64 0,.slice none 0 0]) br1 rfl fun u2 br2 ho2=>?_
   refine ⟨_,by rw [addr_add,br2.cell]; rfl,_,_,_,by rw [addr_add,br2.cell]; rfl,?_⟩
   have hall':l.all (okA n1)=false:=by
    rw [List.all_eq_false]
    exact ⟨x,hxm,hno⟩
   refine hR u2 false 0 _ _ _ ?_ (fun h=>by cases h) ?_
   ·unfold rE
    rw [← hlv,if_neg (by rw [hall']; decide)]
   ·exact hf1.then ho2 fun k _ hk=>by have hk':k+1=pr+1:=hk; omega
  have hnok:∀ (h:¬ (0≤x.frm∧x.frm<x.to∧x.to<n1)),¬ okA n1 x=true:=fun h h2=>h (zx h2)
  refine ⟨_,hAu 8 _ rfl,eF (fun (h:x.frm<0)=>fail (hnok (by omega))) fun (h1:¬ x.frm<0)=>?_⟩
  refine ⟨_,hAu 9 _ rfl,_,hAu 8 _ rfl,eF (fun (h:x.to≤x.frm)=>fail (hnok (by omega))) fun (h2:¬ x.to≤x.frm)=>?_⟩
  refine ⟨_,hAu 9 _ rfl,_,_,_,by rw [bv1.cell]; rfl,eF (fun (h:x.to≥n1)=>fail (hnok (by omega))) fun (h3:¬ x.to≥n1)=>?_⟩
  have hok:okA n1 x=true:=by
   unfold okA
   simp only [Bool.and_eq_true,decide_eq_true_eq]
   omega
  have hM1:=hM.kept hku
  have hqr:((na w:Addr)).block+1≠(sW H x.frm).2.2:=by
   rcases mP (H:=H) (f:=x.frm) with h4 | ⟨h4,_⟩
   ·have:(sW H x.frm).2.2≤w.heap.size:=Row.le ((hM.row _ h4).1)
    show w.heap.size+1≠_
    omega
   ·rw [h4]; show w.heap.size+1≠0; omega
  refine UY (R:=R) (x:=(x,s)) (q:=na w) (by omega) hM1 hf1.size bm1 hAu hqr (fun h hh=>by have:=hlen h hh; omega) fun u2 r' hr' hM2 hf2 hb2=>?_
  refine ih (i+1) u2 (CP H x.frm r') (by omega) hM2 ?_ ?_ ?_ ?_ ?_ (hb2 _ _ _ bv1 (by decide)) (hb2 _ _ _ br1 (by decide)) (hb2 _ _ _ bm1 (by decide))
  ·rw [Oz H (x,s) r' hr',hd,htk]
   unfold gZ
   rw [List.foldl_append]
   rfl
  ·rw [htk,List.all_append,hall]; simpa using hok
  ·exact JG hr' hM.nd hcB hcats
  ·exact LU hr' hM.nd hlen
  ·exact hf1.trans hf2 (fun _ _ h=>h) (fun _ _ h=>h)
theorem KN (hn1:n1≤1048576) (hn0:0<n1) (hl:l.length≤1048576) (ha:Ls tA F w a0 n0 c0 l) {FV:Nat→Prop} (hFV:∀ b,FV b→b<w.heap.size) (hvs:LsI FV w a1 n1 c1 vals) (hF:∀ b,F b→b<w.heap.size) :
  E.CallsD Go.Proofs.Tryz.prog 59 #[.slice a0 n0 c0,.slice a1 n1 c1] w fun v u=>∃ (b:Bool) (o:Int) (a':OA) (n' c':Nat),v = .tuple #[vT o a' n' c',.bool b]∧b=(rE l vals).1∧(b=true→o=0∧Ls tN (fun b=>F b∨(w.heap.size≤b∧b<u.heap.size)) u a' n' c' (rE l vals).2)∧From w.heap.size w u:=by
 refine aQ.calls (R:=fun v u=>∃ (b:Bool) (o:Int) (a':OA) (n' c':Nat),v = .tuple #[vT o a' n' c',.bool b]∧b=(rE l vals).1∧(b=true→o=0∧Ls tN (fun b=>F b∨(w.heap.size≤b∧b<u.heap.size)) u a' n' c' (rE l vals).2)∧From w.heap.size w u) ?_
 unfold aQ aQ.g0
 refine bU (bU (bU (bU ?_)))
 have bv0:Blk (w.alloc (.cells #[.slice a1 n1 c1] 23)) w.heap.size #[.slice a1 n1 c1] 23:=Blk.new w _ _
 have k1:=Kept.new w (.cells #[.slice a1 n1 c1] 23)
 have z1:(w.alloc (.cells #[.slice a1 n1 c1] 23)).heap.size=w.heap.size+1:=by simp
 generalize w.alloc (.cells #[.slice a1 n1 c1] 23)=W1 at bv0 k1 z1
 have br0:Blk (W1.alloc (.cells (lg 0 none 0 0) 50)) W1.heap.size #[.int .i64 0,.slice none 0 0] tT':=Blk.new W1 _ _
 have k2:=Kept.new W1 (.cells (lg 0 none 0 0) 50)
 have z2:(W1.alloc (.cells (lg 0 none 0 0) 50)).heap.size=W1.heap.size+1:=by simp
 generalize W1.alloc (.cells (lg 0 none 0 0) 50)=W2 at br0 k2 z2
 have hM0:=MOK.nil (B:=w.heap.size) tA' W2 (by omega)
 have k3:=Kept.new W2 (.map #[] 0)
 have z3:(W2.alloc (.map #[] 0)).heap.size=W2.heap.size+1:=by simp
 generalize W2.alloc (.map #[] 0)=W3 at hM0 k3 z3
 have bm0:Blk (W3.alloc (.cells #[.map none] 144)) W3.heap.size #[.map none] 144:=Blk.new W3 _ _
 have k4:=Kept.new W3 (.cells #[.map none] 144)
 generalize W3.alloc (.cells #[.map none] 144)=W4 at bm0 k4
 have bm1:=bm0.set 0 (.map (some W2.heap.size))
 have ho5:=Only.set W4 W3.heap.size 0 (.map (some W2.heap.size))
 have e1:((na W3:Addr).add 0)=⟨W3.heap.size,0,none⟩:=by rw [fQ]
 rw [e1]
 refine ⟨bm0.ok (by simp),bU ?_⟩
 generalize W4.setCell ⟨W3.heap.size,0,none⟩ (.map (some W2.heap.size))=W5 at bm1 ho5
 have f4:From w.heap.size w W4:=Kept.mod (S:=fun k=>w.heap.size≤k) (Kept.trans (Kept.trans (Kept.trans k1 k2) k3) k4)
 have f5:From w.heap.size w W5:=f4.then ho5 (fun k _ hk=>by have hk':k+1=W3.heap.size+1:=hk; omega)
 have ne5:∀ {b:Nat},b<W3.heap.size→¬ (b+1=W3.heap.size+1):=fun h=>by omega
 have hla:=ha.len
 refine ⟨n0+1,SY (wB:=w) (l:=l) (vals:=vals) hn1 hn0 hl ha hFV hvs hF (Nat.le_refl _) (by omega) (by omega) (fun u b o a' n' c' h1 h2 h3=>⟨b,o,a',n',c',rfl,h1,h2,h3⟩) n0 0 W5 [] (by omega) ?_ rfl rfl (fun _ h=>by cases h) (fun _ h=>by cases h) f5 ?_ ?_ bm1⟩
 ·have h:=hM0.kept k4
  exact ⟨h.map.mod ho5 (ne5 (by omega)),h.mB,(fun _ h=>by cases h),(fun _ h=>by cases h),List.nodup_nil⟩
 ·exact (((bv0.keep k2).keep k3).keep k4).mod ho5 (ne5 (by omega))
 ·exact ((br0.keep k3).keep k4).mod ho5 (ne5 (by omega))
end
end Go.Mir
set_option maxRecDepth 100000
namespace Go.Mir
open Go Go.E Go.RowKit Go.Tr Go.Ss Go.ChangeShapes
structure KC where
 (tree frm to feature:Int)
 deriving DecidableEq
def wH (x:KC):Value:=Gg x.tree x.frm x.to x.feature
theorem Wi : (Go.Proofs.Tryz.prog).fieldsOf 111 = #[⟨"tree", 3, 0, false, "", "thicket/blocks", 0⟩, ⟨"from", 3, 1, false, "", "thicket/blocks", 8⟩, ⟨"to", 3, 2, false, "", "thicket/blocks", 16⟩, ⟨"feature", 3, 3, false, "", "thicket/blocks", 24⟩] := by kernel_rfl
theorem VW:(Go.Proofs.Tryz.prog).underlying 111=some (.struct ((Go.Proofs.Tryz.prog).fieldsOf 111)):=by kernel_rfl
theorem Xn:(Go.Proofs.Tryz.prog).stoodInHeld 111=false:=by kernel_rfl
theorem WI:(Go.Proofs.Tryz.prog).underlying 3=some (.int .i64):=by kernel_rfl
theorem Um:(Go.Proofs.Tryz.prog).plainKey 3=true:=by kernel_rfl
theorem Qb:LP Go.Proofs.Tryz.prog 111 wH:=by
 refine Io (by rw [VW]) (fun x y h=>?_) (fun e x w=>?_) (fun x y w=>?_) fun x=>?_
 ·unfold wH at h
  cases x; cases y; cases h; rfl
 ·have pt:∀ (i:Nat) (v:Value) (w:World),#[Value.int .i64 x.tree,.int .i64 x.frm,.int .i64 x.to,.int .i64 x.feature][i]?=some v→(part 3 #[Value.int .i64 x.tree,.int .i64 x.frm,.int .i64 x.to,.int .i64 x.feature] i).run Go.Proofs.Tryz.prog w = .ok v w:=fun i v w h=>run_part_plain w Um h
  have ck:∀ (z:Int) (w:World) (n:Nat),(Instr.checkKey e (n+1) 3 (.int .i64 z)).run Go.Proofs.Tryz.prog w = .ok () w:=fun z w n=>by simp [Instr.checkKey,run_underlying WI]
  show (Instr.checkKey e (9999+1) _ (.agg #[Value.int .i64 x.tree,.int .i64 x.frm,.int .i64 x.to,.int .i64 x.feature])).run Go.Proofs.Tryz.prog w=_
  unfold Instr.checkKey
  simp only [Sem.run_bind,run_underlying VW,Result.andThen_ok,Wi]
  rw [← Array.forIn_toList]
  simp only [List.forIn_cons,List.forIn_nil,ne_eq,String.reduceEq,not_false_eq_true,if_true,Sem.run_bind,Sem.run_pure,Result.andThen_ok,pt 0 (.int .i64 x.tree) _ rfl,pt 1 (.int .i64 x.frm) _ rfl,pt 2 (.int .i64 x.to) _ rfl,pt 3 (.int .i64 x.feature) _ rfl,ck _ _ 9998]
 ·have pt:∀ (z:KC) (i:Nat) (v:Value) (w:World),#[Value.int .i64 z.tree,.int .i64 z.frm,.int .i64 z.to,.int .i64 z.feature][i]?=some v→(part 3 #[Value.int .i64 z.tree,.int .i64 z.frm,.int .i64 z.to,.int .i64 z.feature] i).run Go.Proofs.Tryz.prog w = .ok v w:=fun z i v w h=>run_part_plain w Um h
  have eq:∀ (a b:Int) (w:World) (n:Nat),(Op.equalIn (n+1) 3 (.int .i64 a) (.int .i64 b)).run Go.Proofs.Tryz.prog w = .ok (a==b) w:=fun a b w n=>run_equalIn_int w n _ .i64 .i64 a b WI
  unfold wH
  show (Op.equalIn (9999+1) _ (.agg _) (.agg _)).run Go.Proofs.Tryz.prog w=_
  rw [run_equalIn_struct w 9999 _ _ _ VW Xn,Wi]
  simp only [Op.eqFields,ne_eq,String.reduceEq,not_false_eq_true,if_true,Sem.run_bind,Sem.run_ite,Sem.run_pure,pt x 0 (.int .i64 x.tree) _ rfl,pt x 1 (.int .i64 x.frm) _ rfl,pt x 2 (.int .i64 x.to) _ rfl,pt x 3 (.int .i64 x.feature) _ rfl,pt y 0 (.int .i64 y.tree) _ rfl,pt y 1 (.int .i64 y.frm) _ rfl,pt y 2 (.int .i64 y.to) _ rfl,pt y 3 (.int .i64 y.feature) _ rfl,Result.andThen_ok,eq _ _ _ 9998]
  obtain ⟨a1,a2,a3,a4⟩:=x
  obtain ⟨b1,b2,b3,b4⟩:=y
  by_cases h1:a1=b1
  ·by_cases h2:a2=b2
   ·by_cases h3:a3=b3
    ·by_cases h4:a4=b4
     ·simp [h1,h2,h3,h4]
     ·simp [h1,h2,h3,h4]
    ·simp [h1,h2,h3]
   ·simp [h1,h2]
  ·simp [h1]
 ·show Instr.sameBits (9999+1) (.agg #[Value.int .i64 x.tree,.int .i64 x.frm,.int .i64 x.to,.int .i64 x.feature]) (.agg _)=true
  simp [Instr.sameBits]
end Go.Mir
set_option maxRecDepth 100000
namespace Go.Mir
open Go Go.E Go.RowKit Go.Tr Go.Ss Go.ChangeShapes
def Dj (f:Int) (c:dF):KC:=⟨c.tree,c.frm,c.to,f⟩
def Cnt (f:Int) (l:List dF) (L:List (KC×Value)):Prop:=∀ k,(lh L k).getD (.int .i64 0) = .int .i64 (l.countP (fun c=>decide (Dj f c=k)):Nat)
section
variable {w w0 u w1 wB:World} {a a0 a1:OA} {n c n0 c0 n1 c1:Nat} {F F' S:Nat→Prop} {p q:Addr} {B mb:Nat} {L:List (KC×Value)} {f:Int} {l:List dF} {R:VP}
theorem t120:(Go.Proofs.Tryz.prog).underlying 109=some (.map 111 3):=by kernel_rfl
theorem zI (w:World):(zeroValue 3).run Go.Proofs.Tryz.prog w = .ok (.int .i64 0) w:=by kernel_rfl
theorem Cnt.nil (f:Int):Cnt f [] []:=fun k=>rfl
theorem Cnt.touch (h:Cnt f l L) (k:KC):Cnt f l (oP L k ((lh L k).getD (.int .i64 0))):=fun y=>by
 rw [zY]
 split
 ·rename_i e; subst e; exact h y
 ·exact h y
theorem Cnt.add (h:Cnt f l L) (c:dF):Cnt f (l++[c]) (oP L (Dj f c) (.int .i64 ((l.countP (fun x=>decide (Dj f x=Dj f c))+1:Nat):Int))):=fun y=>by
 rw [zY,List.countP_append]
 split
 ·rename_i e; subst e
  simp
 ·rename_i e
  rw [h y]
  simp [Ne.symm e]
theorem Tz {en:KC→Value} (h:iU en w mb L) (ho:Only (mb+1) w u):CK w u:=by
 intro ad v hc
 by_cases hb:ad.block=mb
 ·exfalso
  obtain ⟨es,c,h1,_⟩:=h
  unfold World.cell? at hc
  rw [hb,h1] at hc
  cases hc
 ·exact ho.cell (fun hk=>hb (by have hk':ad.block+1=mb+1:=hk; omega)) hc
theorem MR {b16:ay.T16} {p1 a4 a41 a49:OA} {n4 c4 n41 c41 n49 c49 kL:Nat} {x42 x43:Int} {ls:ed} {s1 s2 s3:SH} (hls:Ls tC F wB a49 n49 c49 l) (hF:∀ b,F b→b<wB.heap.size) (hsm:l.length≤1073741824) (hB:wB.heap.size≤w0.heap.size) (hmb:wB.heap.size≤mb) (hb0:From wB.heap.size wB w0)
  (hnb:kL≠mb) (hbox:Blk w0 kL (enL ls s1 s2 s3).toArray 74)
  (hk:∀ u L,Cnt ls.feature l L→iU wH u mb L→Mod (fun k=>k=mb∨w0.heap.size≤k) w0 u →
   bK (some (⟨kL,0,none⟩:Addr)) fun q122 =>
   cL u (q122.add 1) fun a123' n123' c123' =>
   bK (some (⟨kL,0,none⟩:Addr)) fun q124 =>
   cL u (q124.add 2) fun a125' n125' c125' =>
   nw (u.alloc (.cells #[.slice a123' n123' c123',.slice a125' n125' c125'] 72)) fun w126 =>
   ay.e49 R b16 p1 a4 n4 c4 (some ⟨kL,0,none⟩) (some mb) a41 n41 c41 x42 x43 (some (na u)) 2 2 2 0 w126) :
  ∀ (k i:Nat) (w:World) (L:List (KC×Value)),i+k=n49→Cnt ls.feature (l.take i) L→iU wH w mb L→Mod (fun k=>k=mb∨w0.heap.size≤k) w0 w →
   ay.l33 R b16 (k+1) p1 a4 n4 c4 (some ⟨kL,0,none⟩) (some mb) a41 n41 c41 x42 x43 a49 n49 c49 n49 i w:=by
 intro k
 have hll:=hls.len
 induction k with
 | zero =>
  intro i w L hi hC hM hm
  obtain rfl:i=n49:=by omega
  rw [List.take_of_length_le (by omega)] at hC
  unfold ay.l33 ay.g33
  exact az (by omega) (hk w L hC hM hm)
 | succ k ih =>
  intro i w L hi hC hM hm
  unfold ay.l33 ay.g33
  refine aI (by omega) ?_
  have hfw:From wB.heap.size wB w:=hb0.trans hm (fun _ _ h=>h) (fun k _ h=>by rcases h with rfl | h; exact hmb; show wB.heap.size≤k; omega)
  obtain ⟨p,x,cs,rfl,hx,hFp,⟨s,e,hcB⟩,hA0⟩:=hls.elem (i:=i) (by omega)
  subst e
  have hA:=hA0.mod (S:=fun k=>wB.heap.size≤k) hfw (by rw [add_block]; have:=hF _ hFp; omega)
  obtain ⟨hxl,hxe⟩:=List.getElem?_eq_some_iff.1 hx
  have htk:l.take (i+1)=l.take i++[x]:=by rw [List.take_add_one,hx]; rfl
  refine dJ ⟨by omega,by omega⟩ (AtL.ldC hA ?_)
  refine boxS (zs:=(oG 0 none 0 0 0 0 0).toList) (vs:=enC x s) rfl fun w96 hAu hbu hku=>?_
  have hM96:=hM.kept hku
  have hm96:Mod (fun k=>k=mb∨w0.heap.size≤k) w0 w96:=hm.trans (Kept.mod (S:=fun _=>False) hku) (fun _ _ h=>h) (fun _ _ h=>h.elim)
  have hbox96:Blk w96 kL (enL ls s1 s2 s3).toArray 74:=hbox.mod hm96 (fun h=>by rcases h with h | h; exact hnb h; have:=hbox.lt; omega)
  have hk0:lh L (Dj ls.feature x)=lh L (Dj ls.feature x):=rfl
  obtain ⟨key,hkey⟩:∃ key,key=Dj ls.feature x:=⟨_,rfl⟩
  obtain ⟨L',hL'⟩:∃ L',L'=oP L key ((lh L key).getD (.int .i64 0)):=⟨_,rfl⟩
  have hC':Cnt ls.feature (l.take i) L':=by rw [hL']; exact hC.touch key
  obtain ⟨cn,hcn⟩:∃ cn:Nat,cn=(l.take i).countP (fun c=>decide (Dj ls.feature c=key)):=⟨_,rfl⟩
  have hcl:cn≤i:=by
   rw [hcn]
   refine Nat.le_trans List.countP_le_length ?_
   rw [List.length_take]; omega
  have hL'':oP L' key ((lh L' key).getD (.int .i64 0))=L':=by
   have hh:lh L' key=some ((lh L key).getD (.int .i64 0)):=by rw [hL',zY,if_pos rfl]
   exact AV (by rw [hh]; rfl)
  refine ⟨w96,fun u=>Only (mb+1) w96 u∧(iU wH u mb L∨iU wH u mb L'),fun u u'=>Only (mb+1) u u'∧((iU wH u mb L∨iU wH u mb L')→(iU wH u' mb L∨iU wH u' mb L'))∧(∀ s,CO wH u mb L' key s→CO wH u' mb L' key s),
   fun i v u=>match i with
    | 10=>v = .int .i64 cn
    | 12=>∃ v0 s,v = .tuple #[v0,.int .i64 s]∧CO wH u mb L' key s
    | _=>True,⟨fun u hu=>Tz hM96 hu.1,⟨Mod.refl _,.inl hM96⟩,fun u d=>?_,fun u u' u'' h k=>⟨h.1.trans k.1 (fun _ _ h=>h) (fun _ _ h=>h),fun x=>k.2.1 (h.2.1 x),fun s x=>k.2.2 s (h.2.2 s x)⟩,fun u u' hu h=>⟨hu.1.trans h.1 (fun _ _ h=>h) (fun _ _ h=>h),h.2.1 hu.2⟩,fun i v u u' hu h k=>?_⟩,?_⟩
  ·have hk:=(lZ (Below.refl u.heap.size u):Below u.heap.size u (dr u d))
   exact ⟨Kept.mod hk,fun h=>by rcases h with h | h; exact .inl (h.kept hk); exact .inr (h.kept hk),fun s h=>h.mod (S:=fun _=>False) (Kept.mod hk) (fun h=>h)⟩
  ·revert h
   show (match i with
    | 10=>v = .int .i64 cn
    | 12=>∃ v0 s,v = .tuple #[v0,.int .i64 s]∧CO wH u mb L' key s
    | _=>True)→(match i with
    | 10=>v = .int .i64 cn
    | 12=>∃ v0 s,v = .tuple #[v0,.int .i64 s]∧CO wH u' mb L' key s
    | _=>True)
   intro h
   split at h
   ·exact h
   ·obtain ⟨v0,s,e1,e2⟩:=h
    exact ⟨v0,s,e1,k.2.2 s e2⟩
   ·trivial
  ·refine ⟨_,hAu 2 _ rfl,_,hAu 3 _ rfl,_,hAu 4 _ rfl,?_⟩
   refine ⟨_,by rw [addr_add,hbox96.cell]; rfl,fun u hu=>?_,?_⟩
   ·show dm Go.Proofs.Tryz.prog (Instr.lookup 109 (.map (some mb)) (wH (Dj ls.feature x)) false) u _
    rw [← hkey]
    rcases hu.2 with hMu | hMu
    ·refine iU.lookup Qb t120 zI hMu ⟨cn,by rw [hC key,hcn],rfl,Mod.refl _,fun h=>h,fun s h=>h⟩
    ·refine iU.lookup Qb t120 zI hMu ⟨cn,by rw [hC' key,hcn],rfl,Mod.refl _,fun h=>h,fun s h=>h⟩
   ·rintro x10 ⟨_,_,h10⟩
    have h10':Value.int .i64 x10 = .int .i64 cn:=h10
    cases h10'
    refine aA (by omega) ⟨fun u hu=>?_,fun v0 s _ u hu _ h12=>?_⟩
    ·show dm Go.Proofs.Tryz.prog (Instr.mapEntry 109 (.map (some mb)) (wH (Dj ls.feature x))) u _
     rw [← hkey]
     rcases hu.2 with hMu | hMu
     ·refine iU.OB Qb t120 zI hMu fun u' s hS ho hh=>⟨_,s,rfl,⟨_,s,rfl,by rw [hL']; exact hS⟩,ho,fun _ => .inr (by rw [hL']; exact hS.map),fun s' h'=>?_⟩
      obtain rfl:=iU.uniq (fun a b h=>Qb.inj a b h) hMu h'.map
      rw [hL''] at hh
      exact hh s' h'
     ·refine iU.OB Qb t120 zI hMu fun u' s hS ho hh=>?_
      rw [hL''] at hS hh
      exact ⟨_,s,rfl,⟨_,s,rfl,hS⟩,ho,fun _ => .inr hS.map,hh⟩
    ·obtain ⟨v1,s1',e1,hS⟩:=h12
     cases e1
     refine CO.store Qb hS fun u' hMu' ho'=>?_
     refine aA (by omega) (ih (i+1) u' _ (by omega) ?_ hMu' ?_)
     ·rw [htk,hkey,hcn,hkey] at *
      exact hC'.add x
     ·exact (hm96.trans hu.1 (fun _ _ h=>h) (fun k _ h => .inl (by have h':k+1=mb+1:=h; omega))).trans ho' (fun _ _ h=>h) (fun k _ h => .inl (by have h':k+1=mb+1:=h; omega))
end
end Go.Mir
set_option maxRecDepth 100000
namespace Go.Mir
open Go Go.E Go.RowKit Go.Tr Go.Ss Go.ChangeShapes
abbrev tSA:Nat:=113
def Nd (w:World) (k:Nat):Prop:=∃ cur e,Blk w k cur e∧(e=tA'∨e=tSA)
def Fr (B:Nat) (w u:World):Prop:=Mod (fun k=>B≤k∧Nd w k) w u
section
variable {w w0 u w1 wB x:World} {a a0 a1 a4:OA} {n c n0 c0 n1 c1 n4 c4 g:Nat} {F F' S:Nat→Prop} {p q:Addr} {B mb:Nat} {L:List (KC×Value)} {f:Int} {l:List dF} {R:VP} {rows:List RA}
theorem Fr.refl (B:Nat) (w:World):Fr B w w:=Mod.refl _
theorem Fr.of (h:Kept w u):Fr B w u:=Kept.mod h
theorem Fr.from (h:Fr B w u):From B w u:=h.weak fun k _ hk=>hk.1
theorem Fr.blk {b:Nat} {cs:Array Value} {e:Nat} (h:Fr B w u) (hb:Blk w b cs e) (h1:e≠tA') (h2:e≠tSA):Blk u b cs e:=hb.mod h fun hk=>by
 obtain ⟨_,cur,e',hb',he⟩:=hk
 have:=hb.ne hb'
 rcases he with rfl | rfl
 ·exact h1 this
 ·exact h2 this
theorem Fr.map {κ:Type} [DecidableEq κ] {en:κ→Value} {L:List (κ×Value)} (h:Fr B w u) (hm:iU en w mb L):iU en u mb L:=hm.mod h fun hk=>by
 obtain ⟨_,cur,e',hb',_⟩:=hk
 exact hm.kQ hb'
theorem Fr.trans (h:Fr B w u) (k:Fr B u x):Fr B w x:=Mod.trans h k (fun _ _ h=>h) fun b hb hk=>by
 obtain ⟨h1,cur,e,h2,h3⟩:=hk
 refine Classical.byContradiction fun hn=>hn ⟨h1,cur,e,?_,h3⟩
 have:=h.block b hb hn
 unfold Blk at h2 ⊢
 rw [← this]; exact h2
theorem Fr.only (hg:∀ k,k+1=g→B≤k∧Nd w k) (h:Only g w u):Fr B w u:=h.weak fun k _ hk=>hg k hk
abbrev QC (B:Nat) (w:World):Nat→Prop:=fun b=>B≤b∧∃ cur,Blk w b cur tI'
theorem Fr.bH {xs:List Int} (h:Fr B w u) (hc:LsI (QC B w) w a n c xs):LsI (QC B u) u a n c xs :=
 (hc.mod h fun b hb hk=>by
  obtain ⟨_,cur,hb⟩:=hb
  obtain ⟨_,cur',e',hb',he⟩:=hk
  have:=hb.ne hb'
  rcases he with rfl | rfl
  ·exact absurd this (by decide)
  ·exact absurd this (by decide)).mono fun b ⟨h1,cur,h2⟩=>⟨h1,cur,h.blk h2 (by decide) (by decide)⟩
structure kH (B:Nat) (w:World) (a:OA) (n c g:Nat) (rows:List RA):Prop where
 own:Cj 10 nR tSA tA' B w a n c rows g
 ct:∀ r∈rows,∀ x∈r.2.1,LsI (QC B w) w x.2.a x.2.n x.2.c x.1.nd.bH
theorem kH.kept (h:kH B w a n c g rows) (hk:Kept w u):kH B u a n c g rows:=⟨h.own.kept hk,fun r hr x hx=>(Fr.of hk).bH (h.ct r hr x hx)⟩
theorem kH.row (h:kH B w a n c g rows) {r:RA} (hr:r∈rows) {k:Nat} (hk:k+1=r.2.2):B≤k∧Nd w k:=by
 obtain ⟨cur,hb⟩:=Row.blk (h.own.row r hr).1 hk
 exact ⟨by have:=(h.own.row r hr).2; omega,cur,tA',hb,.inl rfl⟩
theorem kH.outer (h:kH B w a n c g rows) {k:Nat} (hk:k+1=g):B≤k∧Nd w k:=by
 obtain ⟨cur,hb⟩:=Row.blk h.own.out hk
 exact ⟨by have:=h.own.fr; omega,cur,tSA,hb,.inr rfl⟩
def UC (a4:OA) (n4:Nat) (pb q147:Addr) (K:World→Prop) (u157:World):Prop :=
 ∃ wm175:World,CK wm175 u157 ∧
  (cI wm175 (pb.add 2) .i64 fun x176' =>
  cI wm175 (pb.add 2) .i64 fun x177' =>
  ix a4 n4 x177' fun q178 =>
  cL wm175 (q178.add (x177'.toNat*1)) fun a179' n179' c179' =>
  lU wm175 q147 fun x180'0 x180'1 x180'2 z180'3 a180'4 n180'4 c180'4 x180'5 x180'6 x180'7 =>
  cI wm175 (pb.add 3) .i64 fun x181' =>
  cI wm175 (pb.add 4) .i64 fun x182' =>
  nw (u157.alloc (.cells (qY x180'0 x180'1 x180'2 z180'3 a180'4 n180'4 c180'4 x180'5 x180'6 x180'7 x181' x182') 115)) fun w183 =>
  CK wm175 w183 ∧
   (dm Go.Proofs.Tryz.prog (Builtin.append_ #[113,113] 113 #[.slice a179' n179' c179',.slice (some (na u157)) 1 1]) w183 fun v184 u185 =>
    ∃ a186' n186' c186',v184 = .slice a186' n186' c186' ∧
     (CK wm175 u185 ∧
      (ix a4 n4 x176' fun q187 =>
      st u185 ((q187.add (x176'.toNat*1)).add 0) (.slice a186' n186' c186') K))))
theorem P6 {K:World→Prop} {nd:ND} {s sc:SH} {ct:dF} {t:Nat} (hW:kH B w a4 n4 c4 g rows) (hB:B≤w.heap.size) (ht:t<rows.length) (htt:ct.tree=t) (hlen:∀ r∈rows,r.2.1.length≤549755813888) (hp:AtL w p (enC ct sc)) (hpb:¬ Nd w p.block) (hq:AtL w q (enH (nd,s))) (hqb:¬ Nd w q.block) (hcs:LsI (QC B w) w s.a s.n s.c nd.bH)
  (hk:∀ u r r',rows[t]?=some r→r'.2.1=r.2.1++[(⟨nd,ct.frm,ct.to⟩,s)]→kH B u a4 n4 c4 g (rows.set t r')→Fr B w u→K u):UC a4 n4 p q K w:=by
 obtain ⟨r,hr⟩:∃ r,rows[t]?=some r:=⟨_,List.getElem?_eq_getElem ht⟩
 have hrm:=List.mem_of_getElem? hr
 obtain ⟨hrow,hrB⟩:=hW.own.row r hrm
 have hn4:=hW.own.len
 have hle:=Row.le hrow
 have hn:=aO.len mJ (by omega) hrow
 have hrl:=hlen r hrm
 have rd:∀ {y:Addr} {v:Value},y.block+1≠r.2.2→w.cell? y=some v→(rO r.1.a w).cell? y=some v:=fun h1 h2=>zT hrow h1 h2
 have hpr:p.block+1≠r.2.2:=fun h=>hpb (hW.row hrm h).2
 have hqr:q.block+1≠r.2.2:=fun h=>hqb (hW.row hrm h).2
 have hpc:AtL (rO r.1.a w) p (enC ct sc):=fun j v hj=>rd (by rw [add_block]; exact hpr) (hp j v hj)
 have hqc:AtL (rO r.1.a w) q (enH (nd,s)):=fun j v hj=>rd (by rw [add_block]; exact hqr) (hq j v hj)
 have hgr:=hW.own.rne (by decide) hrm
 have hsl:=hW.own.out.sl
 obtain ⟨p4,hp4,hc4⟩:=hsl.get t r hr
 have hgp:p4.block+1=g:=by
  rcases hW.own.out.2 with ⟨_,h2,_⟩ | ⟨b,cur,h1,h2,_⟩
  ·rw [hp4] at h2; cases h2
  ·rw [hp4] at h2; cases h2; exact h1.symm
 unfold UC
 refine ⟨rO r.1.a w,tu hrow (Mod.refl _),_,hpc 2 _ rfl,_,hpc 2 _ rfl,?_⟩
 rw [htt]
 subst hp4
 refine dJ ⟨by omega,by omega⟩ ⟨r.1.a,r.1.n,r.1.c,?_,?_⟩
 ·rw [Int.toNat_natCast,Nat.mul_one]
  exact rd (by rw [add_block]; omega) hc4
 refine ⟨_,hqc 0 _ rfl,_,hqc 1 _ rfl,_,hqc 2 _ rfl,_,hqc 3 _ rfl,_,_,_,hqc 4 _ rfl,_,hqc 5 _ rfl,_,hqc 6 _ rfl,_,hqc 7 _ rfl,_,hpc 3 _ rfl,_,hpc 4 _ rfl,?_⟩
 have hkn:=Kept.new w (.cells (nR (⟨nd,ct.frm,ct.to⟩,s)).toArray 115)
 have hAn:=AtL.new w (nR (⟨nd,ct.frm,ct.to⟩,s)) tA'
 show nw (w.alloc (.cells (nR (⟨nd,ct.frm,ct.to⟩,s)).toArray 115)) _
 refine bU ?_
 generalize w.alloc (.cells (nR (⟨nd,ct.frm,ct.to⟩,s)).toArray 115)=w2 at hkn hAn
 have hz2:=hkn.size
 have hcA:CK (rO r.1.a w) w2:=tu hrow (Kept.mod hkn)
 refine ⟨hcA,?_⟩
 have hrow2:=hrow.kept hkn
 refine Ce WM (by omega) hrow2 (news:=nR (⟨nd,ct.frm,ct.to⟩,s)) (m:=1) rfl (fun j v hj=>⟨_,rfl,hAn j v hj⟩) (fun h=>by cases h) (zG _) (by simp only [maxLen]; omega) (by omega) fun a' c' g' u2 hrow3 hg' ho=>⟨_,_,_,rfl,?_,?_⟩
 ·exact tu hrow ((Kept.mod (S:=fun k=>k+1=r.2.2) hkn).trans ho (fun _ _ h=>h) (fun _ _ h=>h))
 have hm1:Only r.2.2 w u2:=(Kept.mod (S:=fun k=>k+1=r.2.2) hkn).trans ho (fun _ _ h=>h) (fun _ _ h=>h)
 refine hW.own.putRow (by decide) (j:=(t:Int)) (t:=r) (t':=(⟨a',r.1.n+1,c'⟩,r.2.1++[(⟨nd,ct.frm,ct.to⟩,s)],g')) (by rw [Int.toNat_natCast]; exact hr) hm1 ?_ ?_ hB (by omega) (by omega) fun x hx hox=>?_
 ·show aO 10 nR tA' u2 a' (r.1.n+1) c' (r.2.1++[(⟨nd,ct.frm,ct.to⟩,s)]) g'
  unfold aO
  rw [List.flatMap_append]
  simpa using hrow3
 ·rcases hg' with h | h
  ·exact .inl h.1
  ·exact .inr (by show w.heap.size<g'; omega)
 ·rw [Int.toNat_natCast] at hx
  have f1:Fr B w u2:=Fr.only (fun k hk=>hW.row hrm hk) hm1
  have f2:Fr B u2 x:=Fr.only (fun k hk=>by
   obtain ⟨h1,_⟩:=hW.outer hk
   obtain ⟨cur',h4⟩:=Row.blk hW.own.out hk
   exact ⟨h1,cur',tSA,h4.mod hm1 (fun hS=>by have hS':k+1=r.2.2:=hS; omega),.inr rfl⟩) hox
  have f3:=f1.trans f2
  refine hk x r _ hr rfl ⟨hx,fun y hy z hz=>?_⟩ f3
  rcases mem_set hy with rfl | ⟨j,_,hj⟩
  ·rcases List.mem_append.1 hz with hz | hz
   ·exact f3.bH (hW.ct r hrm z hz)
   ·obtain rfl:z=(⟨nd,ct.frm,ct.to⟩,s):=by simpa using hz
    exact f3.bH hcs
  ·exact f3.bH (hW.ct y (List.mem_of_getElem? hj) z hz)
end
end Go.Mir
