/- Part of a proof of laws of the seat YtmjlipmapfofmaaGreat: functions' weakest preconditions, each checked by the kernel, contracts out of them, plain lemmas; no conditions. -/
import Derived.Test.YtmjlipmapfofmaaGreatF73
set_option linter.unusedVariables false
set_option linter.unusedSimpArgs false
set_option linter.unusedSectionVars false
set_option maxRecDepth 100000
namespace Go.Mir
open Go Go.E Go.RowKit Go.Tr Go.Ss Go.ChangeShapes
section
variable {w u w1:World} {a a1:OA} {n c n1 c1:Nat} {F F' S:Nat→Prop} {p q:Addr} {B pb:Nat} {e:ED} {f b t:SH} {rs:List (Int×Int)} {s1 s2 s3 s4:SH} {x:lD}
def FBr (w:World) (X:lD):Nat→Value→World→Prop:=fun i v u=>match i with
 | 14=>FBk w X 13 v u
 | 15=>FBk w X 14 v u
 | _=>True
theorem FBr.keep {X:lD} (i:Nat) (v:Value) (u u':World) (h:FBr w X i v u) (hk:Below u.heap.size u u'):FBr w X i v u':=by
 unfold FBr at h ⊢
 split at h
 ·exact FBk.keep _ v u u' h hk
 ·exact FBk.keep _ v u u' h hk
 ·trivial
def uz (n:Int):List (Int×Int)→Int→Bool
 | [],at_=>decide (at_=n)
 | r::rs,at_=>decide (r.1=at_)&&decide (r.1<r.2)&&uz n rs r.2
theorem EM {n:Int}:∀ {rs:List (Int×Int)} {at_:Int},uz n rs at_=true→at_≤n
 | [],at_,h=>by unfold uz at h; simp at h; omega
 | x::rs,at_,h=>by
  unfold uz at h
  simp only [Bool.and_eq_true,decide_eq_true_eq] at h
  have:=EM h.2
  omega
theorem zH {n:Int}:∀ (rs:List (Int×Int)) (at_:Int),uz n rs at_=iL n rs at_
 | [],at_=>rfl
 | x::rs,at_=>by
  unfold uz iL
  rw [← zH rs]
  cases h:uz n rs x.2 with
  | false=>simp
  | true=>have:=EM h; simp [this]
theorem Hw {n:Int} {rs:List (Int×Int)} {i:Nat} {x:Int×Int} {at_:Int} (hx:rs[i]?=some x):uz n (rs.drop i) at_=(decide (x.1=at_)&&decide (x.1<x.2)&&uz n (rs.drop (i+1)) x.2):=by
 have hd:rs.drop i=x::rs.drop (i+1):=by
  obtain ⟨hlt,rfl⟩:=List.getElem?_eq_some_iff.1 hx
  exact List.drop_eq_getElem_cons hlt
 rw [hd]; rfl
theorem Di {nn:Int} (hrs:Ls tR F' w a1 n1 c1 rs) (hn:n1≤16777216):Pure Go.Proofs.Tryz.prog 27 #[.slice a1 n1 c1,.int .i64 nn] w (.bool (iL nn rs 0)):=by
 refine aN.calls (R:=fun v' u=>v' = .bool (iL nn rs 0)∧Below w.heap.size w u) ?_
 unfold aN aN.g0
 have hl:=hrs.len
 have key:∀ (k i:Nat) (at_:Int) (v:World),i+k=n1→Kept w v→uz nn rs 0=uz nn (rs.drop i) at_ →
   aN.l8 (fun v' u=>v' = .bool (iL nn rs 0)∧Below w.heap.size w u) (k+1) nn at_ a1 n1 c1 n1 i v:=by
  intro k
  induction k with
  | zero =>
   intro i at_ v hi hk hr
   rw [aN.u8]; unfold aN.g8
   refine az (by omega) ?_
   rw [List.drop_eq_nil_of_le (by omega)] at hr
   refine ⟨?_,hk⟩
   rw [← zH,hr]
   rfl
  | succ k ih =>
   intro i at_ v hi hk hr
   rw [aN.u8]; unfold aN.g8
   refine aI (by omega) ?_
   refine ((hrs.kept hk).RG).rd2 (by omega) (by omega) fun r hrr=>?_
   rw [Int.toNat_natCast] at hrr
   rw [Hw hrr] at hr
   refine boxS (zs:=[.int .i64 0,.int .i64 0]) (vs:=enR r) (e:=nz) rfl fun v1 hAr _ hk1=>?_
   have no:uz nn rs 0=false→(Value.bool false = .bool (iL nn rs 0)∧Below w.heap.size w v1):=fun h=>⟨by rw [← zH,h],Kept.trans hk hk1⟩
   refine ⟨_,hAr 0 _ rfl,iJ (fun h1=>no (by rw [hr]; simp [h1])) fun h1=>?_⟩
   refine ⟨_,hAr 1 _ rfl,_,hAr 0 _ rfl,eF (fun h2=>no (by rw [hr]; have hx:¬ r.1<r.2:=(by omega); simp [hx])) fun h2=>?_⟩
   refine ⟨_,hAr 1 _ rfl,aA (by omega) (ih (i+1) r.2 v1 (by omega) (Kept.trans hk hk1) ?_)⟩
   have e1:r.1<r.2:=by omega
   rw [hr,decide_eq_true h1,decide_eq_true e1]
   rfl
 exact Exists.intro (n1+1) (key n1 0 0 w (by omega) (Kept.refl _) rfl)
theorem Qy {R:VP} {pe p4 pf:Nat} {outs:Int} {base:List Int} {g1:Nat} {sb:SH} {w0:World} (hG:iH F w0 e f b t) (h0:pF e=0) (hrs:Ls tR F' w0 a1 n1 c1 rs) (hF':∀ b,F' b→b<w0.heap.size) (hok:iL e.trees.length rs 0=true) (hT0:Qg e.trees) (hpe:w0.heap.size≤pe) (hp4:p4≠pf) (hp4B:p4<B) (hwB:w0.heap.size≤B)
  (hR:∀ u (bd:List BD) (sk:SH) (gb:Nat),bd.map (·.1)=rs.map (fun r=>eU ((e.trees.take r.2.toNat).drop r.1.toNat) r.1)→Arr eI t64 u sb.a sb.n sb.c base g1→aO 5 IV tB' u sk.a sk.n sk.c bd gb→(∀ x∈bd,BOK B u gb x)→(gb=0∨B<gb)→Kept w0 u→R (.tuple #[vFr f.n outs sb sk,.int .i64 0]) u)
  (hpf:w0.heap.size≤pf) (hp40:w0.heap.size≤p4) :
  ∀ (k i:Nat) (w:World) (bd:List BD) (sk:SH) (gb:Nat),i+k=n1→From w0.heap.size w0 w→B≤w.heap.size→FK B w pf f.n outs base bd sb sk g1 gb→bd.map (·.1)=(rs.take i).map (fun r=>eU ((e.trees.take r.2.toNat).drop r.1.toNat) r.1) →
   Blk w pe (enE e f b t).toArray Hr→Blk w p4 #[.int .i64 0,.int .i64 0,.slice none 0 0,.slice none 0 0] lW→bT.l28 R (k+1) (some ⟨pe,0,none⟩) (some ⟨p4,0,none⟩) (some ⟨pf,0,none⟩) a1 n1 c1 n1 i w:=by
 have hn1:=hrs.len
 have hT5:=(qw h0).2.2.2.2.1
 have hlen:=qB hok
 have lt:=hG.ts.len
 intro k
 induction k with
 | zero =>
  intro i w bd sk gb hi hf hB hfk hbd hbe hb4
  rw [bT.u28]; unfold bT.g28
  refine az (by omega) ?_
  obtain rfl:i=rs.length:=by omega
  rw [List.take_length] at hbd
  have hA:AtL w ⟨pf,0,none⟩ [.int .i64 (f.n:Int),.int .i64 outs,sb.v,sk.v]:=fun j v hj=>by rw [addr_add,Nat.zero_add,hfk.box.cell]; simpa using hj
  refine bI ⟨_,hA 0 _ rfl,_,hA 1 _ rfl,_,_,_,hA 2 _ rfl,_,_,_,hA 3 _ rfl,bI ?_⟩
  refine wrA (e:=lW) (b:=p4) (vs:=[.int .i64 (f.n:Int),.int .i64 outs,sb.v,sk.v]) hb4 rfl fun u hb4' ho=>?_
  have hA4:AtL u ⟨p4,0,none⟩ [.int .i64 (f.n:Int),.int .i64 outs,sb.v,sk.v]:=fun j v hj=>by rw [addr_add,Nat.zero_add,hb4'.cell]; simpa using hj
  refine ⟨_,hA4 0 _ rfl,_,hA4 1 _ rfl,_,_,_,hA4 2 _ rfl,_,_,_,hA4 3 _ rfl,?_⟩
  refine hR u bd sk gb hbd (hfk.b.mod ho (fA hb4 hfk.b (by decide))) (hfk.k.mod ho (fA hb4 hfk.k (by decide))) (fun y hy=>?_) hfk.kB (From.kept (hf.trans ho (fun _ _ h=>h) (fun k _ hk=>by have hk':k+1=p4+1:=hk; show w0.heap.size≤k; omega)))
  obtain ⟨lo,hi,e1,e2,e3,e4⟩:=hfk.ok y hy
  exact ⟨lo,hi,e1,Nat.le_trans e2 ho.size,e3.mod ho (fun b hb hk=>by have hk':b+1=p4+1:=hk; omega),e4⟩
 | succ k ih =>
  intro i w bd sk gb hi hf hB hfk hbd hbe hb4
  rw [bT.u28]; unfold bT.g28
  refine aI (by omega) ?_
  have hrsw:=hrs.kept (From.kept hf)
  refine (hrsw.RG).rd2 (by omega) (by omega) fun r hr=>?_
  rw [Int.toNat_natCast] at hr
  obtain ⟨hr1,hr2,hr3⟩:=wo (by omega) hok r (List.mem_of_getElem? hr)
  refine boxS (zs:=[.int .i64 0,.int .i64 0]) (vs:=enR r) (e:=nz) rfl fun w1 hAr _ hk1=>?_
  have hfk1:=hfk.kept hk1
  have hbe1:=hbe.keep hk1
  have hsz1:=hk1.size
  have hG1:=hG.kept (Kept.trans (From.kept hf) hk1)
  obtain ⟨X,hX⟩:∃ X,X=eU ((e.trees.take r.2.toNat).drop r.1.toNat) r.1:=⟨_,rfl⟩
  refine ⟨FBr w1 X,FBr.keep,?_⟩
  have hAf:AtL w1 ⟨pf,0,none⟩ [.int .i64 (f.n:Int),.int .i64 outs,sb.v,sk.v]:=fun j v hj=>by rw [addr_add,Nat.zero_add,hfk1.box.cell]; simpa using hj
  have hAe:AtL w1 ⟨pe,0,none⟩ (enE e f b t):=fun j v hj=>by rw [addr_add,Nat.zero_add,hbe1.cell]; simpa using hj
  have hcap:=hG.ts.cap
  refine ⟨_,_,_,hAf 3 _ rfl,⟨_,_,_,hAe 4 _ rfl,⟨_,hAr 0 _ rfl,⟨_,hAr 1 _ rfl,dJ (by omega) (dJ (by omega) ⟨_,hAr 0 _ rfl,⟨_,_,_,hAe 1 _ rfl,?_,?_⟩⟩)⟩⟩⟩⟩
  ·intro u hu
   refine E.CallsD.mono (H7 (first:=r.1) (E8 (lo:=r.1.toNat) (hi:=r.2.toNat) (hG1.kept hu) h0 (by omega) (by omega)) fun t ht=>hT0 t (List.mem_of_mem_take (List.mem_of_mem_drop ht))) fun v u2 ⟨s1,s2,s3,s4,hv,hin,hk2⟩=>?_
   rw [← hX] at hv hin
   exact ⟨_,_,_,_,_,_,_,_,_,_,_,_,_,hv,⟨s1,s2,s3,s4,u.heap.size,u2.heap.size,rfl,hin,hu.size,Nat.le_refl _⟩,hk2⟩
  ·intro z0 z1 z2 z3 z4 z5 z6 z7 z8 z9 z10 z11 z12 _
   refine ⟨fun u hu hF13=>?_,fun q _ u hu _ hF14=>?_⟩
   ·obtain ⟨s1,s2,s3,s4,lo,hi,hv,h2,h3,h4⟩:=hF13
    have hc:oZ z0 z1 z2 z3 z4 z5 z6 z7 z8 z9 z10 z11 z12=(rG X s1 s2 s3 s4).toArray:=Value.agg.inj hv
    have hk:=Kept.new u (.cells (oZ z0 z1 z2 z3 z4 z5 z6 z7 z8 z9 z10 z11 z12) 66)
    refine ⟨na u,s1,s2,s3,s4,lo,hi,rfl,?_,h2.kept hk,h3,Nat.le_trans h4 hk.size⟩
    rw [hc]
    exact AtL.new _ _ _
   ·obtain ⟨q',s1,s2,s3,s4,lo,hi,hv,hAq,h2,h3,h4⟩:=hF14
    simp only [Value.slice.injEq,Option.some.injEq] at hv
    obtain ⟨rfl,_⟩:=hv
    have hfu:=hfk1.kept hu
    have hnk:=aO.len (k:=5) (en:=IV) (fun _=>rfl) (by omega) hfu.k
    have hbl:bd.length=i:=by have:=congrArg List.length hbd; simp at this; omega
    have huz:=hu.size
    refine jH WX (by omega) hfu.k (news:=rG X s1 s2 s3 s4) (m:=1) rfl (fun j v hj=>⟨_,rfl,hAq j v hj⟩) (fun h=>by cases h) (fun v hv=>Fz (X,s1,s2,s3,s4) v hv) (by simp only [maxLen]; omega) (by omega) fun a' c' g' u2 hrow hg' ho=>⟨_,_,_,rfl,?_⟩
    have hbx:=hfu.box.mod ho (fun hk=>gq hfu.k hfu.box (by decide) hk)
    have hset:=hbx.set 3 (.slice a' (sk.n+1) c')
    have hon:=Only.set u2 pf 3 (.slice a' (sk.n+1) c')
    refine bI ?_
    rw [addr_add,addr_add,Nat.zero_add,Nat.add_zero]
    refine ⟨hbx.ok (by simp),bU (aA (by omega) ?_)⟩
    have hrow':aO 5 IV tB' u2 a' (sk.n+1) c' (bd++[(X,s1,s2,s3,s4)]) g':=by
     unfold aO
     simpa using hrow
    have hgbs:gb≤w.heap.size:=Row.le hfk.k
    have hgle:gb=0∨B<gb:=hfk.kB
    have ho2:w0.heap.size≤w.heap.size:=hf.size
    have apart:∀ b,lo≤b∧b<hi→¬ (b+1=gb):=fun b hb h=>by omega
    have hpB:=hfk.pB
    have hkw:Kept w u:=Kept.trans hk1 hu
    have ht1:From w0.heap.size w u2:=(Kept.mod (S:=fun k=>w0.heap.size≤k) hkw).trans ho (fun _ _ h=>h) (fun k _ hk=>by have hk':k+1=gb:=hk; show w0.heap.size≤k; omega)
    have hfin:From w0.heap.size w (u2.setCell ⟨pf,3,none⟩ (.slice a' (sk.n+1) c')):=ht1.trans hon (fun _ _ h=>h) (fun k _ hk=>by have hk':k+1=pf+1:=hk; show w0.heap.size≤k; omega)
    have hpe_ne:pe≠pf:=fun h=>by subst h; exact absurd (hbe.ne hfk.box) (by decide)
    refine ih (i+1) _ (bd++[(X,s1,s2,s3,s4)]) ⟨a',sk.n+1,c'⟩ g' (by omega) (hf.trans hfin (fun _ _ h=>h) (fun _ _ h=>h)) (by have:=hfin.size; omega) ⟨hset,(hfu.b.mod ho (sZ hfu.k hfu.b (by decide))).mod hon (fA hbx (hfu.b.mod ho (sZ hfu.k hfu.b (by decide))) (by decide)),hrow'.mod hon (fA hbx hrow' (by decide)),fun y hy=>?_,hfk.pB,hfk.bB,by omega⟩ ?_ ?_ ?_
    ·have hh:=ho.size
     have hh2:=hon.size
     rcases List.mem_append.1 hy with hy | hy
     ·obtain ⟨lo',hi',e1,e2,e3,e4⟩:=hfu.ok y hy
      exact ⟨lo',hi',e1,by omega,(e3.mod ho (fun b hb h=>by have h':b+1=gb:=h; omega)).mod hon (fun b hb h=>by have h':b+1=pf+1:=h; omega),by omega⟩
     ·obtain rfl:y=(X,s1,s2,s3,s4):=by simpa using hy
      exact ⟨lo,hi,by omega,by omega,(h2.mod ho (fun b hb h=>by have h':b+1=gb:=h; omega)).mod hon (fun b hb h=>by have h':b+1=pf+1:=h; omega),by omega⟩
    ·rw [take_snoc hr,List.map_append,List.map_append,hbd,hX]; rfl
    ·exact ((hbe1.keep hu).mod ho (fun hk=>gq hfu.k (hbe1.keep hu) (by decide) hk)).mod hon (fun hk=>hpe_ne (by have hk':pe+1=pf+1:=hk; omega))
    ·exact (((hb4.keep hk1).keep hu).mod ho (fun hk=>gq hfu.k ((hb4.keep hk1).keep hu) (by decide) hk)).mod hon (fun hk=>hp4 (by have hk':p4+1=pf+1:=hk; omega))
end
end Go.Mir
