/- Part of a proof of laws of the seat YtmjlipmapfofmaaGreat: functions' weakest preconditions, each checked by the kernel, contracts out of them, plain lemmas; no conditions. -/
import Derived.Test.YtmjlipmapfofmaaGreatFC
import Derived.Test.YtmjlipmapfofmaaGreatTD
set_option linter.unusedVariables false
set_option linter.unusedSimpArgs false
set_option linter.unusedSectionVars false
set_option maxRecDepth 100000
namespace Go.Mir
open Go Go.E Go.RowKit Go.Tr Go.Ss Go.ChangeShapes
def yS (f:Int) (cat:Bool) (lost:List dF) (c:dF):AD:=⟨⟨if cat then 3 else 2,0,f,c.thr,c.bH,if 0<lost.countP (fun x=>decide (Dj f x=Dj f c)) then 2 else 1,0,0⟩,c.frm,c.to⟩
def rC (ask:dF→AD):List dF→List (List AD)→Option (List (List AD))
 | [],N=>some N
 | c::cs,N=>if 0≤c.tree∧c.tree<N.length then rC ask cs (N.set c.tree.toNat (N.getD c.tree.toNat []++[ask c])) else none
abbrev dR (r:RA):List AD:=r.2.1.map (·.1)
section
variable {w w0 u w1 wB x:World} {a a0 a1 a4:OA} {n c n0 c0 n1 c1 n4 c4 g:Nat} {F F' S:Nat→Prop} {p q:Addr} {B mb:Nat} {L:List (KC×Value)} {f:Int} {l lost:List dF} {R:VP} {rows:List RA}
def Qq (a4:OA) (n4:Nat) (p6:OA) (m7:Option Nat) (pb q147:Addr) (K:World→Prop) (w150:World):Prop :=
 cI w150 (pb.add 2) .i64 fun x151' =>
 cI w150 (pb.add 3) .i64 fun x152' =>
 cI w150 (pb.add 4) .i64 fun x153' =>
 bK p6 fun q154 =>
 cI w150 (q154.add 0) .i64 fun x155' =>
 dm Go.Proofs.Tryz.prog (Instr.lookup 109 (.map m7) (Gg x151' x152' x153' x155') false) w150 fun v156 u157 =>
  ∃ x158',v156 = .int .i64 x158' ∧
   (af (decide (x158'>0))
    (st u157 ((q147.add 5).add 0) (.int .u8 2) fun w159=>UC a4 n4 pb q147 K w159)
    (UC a4 n4 pb q147 K u157))
theorem Ql {K:World→Prop} {k1:Int} {s sc s1 s2 s3:SH} {ls:ed} {ct:dF} {t kL bq:Nat} (hW:kH B w a4 n4 c4 g rows) (hB:B≤w.heap.size) (ht:t<rows.length) (htt:ct.tree=t) (hlen:∀ r∈rows,r.2.1.length≤549755813888) (hp:AtL w p (enC ct sc)) (hpb:¬ Nd w p.block) (hpq:p.block≠bq)
  (hq:Blk w bq #[.int .u8 k1,.int .i64 0,.int .i64 ls.feature,.float .f64 ct.thr,s.v,.int .u8 1,.int .i64 0,.int .i64 0] tN') (hBq:B≤bq) (hcs:LsI (QC B w) w s.a s.n s.c ct.bH) (hkL:Blk w kL (enL ls s1 s2 s3).toArray tL') (hM:iU wH w mb L) (hC:Cnt ls.feature lost L) (hBm:B≤mb)
  (hk:∀ u r r',rows[t]?=some r→r'.2.1=r.2.1++[(⟨⟨k1,0,ls.feature,ct.thr,ct.bH,if 0<lost.countP (fun x=>decide (Dj ls.feature x=Dj ls.feature ct)) then 2 else 1,0,0⟩,ct.frm,ct.to⟩,s)]→kH B u a4 n4 c4 g (rows.set t r')→Mod (fun k=>B≤k∧(k=bq∨Nd w k)) w u→K u) :
  Qq a4 n4 (some ⟨kL,0,none⟩) (some mb) p ⟨bq,0,none⟩ K w:=by
 unfold Qq
 refine ⟨_,hp 2 _ rfl,_,hp 3 _ rfl,_,hp 4 _ rfl,?_⟩
 refine ⟨_,by rw [addr_add,hkL.cell]; rfl,?_⟩
 show dm Go.Proofs.Tryz.prog (Instr.lookup 109 (.map (some mb)) (wH (Dj ls.feature ct)) false) w _
 refine iU.lookup Qb t120 zI hM ⟨_,hC _,?_⟩
 have hnq:¬ Nd w bq:=fun ⟨cur,e,hb,he⟩=>by
  have:=hq.ne hb
  rcases he with rfl | rfl
  ·exact absurd this (by decide)
  ·exact absurd this (by decide)
 refine eF (fun h=>?_) fun h=>?_
 ·have hq2:=hq.set 5 (.int .u8 2)
  have ho:=Only.set w bq 5 (.int .u8 2)
  have e1:(((⟨bq,0,none⟩:Addr).add 5).add 0)=⟨bq,5,none⟩:=by rw [addr_add,addr_add]
  rw [e1]
  refine ⟨hq.ok (by simp),bU ?_⟩
  have hsz:(w.setCell ⟨bq,5,none⟩ (.int .u8 2)).heap.size=w.heap.size:=fP _ _ _
  generalize w.setCell ⟨bq,5,none⟩ (.int .u8 2)=w2 at hq2 ho hsz
  have nd2:∀ k,k≠bq→Nd w2 k→Nd w k:=fun k hk ⟨cur,e,hb,he⟩=>by
   refine ⟨cur,e,?_,he⟩
   by_cases hkw:k<w.heap.size
   ·have:=ho.block k hkw (fun h=>hk (by have h':k+1=bq+1:=h; omega))
    unfold Blk at hb ⊢
    rw [← this]; exact hb
   ·have:=hb.lt; omega
  have hnq2:¬ Nd w2 bq:=fun ⟨cur,e,hb,he⟩=>by
   have:=hq2.ne hb
   rcases he with rfl | rfl
   ·exact absurd this (by decide)
   ·exact absurd this (by decide)
  have blk2:∀ {b:Nat} {cs:Array Value} {e:Nat},Blk w b cs e→e≠tN'→Blk w2 b cs e:=fun hb he=>hb.mod ho fun hk=>by
   have hk':_+1=bq+1:=hk
   obtain rfl:=Nat.succ.inj hk'
   exact he (hb.ne hq)
  have hW2:kH B w2 a4 n4 c4 g rows:=by
   refine ⟨hW.own.mod ho (fun j hj hk=>?_) (fun r hr j hj hk=>?_),fun r hr x hx=>?_⟩
   ·have hk':j+1=bq+1:=hk
    obtain rfl:=Nat.succ.inj hk'
    exact hnq (hW.outer hj).2
   ·have hk':j+1=bq+1:=hk
    obtain rfl:=Nat.succ.inj hk'
    exact hnq (hW.row hr hj).2
   ·refine ((hW.ct r hr x hx).mod ho fun b hb hk=>?_).mono fun b ⟨h1,cur,h2⟩=>⟨h1,cur,blk2 h2 (by decide)⟩
    obtain ⟨_,cur,hb⟩:=hb
    have hk':b+1=bq+1:=hk
    obtain rfl:=Nat.succ.inj hk'
    exact absurd (hb.ne hq) (by decide)
  refine P6 (nd:=⟨k1,0,ls.feature,ct.thr,ct.bH,2,0,0⟩) (s:=s) (ct:=ct) (sc:=sc) hW2 (by omega) ht htt hlen (hp.mod ho fun hk=>hpq (by have hk':p.block+1=bq+1:=hk; omega)) (fun hn=>hpb (nd2 _ hpq hn)) ?_ hnq2 ?_ fun u r r' h1 h2 h3 h4=>?_
  ·intro j v hj
   have hj':[Value.int .u8 k1,.int .i64 0,.int .i64 ls.feature,.float .f64 ct.thr,s.v,.int .u8 2,.int .i64 0,.int .i64 0][j]?=some v:=hj
   rw [addr_add,Nat.zero_add,hq2.cell]
   simpa using hj'
  ·refine (hcs.mod ho fun b hb hk=>?_).mono fun b ⟨h1,cur,h2⟩=>⟨h1,cur,blk2 h2 (by decide)⟩
   obtain ⟨_,cur,hb⟩:=hb
   have hk':b+1=bq+1:=hk
   obtain rfl:=Nat.succ.inj hk'
   exact absurd (hb.ne hq) (by decide)
  ·refine hk u r r' h1 ?_ h3 (Mod.trans ho h4 (fun k _ hk=>?_) (fun k _ hk=>?_))
   ·rw [h2,if_pos (by omega)]
   ·have hk':k+1=bq+1:=hk
    obtain rfl:=Nat.succ.inj hk'
    exact ⟨hBq,.inl rfl⟩
   ·by_cases hkq:k=bq
    ·exact ⟨hk.1,.inl hkq⟩
    ·exact ⟨hk.1,.inr (nd2 k hkq hk.2)⟩
 ·refine P6 (nd:=⟨k1,0,ls.feature,ct.thr,ct.bH,1,0,0⟩) (s:=s) (ct:=ct) (sc:=sc) hW hB ht htt hlen hp hpb ?_ hnq hcs fun u r r' h1 h2 h3 h4=>?_
  ·intro j v hj
   have hj':[Value.int .u8 k1,.int .i64 0,.int .i64 ls.feature,.float .f64 ct.thr,s.v,.int .u8 1,.int .i64 0,.int .i64 0][j]?=some v:=hj
   rw [addr_add,Nat.zero_add,hq.cell]
   simpa using hj'
  ·refine hk u r r' h1 ?_ h3 (h4.weak fun k _ hk=>⟨hk.1,.inr hk.2⟩)
   rw [h2,if_neg (by omega)]
end
end Go.Mir
set_option maxRecDepth 100000
namespace Go.Mir
open Go Go.E Go.RowKit Go.Tr Go.Ss Go.ChangeShapes
section
variable {w w0 u w1 wB x:World} {a a0 a1 a4:OA} {n c n0 c0 n1 c1 n4 c4 g:Nat} {F F' S:Nat→Prop} {p q:Addr} {B mb:Nat} {L:List (KC×Value)} {f:Int} {l lost:List dF} {R:VP} {rows:List RA}
theorem Qv (h:Kept w u) {k:Nat} (hk:k<w.heap.size) (hn:Nd u k):Nd w k:=by
 obtain ⟨cur,e,hb,he⟩:=hn
 refine ⟨cur,e,?_,he⟩
 have:=h.block k hk
 unfold Blk at hb ⊢
 rw [← this]; exact hb
def Hq (w133:World) (cs:List Int):Nat→Value→World→Prop:=fun i v u=>match i with
 | 6=>∃ (a:OA) (n c g:Nat),v = .slice a n c∧Arr enI tI' u a n c cs g∧(g=0∨w133.heap.size<g)
 | 8=>∃ b,v = .pointer (some ⟨b,0,none⟩)∧w133.heap.size≤b∧Blk u b #[.int .u8 0,.int .i64 0,.int .i64 0,.float .f64 0,.slice none 0 0,.int .u8 0,.int .i64 0,.int .i64 0] tN'
 | _=>True
theorem Hq.keep {w133:World} {cs:List Int} (i:Nat) (v:Value) (u u':World) (h:Hq w133 cs i v u) (hk:Below u.heap.size u u'):Hq w133 cs i v u':=by
 unfold Hq at h ⊢
 split at h
 ·obtain ⟨a,n,c,g,h1,h2,h3⟩:=h
  exact ⟨a,n,c,g,h1,h2.kept hk,h3⟩
 ·obtain ⟨b,h1,h2,h3⟩:=h
  exact ⟨b,h1,h2,h3.keep hk⟩
 ·trivial
theorem sG (ask:dF→AD) (x:dF) (cs:List dF) (N:List (List AD)):rC ask (x::cs) N=if 0≤x.tree∧x.tree<N.length then rC ask cs (N.set x.tree.toNat (N.getD x.tree.toNat []++[ask x])) else none:=rfl
theorem zh {b16:ay.T16} {b49:ay.T49} {p1 a41 a74 a81:OA} {n41 c41 n74 c74 n81 c81 kL:Nat} {x10 x42 x43 x75 x76:Int} {ls:ed} {s1 s2 s3:SH} {res:Option (List (List AD))} {M:Nat}
  (hls:Ls tC F wB a81 n81 c81 l) (hF:∀ b,F b→b<wB.heap.size) (hsm:l.length≤1073741824) (hcsm:∀ x∈l,x.bH.length≤1048576) (hb0:From wB.heap.size wB w0) (hMl:M+l.length≤549755813888)
  (hbox:Blk w0 kL (enL ls s1 s2 s3).toArray tL') (hM:iU wH w0 mb L) (hC:Cnt ls.feature lost L) (hmb:wB.heap.size≤mb)
  (hfail:res=none→∀ u,Fr wB.heap.size w0 u→R (.tuple #[.slice none 0 0,.bool false]) u)
  (hdone:∀ N,res=some N→∀ u rows',Fr wB.heap.size w0 u→kH wB.heap.size u a4 n4 c4 g rows'→rows'.map dR=N→(∀ r∈rows',r.2.1.length≤M+l.length)→rows'.length=n4→inc x76 fun t=>b49 p1 a4 n4 c4 (some ⟨kL,0,none⟩) (some mb) a41 n41 c41 x42 x43 a74 n74 c74 x75 t u) :
  ∀ (k i:Nat) (w:World) (rows:List RA),i+k=n81→Fr wB.heap.size w0 w→kH wB.heap.size w a4 n4 c4 g rows→(∀ r∈rows,r.2.1.length≤M+i)→rC (yS ls.feature (x10==1) lost) (l.drop i) (rows.map dR)=res →
   ay.l63 R b16 b49 (k+1) p1 a4 n4 c4 (some ⟨kL,0,none⟩) (some mb) x10 a41 n41 c41 x42 x43 a74 n74 c74 x75 x76 a81 n81 c81 n81 i w:=by
 intro k
 have hll:=hls.len
 induction k with
 | zero =>
  intro i w rows hi hfr hW hlen hres
  obtain rfl:i=n81:=by omega
  rw [List.drop_eq_nil_of_le (by omega)] at hres
  unfold ay.l63 ay.g63
  exact az (by omega) (hdone _ hres.symm w rows hfr hW rfl (fun r hr=>by have:=hlen r hr; omega) hW.own.len.symm)
 | succ k ih =>
  intro i w rows hi hfr hW hlen hres
  unfold ay.l63 ay.g63
  refine aI (by omega) ?_
  have hfw:From wB.heap.size wB w:=hb0.trans hfr.from (fun _ _ h=>h) (fun _ _ h=>h)
  obtain ⟨p,x,cs,rfl,hx,hFp,⟨s,e,hcB⟩,hA0⟩:=hls.elem (i:=i) (by omega)
  subst e
  have hA:=hA0.mod (S:=fun k=>wB.heap.size≤k) hfw (by rw [add_block]; have:=hF _ hFp; omega)
  obtain ⟨hxl,hxe⟩:=List.getElem?_eq_some_iff.1 hx
  have hdr:l.drop i=x::l.drop (i+1):=by rw [List.drop_eq_getElem_cons hxl,hxe]
  have hn4:=hW.own.len
  rw [hdr,sG,List.length_map] at hres
  refine dJ ⟨by omega,by omega⟩ (AtL.ldC hA ?_)
  refine boxS (zs:=(oG 0 none 0 0 0 0 0).toList) (vs:=enC x s) rfl fun w133 hAu hbu hku=>?_
  have hsz:=hku.size
  have hlt0:=hbu.lt
  have hB:wB.heap.size≤w.heap.size:=hfw.size
  have hfr1:Fr wB.heap.size w0 w133:=hfr.trans (Fr.of hku)
  have hbox1:=hfr1.blk hbox (by decide) (by decide)
  refine ⟨_,hAu 2 _ rfl,eF (fun h=>?_) fun h1=>?_⟩
  ·have h':x.tree<0:=h
   rw [if_neg (by omega)] at hres
   exact hfail hres.symm w133 hfr1
  refine ⟨_,hAu 2 _ rfl,eF (fun h=>?_) fun h2=>?_⟩
  ·have h':x.tree≥n4:=h
   rw [if_neg (by omega)] at hres
   exact hfail hres.symm w133 hfr1
  have h1':¬ x.tree<0:=h1
  have h2':¬ x.tree≥n4:=h2
  rw [if_pos (by omega)] at hres
  have hxc:=hcsm x (List.mem_of_getElem? hx)
  refine ⟨Hq w133 x.bH,Hq.keep,?_⟩
  refine ⟨_,by rw [addr_add,hbox1.cell]; rfl,_,hAu 0 _ rfl,s.a,s.n,s.c,hAu 1 _ rfl,fun u hu=>?_,?_⟩
  ·have hcu:LsI F u s.a s.n s.c x.bH:=hcB.mod ((hfw.aF hku).aF hu) fun b hb hk=>by have:=hF b hb; have hk':wB.heap.size≤b:=hk; omega
   refine E.CallsD.mono (Md (ys:=x.bH) hcu.sl (by rw [hcu.len]; exact hxc)) fun v u2 ⟨a',c',hv,gg,h1,h2,h3⟩=>⟨a',s.n,c',hv,⟨a',s.n,c',gg,hv ▸ rfl,h1,?_⟩,h3⟩
   have:=hu.size
   omega
  ·rintro a6 n6 c6 -
   refine ⟨fun u hu=>⟨u.heap.size,rfl,hu.size,Blk.new u _ _⟩,fun q147 _ u148 hu h6 h8=>?_⟩
   obtain ⟨a',n',c',gc,e6,hArr,hgc⟩:=h6
   cases e6
   obtain ⟨bq,e8,hbq,hbk⟩:=h8
   cases e8
   refine wrA (e:=tN') (b:=bq) (vs:=[.int .u8 2,.int .i64 0,.int .i64 ls.feature,.float .f64 x.thr,.slice a6 n6 c6,.int .u8 1,.int .i64 0,.int .i64 0]) hbk rfl fun w149 hb149 ho149=>?_
   have hkw:Kept w w149:=From.kept (((Kept.mod (S:=fun k=>w.heap.size≤k) hku).trans (Kept.mod (S:=fun k=>w.heap.size≤k) hu) (fun _ _ h=>h) (fun _ _ h=>h)).trans ho149 (fun _ _ h=>h) (fun k _ hk=>by have hk':k+1=bq+1:=hk; show w.heap.size≤k; omega))
   have hA149:AtL w149 (na w) (enC x s):=(hAu.kept hu).mod ho149 fun hk=>by
    have hk':w.heap.size+1=bq+1:=hk
    omega
   have hpb149:Blk w149 w.heap.size (enC x s).toArray tC':=(hbu.keep hu).mod ho149 fun hk=>by
    have hk':w.heap.size+1=bq+1:=hk
    omega
   have hcat149:LsI (QC wB.heap.size w149) w149 a6 n6 c6 x.bH:=by
    have h9:Arr enI tI' w149 a6 n6 c6 x.bH gc:=hArr.mod ho149 fun k hk1 hk2=>by
     have hk2':k+1=bq+1:=hk2
     obtain ⟨cur,hb⟩:=Row.blk hArr hk1
     obtain rfl:k=bq:=by omega
     exact absurd (hb.ne hbk) (by decide)
    refine (Arr.ls (h1:=fun _=>rfl) h9).mono fun b hb=>?_
    obtain ⟨cur,hb'⟩:=Row.blk h9 hb
    exact ⟨by omega,cur,hb'⟩
   have notNd:∀ {w:World} {b:Nat} {cs:Array Value} {e:Nat},Blk w b cs e→e≠tA'→e≠tSA→¬ Nd w b:=fun hb h1 h2 ⟨cur,e',hb',he⟩=>by
    have:=hb.ne hb'
    rcases he with rfl | rfl
    ·exact h1 this
    ·exact h2 this
   have go:∀ (k1:Int) (w150:World),k1=(if (x10==1)=true then 3 else 2)→Kept w w150→Blk w150 bq #[.int .u8 k1,.int .i64 0,.int .i64 ls.feature,.float .f64 x.thr,.slice a6 n6 c6,.int .u8 1,.int .i64 0,.int .i64 0] tN'→AtL w150 (na w) (enC x s)→Blk w150 w.heap.size (enC x s).toArray tC'→LsI (QC wB.heap.size w150) w150 a6 n6 c6 x.bH →
     Qq a4 n4 (some ⟨kL,0,none⟩) (some mb) (na w) ⟨bq,0,none⟩ (fun w173=>inc (i:Int) fun t174=>ay.l63 R b16 b49 (k+1) p1 a4 n4 c4 (some ⟨kL,0,none⟩) (some mb) x10 a41 n41 c41 x42 x43 a74 n74 c74 x75 x76 (some p) n81 c81 n81 t174 w173) w150:=fun k1 w150 hk1 hk0 hb hA hpb hcat=>by
    have hfr2:Fr wB.heap.size w0 w150:=hfr.trans (Fr.of hk0)
    refine Ql (t:=x.tree.toNat) (s:=⟨a6,n6,c6⟩) (sc:=s) (ct:=x) (ls:=ls) (hW.kept hk0) (by have:=hk0.size; omega) (by omega) (by omega) (fun r hr=>by have:=hlen r hr; omega) hA (notNd hpb (by decide) (by decide)) (by show w.heap.size≠bq; omega) hb (by omega) hcat (hfr2.blk hbox (by decide) (by decide)) (hfr2.map hM) hC hmb fun u r r' hr hr' hWu hfu=>?_
    have hfu2:Fr wB.heap.size w u:=Mod.trans (Kept.mod (S:=fun _=>False) hk0) hfu (fun _ _ h=>h.elim) fun k2 hk2 hk3=>⟨hk3.1,by
     rcases hk3.2 with h | h
     ·omega
     ·exact Qv hk0 hk2 h⟩
    refine aA (by omega) (ih (i+1) u _ (by omega) (hfr.trans hfu2) hWu (fun y hy=>?_) ?_)
    ·rcases mem_set hy with rfl | ⟨j,_,hj⟩
     ·rw [hr',List.length_append]
      have:=hlen r (List.mem_of_getElem? hr)
      simp; omega
     ·have:=hlen y (List.mem_of_getElem? hj); omega
    ·rw [← hres,List.map_set]
     congr 2
     rw [List.getD_eq_getElem?_getD,List.getElem?_map,hr]
     show r'.2.1.map (·.1)=_
     rw [hr',List.map_append]
     rw [hk1]
     rfl
   refine oJ (fun he=>?_) fun hne=>?_
   ·have hb150:=hb149.set 0 (.int .u8 3)
    have ho:=Only.set w149 bq 0 (.int .u8 3)
    have e1:(((⟨bq,0,none⟩:Addr).add 0).add 0)=⟨bq,0,none⟩:=by rw [addr_add,addr_add]
    rw [e1]
    refine ⟨hb149.ok (by simp),bU ?_⟩
    generalize w149.setCell ⟨bq,0,none⟩ (.int .u8 3)=w150 at hb150 ho
    have hk150:Kept w w150:=From.kept ((Kept.mod (S:=fun k=>w.heap.size≤k) hkw).trans ho (fun _ _ h=>h) (fun k _ hk=>by have hk':k+1=bq+1:=hk; show w.heap.size≤k; omega))
    refine go 3 w150 (by rw [he]; rfl) hk150 hb150 (hA149.mod ho fun hk=>by have hk':w.heap.size+1=bq+1:=hk; omega) (hpb149.mod ho fun hk=>by have hk':w.heap.size+1=bq+1:=hk; omega) ?_
    refine (hcat149.mod ho fun b hb hk=>?_).mono fun b ⟨h1,cur,h2⟩=>⟨h1,cur,h2.mod ho fun hk=>?_⟩
    ·obtain ⟨_,cur,hb⟩:=hb
     have hk':b+1=bq+1:=hk
     obtain rfl:=Nat.succ.inj hk'
     exact absurd (hb.ne hb149) (by decide)
    ·have hk':b+1=bq+1:=hk
     obtain rfl:=Nat.succ.inj hk'
     exact absurd (h2.ne hb149) (by decide)
   ·exact go 2 w149 (by rw [beq_false_of_ne hne]; rfl) hkw hb149 hA149 hpb149 hcat149
end
end Go.Mir
set_option maxRecDepth 100000
namespace Go.Mir
open Go Go.E Go.RowKit Go.Tr Go.Ss Go.ChangeShapes
def nM (b:lD) (l:List AD) (i:Nat):Option TD :=
 if b.leaves.getD i 0<1∨b.leaves.getD i 0>4096∨((b.values.getD i []).length:Int)≠b.leaves.getD i 0∨(l.length:Int)≠b.leaves.getD i 0 - 1 then none
 else if (rE l (b.values.getD i [])).1 then some ⟨b.outputs.getD i 0,(rE l (b.values.getD i [])).2⟩ else none
def wR (b:lD):List (List AD)→Nat→Option (List TD)
 | [],_=>some []
 | l::ls,i=>(nM b l i).bind fun t=>(wR b ls (i+1)).map (t :: ·)
section
variable {w w0 u w1 wB x:World} {a a0 a1 a4:OA} {n c n0 c0 n1 c1 n4 c4 g:Nat} {F F' S:Nat→Prop} {p q:Addr} {B mb:Nat} {R:VP} {rows:List RA} {acc:List (TD×SH)}
theorem WC:fE Go.Proofs.Tryz.prog 24 tT' 2 32:=sliceT (by kernel_rfl)
abbrev X3 (B g:Nat) (w:World):Nat→Prop:=fun b=>B≤b∧b<w.heap.size∧b+1≠g
structure TrW (B:Nat) (w:World) (a:OA) (n c g:Nat) (acc:List (TD×SH)):Prop where
 row:aO 2 xu tT' w a n c acc g
 gB:g=0∨B<g
 nd:∀ x∈acc,Ls tN (X3 B g w) w x.2.a x.2.n x.2.c x.1.nodes
theorem TrW.kept (h:TrW B w a n c g acc) (hk:Kept w u):TrW B u a n c g acc:=⟨h.row.kept hk,h.gB,fun x hx=>((h.nd x hx).kept hk).mono fun b hb=>⟨hb.1,by have:=hb.2.1; have:=hk.size; omega,hb.2.2⟩⟩
theorem kH.mod (h:kH B w a n c g rows) (hm:Mod S w u) (hS:∀ k cur e,Blk w k cur e→(e=tA'∨e=tSA∨e=tI')→¬ S k):kH B u a n c g rows:=by
 refine ⟨h.own.mod hm (fun j hj=>?_) (fun r hr j hj=>?_),fun r hr x hx=>((h.ct r hr x hx).mod hm fun b hb=>?_).mono fun b ⟨h1,cur,h2⟩=>⟨h1,cur,h2.mod hm (hS _ _ _ h2 (.inr (.inr rfl)))⟩⟩
 ·obtain ⟨cur,hb⟩:=Row.blk h.own.out hj
  exact hS _ _ _ hb (.inr (.inl rfl))
 ·obtain ⟨cur,hb⟩:=Row.blk (h.own.row r hr).1 hj
  exact hS _ _ _ hb (.inl rfl)
 ·obtain ⟨_,cur,hb⟩:=hb
  exact hS _ _ _ hb (.inr (.inr rfl))
theorem kH.ls (h:kH B w a n c g rows) {r:RA} (hr:r∈rows):Ls tA (fun b=>B≤b∧(∃ cur e,Blk w b cur e∧(e=tA'∨e=tI'))) w r.1.a r.1.n r.1.c (dR r) :=
 aO.lsK (T:=tA) (f:=fun x:AE=>x.1) (en:=nR) (k:=10) mJ (by omega) rfl (h.own.row r hr).1 (fun b hb=>by
  obtain ⟨cur,hbk⟩:=Row.blk (h.own.row r hr).1 hb
  exact ⟨by have:=(h.own.row r hr).2; omega,cur,tA',hbk,.inl rfl⟩) fun x hx=>⟨x.2,rfl,(h.ct r hr x hx).mono fun b ⟨h1,cur,h2⟩=>⟨h1,cur,tI',h2,.inr rfl⟩⟩
theorem Ib {b:lD} {s1 s2 s3 s4:SH} {kb:Nat} {res:Option (List TD)} (hs1:LsI F wB s1.a s1.n s1.c b.leaves) (hs2:Ls (vP .i64).sl F wB s2.a s2.n s2.c b.values) (hs3:LsI F wB s3.a s3.n s3.c b.outputs) (hF:∀ b,F b→b<wB.heap.size)
  (hv:b.values.length=b.leaves.length) (ho:b.outputs.length=b.leaves.length) (hn4:n4=b.leaves.length) (hn4s:n4≤1048576)
  (hfail:res=none→∀ u,From wB.heap.size wB u→R (.tuple #[.slice none 0 0,.bool false]) u)
  (hdone:∀ ts,res=some ts→∀ u a n c,Ls tT (fun b=>wB.heap.size≤b∧b<u.heap.size) u a n c ts→From wB.heap.size wB u→R (.tuple #[.slice a n c,.bool true]) u) :
  ∀ (k i:Nat) (w:World) (acc:List (TD×SH)) (a15:OA) (n15 c15 g15:Nat),i+k=n4→From wB.heap.size wB w→Blk w kb (rG b s1 s2 s3 s4).toArray tB'→kH wB.heap.size w a4 n4 c4 g rows→TrW wB.heap.size w a15 n15 c15 g15 acc→acc.length=i→(wR b ((rows.map dR).drop i) i).map (acc.map (·.1) ++ ·)=res →
   ay.UD R (k+1) (some ⟨kb,0,none⟩) a15 n15 c15 a4 n4 c4 n4 i w:=by
 intro k
 induction k with
 | zero =>
  intro i w acc a15 n15 c15 g15 hi hfr hb hW hT hacc hres
  obtain rfl:i=n4:=by omega
  rw [List.drop_eq_nil_of_le (by rw [List.length_map,← hW.own.len]; exact Nat.le_refl _)] at hres
  rw [ay.Rz]; unfold ay.Vj
  refine az (by omega) (hdone _ hres.symm w _ _ _ ?_ hfr)
  show Ls tT _ w a15 n15 c15 (acc.map (·.1)++[])
  rw [List.append_nil]
  refine aO.lsT hT.row (fun b hb=>?_) fun x hx=>(hT.nd x hx).mono fun b hb=>⟨hb.1,hb.2.1⟩
  have:=Row.le hT.row
  have:=hT.gB
  omega
 | succ k ih =>
  intro i w acc a15 n15 c15 g15 hi hfr hb hW hT hacc hres
  rw [ay.Rz]; unfold ay.Vj
  refine aI (by omega) ?_
  have hln:=hW.own.len
  obtain ⟨r,hr⟩:∃ r,rows[i]?=some r:=⟨_,List.getElem?_eq_getElem (by omega)⟩
  have hrm:=List.mem_of_getElem? hr
  have hdr:(rows.map dR).drop i=dR r::(rows.map dR).drop (i+1):=by
   rw [List.drop_eq_getElem_cons (by rw [List.length_map]; omega),List.getElem_map,(List.getElem?_eq_some_iff.1 hr).2]
  rw [hdr] at hres
  unfold wR at hres
  refine hW.own.VU (i:=(i:Int)) (by omega) (by omega) fun t ht=>?_
  rw [Int.toNat_natCast,hr] at ht
  cases ht
  have hrl:=aO.len mJ (by omega) (hW.own.row r hrm).1
  have old:∀ {α:Type} {T:Ty α} {xs:List α} {a:OA} {n c:Nat},Ls T F wB a n c xs→Ls T F w a n c xs:=fun h=>From.ls h hfr hF
  have ho1:=old hs1
  have ho2:=old hs2
  have ho3:=old hs3
  have hl1:=hs1.len
  have hl2:=hs2.len
  have hl3:=hs3.len
  have c1:w.cell? ((⟨kb,0,none⟩:Addr).add 1)=some s1.v:=by rw [addr_add,hb.cell]; rfl
  have c2:w.cell? ((⟨kb,0,none⟩:Addr).add 2)=some s2.v:=by rw [addr_add,hb.cell]; rfl
  have gl:∀ x,b.leaves[((i:Nat):Int).toNat]?=some x→b.leaves.getD i 0=x:=fun x hx=>by rw [Int.toNat_natCast] at hx; rw [List.getD_eq_getElem?_getD,hx]; rfl
  have fail:nM b (dR r) i=none→∀ u,From wB.heap.size wB u→R (.tuple #[.slice none 0 0,.bool false]) u:=fun h=>hfail (by rw [← hres,h]; rfl)
  have rdL:∀ K:Int→Prop,K (b.leaves.getD i 0)→ix s1.a s1.n (i:Int) fun q=>cI w (q.add ((i:Int).toNat*1)) .i64 K:=fun K hK=>Ls.rdI ho1 (by omega) (by omega) fun x hx=>by rw [← gl x hx]; exact hK
  refine Exists.intro s1.a (Exists.intro s1.n (Exists.intro s1.c ⟨c1,rdL _ ?_⟩))
  refine eF (fun h=>fail (by unfold nM; rw [if_pos (.inl h)]) w hfr) fun h1=>?_
  refine Exists.intro s1.a (Exists.intro s1.n (Exists.intro s1.c ⟨c1,rdL _ ?_⟩))
  refine eF (fun h=>fail (by unfold nM; rw [if_pos (.inr (.inl h))]) w hfr) fun h2=>?_
  refine Exists.intro s2.a (Exists.intro s2.n (Exists.intro s2.c ⟨c2,Ls.Ry ho2 (by omega) (by omega) fun vs a' n' c' hvs hlv=>?_⟩))
  rw [Int.toNat_natCast] at hvs
  have hvs':b.values.getD i []=vs:=by rw [List.getD_eq_getElem?_getD,hvs]; rfl
  have hlvl:=hlv.len
  refine Exists.intro s1.a (Exists.intro s1.n (Exists.intro s1.c ⟨c1,rdL _ ?_⟩))
  refine iJ (fun h=>fail (by unfold nM; rw [if_pos (.inr (.inr (.inl (by rw [hvs',← hlvl]; exact h))))]) w hfr) fun h3=>?_
  refine Exists.intro s1.a (Exists.intro s1.n (Exists.intro s1.c ⟨c1,rdL _ ?_⟩))
  have h1':¬ b.leaves.getD i 0<1:=h1
  have h2':¬ b.leaves.getD i 0>4096:=h2
  have h3':(n':Int)=b.leaves.getD i 0:=h3
  refine bM (x:=b.leaves.getD i 0 - 1) (by omega) (by omega) ?_
  refine iJ (fun h=>fail (by unfold nM; rw [if_pos (.inr (.inr (.inr (by rw [List.length_map,← hrl]; exact h))))]) w hfr) fun h4=>?_
  have h4':(r.1.n:Int)=b.leaves.getD i 0 - 1:=h4
  refine Exists.intro s2.a (Exists.intro s2.n (Exists.intro s2.c ⟨c2,Ls.Ry ho2 (by omega) (by omega) fun vs2 a2 n2 c2 hvs2 hlv2=>?_⟩))
  rw [Int.toNat_natCast,hvs] at hvs2
  cases hvs2
  have hlv2l:=hlv2.len
  have hbB:=hfr.size
  have hte:nM b (dR r) i=if (rE (dR r) vs).1 then some ⟨b.outputs.getD i 0,(rE (dR r) vs).2⟩ else none:=by
   unfold nM
   rw [if_neg,hvs']
   rw [hvs',List.length_map,← hrl,← hlvl]
   omega
  refine E.CallsD.mono (KN (by omega) (by omega) (by rw [List.length_map,← hrl]; omega) (hW.ls hrm) (fun b hb=>Nat.lt_of_lt_of_le (hF b hb) hbB) hlv2 (fun b ⟨_,cur,e,hb,_⟩=>hb.lt)) fun v u ⟨bb,o,a',n',c',hv1,hb1,hb2,hfu⟩=>⟨o,a',n',c',bb,hv1,?_⟩
  have hku:=From.kept hfu
  refine boxS (zs:=(lg 0 none 0 0).toList) (vs:=[.int .i64 o,.slice a' n' c']) rfl fun w261 hA261 hb261 hk261=>?_
  have hkw:=Kept.trans hku hk261
  have hf261:From wB.heap.size wB w261:=hfr.aF hkw
  refine (aH _ _ _).2 ⟨fun hf=>fail (by rw [hte,← hb1,if_neg (by cases bb <;> simp_all)]) w261 hf261,fun ht=>?_⟩
  have hbt:bb=true:=by cases bb <;> simp_all
  obtain ⟨rfl,hnl⟩:=hb2 hbt
  have hb261':=hb.keep hkw
  refine Exists.intro s3.a (Exists.intro s3.n (Exists.intro s3.c ⟨by rw [addr_add,hb261'.cell]; rfl,?_⟩))
  refine Ls.rdI (From.ls hs3 hf261 hF) (by omega) (by omega) fun o' ho'=>?_
  rw [Int.toNat_natCast] at ho'
  have hog:b.outputs.getD i 0=o':=by rw [List.getD_eq_getElem?_getD,ho']; rfl
  have e1:(((na u:Addr).add 0).add 0)=⟨u.heap.size,0,none⟩:=by rw [fQ,addr_add]
  rw [e1]
  have hbx:=hb261.set 0 (.int .i64 o')
  have hox:=Only.set w261 u.heap.size 0 (.int .i64 o')
  refine ⟨hb261.ok (by simp),bU ?_⟩
  generalize w261.setCell ⟨u.heap.size,0,none⟩ (.int .i64 o')=w266 at hbx hox
  have hAx:AtL w266 (na u) [.int .i64 o',.slice a' n' c']:=fun j v hj=>by
   rw [fQ,hbx.cell]
   simpa using hj
  refine ⟨_,hAx 0 _ rfl,_,_,_,hAx 1 _ rfl,?_⟩
  have hkx:Kept w w266:=From.kept ((show From w.heap.size w w261 from Kept.mod hkw).then hox (fun k _ hk=>by have hk':k+1=u.heap.size+1:=hk; have:=hku.size; omega))
  have hkn:=Kept.new w266 (.cells (xu (⟨o',(rE (dR r) vs).2⟩,⟨a',n',c'⟩)).toArray tT')
  have hAn:=AtL.new w266 (xu ((⟨o',(rE (dR r) vs).2⟩:TD),(⟨a',n',c'⟩:SH))) tT'
  show nw (w266.alloc (.cells (xu ((⟨o',(rE (dR r) vs).2⟩:TD),(⟨a',n',c'⟩:SH))).toArray tT')) _
  refine bU ?_
  generalize w266.alloc (.cells (xu ((⟨o',(rE (dR r) vs).2⟩:TD),(⟨a',n',c'⟩:SH))).toArray tT')=w268 at hkn hAn
  have hk268:Kept w w268:=Kept.trans hkx hkn
  have hT268:=hT.kept hk268
  have hal:=aO.Qs hT.row
  refine aO.qQ (k:=2) (en:=xu) WC (fun _=>rfl) (by omega) hT268.row (x:=(⟨o',(rE (dR r) vs).2⟩,⟨a',n',c'⟩)) (q:=na w266) hAn (Aj _) (by simp only [maxLen]; omega) (by omega) fun a2 c2 g2 u2 hrow2 hg2 hg20 ho2=>?_
  have hg15:=hT.gB
  have hgle:=Row.le hT.row
  have g15t:∀ {k:Nat} {cur:Array Value} {e:Nat},Blk w268 k cur e→e≠tT'→¬ (k+1=g15):=fun hb he hk=>by
   obtain ⟨cur',hb'⟩:=Row.blk hT268.row hk
   exact he (hb.ne hb')
  have hku268:Kept u w268:=by
   have f1:From u.heap.size u w261:=Kept.mod hk261
   exact From.kept ((f1.then hox (fun k _ hk=>by have hk':k+1=u.heap.size+1:=hk; omega)).aF hkn)
  have hsz1:=hk268.size
  have hsz2:=hku268.size
  have hsz3:=ho2.size
  have hsz4:=hku.size
  refine ⟨_,_,_,rfl,aA (by omega) (ih (i+1) u2 (acc++[(⟨o',(rE (dR r) vs).2⟩,⟨a',n',c'⟩)]) a2 (n15+1) c2 g2 (by omega) ((hfr.aF hk268).only ho2 hg15) ((hb.keep hk268).mod ho2 fun hk=>g15t (hb.keep hk268) (by decide) hk) ((hW.kept hk268).mod ho2 fun k cur e hb he=>g15t hb (by rcases he with rfl | rfl | rfl <;> decide)) ⟨hrow2,?_,fun x hx=>?_⟩ (by simp; omega) ?_)⟩
  ·omega
  ·rcases List.mem_append.1 hx with hx | hx
   ·refine ((hT268.nd x hx).mod ho2 fun b hb hk=>hb.2.2 hk).mono fun b hb=>⟨hb.1,by have:=hb.2.1; omega,?_⟩
    have h5:=hb.2.1
    have h6:=hb.2.2
    omega
   ·obtain rfl:x=(⟨o',(rE (dR r) vs).2⟩,⟨a',n',c'⟩):=by simpa using hx
    refine ((hnl.kept hku268).mod ho2 fun b hb hk=>?_).mono fun b hb=>?_
    ·have hk':b+1=g15:=hk
     rcases hb with ⟨_,cur,e,hb,he⟩ | hb
     ·exact g15t (hb.keep hk268) (by rcases he with rfl | rfl <;> decide) hk'
     ·omega
    ·rcases hb with ⟨h5,cur,e,hb,he⟩ | hb
     ·have:=hb.lt
      refine ⟨h5,by omega,?_⟩
      intro h6
      rcases hg2 with h7 | h7
      ·exact g15t (hb.keep hk268) (by rcases he with rfl | rfl <;> decide) (by omega)
      ·omega
     ·exact ⟨by omega,by omega,by omega⟩
  ·rw [← hres,hte,← hb1,hbt,if_pos rfl,hog]
   simp only [Option.bind_some,Option.map_map,List.map_append,List.map_cons,List.map_nil]
   congr 1
   funext ts
   simp
end
end Go.Mir
set_option maxRecDepth 100000
namespace Go.Mir
open Go Go.E Go.RowKit Go.Tr Go.Ss Go.ChangeShapes
def Qm (l:ed) (N:List (List AD)):Option (List (List AD)):=(rC (yS l.feature false l.lost) l.numbers N).bind fun N=>rC (yS l.feature true l.lost) l.bH N
def vH:List ed→List (List AD)→Option (List (List AD))
 | [],N=>some N
 | l::ls,N=>(Qm l N).bind fun N=>vH ls N
def qI (b:lD):Option (List TD) :=
 if b.leaves.length≠b.values.length∨b.leaves.length≠b.outputs.length then none
 else (vH b.lists (List.replicate b.leaves.length [])).bind fun N=>wR b N 0
def Ci (l:List ed):Nat:=(l.map fun x=>x.numbers.length+x.bH.length).sum
section
variable {w w0 u w1 wB x:World} {a a0 a1 a4:OA} {n c n0 c0 n1 c1 n4 c4 g:Nat} {F F' S:Nat→Prop} {p q:Addr} {B mb:Nat} {R:VP} {rows:List RA} {acc:List (TD×SH)}
abbrev tCS:Nat:=72
theorem LH {b16:ay.T16} {p1 a41:OA} {n41 c41 kL kk i:Nat} {x42:Int} {ls:ed} {s1 s2 s3:SH} {L:List (KC×Value)} {res:Option (List (List AD))} {M:Nat} (hi:i<1073741824)
  (hn:Ls tC F wB s1.a s1.n s1.c ls.numbers) (hc:Ls tC F wB s2.a s2.n s2.c ls.bH) (hF:∀ b,F b→b<wB.heap.size) (hsm:ls.sm) (hb0:From wB.heap.size wB w0) (hMl:M+ls.numbers.length+ls.bH.length≤549755813888)
  (hbox:Blk w0 kL (enL ls s1 s2 s3).toArray tL') (hM:iU wH w0 mb L) (hC:Cnt ls.feature ls.lost L) (hmb:wB.heap.size≤mb) (hkk:Blk w0 kk #[s1.v,s2.v] tCS)
  (hW:kH wB.heap.size w0 a4 n4 c4 g rows) (hlen:∀ r∈rows,r.2.1.length≤M) (hres:Qm ls (rows.map dR)=res)
  (hfail:res=none→∀ u,Fr wB.heap.size w0 u→R (.tuple #[.slice none 0 0,.bool false]) u)
  (hdone:∀ N,res=some N→∀ u rows',Fr wB.heap.size w0 u→kH wB.heap.size u a4 n4 c4 g rows'→rows'.map dR=N→(∀ r∈rows',r.2.1.length≤M+ls.numbers.length+ls.bH.length)→b16 p1 a4 n4 c4 a41 n41 c41 x42 ((i+1:Nat):Int) u) :
  ay.e49 R b16 p1 a4 n4 c4 (some ⟨kL,0,none⟩) (some mb) a41 n41 c41 x42 i (some ⟨kk,0,none⟩) 2 2 2 0 w0:=by
 refine ⟨3,?_⟩
 have hnl:=hn.len
 have hcl:=hc.len
 have e:ay.l49 R b16 3=ay.g49 R b16 (ay.e63 R b16 (ay.g49 R b16 (ay.e63 R b16 (ay.g49 R b16 (ay.e63 R b16 (ay.l49 R b16 0)))))):=rfl
 rw [e]
 unfold ay.g49
 refine aI (p:=(0:Int)<2) (by omega) ?_
 show chk ((0:Int)≤0∧(0:Int)<((2:Nat):Int)) _
 refine dJ ⟨by omega,by omega⟩ ⟨s1.a,s1.n,s1.c,?_,s1.n+1,?_⟩
 ·rw [addr_add,hkk.cell]; rfl
 cases hres1:rC (yS ls.feature false ls.lost) ls.numbers (rows.map dR) with
 | none =>
  refine zh (res:=none) (M:=M) hn hF hsm.1.1 hsm.1.2 hb0 (by omega) hbox hM hC hmb (fun _ u hu=>hfail (by rw [← hres]; unfold Qm; rw [hres1]; rfl) u hu) (fun N h=>by cases h) s1.n 0 w0 rows (by omega) (Fr.refl _ _) hW (fun r hr=>by have:=hlen r hr; omega) (by rw [List.drop_zero]; exact hres1)
 | some N1 =>
  refine zh (res:=some N1) (M:=M) hn hF hsm.1.1 hsm.1.2 hb0 (by omega) hbox hM hC hmb (fun h=>by cases h) (fun N hN u1 rows1 hfr1 hW1 hd1 hlen1 hr1=>?_) s1.n 0 w0 rows (by omega) (Fr.refl _ _) hW (fun r hr=>by have:=hlen r hr; omega) (by rw [List.drop_zero]; exact hres1)
  cases hN
  have hres2:rC (yS ls.feature true ls.lost) ls.bH (rows1.map dR)=res:=by
   rw [hd1,← hres]
   unfold Qm
   rw [hres1]
   rfl
  refine aA (i:=0) (by omega) ?_
  refine aI (p:=((0+1:Nat):Int)<2) (by omega) ?_
  show chk ((0:Int)≤((0+1:Nat):Int)∧((0+1:Nat):Int)<((2:Nat):Int)) _
  refine dJ ⟨by omega,by omega⟩ ⟨s2.a,s2.n,s2.c,?_,s2.n+1,?_⟩
  ·rw [addr_add,(hfr1.blk hkk (by decide) (by decide)).cell]; rfl
  refine zh (res:=res) (M:=M+ls.numbers.length) hc hF hsm.2.1.1 hsm.2.1.2 (hb0.trans hfr1.from (fun _ _ h=>h) (fun _ _ h=>h)) (by omega) (hfr1.blk hbox (by decide) (by decide)) (hfr1.map hM) hC hmb (fun h u hu=>hfail h u (hfr1.trans hu)) (fun N hN u2 rows2 hfr2 hW2 hd2 hlen2 hr2=>?_) s2.n 0 u1 rows1 (by omega) (Fr.refl _ _) hW1 (fun r hr=>by have:=hlen1 r hr; omega) (by rw [List.drop_zero]; exact hres2)
  refine aA (i:=1) (by omega) ?_
  refine az (p:=((1+1:Nat):Int)<2) (by omega) (aA (by omega) (hdone N hN u2 rows2 (hfr1.trans hfr2) hW2 hd2 hlen2))
theorem Oa {b:lD} {s1 s2 s3 s4:SH} {kb:Nat} {res:Option (List TD)} (hs1:LsI F wB s1.a s1.n s1.c b.leaves) (hs2:Ls (vP .i64).sl F wB s2.a s2.n s2.c b.values) (hs3:LsI F wB s3.a s3.n s3.c b.outputs) (hs4:Ls tL F wB s4.a s4.n s4.c b.lists) (hF:∀ b,F b→b<wB.heap.size)
  (hv:b.values.length=b.leaves.length) (ho:b.outputs.length=b.leaves.length) (hn4:n4=b.leaves.length) (hsm:b.sm) (htot:Ci b.lists≤549755813888)
  (hfail:res=none→∀ u,From wB.heap.size wB u→R (.tuple #[.slice none 0 0,.bool false]) u)
  (hdone:∀ ts,res=some ts→∀ u a n c,Ls tT (fun b=>wB.heap.size≤b∧b<u.heap.size) u a n c ts→From wB.heap.size wB u→R (.tuple #[.slice a n c,.bool true]) u) :
  ∀ (k i:Nat) (w:World) (rows:List RA),i+k=s4.n→From wB.heap.size wB w→Blk w kb (rG b s1 s2 s3 s4).toArray tB'→kH wB.heap.size w a4 n4 c4 g rows→(∀ r∈rows,r.2.1.length≤Ci (b.lists.take i))→((vH (b.lists.drop i) (rows.map dR)).bind fun N=>wR b N 0)=res →
   ay.l16 R (k+1) (some ⟨kb,0,none⟩) a4 n4 c4 s4.a s4.n s4.c s4.n i w:=by
 intro k
 have h4l:=hs4.len
 have hsm1:=hsm.1
 have hsm5:=hsm.2.2.2.2.1
 induction k with
 | zero =>
  intro i w rows hi hfr hb hW hlen hres
  obtain rfl:i=s4.n:=by omega
  rw [List.drop_eq_nil_of_le (by omega)] at hres
  rw [ay.u16]; unfold ay.g16
  refine az (by omega) ⟨n4+1,?_⟩
  refine Ib (res:=res) (rows:=rows) (g:=g) hs1 hs2 hs3 hF hv ho hn4 (by omega) hfail hdone n4 0 w [] none 0 0 0 (by omega) hfr hb hW ⟨aO.nil _ _ _ _,.inl rfl,fun _ h=>by cases h⟩ rfl ?_
  rw [List.drop_zero,← hres]
  show _=wR b (rows.map dR) 0
  cases wR b (rows.map dR) 0 <;> rfl
 | succ k ih =>
  intro i w rows hi hfr hb hW hlen hres
  rw [ay.u16]; unfold ay.g16
  refine aI (by omega) ?_
  obtain ⟨p,x,cs,hp,hx,hFp,⟨t1,t2,t3,e,hc1,hc2,hc3⟩,hA0⟩:=hs4.elem (i:=i) (by omega)
  subst e
  have hA:=hA0.mod (S:=fun k=>wB.heap.size≤k) hfr (by rw [add_block]; have:=hF _ hFp; omega)
  obtain ⟨hxl,hxe⟩:=List.getElem?_eq_some_iff.1 hx
  have hxm:=List.mem_of_getElem? hx
  have hxs:=hsm.2.2.2.2.2 x hxm
  have hdr:b.lists.drop i=x::b.lists.drop (i+1):=by rw [List.drop_eq_getElem_cons hxl,hxe]
  have htk:Ci (b.lists.take (i+1))=Ci (b.lists.take i)+x.numbers.length+x.bH.length:=by
   rw [List.take_add_one,hx]
   unfold Ci
   simp
   omega
  have htk2:Ci (b.lists.take (i+1))≤Ci b.lists:=by
   have:=congrArg Ci (List.take_append_drop (i+1) b.lists)
   unfold Ci at this ⊢
   rw [List.map_append,List.sum_append] at this
   omega
  rw [hdr] at hres
  rw [hp]
  refine dJ ⟨by omega,by omega⟩ (AtL.ldL hA ?_)
  refine boxS (zs:=(uk 0 none 0 0 none 0 0 none 0 0).toList) (vs:=enL x t1 t2 t3) rfl fun w90 hA90 hb90 hk90=>?_
  have hlt90:=hb90.lt
  have hM0:=iU.new wH w90
  have hkm:=Kept.new w90 (.map #[] 0)
  have hz91:(w90.alloc (.map #[] 0)).heap.size=w90.heap.size+1:=by simp
  generalize w90.alloc (.map #[] 0)=w91 at hM0 hkm hz91
  have hk91:Kept w w91:=Kept.trans hk90 hkm
  have hb91:=hb90.keep hkm
  refine Exists.intro t3.a (Exists.intro t3.n (Exists.intro t3.c ⟨(hA90.kept hkm) 3 _ rfl,?_⟩))
  have hsw:=hfr.size
  refine ⟨t3.n+1,MR (wB:=wB) (w0:=w91) (ls:=x) (s1:=t1) (s2:=t2) (s3:=t3) (l:=x.lost) hc3 hF hxs.2.2.1 (by omega) (by omega) (hfr.aF hk91) (by omega) hb91 (fun u L hCu hMu hmu=>?_) t3.n 0 w91 [] (by omega) (Cnt.nil _) hM0 (Mod.refl _)⟩
  have hku:Kept w u:=From.kept ((Kept.mod (S:=fun k=>w.heap.size≤k) hk91).trans hmu (fun _ _ h=>h) (fun k _ h=>by show w.heap.size≤k; rcases h with h | h <;> omega))
  have hbu:Blk u w.heap.size (enL x t1 t2 t3).toArray tL':=hb91.mod hmu (fun h=>by rcases h with h | h <;> omega)
  have c1:u.cell? ((⟨w.heap.size,0,none⟩:Addr).add 1)=some t1.v:=by rw [addr_add,hbu.cell]; rfl
  have c2:u.cell? ((⟨w.heap.size,0,none⟩:Addr).add 2)=some t2.v:=by rw [addr_add,hbu.cell]; rfl
  refine Exists.intro t1.a (Exists.intro t1.n (Exists.intro t1.c ⟨c1,Exists.intro t2.a (Exists.intro t2.n (Exists.intro t2.c ⟨c2,?_⟩))⟩))
  have hkn:=Kept.new u (.cells #[t1.v,t2.v] tCS)
  have hbn:=Blk.new u #[t1.v,t2.v] tCS
  show nw (u.alloc (.cells #[t1.v,t2.v] tCS)) _
  refine bU ?_
  generalize u.alloc (.cells #[t1.v,t2.v] tCS)=w126 at hkn hbn
  have hk126:Kept w w126:=Kept.trans hku hkn
  refine LH (F:=F) (wB:=wB) (w0:=w126) (ls:=x) (s1:=t1) (s2:=t2) (s3:=t3) (M:=Ci (b.lists.take i)) (res:=Qm x (rows.map dR)) (rows:=rows) (by omega) hc1 hc2 hF hxs (hfr.aF hk126) (by omega) (hbu.keep hkn) (hMu.kept hkn) hCu (by omega) hbn (hW.kept hk126) hlen rfl (fun h v hv=>hfail ?_ v ?_) fun N hN v rows' hfv hWv hdv hlv=>?_
  ·rw [← hres]
   unfold vH
   rw [h]; rfl
  ·exact (hfr.aF hk126).trans hv.from (fun _ _ h=>h) (fun _ _ h=>h)
  ·rw [← hp]
   refine ih (i+1) v rows' (by omega) ((hfr.aF hk126).trans hfv.from (fun _ _ h=>h) (fun _ _ h=>h)) (hfv.blk (hb.keep hk126) (by decide) (by decide)) hWv (fun r hr=>by have:=hlv r hr; omega) ?_
   rw [← hres,hdv]
   unfold vH
   rw [hN]
   cases b.lists.drop (i+1) <;> rfl
end
end Go.Mir
set_option maxRecDepth 100000
namespace Go.Mir
open Go Go.E Go.RowKit Go.Tr Go.Ss Go.ChangeShapes
section
variable {w w0 u w1 wB x:World} {a a0 a1 a4:OA} {n c n0 c0 n1 c1 n4 c4 g:Nat} {F F' S:Nat→Prop} {p q:Addr} {B mb:Nat} {R:VP} {b:lD} {s1 s2 s3 s4:SH}
def BackA (w:World) (b:lD) (v:Value) (u:World):Prop:=∃ (a:OA) (n c:Nat) (ok:Bool),v = .tuple #[.slice a n c,.bool ok]∧(qI b=none→ok=false)∧(∀ ts,qI b=some ts→ok=true∧Ls tT (fun k=>w.heap.size≤k∧k<u.heap.size) u a n c ts)∧From w.heap.size w u
theorem TI (hb:ku F w b s1 s2 s3 s4) (hF:∀ b,F b→b<w.heap.size) (hsm:b.sm) (htot:Ci b.lists≤549755813888):E.CallsD Go.Proofs.Tryz.prog 38 #[vB b s1 s2 s3 s4] w (BackA w b):=by
 refine ay.calls (R:=BackA w b) ?_
 unfold ay ay.g0
 have hl1:=hb.l.len
 have hl2:=hb.v.len
 have hl3:=hb.o.len
 have hsm1:=hsm.1
 have hsm2:=hsm.2.1
 have hsm4:=hsm.2.2.2.1
 refine bU ?_
 have hbk:Blk (w.alloc (.cells (rG b s1 s2 s3 s4).toArray tB')) w.heap.size (rG b s1 s2 s3 s4).toArray tB':=Blk.new w _ _
 have hk1:=Kept.new w (.cells (rG b s1 s2 s3 s4).toArray tB')
 change cL (w.alloc (.cells (rG b s1 s2 s3 s4).toArray tB')) _ _
 have hz:(w.alloc (.cells (rG b s1 s2 s3 s4).toArray tB')).heap.size=w.heap.size+1:=by simp
 generalize w.alloc (.cells (rG b s1 s2 s3 s4).toArray tB')=w1 at hbk hk1 hz
 have hf1:From w.heap.size w w1:=Kept.mod hk1
 have c1:w1.cell? ((na w:Addr).add 1)=some s1.v:=by rw [fQ,hbk.cell]; rfl
 have c2:w1.cell? ((na w:Addr).add 2)=some s2.v:=by rw [fQ,hbk.cell]; rfl
 have c3:w1.cell? ((na w:Addr).add 3)=some s3.v:=by rw [fQ,hbk.cell]; rfl
 have bad:qI b=none→∀ u,From w.heap.size w u→BackA w b (.tuple #[.slice none 0 0,.bool false]) u:=fun h u hu=>⟨none,0,0,false,rfl,fun _=>rfl,fun ts ht=>(by rw [h] at ht; cases ht),hu⟩
 refine Exists.intro s1.a (Exists.intro s1.n (Exists.intro s1.c ⟨c1,Exists.intro s2.a (Exists.intro s2.n (Exists.intro s2.c ⟨c2,?_⟩))⟩))
 refine iJ (fun h=>bad (by unfold qI; rw [if_pos (.inl (by omega))]) w1 hf1) fun h1=>?_
 refine Exists.intro s1.a (Exists.intro s1.n (Exists.intro s1.c ⟨c1,Exists.intro s3.a (Exists.intro s3.n (Exists.intro s3.c ⟨c3,?_⟩))⟩))
 refine iJ (fun h=>bad (by unfold qI; rw [if_pos (.inr (by omega))]) w1 hf1) fun h2=>?_
 refine Exists.intro s1.a (Exists.intro s1.n (Exists.intro s1.c ⟨c1,?_⟩))
 have hp:qI b=(vH b.lists (List.replicate b.leaves.length [])).bind fun N=>wR b N 0:=by
  unfold qI
  rw [if_neg (by omega)]
 refine Arr.make (α:=RA) (en:=WY) (e:=tSA) (w:=w1) (v := .slice none 0 0) (x:=(⟨none,0,0⟩,[],0)) rfl (l:=(s1.n:Int)) (by_:=24) (by omega) (by omega) (by omega) fun u hu hku=>?_
 rw [Int.toNat_natCast] at hu ⊢
 have hku1:Kept w u:=Kept.trans hk1 hku
 have hbu:=hbk.keep hku
 have hsz:=hk1.size
 refine Exists.intro s4.a (Exists.intro s4.n (Exists.intro s4.c ⟨by rw [fQ,hbu.cell]; rfl,s4.n+1,?_⟩))
 refine Oa (wB:=w) (b:=b) (kb:=w.heap.size) (res:=qI b) (g:=w1.heap.size+1) hb.l hb.v hb.o hb.t hF (by omega) (by omega) hl1 hsm htot bad (fun ts hts u2 a n c hL hf2=>⟨a,n,c,true,rfl,fun h=>(by rw [h] at hts; cases hts),fun ts' ht'=>(by rw [hts] at ht'; cases ht'; exact ⟨rfl,hL⟩),hf2⟩) s4.n 0 u (List.replicate s1.n (⟨none,0,0⟩,[],0)) (by omega) (Kept.mod hku1) hbu ⟨⟨hu,.inr (by omega),fun t ht=>?_,?_⟩,fun r hr x hx=>?_⟩ (fun r hr=>?_) ?_
 ·rw [List.eq_of_mem_replicate ht]; exact ⟨aO.nil _ _ _ _,.inl rfl⟩
 ·exact List.pairwise_replicate.2 (.inr (.inl rfl))
 ·rw [List.eq_of_mem_replicate hr] at hx; cases hx
 ·rw [List.eq_of_mem_replicate hr]; exact Nat.zero_le _
 ·rw [hp,List.drop_zero,List.map_replicate,hl1]
  rfl
end
end Go.Mir
set_option maxRecDepth 100000
namespace Go.Mir
open Go Go.E Go.RowKit Go.Tr Go.Ss Go.ChangeShapes
def ShN (m:Nat) (x:ND):Prop:=x.bH.length≤m
def ShA (m:Nat) (x:AD):Prop:=ShN m x.nd
theorem wY {m:Nat} {vals:List Int}:∀ (k:Nat) (f t:Int) (S:List (Int×List AD)) (N:List ND),(∀ g,∀ x∈l9 S g,ShA m x)→(∀ x∈N,ShN m x)→(∀ g,∀ x∈l9 (eG vals k f t S N).2.1 g,ShA m x)∧(∀ x∈(eG vals k f t S N).2.2,ShN m x)
 | 0,f,t,S,N,hS,hN=>⟨hS,hN⟩
 | k+1,f,t,S,N,hS,hN=>by
  have hr:∀ (N:List ND) (i:Nat),(∀ x∈N,ShN m x)→∀ x∈iK N i,ShN m x:=fun N i hN x hx=>by
   unfold iK at hx
   split at hx
   ·rename_i y hy
    rcases mem_set hx with rfl | ⟨j,_,hj⟩
    ·exact hN y (List.mem_of_getElem? hy)
    ·exact hN x (List.mem_of_getElem? hj)
   ·exact hN x hx
  unfold eG
  by_cases h1:t - f=1
  ·rw [if_pos h1]
   refine ⟨hS,fun x hx=>?_⟩
   rcases List.mem_append.1 hx with hx | hx
   ·exact hN x hx
   ·obtain rfl:x=_:=by simpa using hx
    exact Nat.zero_le _
  rw [if_neg h1]
  cases hg:l9 S f with
  | nil=>exact ⟨hS,hN⟩
  | cons s rest =>
   simp only
   by_cases h2:s.to≥t
   ·rw [if_pos h2]; exact ⟨hS,hN⟩
   rw [if_neg h2]
   have hS':∀ g,∀ x∈l9 (Ap S f rest) g,ShA m x:=fun g x hx=>by
    rw [yY] at hx
    split at hx
    ·exact hS f x (by rw [hg]; exact .tail _ hx)
    ·exact hS g x hx
   have hN':∀ x∈N++[{ s.nd with left:=(N.length:Int)+1 }],ShN m x:=fun x hx=>by
    rcases List.mem_append.1 hx with hx | hx
    ·exact hN x hx
    ·obtain rfl:x=_:=by simpa using hx
     exact hS f s (by rw [hg]; exact .head _)
   obtain ⟨r1,r2⟩:=wY (vals:=vals) k f s.to (Ap S f rest) (N++[{ s.nd with left:=(N.length:Int)+1 }]) hS' hN'
   cases hb:eG vals k f s.to (Ap S f rest) (N++[{ s.nd with left:=(N.length:Int)+1 }]) with
   | mk b p =>
    obtain ⟨S1,N1⟩:=p
    rw [hb] at r1 r2
    cases b with
    | false=>exact ⟨r1,hr N1 _ r2⟩
    | true=>exact wY (vals:=vals) k s.to t S1 (iK N1 N.length) r1 (hr N1 _ r2)
theorem GI {m:Nat} {l:List AD} (h:∀ x∈l,ShA m x):∀ g,∀ x∈l9 (pz (gZ l)) g,ShA m x:=fun g x hx=>by
 rw [wX] at hx
 have hx':=(sorted_perm Lh _).mem_iff.1 hx
 have key:∀ (l:List AD) (S:List (Int×List AD)),(∀ x∈l,ShA m x)→(∀ g,∀ x∈l9 S g,ShA m x)→∀ g,∀ x∈l9 (l.foldl GN S) g,ShA m x:=by
  intro l
  induction l with
  | nil=>exact fun S _ h=>h
  | cons y l ih =>
   intro S hl hS
   refine ih (GN S y) (fun x hx=>hl x (.tail _ hx)) fun g x hx=>?_
   rw [Ah] at hx
   split at hx
   ·rcases List.mem_append.1 hx with hx | hx
    ·exact hS g x hx
    ·obtain rfl:x=y:=by simpa using hx
     exact hl x (.head _)
   ·exact hS g x hx
 exact key l [] h (fun _ _ h=>by cases h) g x hx'
theorem QX {m:Nat} {l:List AD} {vals:List Int} (h:∀ x∈l,ShA m x) (h0:0<vals.length):(rE l vals).2.length≤2*vals.length∧∀ x∈(rE l vals).2,ShN m x:=by
 unfold rE
 split
 ·rename_i ha
  have h1:=mr (vals:=vals) (n:=(vals.length:Int)) vals.length 0 vals.length (pz (gZ l)) [] (by omega) (Fa ha)
  refine ⟨?_,(wY vals.length 0 vals.length (pz (gZ l)) [] (GI h) (fun _ h=>by cases h)).2⟩
  have:=h1.2.2
  simp only [List.length_nil] at this
  show (eG vals vals.length 0 vals.length (pz (gZ l)) []).2.2.length≤_
  omega
 ·exact ⟨Nat.zero_le _,fun _ h=>by cases h⟩
theorem zB {m:Nat} {ask:dF→AD} (ha:∀ c,(ask c).nd.bH=c.bH):∀ (l:List dF) (N N':List (List AD)),(∀ c∈l,c.bH.length≤m)→(∀ r∈N,∀ x∈r,ShA m x)→rC ask l N=some N'→(∀ r∈N',∀ x∈r,ShA m x)
 | [],N,N',_,hN,h=>by cases h; exact hN
 | c::cs,N,N',hl,hN,h=>by
  rw [sG] at h
  split at h
  ·refine zB ha cs _ _ (fun c hc=>hl c (.tail _ hc)) (fun r hr x hx=>?_) h
   rcases mem_set hr with rfl | ⟨j,_,hj⟩
   ·rcases List.mem_append.1 hx with hx | hx
    ·rw [List.getD_eq_getElem?_getD] at hx
     cases hg:N[c.tree.toNat]? with
     | none=>rw [hg] at hx; cases hx
     | some r=>rw [hg] at hx; exact hN r (List.mem_of_getElem? hg) x hx
    ·obtain rfl:x=ask c:=by simpa using hx
     show (ask c).nd.bH.length≤m
     rw [ha]; exact hl c (.head _)
   ·exact hN r (List.mem_of_getElem? hj) x hx
  ·cases h
theorem F9 {m:Nat}:∀ (l:List ed) (N N':List (List AD)),(∀ x∈l,(∀ c∈x.numbers,c.bH.length≤m)∧(∀ c∈x.bH,c.bH.length≤m))→(∀ r∈N,∀ x∈r,ShA m x)→vH l N=some N'→(∀ r∈N',∀ x∈r,ShA m x)
 | [],N,N',_,hN,h=>by cases h; exact hN
 | x::xs,N,N',hl,hN,h=>by
  unfold vH Qm at h
  cases h1:rC (yS x.feature false x.lost) x.numbers N with
  | none=>rw [h1] at h; cases h
  | some N1 =>
   rw [h1] at h
   simp only [Option.bind_some] at h
   cases h2:rC (yS x.feature true x.lost) x.bH N1 with
   | none=>rw [h2] at h; cases h
   | some N2 =>
    rw [h2] at h
    simp only [Option.bind_some] at h
    exact F9 xs N2 N' (fun y hy=>hl y (.tail _ hy)) (zB (fun _=>rfl) _ _ _ (hl x (.head _)).2 (zB (fun _=>rfl) _ _ _ (hl x (.head _)).1 hN h1) h2) h
theorem Bz:∀ (l:List ed) (N N':List (List AD)),vH l N=some N'→N'.length=N.length
 | [],N,N',h=>by cases h; rfl
 | x::xs,N,N',h=>by
  have cl:∀ (ask:dF→AD) (l:List dF) (N N':List (List AD)),rC ask l N=some N'→N'.length=N.length:=by
   intro ask l
   induction l with
   | nil=>intro N N' h; cases h; rfl
   | cons c cs ih =>
    intro N N' h
    rw [sG] at h
    split at h
    ·have:=ih _ _ h; rwa [List.length_set] at this
    ·cases h
  unfold vH Qm at h
  cases h1:rC (yS x.feature false x.lost) x.numbers N with
  | none=>rw [h1] at h; cases h
  | some N1 =>
   rw [h1] at h
   simp only [Option.bind_some] at h
   cases h2:rC (yS x.feature true x.lost) x.bH N1 with
   | none=>rw [h2] at h; cases h
   | some N2 =>
    rw [h2] at h
    simp only [Option.bind_some] at h
    rw [Bz xs N2 N' h,cl _ _ _ _ h2,cl _ _ _ _ h1]
theorem KU {m:Nat} {b:lD} {l:List AD} {i:Nat} {t:TD} (hl:∀ x∈l,ShA m x) (h:nM b l i=some t):t.nodes.length≤8192∧∀ x∈t.nodes,ShN m x:=by
 unfold nM at h
 split at h
 ·cases h
 ·rename_i hn
  split at h
  ·cases h
   have h3:0<(b.values.getD i []).length∧(b.values.getD i []).length≤4096:=by omega
   obtain ⟨h1,h2⟩:=QX (m:=m) (vals:=b.values.getD i []) hl h3.1
   exact ⟨by show (rE l (b.values.getD i [])).2.length≤8192; omega,h2⟩
  ·cases h
theorem Ei {m:Nat} {b:lD}:∀ (N:List (List AD)) (i:Nat) (ts:List TD),(∀ r∈N,∀ x∈r,ShA m x)→wR b N i=some ts→ts.length=N.length∧∀ t∈ts,t.nodes.length≤8192∧∀ x∈t.nodes,ShN m x
 | [],i,ts,_,h=>by cases h; exact ⟨rfl,fun _ h=>by cases h⟩
 | r::N,i,ts,hN,h=>by
  unfold wR at h
  cases h1:nM b r i with
  | none=>rw [h1] at h; cases h
  | some t =>
   rw [h1] at h
   simp only [Option.bind_some] at h
   cases h2:wR b N (i+1) with
   | none=>rw [h2] at h; cases h
   | some ts' =>
    rw [h2] at h
    simp only [Option.map_some] at h
    cases h
    obtain ⟨e1,e2⟩:=Ei N (i+1) ts' (fun r hr=>hN r (.tail _ hr)) h2
    refine ⟨by simp [e1],fun t ht=>?_⟩
    rcases List.mem_cons.1 ht with rfl | ht
    ·exact KU (hN r (.head _)) h1
    ·exact e2 t ht
theorem MH {b:lD} {ts:List TD} (hsm:b.sm) (h:qI b=some ts):ts.length=b.leaves.length∧∀ t∈ts,t.nodes.length≤8192∧∀ x∈t.nodes,ShN 1048576 x:=by
 unfold qI at h
 split at h
 ·cases h
 ·cases h1:vH b.lists (List.replicate b.leaves.length []) with
  | none=>rw [h1] at h; cases h
  | some N =>
   rw [h1] at h
   simp only [Option.bind_some] at h
   have hN:=F9 (m:=1048576) b.lists _ N (fun x hx=>by
    have:=hsm.2.2.2.2.2 x hx
    exact ⟨fun c hc=>this.1.2 c hc,fun c hc=>this.2.1.2 c hc⟩) (fun r hr x hx=>by rw [List.eq_of_mem_replicate hr] at hx; cases hx) h1
   obtain ⟨e1,e2⟩:=Ei N 0 ts hN h
   refine ⟨?_,e2⟩
   rw [e1,Bz _ _ _ h1,List.length_replicate]
end Go.Mir
set_option maxRecDepth 100000
namespace Go.Mir
open Go Go.E Go.RowKit Go.Tr Go.Ss Go.ChangeShapes
theorem wO:∀ (ts:List TD) (k:Nat),(dZ ts k).length≤ts.length*4096
 | [],k=>Nat.zero_le _
 | t::ts,k=>by
  show (qJ k t.nodes++dZ ts (k+1)).length≤_
  rw [List.length_append,List.length_cons,Nat.add_mul,Nat.one_mul]
  have h1:=wO ts (k+1)
  have h2:(qJ k t.nodes).length≤4096:=Nat.le_trans (List.length_filterMap_le _ _) (lS _)
  omega
theorem Bv:∀ (ts:List TD) (k:Nat) (p:ND×dF),p∈dZ ts k→∃ t∈ts,p.1∈t.nodes∧p.2.bH=p.1.bH
 | t::ts,k,p,h=>by
  rcases List.mem_append.1 (show p∈qJ k t.nodes++dZ ts (k+1) from h) with h | h
  ·obtain ⟨m,_,hm⟩:=List.mem_filterMap.1 h
   unfold qA at hm
   obtain ⟨x,hx,rfl⟩:=Option.map_eq_some_iff.1 hm
   exact ⟨t,.head _,List.mem_of_getElem? hx,rfl⟩
  ·obtain ⟨t',h1,h2⟩:=Bv ts (k+1) p h
   exact ⟨t',.tail _ h1,h2⟩
def RH (m n:Nat) (L:List ed):Prop:=L.length≤n∧∀ x∈L,x.numbers.length≤n∧x.bH.length≤n∧x.lost.length≤n∧(∀ c∈x.numbers,c.bH.length≤m)∧(∀ c∈x.bH,c.bH.length≤m)∧(∀ c∈x.lost,c.bH.length≤m)
theorem PZ {m n:Nat} {L:List ed} {p:ND×dF} (h:RH m n L) (hp:p.2.bH.length≤m):RH m (n+1) (nI L p):=by
 have he:RH m n (vK p.1.feature L)∨((vK p.1.feature L).length≤n+1∧∀ x∈vK p.1.feature L,x.numbers.length≤n∧x.bH.length≤n∧x.lost.length≤n∧(∀ c∈x.numbers,c.bH.length≤m)∧(∀ c∈x.bH,c.bH.length≤m)∧(∀ c∈x.lost,c.bH.length≤m)):=by
  unfold vK
  split
  ·exact .inl h
  ·refine .inr ⟨by have:=h.1; simp; omega,fun x hx=>?_⟩
   rcases List.mem_append.1 hx with hx | hx
   ·exact h.2 x hx
   ·obtain rfl:x=_:=by simpa using hx
    exact ⟨Nat.zero_le _,Nat.zero_le _,Nat.zero_le _,(fun _ h=>by cases h),(fun _ h=>by cases h),(fun _ h=>by cases h)⟩
 have he':(vK p.1.feature L).length≤n+1∧∀ x∈vK p.1.feature L,x.numbers.length≤n∧x.bH.length≤n∧x.lost.length≤n∧(∀ c∈x.numbers,c.bH.length≤m)∧(∀ c∈x.bH,c.bH.length≤m)∧(∀ c∈x.lost,c.bH.length≤m):=by
  rcases he with h | h
  ·exact ⟨by have:=h.1; omega,h.2⟩
  ·exact h
 refine ⟨by unfold nI; rw [List.length_map]; exact he'.1,fun y hy=>?_⟩
 unfold nI at hy
 obtain ⟨x,hx,rfl⟩:=List.mem_map.1 hy
 obtain ⟨h1,h2,h3,h4,h5,h6⟩:=he'.2 x hx
 have app:∀ l:List dF,(∀ c∈l,c.bH.length≤m)→∀ c∈l++[p.2],c.bH.length≤m:=fun l hl c hc=>by
  rcases List.mem_append.1 hc with hc | hc
  ·exact hl c hc
  ·obtain rfl:c=p.2:=by simpa using hc
   exact hp
 split
 ·unfold uo
  by_cases hk:p.1.kind=3
  ·by_cases hm:p.1.missing=2
   ·simp only [hk,hm,if_true]
    exact ⟨by omega,by simp; omega,by simp; omega,h4,app _ h5,app _ h6⟩
   ·simp only [hk,hm,if_true,if_false]
    exact ⟨by omega,by simp; omega,by omega,h4,app _ h5,h6⟩
  ·by_cases hm:p.1.missing=2
   ·simp only [hk,hm,if_true,if_false]
    exact ⟨by simp; omega,by omega,by simp; omega,app _ h4,h5,app _ h6⟩
   ·simp only [hk,hm,if_false]
    exact ⟨by simp; omega,by omega,by omega,app _ h4,h5,h6⟩
 ·exact ⟨by omega,by omega,by omega,h4,h5,h6⟩
theorem Ec {m:Nat}:∀ (cs:List (ND×dF)) (L:List ed) (n:Nat),RH m n L→(∀ p∈cs,p.2.bH.length≤m)→RH m (n+cs.length) (cs.foldl nI L)
 | [],L,n,h,_=>h
 | p::cs,L,n,h,hp=>by
  have:=Ec cs (nI L p) (n+1) (PZ h (hp p (.head _))) (fun q hq=>hp q (.tail _ hq))
  rw [List.length_cons,List.foldl_cons]
  have e:n+(cs.length+1)=n+1+cs.length:=by omega
  rw [e]; exact this
theorem Ju {m:Nat} {ts:List TD} (hs:∀ t∈ts,∀ x∈t.nodes,x.bH.length≤m):RH m (ts.length*4096) (jr ts):=by
 have h:=Ec (m:=m) (dZ ts 0) [] 0 ⟨Nat.le_refl _,fun _ h=>by cases h⟩ (fun p hp=>by
  obtain ⟨t,ht,h1,h2⟩:=Bv ts 0 p hp
  rw [h2]; exact hs t ht _ h1)
 have hl:=wO ts 0
 unfold jr
 have hpm:=sorted_perm ltF (((dZ ts 0).foldl nI []).map xH)
 refine ⟨by rw [hpm.length_eq,List.length_map]; have:=h.1; omega,fun y hy=>?_⟩
 obtain ⟨x,hx,rfl⟩:=List.mem_map.1 (hpm.mem_iff.1 hy)
 obtain ⟨h1,h2,h3,h4,h5,h6⟩:=h.2 x hx
 have hp2:=sorted_perm ltD x.numbers
 exact ⟨by show (sorted ltD x.numbers).length≤_; rw [hp2.length_eq]; omega,by show x.bH.length≤_; omega,by show x.lost.length≤_; omega,fun c hc=>h4 c (hp2.mem_iff.1 hc),h5,h6⟩
theorem Ja {ts:List TD} {first:Int} (hl:ts.length≤65536) (hn:∀ t∈ts,t.nodes.length≤1048576) (hs:∀ t∈ts,∀ x∈t.nodes,x.bH.length≤1048576):(eU ts first).sm:=by
 obtain ⟨h1,h2⟩:=Ju hs
 refine ⟨by show (ts.map _).length≤_; rw [List.length_map]; omega,by show (ts.map _).length≤_; rw [List.length_map]; omega,fun v hv=>?_,by show (ts.map _).length≤_; rw [List.length_map]; omega,by show (jr ts).length≤_; omega,fun l hl'=>?_⟩
 ·obtain ⟨t,ht,rfl⟩:=List.mem_map.1 hv
  show ((dw t.nodes false).map _).length≤_
  rw [List.length_map]
  exact Nat.le_trans (O6 (nodes:=t.nodes) false) (hn t ht)
 ·obtain ⟨a1,a2,a3,a4,a5,a6⟩:=h2 l hl'
  exact ⟨⟨by omega,a4⟩,⟨by omega,a5⟩,⟨by omega,a6⟩⟩
theorem SC {e:ED} {rs:List (Int×Int)} (h0:ofE e rs=0):pF e=0∧iL e.trees.length rs 0=true:=by
 unfold ofE at h0
 split at h0
 ·rename_i h; exact absurd h0 h
 ·rename_i h
  split at h0
  ·rename_i h2; exact ⟨by omega,h2⟩
  ·cases h0
theorem Po {e:ED} {rs:List (Int×Int)} (h0:ofE e rs=0) (hn:∀ t∈e.trees,t.nodes.length≤1048576) (hs:∀ t∈e.trees,∀ x∈t.nodes,x.bH.length≤1048576):(ofP e rs).sm:=by
 have hP:ofP e rs=Bq e rs:=by unfold ofP; rw [if_pos h0]
 obtain ⟨h1,h2⟩:=SC h0
 have h3:=qB h2
 have h4:e.trees.length≤65536∧e.base.length≤64:=by
  unfold pF at h1
  split at h1
  ·cases h1
  split at h1
  ·cases h1
  split at h1
  ·cases h1
  split at h1
  ·cases h1
  split at h1
  ·cases h1
  omega
 rw [hP]
 refine ⟨by show e.base.length≤_; omega,by show (rs.map _).length≤_; rw [List.length_map]; omega,fun b hb=>?_⟩
 obtain ⟨r,hr,rfl⟩:=List.mem_map.1 hb
 have hsub:∀ t∈(e.trees.take r.2.toNat).drop r.1.toNat,t∈e.trees:=fun t ht=>List.mem_of_mem_take (List.mem_of_mem_drop ht)
 refine Ja ?_ (fun t ht=>hn t (hsub t ht)) (fun t ht=>hs t (hsub t ht))
 rw [List.length_drop,List.length_take]
 omega
end Go.Mir
set_option maxRecDepth 100000
namespace Go.Mir
open Go Go.E Go.RowKit Go.Tr Go.Ss Go.ChangeShapes
def xU:List lD→List TD→List (Int×Int)→Option (List TD×List (Int×Int))
 | [],T,r=>some (T,r)
 | b::bs,T,r=>match qI b with
  | none=>none
  | some ts=>if b.first≠T.length then none else xU bs (T++ts) (r++[(b.first,((T++ts).length:Int))])
def nT (f:fV) (T:List TD):ED:=⟨⟨#[]⟩,List.replicate f.features.toNat ⟨#[]⟩,f.outputs,f.base,T⟩
noncomputable def pK (f:fV):Option (List TD):=if f.features<0∨f.features>65536 then none else
 (xU f.blocks [] []).bind fun p=>if ofE (nT f p.1) p.2=0∧ofP (nT f p.1) p.2=f then some p.1 else none
def trT (l:List lD):Nat:=(l.map fun b=>b.leaves.length).sum
structure SmF (f:fV):Prop where
 sm:f.sm
 tot:∀ b∈f.blocks,Ci b.lists≤549755813888
 trs:trT f.blocks≤1048576
section
variable {w w0 u w1 wB x:World} {a a0 a1 a4:OA} {n c n0 c0 n1 c1 n4 c4 g:Nat} {F F' S:Nat→Prop} {p q:Addr} {B mb:Nat} {R:VP} {f:fV} {s t:SH}
theorem SRn:fE Go.Proofs.Tryz.prog 27 nz 2 16:=sliceT (by kernel_rfl)
abbrev tS':Nat:=9
def zN (w:World) (f:fV) (v:Value) (u:World):Prop:=∃ (a:OA) (n c:Nat) (why:Int),v = .tuple #[.slice a n c,.int .i64 why]∧(pK f=none→why=150∧a=none∧n=0∧c=0)∧(∀ ts,pK f=some ts→why=0∧Ls tT (fun k=>w.heap.size≤k∧k<u.heap.size) u a n c ts)∧From w.heap.size w u
abbrev NX (B ke gT gR:Nat) (w:World):Nat→Prop:=fun b=>B≤b∧b<w.heap.size∧b≠ke∧b+1≠gT∧b+1≠gR
structure BkS (wB w:World) (f:fV) (s t:SH) (kf ke:Nat) (sf:SH) (gF:Nat) (T:List (TD×SH)) (sT:SH) (gT:Nat) (rs:List (Int×Int)) (sR:SH) (gR:Nat):Prop where
 fr:From wB.heap.size wB w
 bf:Blk w kf (nG f s t).toArray lW
 be:Blk w ke #[.string ⟨#[]⟩,sf.v,.int .i64 f.outputs,s.v,sT.v] Hr
 ft:Arr enS tS' w sf.a sf.n sf.c (List.replicate f.features.toNat ⟨#[]⟩) gF
 tr:aO 2 xu tT' w sT.a sT.n sT.c T gT
 nd:∀ x∈T,Ls tN (NX wB.heap.size ke gT gR w) w x.2.a x.2.n x.2.c x.1.nodes
 rr:aO 2 enR nz w sR.a sR.n sR.c rs gR
 gB:gT=0∨wB.heap.size<gT
 rB:gR=0∨wB.heap.size<gR
 kB:wB.heap.size≤ke
 sz:∀ x∈T,x.1.nodes.length≤8192∧∀ y∈x.1.nodes,ShN 1048576 y
theorem BkS.kept {kf ke:Nat} {sf sT sR:SH} {gF gT gR:Nat} {T:List (TD×SH)} {rs:List (Int×Int)} (h:BkS wB w f s t kf ke sf gF T sT gT rs sR gR) (hk:Kept w u):BkS wB u f s t kf ke sf gF T sT gT rs sR gR :=
 ⟨h.fr.aF hk,h.bf.keep hk,h.be.keep hk,h.ft.kept hk,h.tr.kept hk,fun x hx=>((h.nd x hx).kept hk).mono fun b hb=>⟨hb.1,by have:=hb.2.1; have:=hk.size; omega,hb.2.2⟩,h.rr.kept hk,h.gB,h.rB,h.kB,h.sz⟩
theorem MB {kf ke:Nat} {sf sT sR:SH} {gF gT gR:Nat} {T:List (TD×SH)} {rs:List (Int×Int)} (hG:lH F wB f s t) (hF:∀ b,F b→b<wB.heap.size) (h:BkS wB w f s t kf ke sf gF T sT gT rs sR gR) (hfe:0≤f.features∧f.features≤65536) (hT:T.length≤1048576) (hR:rs.length≤1048576)
  (hp:pK f=if ofE (nT f (T.map (·.1))) rs=0∧ofP (nT f (T.map (·.1))) rs=f then some (T.map (·.1)) else none) :
  bK (some (⟨ke,0,none⟩:Addr)) fun q69 =>
  xY w q69 fun s70'0 a70'1 n70'1 c70'1 x70'2 a70'3 n70'3 c70'3 a70'4 n70'4 c70'4 =>
  E.CallsD Go.Proofs.Tryz.prog 7 #[mf s70'0 a70'1 n70'1 c70'1 x70'2 a70'3 n70'3 c70'3 a70'4 n70'4 c70'4,.slice sR.a sR.n sR.c] w fun v71 u72 =>
   ∃ x73'0_0 x73'0_1 a73'0_2 n73'0_2 c73'0_2 a73'0_3 n73'0_3 c73'0_3 x73'1,v71 = .tuple #[jM x73'0_0 x73'0_1 a73'0_2 n73'0_2 c73'0_2 a73'0_3 n73'0_3 c73'0_3,.int .i64 x73'1] ∧
    (nw (u72.alloc (.cells (lq 0 0 none 0 0 none 0 0) 31)) fun w74 =>
    qj w74 (na u72) x73'0_0 x73'0_1 a73'0_2 n73'0_2 c73'0_2 a73'0_3 n73'0_3 c73'0_3 fun w75 =>
    af (x73'1 != 0)
     (zN wB f (.tuple #[.slice none 0 0,.int .i64 150]) w75)
     (lV w75 (na u72) fun x76'0 x76'1 a76'2 n76'2 c76'2 a76'3 n76'3 c76'3 =>
     bK (some (⟨kf,0,none⟩:Addr)) fun q77 =>
     lV w75 q77 fun x78'0 x78'1 a78'2 n78'2 c78'2 a78'3 n78'3 c78'3 =>
     E.CallsD Go.Proofs.Tryz.prog 39 #[jM x76'0 x76'1 a76'2 n76'2 c76'2 a76'3 n76'3 c76'3,jM x78'0 x78'1 a78'2 n78'2 c78'2 a78'3 n78'3 c78'3] w75 fun v79 u80 =>
      ∃ b81',v79 = .bool b81' ∧
       (af (!b81')
        (zN wB f (.tuple #[.slice none 0 0,.int .i64 150]) u80)
        (bK (some (⟨ke,0,none⟩:Addr)) fun q82 =>
        cL u80 (q82.add 4) fun a83' n83' c83' =>
        zN wB f (.tuple #[.slice a83' n83' c83',.int .i64 0]) u80)))):=by
 have cE:∀ {u:World} (hb:Blk u ke #[.string ⟨#[]⟩,sf.v,.int .i64 f.outputs,s.v,sT.v] Hr) (i:Nat),u.cell? ((⟨ke,0,none⟩:Addr).add i)=(#[.string ⟨#[]⟩,sf.v,.int .i64 f.outputs,s.v,sT.v]:Array Value)[i]?:=fun hb i=>by rw [addr_add,Nat.zero_add,hb.cell]
 have hTl:=aO.Qs h.tr
 have hfl:=h.ft.len
 rw [List.length_replicate] at hfl
 have hsm:=hG.sm
 have hbl:=hG.bs.len
 have hsm1:=hsm.1
 have hRl:=aO.len (k:=2) (en:=enR) (fun _=>rfl) (by omega) h.rr
 refine ⟨_,by rw [cE h.be]; rfl,sf.a,sf.n,sf.c,by rw [cE h.be]; rfl,_,by rw [cE h.be]; rfl,s.a,s.n,s.c,by rw [cE h.be]; rfl,sT.a,sT.n,sT.c,by rw [cE h.be]; rfl,?_⟩
 have bad:pK f=none→∀ u,From wB.heap.size wB u→zN wB f (.tuple #[.slice none 0 0,.int .i64 150]) u:=fun hh u hu=>⟨none,0,0,150,rfl,fun _=>⟨rfl,rfl,rfl,rfl⟩,fun ts ht=>(by rw [hh] at ht; cases ht),hu⟩
 have hE:iH (fun b=>b<w.heap.size) w (nT f (T.map (·.1))) sf s sT:=by
  refine ⟨?_,?_,?_,fun b hb=>hb,by omega,by omega,by omega,fun x hx=>?_⟩
  ·exact (Arr.ls (h1:=fun _=>rfl) h.ft).mono fun b hb=>by have:=Row.le h.ft; omega
  ·exact (From.ls hG.bs h.fr hF).mono fun b hb=>by have:=hF b hb; have:=h.fr.size; omega
  ·exact aO.lsT h.tr (fun b hb=>by have:=Row.le h.tr; omega) fun x hx=>(h.nd x hx).mono fun b hb=>hb.2.1
  ·obtain ⟨y,hy,rfl⟩:=List.mem_map.1 hx
   exact ⟨by have:=(h.sz y hy).1; omega,fun z hz=>(h.sz y hy).2 z hz⟩
 have hrs:Ls tR (fun b=>b+1=gR) w sR.a sR.n sR.c rs:=by
  have:=aO.lsK (T:=tR) (f:=id) (en:=enR) (k:=2) (F:=fun b=>b+1=gR) (fun _=>rfl) (by omega) rfl h.rr (fun b hb=>hb) (fun x _=>rfl)
  simpa using this
 have hn:sR.n≤16777216:=by omega
 have hc:=Va hE hrs (fun b hb=>by have:=Row.le h.rr; omega) hn
 refine E.CallsD.mono hc fun v u hh=>?_
 obtain ⟨s',k',hv,hfo,hku⟩:=hh
 have hsmP:ofE (nT f (T.map (·.1))) rs=0→(ofP (nT f (T.map (·.1))) rs).sm:=fun h0=>Po h0 (fun t ht=>(hE.good t ht).1) (fun t ht=>(hE.good t ht).2)
 obtain ⟨P,hP⟩:∃ P,P=ofP (nT f (T.map (·.1))) rs:=⟨_,rfl⟩
 rw [← hP] at hfo hp hv hsmP
 obtain ⟨y,hy⟩:∃ y,y=ofE (nT f (T.map (·.1))) rs:=⟨_,rfl⟩
 rw [← hy] at hp hv hsmP
 refine Exists.intro P.features (Exists.intro P.outputs (Exists.intro s'.a (Exists.intro s'.n (Exists.intro s'.c (Exists.intro k'.a (Exists.intro k'.n (Exists.intro k'.c (Exists.intro y ⟨hv,?_⟩))))))))
 refine boxS (zs:=(lq 0 0 none 0 0 none 0 0).toList) (vs:=nG P s' k') rfl fun w75 hA hb75 hk75=>?_
 have hkw:=Kept.trans hku hk75
 have f75:From wB.heap.size wB w75:=h.fr.aF hkw
 refine iJ (fun hne=>bad (by rw [hp,if_neg (fun hh=>hne hh.1)]) w75 f75) fun h0=>?_
 have hAf:AtL w75 (⟨kf,0,none⟩:Addr) (nG f s t):=fun j v hj=>by
  rw [addr_add,Nat.zero_add,(h.bf.keep hkw).cell]
  simpa using hj
 refine ⟨_,hA 0 _ rfl,_,hA 1 _ rfl,s'.a,s'.n,s'.c,hA 2 _ rfl,k'.a,k'.n,k'.c,hA 3 _ rfl,?_⟩
 refine ⟨_,hAf 0 _ rfl,_,hAf 1 _ rfl,s.a,s.n,s.c,hAf 2 _ rfl,t.a,t.n,t.c,hAf 3 _ rfl,?_⟩
 have hGP:lH (fun b=>w.heap.size≤b∧b<u.heap.size) w75 P s' k':=⟨hfo.b.kept hk75,hfo.k.kept hk75,hsmP h0⟩
 have hGf:lH F w75 f s t:=⟨From.ls hG.bs f75 hF,From.ls hG.ks f75 hF,hG.sm⟩
 refine rP (Ru hGP hGf) (fun hne u2 hk2=>bad (by rw [hp,if_neg (fun hh=>hne hh.2)]) u2 (f75.aF hk2)) fun heq u2 hk2=>?_
 have hk2w:=Kept.trans hkw hk2
 refine Exists.intro sT.a (Exists.intro sT.n (Exists.intro sT.c ⟨by rw [cE (h.be.keep hk2w)]; rfl,?_⟩))
 rw [if_pos ⟨h0,heq⟩] at hp
 refine ⟨sT.a,sT.n,sT.c,0,rfl,fun hh=>(by rw [hp] at hh; cases hh),fun ts hts=>⟨rfl,?_⟩,f75.aF hk2⟩
 rw [hp] at hts
 cases hts
 have hs2:=hk2w.size
 refine aO.lsT (h.tr.kept hk2w) (fun b hb=>?_) fun x hx=>((h.nd x hx).kept hk2w).mono fun b hb=>⟨hb.1,by have:=hb.2.1; omega⟩
 have:=Row.le h.tr
 have:=h.gB
 omega
end
end Go.Mir
set_option maxRecDepth 100000
namespace Go.Mir
open Go Go.E Go.RowKit Go.Tr Go.Ss Go.ChangeShapes
section
variable {w w0 u w1 wB x:World} {a a0 a1 a4:OA} {n c n0 c0 n1 c1 n4 c4 g:Nat} {F F' S:Nat→Prop} {p q:Addr} {B mb:Nat} {R:VP} {f:fV} {s t:SH}
theorem MS {l:List lD} {i:Nat} {x:lD} (hx:l[i]?=some x):trT (l.drop i)=x.leaves.length+trT (l.drop (i+1)):=by
 obtain ⟨hl,he⟩:=List.getElem?_eq_some_iff.1 hx
 rw [List.drop_eq_getElem_cons hl,he]
 rfl
set_option maxHeartbeats 1000000 in
theorem Na {kf ke:Nat} {sf:SH} {gF:Nat} {res:Option (List TD×List (Int×Int))} (hG:lH F wB f s t) (hS:SmF f) (hF:∀ b,F b→b<wB.heap.size) (hfe:0≤f.features∧f.features≤65536)
  (hp:pK f=res.bind fun p=>if ofE (nT f p.1) p.2=0∧ofP (nT f p.1) p.2=f then some p.1 else none) :
  ∀ (k i:Nat) (w:World) (T:List (TD×SH)) (sT:SH) (gT:Nat) (rs:List (Int×Int)) (sR:SH) (gR:Nat),i+k=t.n→BkS wB w f s t kf ke sf gF T sT gT rs sR gR→T.length+trT (f.blocks.drop i)≤1048576→rs.length=i→xU (f.blocks.drop i) (T.map (·.1)) rs=res →
   dS.l20 (zN wB f) (k+1) (some ⟨kf,0,none⟩) (some ⟨ke,0,none⟩) sR.a sR.n sR.c t.a t.n t.c t.n i w:=by
 intro k
 have hbl:=hG.ks.len
 have hsm2:=hG.sm.2.1
 have bad:pK f=none→∀ u,From wB.heap.size wB u→zN wB f (.tuple #[.slice none 0 0,.int .i64 150]) u:=fun hh u hu=>⟨none,0,0,150,rfl,fun _=>⟨rfl,rfl,rfl,rfl⟩,fun ts ht=>(by rw [hh] at ht; cases ht),hu⟩
 induction k with
 | zero =>
  intro i w T sT gT rs sR gR hi h hT hR hres
  obtain rfl:i=t.n:=by omega
  rw [List.drop_eq_nil_of_le (by omega)] at hres
  rw [dS.u20]; unfold dS.g20
  refine az (by omega) (MB hG hF h hfe (by omega) (by omega) ?_)
  rw [hp,← hres]
  rfl
 | succ k ih =>
  intro i w T sT gT rs sR gR hi h hT hR hres
  rw [dS.u20]; unfold dS.g20
  refine aI (by omega) ?_
  have hB:=h.fr.size
  obtain ⟨p,x,cs,hp0,hx,hFp,⟨s1,s2,s3,s4,e,hb1,hb2,hb3,hb4⟩,hA0⟩:=hG.ks.elem (i:=i) (by omega)
  subst e
  have hA:=hA0.mod (S:=fun k=>wB.heap.size≤k) h.fr (by rw [add_block]; have:=hF _ hFp; omega)
  obtain ⟨hxl,hxe⟩:=List.getElem?_eq_some_iff.1 hx
  have hxm:=List.mem_of_getElem? hx
  have hxs:=hG.sm.2.2 x hxm
  have hdr:f.blocks.drop i=x::f.blocks.drop (i+1):=by rw [List.drop_eq_getElem_cons hxl,hxe]
  rw [MS hx] at hT
  rw [hdr] at hres
  rw [hp0]
  refine dJ ⟨by omega,by omega⟩ (AtL.ldB hA ?_)
  refine boxS (zs:=(oZ 0 none 0 0 none 0 0 none 0 0 none 0 0).toList) (vs:=rG x s1 s2 s3 s4) rfl fun w46 hA46 hb46 hk46=>?_
  have h46:=h.kept hk46
  have f46:=h46.fr
  refine AtL.ldB hA46 ?_
  have hIn:ku F w46 x s1 s2 s3 s4:=⟨From.ls hb1 f46 hF,From.ls hb2 f46 hF,From.ls hb3 f46 hF,From.ls hb4 f46 hF⟩
  refine E.CallsD.mono (TI hIn (fun b hb=>by have:=hF b hb; have:=f46.size; omega) hxs (hS.tot x hxm)) fun v u hh=>?_
  obtain ⟨a',n',c',ok,hv,hnone,hsome,hfu⟩:=hh
  refine ⟨a',n',c',ok,hv,?_⟩
  have hk49:Kept w46 u:=From.kept hfu
  have h49:=h46.kept hk49
  have f49:=h49.fr
  cases hbk:qI x with
  | none =>
   rw [hnone hbk]
   refine bad ?_ u f49
   rw [hp,← hres]
   show (Option.bind (match qI x with | none=>none | some ts=>_) _)=none
   rw [hbk]
   rfl
  | some ts =>
   obtain ⟨rfl,hls⟩:=hsome ts hbk
   have hsz:=MH hxs hbk
   have hres':(if x.first≠(T.map (·.1)).length then none else xU (f.blocks.drop (i+1)) (T.map (·.1)++ts) (rs++[(x.first,((T.map (·.1)++ts).length:Int))]))=res:=by
    rw [← hres]
    show _=(match qI x with | none=>none | some ts=>_)
    rw [hbk]
   have hA49:AtL u (na w) (rG x s1 s2 s3 s4):=hA46.kept hk49
   have hTl:=aO.Qs h.tr
   have cE:∀ {u:World} {z:SH} (hb:Blk u ke #[.string ⟨#[]⟩,sf.v,.int .i64 f.outputs,s.v,z.v] Hr),u.cell? ((⟨ke,0,none⟩:Addr).add 4)=some z.v:=fun hb=>by rw [addr_add,Nat.zero_add,hb.cell]; rfl
   refine DR ?_
   refine Exists.intro x.first ⟨hA49 0 _ rfl,Exists.intro sT.a (Exists.intro sT.n (Exists.intro sT.c ⟨cE h49.be,?_⟩))⟩
   refine iJ (fun hne=>bad (by rw [hp,← hres',if_pos (by rw [List.length_map]; omega)]; rfl) u f49) fun heq=>?_
   rw [if_neg (by rw [List.length_map]; omega)] at hres'
   refine Exists.intro sT.a (Exists.intro sT.n (Exists.intro sT.c ⟨cE h49.be,?_⟩))
   obtain ⟨l,hl1,hl2,hl3⟩:=hls.Vq
   have hll:l.length=ts.length:=by rw [← hl1,List.length_map]
   have hn':n'=ts.length:=hls.len
   have hsz1:=hsz.1
   refine aO.pushes WC (fun _=>rfl) (by omega) h49.tr Aj hl2 (by simp only [maxLen]; omega) (by omega) fun a2 c2 g2 u57 hrow2 hg2 ho2=>⟨a2,sT.n+n',c2,rfl,?_⟩
   have hgT:=h49.gB
   have hgTl:=Row.le h49.tr
   have typ:∀ {b:Nat} {cs:Array Value} {e:Nat},Blk u b cs e→e≠tT'→¬ (b+1=gT):=fun hb he hk=>by
    obtain ⟨cur,hb'⟩:=Row.blk h49.tr hk
    exact he (hb.ne hb')
   have be57:=h49.be.mod ho2 (fun hk=>typ h49.be (by decide) hk)
   have bs:=be57.set 4 (.slice a2 (sT.n+n') c2)
   have hos:=Only.set u57 ke 4 (.slice a2 (sT.n+n') c2)
   have e4:(((⟨ke,0,none⟩:Addr).add 4).add 0)=⟨ke,4,none⟩:=by rw [addr_add,addr_add]
   show st u57 (((⟨ke,0,none⟩:Addr).add 4).add 0) _ _
   rw [e4]
   refine ⟨be57.ok (by simp),bU ?_⟩
   generalize u57.setCell ⟨ke,4,none⟩ (.slice a2 (sT.n+n') c2)=w60 at bs hos
   have bs':Blk w60 ke #[.string ⟨#[]⟩,sf.v,.int .i64 f.outputs,s.v,(⟨a2,sT.n+n',c2⟩:SH).v] Hr:=bs
   have knot:∀ {b:Nat} {cs:Array Value} {e:Nat},Blk u57 b cs e→e≠Hr→¬ (b+1=ke+1):=fun hb he hk=>by
    obtain rfl:=Nat.succ.inj hk
    exact he (hb.ne be57)
   have blk60:∀ {b:Nat} {cs:Array Value} {e:Nat},Blk u b cs e→e≠tT'→e≠Hr→Blk w60 b cs e:=fun hb h1 h2=>(hb.mod ho2 (typ hb h1)).mod hos (knot (hb.mod ho2 (typ hb h1)) h2)
   have hb49:Blk u w.heap.size (rG x s1 s2 s3 s4).toArray tB':=hb46.keep hk49
   have hb60:=blk60 hb49 (by decide) (by decide)
   refine Exists.intro x.first ⟨by rw [fQ,hb60.cell]; rfl,Exists.intro a2 (Exists.intro (sT.n+n') (Exists.intro c2 ⟨cE bs',?_⟩))⟩
   have hkn:=Kept.new w60 (.cells (enR (x.first,((sT.n+n':Nat):Int))).toArray nz)
   have hAn:=AtL.new w60 (enR (x.first,((sT.n+n':Nat):Int))) nz
   show nw (w60.alloc (.cells (enR (x.first,((sT.n+n':Nat):Int))).toArray nz)) _
   refine bU ?_
   generalize w60.alloc (.cells (enR (x.first,((sT.n+n':Nat):Int))).toArray nz)=w64 at hkn hAn
   have rr60:aO 2 enR nz w60 sR.a sR.n sR.c rs gR:=(h49.rr.mod ho2 fun k hk hk2=>by
    obtain ⟨cur,hb⟩:=Row.blk h49.rr hk
    exact typ hb (by decide) hk2).mod hos fun k hk hk2=>by
    obtain ⟨cur,hb⟩:=Row.blk h49.rr hk
    exact knot (hb.mod ho2 (typ hb (by decide))) (by decide) hk2
   have hRl:=aO.len (k:=2) (en:=enR) (fun _=>rfl) (by omega) h.rr
   refine aO.qQ SRn (fun _=>rfl) (by omega) (rr60.kept hkn) (x:=(x.first,((sT.n+n':Nat):Int))) (q:=na w60) hAn (zW _) (by simp only [maxLen]; omega) (by omega) fun a5 c5 g5 u66 hrow5 hg5 _ ho5=>⟨a5,sR.n+1,c5,rfl,aA (by omega) ?_⟩
   have hgR:=h49.rB
   have hgRl:=Row.le h49.rr
   have hke:=h.kB
   have hkel:=h49.be.lt
   have z1:=ho2.size
   have z2:=hos.size
   have z3:=hkn.size
   have z4:=ho5.size
   have z5:=hk46.size
   have z6:=hk49.size
   have f60:From wB.heap.size wB w60:=(f49.only ho2 hgT).then hos (fun k _ hk=>by have hk':k+1=ke+1:=hk; omega)
   have f66:From wB.heap.size wB u66:=(f60.aF hkn).only ho5 hgR
   have typR:∀ {b:Nat} {cs:Array Value} {e:Nat},Blk w64 b cs e→e≠nz→¬ (b+1=gR):=fun hb he hk=>by
    obtain ⟨cur,hb'⟩:=Row.blk (rr60.kept hkn) hk
    exact he (hb.ne hb')
   have blk66:∀ {b:Nat} {cs:Array Value} {e:Nat},Blk w60 b cs e→e≠nz→Blk u66 b cs e:=fun hb h1=>(hb.keep hkn).mod ho5 (typR (hb.keep hkn) h1)
   have row60:aO 2 xu tT' w60 a2 (sT.n+n') c2 (T++l) g2:=hrow2.mod hos fun k hk hk2=>by
    obtain ⟨cur,hb⟩:=Row.blk hrow2 hk
    exact knot hb (by decide) hk2
   have row66:aO 2 xu tT' u66 a2 (sT.n+n') c2 (T++l) g2:=(row60.kept hkn).mod ho5 fun k hk hk2=>by
    obtain ⟨cur,hb⟩:=Row.blk (row60.kept hkn) hk
    exact typR hb (by decide) hk2
   have ft66:Arr enS tS' u66 sf.a sf.n sf.c (List.replicate f.features.toNat ⟨#[]⟩) gF:=by
    have h1:=h49.ft.mod ho2 fun k hk hk2=>by
     obtain ⟨cur,hb⟩:=Row.blk h49.ft hk
     exact typ hb (by decide) hk2
    have h2:=h1.mod hos fun k hk hk2=>by
     obtain ⟨cur,hb⟩:=Row.blk h1 hk
     exact knot hb (by decide) hk2
    exact (h2.kept hkn).mod ho5 fun k hk hk2=>by
     obtain ⟨cur,hb⟩:=Row.blk (h2.kept hkn) hk
     exact typR hb (by decide) hk2
   rw [← hp0]
   refine ih (i+1) u66 (T++l) ⟨a2,sT.n+n',c2⟩ g2 (rs++[(x.first,((sT.n+n':Nat):Int))]) ⟨a5,sR.n+1,c5⟩ g5 (by omega) ⟨f66,blk66 (blk60 h49.bf (by decide) (by decide)) (by decide),blk66 bs' (by decide),ft66,row66,fun y hy=>?_,hrow5,by omega,by omega,hke,fun y hy=>?_⟩ ?_ ?_ ?_
   ·-- the nodes lie apart
    have key:∀ {F0:Nat→Prop},(∀ b,F0 b→wB.heap.size≤b∧b<u.heap.size∧b≠ke∧b+1≠gT∧b+1≠gR)→Ls tN F0 u y.2.a y.2.n y.2.c y.1.nodes→Ls tN (NX wB.heap.size ke g2 g5 u66) u66 y.2.a y.2.n y.2.c y.1.nodes:=fun hF0 hL=>by
     have l1:=hL.mod ho2 fun b hb hk=>(hF0 b hb).2.2.2.1 hk
     have l2:=l1.mod hos fun b hb hk=>(hF0 b hb).2.2.1 (by have hk':b+1=ke+1:=hk; omega)
     have l3:=(l2.kept hkn).mod ho5 fun b hb hk=>(hF0 b hb).2.2.2.2 hk
     refine l3.mono fun b hb=>?_
     obtain ⟨q1,q2,q3,q4,q5⟩:=hF0 b hb
     exact ⟨q1,by omega,q3,by omega,by omega⟩
    rcases List.mem_append.1 hy with hy | hy
    ·exact key (fun b hb=>hb) (h49.nd y hy)
    ·refine key (fun b hb=>?_) (hl3 y hy)
     have hgT46:=Row.le h46.tr
     have hgR46:=Row.le h46.rr
     have hke46:=h46.be.lt
     exact ⟨by omega,hb.2,by omega,by omega,by omega⟩
   ·rcases List.mem_append.1 hy with hy | hy
    ·exact h.sz y hy
    ·exact hsz.2 y.1 (by rw [← hl1]; exact List.mem_map_of_mem hy)
   ·rw [List.length_append]; omega
   ·simp; omega
   ·rw [← hres',List.map_append,hl1,List.length_append,List.length_map,hTl,hn']
end
end Go.Mir
set_option maxRecDepth 100000
namespace Go.Mir
open Go Go.E Go.RowKit Go.Tr Go.Ss Go.ChangeShapes
section
variable {w w0 u w1 wB x:World} {a a0 a1 a4:OA} {n c n0 c0 n1 c1 n4 c4 g:Nat} {F F' S:Nat→Prop} {p q:Addr} {B mb:Nat} {R:VP} {f:fV} {s t:SH}
theorem OO (hG:lH F w f s t) (hS:SmF f) (hF:∀ b,F b→b<w.heap.size):E.CallsD Go.Proofs.Tryz.prog 15 #[vF f s t] w (zN w f):=by
 refine dS.calls (R:=zN w f) ?_
 unfold dS dS.g0
 have bad:(f.features<0∨f.features>65536)→∀ u,From w.heap.size w u→zN w f (.tuple #[.slice none 0 0,.int .i64 150]) u:=fun hh u hu=>⟨none,0,0,150,rfl,fun _=>⟨rfl,rfl,rfl,rfl⟩,fun ts ht=>(by unfold pK at ht; rw [if_pos hh] at ht; cases ht),hu⟩
 refine bU ?_
 have hbk:Blk (w.alloc (.cells (nG f s t).toArray lW)) w.heap.size (nG f s t).toArray lW:=Blk.new w _ _
 have hk1:=Kept.new w (.cells (nG f s t).toArray lW)
 change cI (w.alloc (.cells (nG f s t).toArray lW)) _ _ _
 have hz:(w.alloc (.cells (nG f s t).toArray lW)).heap.size=w.heap.size+1:=by simp
 generalize w.alloc (.cells (nG f s t).toArray lW)=w1 at hbk hk1 hz
 have A1:AtL w1 (na w) (nG f s t):=by simpa using AtL.blk (b:=w) hbk
 refine ⟨_,A1 1 _ rfl,_,_,_,A1 2 _ rfl,?_⟩
 refine boxS (zs:=(mD ⟨#[]⟩ none 0 0 0 none 0 0 none 0 0).toList) (vs:=[.string ⟨#[]⟩,.slice none 0 0,.int .i64 f.outputs,s.v,.slice none 0 0]) rfl fun w2 hA2 be2 hk2=>?_
 have k12:=Kept.trans hk1 hk2
 have A2:=A1.kept hk2
 have hk2s:=hk2.size
 refine ⟨_,A2 0 _ rfl,?_⟩
 by_cases h1:f.features<0
 ·refine aI (by omega) ?_
  exact bad (.inl h1) w2 (Kept.mod k12)
 refine az (by omega) ?_
 refine ⟨_,A2 0 _ rfl,?_⟩
 by_cases h2:f.features>65536
 ·refine aI (by omega) ?_
  exact bad (.inr h2) w2 (Kept.mod k12)
 refine az (by omega) ?_
 refine ⟨_,A2 0 _ rfl,?_⟩
 refine Arr.make (α:=ByteArray) (en:=enS) (e:=tS') (w:=w2) (v := .string ⟨#[]⟩) (x:=⟨#[]⟩) rfl (l:=f.features) (by_:=16) (by omega) (by omega) (by omega) fun u hu hku=>?_
 have be3:=be2.keep hku
 have bs:=be3.set 1 (.slice (some (na w2)) f.features.toNat f.features.toNat)
 have hos:=Only.set u w1.heap.size 1 (.slice (some (na w2)) f.features.toNat f.features.toNat)
 have e1:(((na w1:Addr).add 1).add 0)=⟨w1.heap.size,1,none⟩:=by rw [fQ,addr_add]
 show st u (((na w1).add 1).add 0) _ _
 rw [e1]
 refine ⟨be3.ok (by simp),bU ?_⟩
 generalize u.setCell ⟨w1.heap.size,1,none⟩ (.slice (some (na w2)) f.features.toNat f.features.toNat)=w4 at bs hos
 have bs':Blk w4 w1.heap.size #[.string ⟨#[]⟩,(⟨some (na w2),f.features.toNat,f.features.toNat⟩:SH).v,.int .i64 f.outputs,s.v,(⟨none,0,0⟩:SH).v] Hr:=bs
 have hk13:=Kept.trans k12 hku
 have b3:=hbk.keep (Kept.trans hk2 hku)
 have lt1:=be2.lt
 have b4:=b3.mod hos (fun hk=>by have hk':w.heap.size+1=w1.heap.size+1:=hk; omega)
 have A4:AtL w4 (na w) (nG f s t):=by simpa using AtL.blk (b:=w) b4
 refine ⟨_,_,_,A4 3 _ rfl,?_⟩
 have hu4:=hu.mod hos (fun k h1 h2=>by have h2':k+1=w1.heap.size+1:=h2; omega)
 have fr4:From w.heap.size w w4:=From.then (Kept.mod hk13) hos fun k _ h2=>by have h2':k+1=w1.heap.size+1:=h2; omega
 refine Exists.intro (t.n+1) (Na (res:=xU f.blocks [] []) hG hS hF (by omega) (by unfold pK; rw [if_neg (by omega)]) t.n 0 w4 [] ⟨none,0,0⟩ 0 [] ⟨none,0,0⟩ 0 (by omega) ⟨fr4,b4,bs',hu4,aO.nil _ _ _ _,(fun _ h=>by cases h),aO.nil _ _ _ _,.inl rfl,.inl rfl,by omega,(fun _ h=>by cases h)⟩ ?_ rfl rfl)
 have:=hS.trs
 simpa using this
end
end Go.Mir
