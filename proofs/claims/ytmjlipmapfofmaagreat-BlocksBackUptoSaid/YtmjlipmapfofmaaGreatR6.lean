/- Part of a proof; no conditions. -/
import Derived.Test.YtmjlipmapfofmaaGreatR34
import Derived.Test.YtmjlipmapfofmaaGreatFD
set_option linter.unusedVariables false
set_option linter.unusedSimpArgs false
set_option linter.unusedSectionVars false
set_option maxRecDepth 100000
open Go.Proofs.Tryz (prog)
namespace Go.E
open Go Go.RowKit Go.ChangeShapes
section
variable{H:Type}{enc:TypeId×Value->H}{P:Program}{w:World}{t e:TypeId}{B:DataW H->Nat}{α:Type}{cs:List Value}{x:DataW H×List MemPlace}
theorem OL(hB:Yt B)(hS:∀es sp,(es.map B).sum<=B (.slice es sp))(ht:P.underlying t=some (.slice e))(h:TR enc P w t cs x) :
  ∃a n c,cs=[.slice a n c]/\n<=c/\n<=B x.1/\(a=none->n=0/\c=0)/\∃D:Nat->DataW H,(a≠none->((List.range n).map λi=>B (D i)).sum<=B x.1) /\
   ∀p,a=some p->∀i,i<n->∃cs' Pl,w.cells? 0 (p.add (i*P.cellsOf e)) (P.cellsOf e)=some cs'/\TR enc P w e cs' (D i,Pl)/\B (D i)<=B x.1:=by
 obtain⟨fuel,h⟩:=h
 rcases Deep.open_slice ht h with ⟨rfl,rfl⟩ | ⟨a,len,cap,m,n,D,Pl,rfl,_,hl,hm,hmm,rfl,hx⟩
 .exact⟨none,0,0,rfl,zb4 _,Nat.zero_le _,λ_=>⟨rfl,rfl⟩,λ_ => .nil,λh=>absurd rfl h,λp hp=>by cases hp⟩
 .simp only[if_true]at hmm;refine⟨some a,len,cap,rfl,hl,?_,(λhh=>by cases hh),D,λ_=>?_,λp hp i hi=>?_⟩
  .refine zb5 ?_ (Nat.le_of_succ_le (hB.len _ _));simp
  .refine zb5 (Nat.le_of_eq ?_) (hS _ _);rw[ze6];rfl
  .cases hp;obtain⟨cs',h1,h2⟩:=hx i (by omega);exact⟨cs',Pl i,h1,⟨n,h2⟩,hB.elem _ _ _ (ze8 (List.mem_range.2 hi))⟩
theorem Bd{fs:Array Field}{x:DataW H×List MemPlace}(ht:P.underlying t=some (.struct fs))(h:TR enc P w t cs x) :
  cs.length=P.cellsOf t/\∃parts,x.1 = .agg parts/\parts.length=fs.size/\∀(i:Nat) (f:Field),fs[i]?=some f->∃y,TR enc P w f.type ((cs.drop f.offset).take (P.cellsOf f.type)) y/\parts[i]?=some y.1:=by
 obtain⟨fuel,h⟩:=h
 cases fuel with
 |zero=>simp[DataW.trod]at h
 |succ f=>
  unfold DataW.trod at h;rw[ht]at h;have h:(if cs.length=P.cellsOf t then(fs.toList.mapM λf'=>DataW.trod enc P w 0 (λ_=>true) true f f'.type ((cs.drop f'.offset).take (P.cellsOf f'.type))).map λxs=>((.agg (xs.map (·.1)):DataW H),xs.flatMap (·.2)) else none)=some x:=by
   split at h <;> simp_all
  split at h
  case isFalse=>cases h
  rename_i hl;obtain⟨xs,hm,rfl⟩:=zd7.1 h;have hlen:=mapM_some_length hm;refine⟨hl,_,rfl,by rw[za7,hlen];simp,λi f' hi=>?_⟩;have hg:=mapM_some_get hm i f' (by simpa using hi);have hilt:i<xs.length:=by rw[hlen];simpa using(zc4.1 hi).1
  rw[za2 hilt]at hg;exact⟨xs[i],⟨f,hg⟩,by rw[zc1,za2 hilt];rfl⟩
theorem Js{wt:α->Nat}:∀(n:Nat) (f:Fin n->α) (g:Nat->Nat),(∀i:Fin n,wt (f i)<=g i)->((List.ofFn f).map wt).sum<=((List.range n).map g).sum
 |0,f,g,_=>by simp
 |n+1,f,g,h=>by
  have h1:=Js n (λi=>f i.succ) (λi=>g (i+1)) λi=>h i.succ;have h2:=h 0;rw[List.ofFn_succ,List.range_succ_eq_map,ze0,ze0,List.sum_cons,List.sum_cons,ze6];have h3:wt (f 0)<=g 0:=h2;have h4:(g∘Nat.succ)=λi=>g (i+1):=rfl;rw[h4];omega
def GS(G:α->Nat->Prop)(xs:List α)(b:Nat):Prop:=xs.length<=b/\(∀x∈xs,∃b',b'<=b/\G x b')/\∀wt:α->Nat,(∀x b,G x b->wt x<=b)->(xs.map wt).sum<=b
theorem zZ{T:Ty α}{G:α->Nat->Prop}(hB:Yt B)(hS:∀es sp,(es.map B).sum<=B (.slice es sp))(ht:P.underlying t=some (.slice e))(hc:P.cellsOf e=T.k)(hk0:T.k≠0)(h:vZ enc P w B T e G) :
  vZ enc P w B T.sl t (GS G):=λcs y hy=>by
 obtain⟨a,n,c,rfl,h1,h3,h4,D,hD,h5⟩:=OL hB hS ht hy
 cases a with
 |none=>
  obtain⟨rfl,rfl⟩:=h4 rfl;exact⟨[],⟨none,0,0,rfl,Ls.nil _ _ _ _ _⟩,Nat.zero_le _,λx hx=>(by cases hx),λ_ _=>Nat.zero_le _⟩
 |some p=>
  have each:∀i:Fin n,∃x,(∃cs,T.rd (λb=>b<w.heap.size) w x cs/\∀j v,cs[j]?=some v->w.cell? (p.add (i*T.k+j))=some v)/\B (D i)<=B y.1/\G x (B (D i)):=by
   intro i;obtain⟨cs',z,hc1,hz,hb⟩:=h5 p rfl i i.isLt;obtain⟨x,hx,hG⟩:=h cs' _ hz;refine⟨x,⟨cs',hx,λj v hj=>?_⟩,hb,hG⟩;rw[hc]at hc1;rw[<- add_add];exact cells_at hc1 j v hj
  obtain⟨f,hf⟩:=Classical.axiomOfChoice each;have hp:0<n->T.k≠0->p.block<w.heap.size:=λhn hk=>by
   obtain⟨⟨cs,hr,hcs⟩,_⟩:=hf ⟨0,hn⟩;have hl:=T.len hr;have:=hcs 0 (cs[0]'(by omega)) (za2 _);have:=block_lt_of_cell this
   rwa [add_block]at this
  refine⟨List.ofFn f,⟨some p,n,c,rfl,by simp,h1,λi x hi=>?_⟩,by simpa using h3,λx hx=>?_,λwt hw=>?_⟩
  .obtain⟨hlt,rfl⟩:=za1.1 hi;simp only[List.length_ofFn]at hlt;obtain⟨⟨cs,hr,hcs⟩,_⟩:=hf ⟨i,hlt⟩;exact⟨p,cs,rfl,hp (by omega) hk0,by simpa using hr,hcs⟩
  .obtain⟨i,rfl⟩:=List.mem_ofFn.1 hx;exact⟨_,(hf i).2.1,(hf i).2.2⟩
  .exact zb5 (Js n f (λi=>B (D i)) λi=>hw _ _ (hf i).2.2) (hD (by simp))
end
end Go.E
namespace Go.Mir
open Go Go.E Go.RowKit Go.ChangeShapes Go.WideShapes Go.ChangeAt Go.Tr
open Go.Proofs.YtmjlipmapfofmaaGreat (Rows.uptoBulk Rows.uptoBulkAll Rows.uptoSmall)
section
variable{H:Type}{enc:TypeId×Value->H}{w:World}
theorem Ip:∀l:List (DataW H),(l.map Rows.uptoBulk).sum<=Rows.uptoBulkAll l
 | []=>Nat.zero_le _
 |x::r=>by
  have:=Ip r;simp only[Rows.uptoBulkAll,ze0,List.sum_cons];omega
theorem measS:∀(es:List (DataW H)) (sp:_),(es.map Rows.uptoBulk).sum<=Rows.uptoBulk (.slice es sp):=λes sp=>by
 have:=Ip es;simp only[Rows.uptoBulk];omega
theorem EO:∀l:List (DataW H),l.length<=Rows.uptoBulkAll l:=λl=>Iw l
theorem JX:∀(l:List (DataW H)) (i j:Nat) (x y:DataW H),i<j->l[i]?=some x->l[j]?=some y->Rows.uptoBulk x+Rows.uptoBulk y<=Rows.uptoBulkAll l
 |z::l,0,j+1,x,y,_,hx,hy=>by
  obtain rfl:z=x:=by simpa using hx
  have hy':l[j]?=some y:=by simpa using hy
  have:=uo (za0 hy');simp only[Rows.uptoBulkAll];omega
 |z::l,i+1,j+1,x,y,h,hx,hy=>by
  have:=JX l i j x y (by omega) (by simpa using hx) (by simpa using hy);simp only[Rows.uptoBulkAll];omega
def a0Z(x:cZ)(b:Nat):Prop:=x.aT.length<=b/\6<=b/\x.thr<18446744073709551616
theorem Vf:vZ enc prog w Rows.uptoBulk tC 76 a0Z:=λcs y hy=>by
 obtain⟨fs,hS,hfs⟩:∃fs,prog.underlying 76=some (.struct fs)/\fs=((prog).fieldsOf 76):=⟨_,by kernel_rfl,rfl⟩;have hN:=Bd hS hy;obtain⟨hl,parts,hparts,hp⟩:=Aa hS hy;obtain⟨_,parts',hparts',hpl,_⟩:=hN;obtain rfl:parts=parts':=by rw[hparts]at hparts';injection hparts'
 rw[show(prog).cellsOf 76=5 from by kernel_rfl]at hl;have g:∀(i e off:Nat),(fs[i]?).map (λf:Field=>(f.type,f.offset))=some (e,off)->(prog).cellsOf e=1->∃y',TR enc prog w e ((cs.drop off).take 1) y'/\y'.1∈parts:=λi e off h hc=>by
  obtain⟨f,h1,h2,h3⟩:=fld h;obtain⟨y',hy',hm,_⟩:=hp i f h1;rw[h2,h3,hc]at hy';exact⟨y',hy',hm⟩
 have ft:∀i:Nat,(fs[i]?).map (λf:Field=>(f.type,f.offset))=(((prog).fieldsOf 76)[i]?).map (λf:Field=>(f.type,f.offset)):=λi=>by rw[hfs]
 obtain⟨y0,h0,_⟩:=g 0 52 0 (by rw[ft];kernel_rfl) (by kernel_rfl);obtain⟨y1,h1,m1⟩:=g 1 53 1 (by rw[ft];kernel_rfl) (by kernel_rfl);obtain⟨y2,h2,_⟩:=g 2 3 2 (by rw[ft];kernel_rfl) (by kernel_rfl);obtain⟨y3,h3,_⟩:=g 3 3 3 (by rw[ft];kernel_rfl) (by kernel_rfl);obtain⟨y4,h4,_⟩:=g 4 3 4 (by rw[ft];kernel_rfl) (by kernel_rfl);obtain⟨n0,e0,w0⟩:=QG (k := .f64) (by kernel_rfl) h0;obtain⟨l,⟨a,n,c,e1,hls⟩,hl1,_⟩:=qY meas wG (T:=vJ .i64) (by kernel_rfl) (by decide) (qo jv) _ _ h1;obtain⟨n2,e2,_⟩:=xu jv h2;obtain⟨n3,e3,_⟩:=xu jv h3;obtain⟨n4,e4,_⟩:=xu jv h4;refine⟨⟨n0,l,n2,n3,n4⟩,⟨⟨a,n,c⟩,?_,hls⟩,?_⟩
 .rcases cs with _ | ⟨q0,_ | ⟨q1,_ | ⟨q2,_ | ⟨q3,_ | ⟨q4,_ | ⟨q5,r⟩⟩⟩⟩⟩⟩ <;> simp at hl
  simp at e0 e1 e2 e3 e4;rw[e0,e1,e2,e3,e4]
 .have hb:Rows.uptoBulk y1.1<=Rows.uptoBulk y.1:=by rw[hparts];exact meas.part _ _ m1
  have hf:fs.size=5:=by rw[hfs];kernel_rfl
  have ha:=EO parts;have hb6:6<=Rows.uptoBulk y.1:=by rw[hparts];simp only[Rows.uptoBulk];omega
  refine⟨by show l.length<=_;omega,hb6,?_⟩;show n0<_;simpa[Lit.wf] using w0
def GC(l:List cZ)(b:Nat):Prop:=l.length<=b/\(∀x∈l,x.aT.length<=b)/\6*l.length<=b/\∀x∈l,x.thr<18446744073709551616
theorem E5:vZ enc prog w Rows.uptoBulk tC.sl 72 GC :=
 vZ.weak (zZ meas measS (e:=76) (by kernel_rfl) (T:=tC) (by kernel_rfl) (by decide) Vf) λxs b ⟨h1,h2,h3⟩=>⟨h1,λx hx=>by obtain⟨b',h3,h4,_⟩:=h2 x hx;omega,by have:=h3 (λ_=>6) λx b h=>h.2.1;rw[show(xs.map λ_=>6)=List.replicate xs.length 6 from List.map_const' ..,List.sum_replicate_nat]at this;omega,λx hx=>by obtain⟨b',_,_,_,h5⟩:=h2 x hx;exact h5⟩
theorem GC.up{l:List cZ}{b b':Nat}(h:GC l b)(hb:b<=b'):GC l b':=⟨zb5 h.1 hb,λx hx=>zb5 (h.2.1 x hx) hb,zb5 h.2.2.1 hb,h.2.2.2⟩
theorem Vj:vZ enc prog w Rows.uptoBulk tL 74 (λx b=>GC x.numbers b/\GC x.aT b/\GC x.lost b/\6*(x.numbers.length+x.aT.length)<=b):=λcs y hy=>by
 obtain⟨fs,hS,hfs⟩:∃fs,prog.underlying 74=some (.struct fs)/\fs=((prog).fieldsOf 74):=⟨_,by kernel_rfl,rfl⟩;obtain⟨hl,parts,hparts,_,hp⟩:=Bd hS hy;rw[show(prog).cellsOf 74=4 from by kernel_rfl]at hl;have g:∀(i e off:Nat),(fs[i]?).map (λf:Field=>(f.type,f.offset))=some (e,off)->(prog).cellsOf e=1->∃y',TR enc prog w e ((cs.drop off).take 1) y'/\parts[i]?=some y'.1:=λi e off h hc=>by
  obtain⟨f,h1,h2,h3⟩:=fld h;obtain⟨y',hy',hm⟩:=hp i f h1;rw[h2,h3,hc]at hy';exact⟨y',hy',hm⟩
 have ft:∀i:Nat,(fs[i]?).map (λf:Field=>(f.type,f.offset))=(((prog).fieldsOf 74)[i]?).map (λf:Field=>(f.type,f.offset)):=λi=>by rw[hfs]
 obtain⟨y0,h0,_⟩:=g 0 3 0 (by rw[ft];kernel_rfl) (by kernel_rfl);obtain⟨y1,h1,m1⟩:=g 1 72 1 (by rw[ft];kernel_rfl) (by kernel_rfl);obtain⟨y2,h2,m2⟩:=g 2 72 2 (by rw[ft];kernel_rfl) (by kernel_rfl);obtain⟨y3,h3,m3⟩:=g 3 72 3 (by rw[ft];kernel_rfl) (by kernel_rfl);obtain⟨n0,e0,_⟩:=xu jv h0;obtain⟨l1,⟨a1,n1,c1,e1,hls1⟩,g1⟩:=E5 _ _ h1;obtain⟨l2,⟨a2,n2,c2,e2,hls2⟩,g2⟩:=E5 _ _ h2;obtain⟨l3,⟨a3,n3,c3,e3,hls3⟩,g3⟩:=E5 _ _ h3;have b1:Rows.uptoBulk y1.1<=Rows.uptoBulk y.1:=by rw[hparts];exact meas.part _ _ (za0 m1)
 have b2:Rows.uptoBulk y2.1<=Rows.uptoBulk y.1:=by rw[hparts];exact meas.part _ _ (za0 m2)
 have b3:Rows.uptoBulk y3.1<=Rows.uptoBulk y.1:=by rw[hparts];exact meas.part _ _ (za0 m3)
 have b12:Rows.uptoBulk y1.1+Rows.uptoBulk y2.1<=Rows.uptoBulk y.1:=by
  have:=JX parts 1 2 _ _ (by omega) m1 m2;rw[hparts];simp only[Rows.uptoBulk];omega
 have k1:=g1.2.2.1;have k2:=g2.2.2.1;refine⟨⟨n0,l1,l2,l3⟩,⟨⟨a1,n1,c1⟩,⟨a2,n2,c2⟩,⟨a3,n3,c3⟩,?_,hls1,hls2,hls3⟩,GC.up g1 b1,GC.up g2 b2,GC.up g3 b3,by show 6*(l1.length+l2.length)<=_;omega⟩
 rcases cs with _ | ⟨q0,_ | ⟨q1,_ | ⟨q2,_ | ⟨q3,_ | ⟨q4,r⟩⟩⟩⟩⟩ <;> simp at hl
 simp at e0 e1 e2 e3;rw[e0,e1,e2,e3]
structure GB(x:kJ)(b:Nat):Prop where
 leaves:x.leaves.length<=b
 values:x.values.length<=b
 value:∀v∈x.values,v.length<=b
 outputs:x.outputs.length<=b
 lists:x.lists.length<=b
 list:∀l∈x.lists,GC l.numbers b/\GC l.aT b/\GC l.lost b
 tot:(x.lists.map λl=>6*(l.numbers.length+l.aT.length)).sum<=b
 nums:(x.lists.map λl=>l.numbers.length).sum<=b
 aT:(x.lists.map λl=>l.aT.length).sum<=b
theorem We:vZ enc prog w Rows.uptoBulk tB 66 GB:=λcs y hy=>by
 obtain⟨fs,hS,hfs⟩:∃fs,prog.underlying 66=some (.struct fs)/\fs=((prog).fieldsOf 66):=⟨_,by kernel_rfl,rfl⟩;obtain⟨hl,parts,hparts,hp⟩:=Aa hS hy;rw[show(prog).cellsOf 66=5 from by kernel_rfl]at hl;have g:∀(i e off:Nat),(fs[i]?).map (λf:Field=>(f.type,f.offset))=some (e,off)->(prog).cellsOf e=1->∃y',TR enc prog w e ((cs.drop off).take 1) y'/\y'.1∈parts:=λi e off h hc=>by
  obtain⟨f,h1,h2,h3⟩:=fld h;obtain⟨y',hy',hm,_⟩:=hp i f h1;rw[h2,h3,hc]at hy';exact⟨y',hy',hm⟩
 have ft:∀i:Nat,(fs[i]?).map (λf:Field=>(f.type,f.offset))=(((prog).fieldsOf 66)[i]?).map (λf:Field=>(f.type,f.offset)):=λi=>by rw[hfs]
 obtain⟨y0,h0,_⟩:=g 0 3 0 (by rw[ft];kernel_rfl) (by kernel_rfl);obtain⟨y1,h1,m1⟩:=g 1 53 1 (by rw[ft];kernel_rfl) (by kernel_rfl);obtain⟨y2,h2,m2⟩:=g 2 63 2 (by rw[ft];kernel_rfl) (by kernel_rfl);obtain⟨y3,h3,m3⟩:=g 3 53 3 (by rw[ft];kernel_rfl) (by kernel_rfl);obtain⟨y4,h4,m4⟩:=g 4 64 4 (by rw[ft];kernel_rfl) (by kernel_rfl);obtain⟨n0,e0,_⟩:=xu jv h0;obtain⟨l1,⟨a1,n1,c1,e1,hls1⟩,g1,_⟩:=qY meas wG (T:=vJ .i64) (by kernel_rfl) (by decide) (qo jv) _ _ h1;obtain⟨l2,⟨a2,n2,c2,e2,hls2⟩,g2,g2'⟩:=qY meas (e:=23) (by kernel_rfl) (T:=(vJ .i64).sl) (by kernel_rfl) (by decide) (qY meas (e:=2) (by kernel_rfl) (T:=vJ .i64) (by kernel_rfl) (by decide) (qo (by kernel_rfl))) _ _ h2;obtain⟨l3,⟨a3,n3,c3,e3,hls3⟩,g3,_⟩:=qY meas wG (T:=vJ .i64) (by kernel_rfl) (by decide) (qo jv) _ _ h3;obtain⟨l4,⟨a4,n4,c4,e4,hls4⟩,g4,g4',g4s⟩:=zZ meas measS (e:=74) (by kernel_rfl) (T:=tL) (by kernel_rfl) (by decide) Vj _ _ h4;have b1:Rows.uptoBulk y1.1<=Rows.uptoBulk y.1:=by rw[hparts];exact meas.part _ _ m1
 have b2:Rows.uptoBulk y2.1<=Rows.uptoBulk y.1:=by rw[hparts];exact meas.part _ _ m2
 have b3:Rows.uptoBulk y3.1<=Rows.uptoBulk y.1:=by rw[hparts];exact meas.part _ _ m3
 have b4:Rows.uptoBulk y4.1<=Rows.uptoBulk y.1:=by rw[hparts];exact meas.part _ _ m4
 refine⟨⟨n0,l1,l2,l3,l4⟩,⟨⟨a1,n1,c1⟩,⟨a2,n2,c2⟩,⟨a3,n3,c3⟩,⟨a4,n4,c4⟩,?_,hls1,hls2,hls3,hls4⟩,⟨zb5 g1 b1,zb5 g2 b2,λv hv=>?_,zb5 g3 b3,zb5 g4 b4,λl hl'=>?_,?_,?_,?_⟩⟩
 .rcases cs with _ | ⟨q0,_ | ⟨q1,_ | ⟨q2,_ | ⟨q3,_ | ⟨q4,_ | ⟨q5,r⟩⟩⟩⟩⟩⟩ <;> simp at hl
  simp at e0 e1 e2 e3 e4;rw[e0,e1,e2,e3,e4]
 .obtain⟨b',k1,k2,_⟩:=g2' v hv;omega
 .obtain⟨b',k1,k2,k3,k4,_⟩:=g4' l hl';exact⟨GC.up k2 (by omega),GC.up k3 (by omega),GC.up k4 (by omega)⟩
 .exact zb5 (g4s (λl=>6*(l.numbers.length+l.aT.length)) λx b h=>h.2.2.2) b4
 .exact zb5 (g4s (λl=>l.numbers.length) λx b h=>h.1.1) b4
 .exact zb5 (g4s (λl=>l.aT.length) λx b h=>h.2.1.1) b4
theorem UN{α:Type}(f g:α->Nat)(l:List α):(l.map λx=>f x+g x).sum=(l.map f).sum+(l.map g).sum:=by
 induction l with
 |nil=>rfl
 |cons x l ih=>simp only[ze0,List.sum_cons];omega
theorem VY{α:Type}(f:α->Nat)(l:List α):(l.map λx=>6*f x).sum=6*(l.map f).sum:=by
 induction l with
 |nil=>rfl
 |cons x l ih=>simp only[ze0,List.sum_cons];omega
theorem Yd{v:Value}{d:DataW H}{ps:List MemPlace}(h:DataW.Trod enc prog w 0 (λ_=>true) true 31 v d ps)(hN:Rows.uptoBulk d<=1048576) :
  ∃f s t,v=kE f.features f.outputs s.a s.n s.c t.a t.n t.c/\jr (λb=>b<w.heap.size) w f s t/\SmF f/\∀b∈f.blocks,6*ui b.lists<=1048576/\∀l∈b.lists,∀c∈l.numbers,c.thr<18446744073709551616:=by
 obtain⟨cs,hcs⟩:∃cs,v.cells.toList=cs:=⟨_,rfl⟩;have hy0:∃y:DataW H×List MemPlace,TR enc prog w 31 cs y/\y.1=d:=by
  subst hcs;exact⟨(d,ps),h,rfl⟩
 obtain⟨y,hy,rfl⟩:=hy0;obtain⟨fs,hS,hfs⟩:∃fs,prog.underlying 31=some (.struct fs)/\fs=((prog).fieldsOf 31):=⟨_,by kernel_rfl,rfl⟩;obtain⟨hl,parts,hparts,hp⟩:=Aa hS hy;rw[show(prog).cellsOf 31=4 from by kernel_rfl]at hl;have g:∀(i e off:Nat),(fs[i]?).map (λf:Field=>(f.type,f.offset))=some (e,off)->(prog).cellsOf e=1->∃y',TR enc prog w e ((cs.drop off).take 1) y'/\y'.1∈parts:=λi e off h hc=>by
  obtain⟨f,h1,h2,h3⟩:=fld h;obtain⟨y',hy',hm,_⟩:=hp i f h1;rw[h2,h3,hc]at hy';exact⟨y',hy',hm⟩
 have ft:∀i:Nat,(fs[i]?).map (λf:Field=>(f.type,f.offset))=(((prog).fieldsOf 31)[i]?).map (λf:Field=>(f.type,f.offset)):=λi=>by rw[hfs]
 obtain⟨y0,h0,_⟩:=g 0 3 0 (by rw[ft];kernel_rfl) (by kernel_rfl);obtain⟨y1,h1,_⟩:=g 1 3 1 (by rw[ft];kernel_rfl) (by kernel_rfl);obtain⟨y2,h2,m2⟩:=g 2 23 2 (by rw[ft];kernel_rfl) (by kernel_rfl);obtain⟨y3,h3,m3⟩:=g 3 29 3 (by rw[ft];kernel_rfl) (by kernel_rfl);obtain⟨n0,e0,_⟩:=xu jv h0;obtain⟨n1,e1,_⟩:=xu jv h1;obtain⟨l2,⟨a2,k2,c2,e2,hls2⟩,g2,_⟩:=qY meas (e:=2) (by kernel_rfl) (T:=vJ .i64) (by kernel_rfl) (by decide) (qo (by kernel_rfl)) _ _ h2;obtain⟨l3,⟨a3,k3,c3,e3,hls3⟩,g3,g3',g3s⟩:=zZ meas measS (e:=66) (by kernel_rfl) (T:=tB) (by kernel_rfl) (by decide) We _ _ h3;have b2:Rows.uptoBulk y2.1<=Rows.uptoBulk y.1:=by rw[hparts];exact meas.part _ _ m2
 have b3:Rows.uptoBulk y3.1<=Rows.uptoBulk y.1:=by rw[hparts];exact meas.part _ _ m3
 have gl2:l2.length<=Rows.uptoBulk y2.1:=g2;have gc:∀ {l:List cZ} {b:Nat},GC l b->b<=1048576->nz l:=λh hb=>⟨by have:=h.1;omega,λx hx=>by have:=h.2.1 x hx;show _<=_;omega⟩;have hsm:fC.sm ⟨n0,n1,l2,l3⟩:=by
  refine⟨by show l2.length<=_;omega,by show l3.length<=_;omega,λb hb=>?_⟩;obtain⟨b',k1,q1,q2,q3,q4,q5,q6,q0,q7,q8⟩:=g3' b hb;exact⟨by omega,by omega,λv hv=>by have:=q3 v hv;omega,by omega,by omega,λl hl'=>⟨gc (q6 l hl').1 (by omega),gc (q6 l hl').2.1 (by omega),gc (q6 l hl').2.2 (by omega)⟩⟩
 refine⟨⟨n0,n1,l2,l3⟩,⟨a2,k2,c2⟩,⟨a3,k3,c3⟩,?_,⟨hls2,hls3,hsm⟩,⟨hsm,λb hb=>?_,?_⟩,λb hb=>?_⟩
 .rcases cs with _ | ⟨q0,_ | ⟨q1,_ | ⟨q2,_ | ⟨q3,_ | ⟨q4,r⟩⟩⟩⟩⟩ <;> simp at hl
  simp at e0 e1 e2 e3;have:=Yv hcs (by simp);rw[this,e0,e1,e2,e3]
 .obtain⟨b',k1,q1,q2,q3,q4,q5,q6,q0,q7,q8⟩:=g3' b hb;unfold ui;rw[UN];omega
 .have:=g3s (λb=>b.leaves.length) λx b h=>h.leaves;unfold trT;show(l3.map _).sum<=_;omega
 .obtain⟨b',k1,q1,q2,q3,q4,q5,q6,q0,q7,q8⟩:=g3' b hb;refine⟨?_,λl hl'=>(q6 l hl').1.2.2.2⟩;unfold ui;rw[<- VY];omega
end
end Go.Mir
