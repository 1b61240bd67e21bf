/- Part of a proof; no conditions. -/
import Derived.Laws.Bits64
import Derived.Laws.BitsAllLaws
import Derived.Laws.BitsLemmas
import Derived.Deep.Slices
import Derived.DataReads
import Derived.Laws.AppendOwn
import Derived.Deep.AppendSrc
import Derived.Laws.IdiomStrings
import Derived.Test.YtmjlipmapfofmaaGreatEA
set_option linter.unusedVariables false
set_option linter.unusedSimpArgs false
set_option linter.unusedSectionVars false
namespace Go.E
open Go Go.RowKit
theorem yG(t f:Prop):af true t f=t:=rfl
theorem yJ(t f:Prop):af false t f=f:=rfl
theorem fJ{p:Prop}[Decidable p]{t f:Prop}(ht:p->t)(hf:¬ p->f):af (decide p) t f:=by
 by_cases h:p
 .rw[decide_eq_true h];exact ht h
 .rw[decide_eq_false h];exact hf h
theorem aH{p:Prop}[Decidable p]{t f:Prop}(h:p)(ht:t):af (decide p) t f:=by rw[decide_eq_true h];exact ht
theorem aA{p:Prop}[Decidable p]{t f:Prop}(h:¬ p)(hf:f):af (decide p) t f:=by rw[decide_eq_false h];exact hf
theorem add_zero(a:Addr):a.add 0=a:=rfl
theorem add_add(a:Addr)(i j:Nat):(a.add i).add j=a.add (i+j):=by
 unfold Addr.add
 by_cases hi:i=0 <;> by_cases hj:j=0 <;> simp[hi,hj,Nat.add_assoc]
theorem add_block(a:Addr)(i:Nat):(a.add i).block=a.block:=by unfold Addr.add;split <;> rfl
theorem gK(w:World)(i:Nat):(na w).add i=⟨w.heap.size,i,none⟩:=by unfold Addr.add na;split <;> simp_all
theorem uz(w:World)(cs:Array Value)(t:TypeId)(i:Nat):(w.alloc (.cells cs t)).cell? ((na w).add i)=cs[i]?:=by
 rw[gK];exact World.cell?_alloc_new w cs t i
theorem PQ(w:World)(o:Obj):Below w.heap.size w (w.alloc o):=(Below.refl _ _).alloc (zb4 _) o
theorem Ff{w u:World}(h:Below w.heap.size w u){a:Addr}{v:Value}(hc:w.cell? a=some v):u.cell? a=some v:=by
 rw[h.cell (block_lt_of_cell hc)];exact hc
theorem ZV{w u x:World}(h:Below w.heap.size w u)(k:Below u.heap.size u x):Below w.heap.size w x:=h.trans (k.mono h.size)
theorem l9{x:Int}(h0 : -9223372036854775808<=x)(h1:x<=9223372036854775807):IntKind.i64.wrap x=x:=by
 rw[IntKind.wrap_i64];omega
theorem Ju{x:Int}(h0:0<=x)(h1:x<=18446744073709551615):IntKind.u64.wrap x=x:=by
 rw[IntKind.wrap_u64];omega
def Pure(P:Program)(f:FuncId)(args:Array Value)(w:World)(v:Value):Prop:=E.CallsD P f args w λv' u=>v'=v/\Below w.heap.size w u
theorem KF{P:Program}{f:FuncId}{args:Array Value}{w:World}{v:Value}(h:Pure P f args w v):Calls P f args w λe w'=>e = .returned v/\Below w.heap.size w w':=tH h
structure Sl{α:Type}(enc:α->Value)(w:World)(a:Option Addr)(n:Nat)(xs:List α):Prop where
 len:n=xs.length
 get:∀i x,xs[i]?=some x->∃p,a=some p/\w.cell? (p.add i)=some (enc x)
section
variable{α:Type}{enc:α->Value}{w u:World}{a:Option Addr}{n:Nat}{xs:List α}
theorem Sl.keep(h:Sl enc w a n xs)(hb:Below w.heap.size w u):Sl enc u a n xs :=
 ⟨h.len,λi x hi=>let⟨p,ha,hc⟩:=h.get i x hi; ⟨p,ha,Ff hb hc⟩⟩
theorem Sl.at(h:Sl enc w a n xs){i:Nat}(hi:i<n):∃p,a=some p/\w.cell? (p.add i)=some (enc (xs[i]'(h.len ▸ hi))) :=
 h.get i _ (za2 _)
theorem Sl.read{K:Addr->Prop}(h:Sl enc w a n xs){i:Nat}(hi:i<n)(hk:∀p,w.cell? (p.add i)=some (enc (xs[i]'(h.len ▸ hi)))->K p):aV a K:=by
 obtain⟨p,rfl,hc⟩:=h.at hi;exact hk p hc
end
end Go.E
namespace Go.E
open Go Go.RowKit Go.ChangeShapes
section
variable{H:Type}{enc:TypeId×Value->H}{P:Program}{w:World}{t e:TypeId}{cs:List Value}{x:DataW H×List MemPlace}
def TR(enc:TypeId×Value->H)(P:Program)(w:World)(t:TypeId)(cs:List Value)(x:DataW H×List MemPlace):Prop:=∃fuel,DataW.trod enc P w 0 (λ_=>true) true fuel t cs=some x
theorem xu{k:IntKind}(ht:P.underlying t=some (.int k))(h:TR enc P w t cs x):∃n,cs=[.int k n]/\(Lit.int k n).wf=true:=by
 obtain⟨fuel,h⟩:=h
 cases fuel with
 |zero=>simp[DataW.trod]at h
 |succ f=>
  unfold DataW.trod at h;rw[ht]at h
  split at h <;> simp_all
theorem QG{k:FloatKind}(ht:P.underlying t=some (.float k))(h:TR enc P w t cs x):∃n,cs=[.float k n]/\(Lit.float k n).wf=true:=by
 obtain⟨fuel,h⟩:=h
 cases fuel with
 |zero=>simp[DataW.trod]at h
 |succ f=>
  unfold DataW.trod at h;rw[ht]at h
  split at h <;> simp_all
theorem Aa{fs:Array Field}(ht:P.underlying t=some (.struct fs))(h:TR enc P w t cs x) :
  cs.length=P.cellsOf t/\∃parts,x.1 = .agg parts/\∀(i:Nat) (f:Field),fs[i]?=some f->∃y,TR enc P w f.type ((cs.drop f.offset).take (P.cellsOf f.type)) y/\y.1∈parts/\∀p∈y.2,p∈x.2:=by
 obtain⟨fuel,h⟩:=h
 cases fuel with
 |zero=>simp[DataW.trod]at h
 |succ f=>
  unfold DataW.trod at h;rw[ht]at h;have h:(if cs.length=P.cellsOf t then(fs.toList.mapM λf'=>DataW.trod enc P w 0 (λ_=>true) true f f'.type ((cs.drop f'.offset).take (P.cellsOf f'.type))).map λxs=>((.agg (xs.map (·.1)):DataW H),xs.flatMap (·.2)) else none)=some x:=by
   split at h <;> simp_all
  split at h
  case isFalse=>cases h
  rename_i hl;obtain⟨xs,hm,rfl⟩:=zd7.1 h;refine⟨hl,_,rfl,λi f' hi=>?_⟩;have hg:=mapM_some_get hm i f' (by simpa using hi);have hlen:=mapM_some_length hm;have hilt:i<xs.length:=by rw[hlen];simpa using(zc4.1 hi).1
  rw[za2 hilt]at hg;exact⟨xs[i],⟨f,hg⟩,ze8 (List.getElem_mem hilt),λp hp=>List.mem_flatMap.2 ⟨_,List.getElem_mem hilt,hp⟩⟩
structure Yt(B:DataW H->Nat):Prop where
 len:∀es sp,es.length+1<=B (.slice es sp)
 elem:∀es sp d,d∈es->B d<=B (.slice es sp)
 part:∀ps d,d∈ps->B d<=B (.agg ps)
theorem QM{B:DataW H->Nat}(hB:Yt B)(ht:P.underlying t=some (.slice e))(h:TR enc P w t cs x) :
  ∃a n c,cs=[.slice a n c]/\n<=c/\c<=maxLen/\n<=B x.1/\(a=none->n=0/\c=0) /\
   ∀p,a=some p->∀i,i<n->∃cs' y,w.cells? 0 (p.add (i*P.cellsOf e)) (P.cellsOf e)=some cs'/\TR enc P w e cs' y/\B y.1<=B x.1:=by
 obtain⟨fuel,h⟩:=h
 rcases Deep.open_slice ht h with ⟨rfl,rfl⟩ | ⟨a,len,cap,m,n,D,Pl,rfl,_,hl,hm,hmm,rfl,hx⟩
 .exact⟨none,0,0,rfl,zb4 _,Nat.zero_le _,Nat.zero_le _,λ_=>⟨rfl,rfl⟩,λp hp=>by cases hp⟩
 .simp only[if_true]at hmm;refine⟨some a,len,cap,rfl,hl,hm,?_,(λhh=>by cases hh),λp hp i hi=>?_⟩
  .refine zb5 ?_ (Nat.le_of_succ_le (hB.len _ _));simp
  .cases hp;obtain⟨cs',h1,h2⟩:=hx i (by omega);exact⟨cs',(D i,Pl i),h1,⟨n,h2⟩,hB.elem _ _ _ (ze8 (List.mem_range.2 hi))⟩
end
section
variable{P:Program}
theorem oC{w:World}{t ty e:TypeId}{i:TypeInfo}(ht:P.underlying t=some (.slice e))(hi:P.info? e=some i)(b:Option Addr)(n cap c:Nat)(hn:n<=cap) :
  (Builtin.append_ #[t,t] ty #[.slice b n cap,.slice none 0 c]).run P w = .ok (.slice b n cap) w:=by
 cases b <;> simp[Builtin.append_,run_underlying ht,sizeOf,typeInfo,hi,Builtin.lenOf,hn,Builtin.firstCells,loadCells,loadCellsFrom,storeCells]
end
def Blk(w:World)(b:Nat)(cs:Array Value)(e:TypeId):Prop:=w.heap[b]?=some (.cells cs e (0,0))
theorem addr_add(b i j:Nat):(⟨b,i,none⟩:Addr).add j=⟨b,i+j,none⟩:=by unfold Addr.add;split <;> simp_all
section
variable{w u:World}{b B:Nat}{cs:Array Value}{e:TypeId}
theorem Blk.new(w:World)(cs:Array Value)(e:TypeId):Blk (w.alloc (.cells cs e)) w.heap.size cs e:=heap_alloc_new w _
theorem Blk.lt(h:Blk w b cs e):b<w.heap.size:=(zc4.1 h).1
theorem Blk.below(h:Blk w b cs e)(hb:Below B w u)(hlt:b<B):Blk u b cs e:=(hb.block b hlt).trans h
theorem Blk.keep(h:Blk w b cs e)(hb:Below w.heap.size w u):Blk u b cs e:=h.below hb h.lt
theorem Blk.cell(h:Blk w b cs e)(i:Nat):w.cell? ⟨b,i,none⟩=cs[i]?:=by
 unfold World.cell?;simp only;rw[show w.heap[b]?=_ from h];simp
theorem Blk.ok(h:Blk w b cs e){i:Nat}(hi:i<cs.size):su w ⟨b,i,none⟩:=by
 refine⟨⟨cs[i],by rw[h.cell];exact Array.getElem?_eq_getElem hi⟩,?_⟩;unfold World.frozen?;simp only;rw[show w.heap[b]?=_ from h];simp
theorem Blk.set(h:Blk w b cs e)(i:Nat)(v:Value):Blk (w.setCell ⟨b,i,none⟩ v) b (cs.setIfInBounds i v) e:=by
 unfold Blk World.setCell;simp only[Array.getElem?_modify];rw[show w.heap[b]?=_ from h];simp
theorem gV(w:World)(a:Addr)(v:Value):(w.setCell a v).heap.size=w.heap.size:=by simp[World.setCell]
end
section
end
structure fV(P:Program)(t e:TypeId)(size bytes:Nat):Prop where
 ht:P.underlying t=some (.slice e)
 info:∃i z,P.info? e=some i/\i.zero=some z/\i.size=size/\i.bytes=bytes/\z.cells.size=size
def Pz(P:Program)(t e:TypeId)(size bytes:Nat):Bool:=match P.underlying t with
 |some (.slice e')=>Nat.beq e' e&&(match P.info? e with
  |some i=>Nat.beq i.size size&&Nat.beq i.bytes bytes&&(match i.zero with
   |some z=>Nat.beq z.cells.size size
   |none=>false)
  |none=>false)
 |_=>false
theorem sliceT{P:Program}{t e:TypeId}{size bytes:Nat}(h:Pz P t e size bytes=true):fV P t e size bytes:=by
 unfold Pz at h;split at h
 case h_2=>cases h
 rename_i e' hu;simp only[ze5]at h;obtain⟨h1,h2⟩:=h;have h1:e'=e:=Nat.eq_of_beq_eq_true h1;subst h1;split at h2
 case h_2=>cases h2
 rename_i i hi;simp only[ze5]at h2;obtain⟨⟨h3,h4⟩,h5⟩:=h2;split at h5
 case h_2=>cases h5
 rename_i z hz;exact⟨hu,i,z,hi,hz,Nat.eq_of_beq_eq_true h3,Nat.eq_of_beq_eq_true h4,Nat.eq_of_beq_eq_true h5⟩
section
end
structure SlK{α:Type}(k:Nat)(en:α->List Value)(w:World)(a:Option Addr)(n:Nat)(xs:List α):Prop where
 len:n=xs.length
 get:∀i x,xs[i]?=some x->∃p,a=some p/\∀j v,(en x)[j]?=some v->w.cell? (p.add (i*k+j))=some v
theorem SlK.read{α:Type}{k:Nat}{en:α->List Value}{w:World}{a:Option Addr}{n:Nat}{xs:List α}{K:Addr->Prop}(h:SlK k en w a n xs){i:Nat}(hi:i<n)
  (hk:∀p,(∀j v,(en (xs[i]'(h.len ▸ hi)))[j]?=some v->w.cell? (p.add (i*k+j))=some v)->K p):aV a K:=by
 obtain⟨p,rfl,hc⟩:=h.get i _ (za2 (h.len ▸ hi));exact hk p hc
theorem nY{α:Type}{k:Nat}{en:α->List Value}:∀(xs:List α) (hk:∀x∈xs,(en x).length=k) (i:Nat) (x:α),xs[i]?=some x->∀j v,(en x)[j]?=some v->(xs.flatMap en)[i*k+j]?=some v
 | [],_,_,_,h,_,_,_=>by cases h
 |y::ys,hk,0,x,h,j,v,hj=>by
  simp only[List.getElem?_cons_zero,Option.some.injEq]at h;subst h;rw[zd9,Nat.zero_mul,zd1,zb9 (za1.1 hj).1];exact hj
 |y::ys,hk,i+1,x,h,j,v,hj=>by
  simp only[List.getElem?_cons_succ]at h;have hl:=hk y (by simp);rw[zd9,zc0 (by rw[hl,ze7];omega),hl,show(i+1)*k+j - k=i*k+j from by rw[ze7];omega];exact nY ys (λz hz=>hk z (by simp[hz])) i x h j v hj
theorem gQ{α:Type}{k:Nat}{en:α->List Value}:∀(xs:List α) (hk:∀x∈xs,(en x).length=k),(xs.flatMap en).length=xs.length*k
 | [],_=>by simp
 |y::ys,hk=>by
  rw[zd9,za6,hk y (by simp),gQ ys (λz hz=>hk z (by simp[hz])),zc5,ze7];omega
section
end
def Yz{α:Type}(e:TypeId)(en:α->Value)(base:Nat)(w:World)(v:Value)(xs:List α):Prop:=w.ownsRow base e 1 v xs.length (xs.map en)
theorem cells_at{w:World}{base:Nat}{a:Addr}{n:Nat}{cs:List Value}(h:w.cells? base a n=some cs)(j:Nat)(v:Value)(hj:cs[j]?=some v):w.cell? (a.add j)=some v:=by
 obtain⟨_,hl,hc⟩:=World.cells?_some h;rw[hc j (by have:=(za1.1 hj).1;omega)];exact hj
section
end
theorem dK{c K:Prop}[Decidable c](hc:c)(h:K):chk c K:=qC.2 ⟨hc,h⟩
theorem nH{α:Type}{x y:α}{K:α->Prop}(e:x=y)(h:K y):nv x K:=by subst e;exact h
theorem bM{x:Int}{K:Int->Prop}(h0 : -9223372036854775808<=x)(h1:x<=9223372036854775807)(h:K x):nv (IntKind.i64.wrap x) K:=nH (l9 h0 h1) h
theorem Y9{x:Int}{K:Int->Prop}(h0:0<=x)(h1:x<=18446744073709551615)(h:K x):nv (IntKind.u64.wrap x) K:=nH (Ju h0 h1) h
theorem aC{i:Nat}{K:Int->Prop}(h:i<9223372036854775807)(hk:K ((i+1:Nat):Int)):nv (IntKind.i64.wrap ((i:Int)+1)) K:=nH (by rw[l9 (by omega) (by omega)];rfl) hk
theorem bZ{w:World}{K:zg6}(h:K w):nw w K:=h
theorem nN{a b:Int}{t f:Prop}(ht:a=b->t)(hf:a≠b->f):af (a==b) t f:=by
 by_cases h:a=b
 .subst h;simpa[af] using ht rfl
 .rw[beq_false_of_ne h];exact hf h
theorem ja{a b:Int}{t f:Prop}(ht:a≠b->t)(hf:a=b->f):af (a != b) t f:=by
 by_cases h:a=b
 .subst h;simpa[af] using hf rfl
 .have:(a != b)=true:=by simpa using h
  rw[this];exact ht h
theorem kQ{a b:Int}{t f:Prop}(h:a=b)(ht:t):af (a==b) t f:=nN (λ_=>ht) (λh'=>absurd h h')
theorem xN{a b:Int}{t f:Prop}(h:a≠b)(hf:f):af (a==b) t f:=nN (λh'=>absurd h' h) (λ_=>hf)
theorem IP{a b:Int}{t f:Prop}(h:a≠b)(ht:t):af (a != b) t f:=ja (λ_=>ht) (λh'=>absurd h' h)
theorem sH{a b:Int}{t f:Prop}(h:a=b)(hf:f):af (a != b) t f:=ja (λh'=>absurd h h') (λ_=>hf)
abbrev Kept(w u:World):Prop:=Below w.heap.size w u
abbrev Only(g:Nat)(w u:World):Prop:=Mod (λk=>k+1=g) w u
abbrev From(B:Nat)(w u:World):Prop:=Mod (λk=>B<=k) w u
section
variable{w u x:World}{S T:Nat->Prop}{B:Nat}
theorem Kept.mod(h:Kept w u):Mod S w u:=⟨h.os,h.tape,h.output,h.size,λk hk _=>h.block k hk⟩
theorem Mod.kept(h:Mod S w u)(hS:∀k,k<w.heap.size->¬ S k):Kept w u:=⟨h.os,h.tape,h.output,h.size,λk hk=>h.block k hk (hS k hk)⟩
theorem From.kept(h:From w.heap.size w u):Kept w u:=Mod.kept (S:=λk=>w.heap.size<=k) h λk hk hn=>by omega
theorem Kept.refl(w:World):Kept w w:=Below.refl _ _
theorem Kept.trans(h:Kept w u)(k:Kept u x):Kept w x:=ZV h k
theorem From.then(h:From B w u)(k:Mod T u x)(hT:∀k,k<w.heap.size->T k->B<=k):From B w x:=zg2 (S:=λk=>B<=k) h k (λ_ _ h=>h) hT
theorem From.aG(h:From B w u)(k:Kept u x):From B w x:=zg2 (S:=λk=>B<=k) h (Kept.mod (S:=λ_=>False) k) (λ_ _ h=>h) (λ_ _ h=>h.elim)
theorem Kept.new(w:World)(o:Obj):Kept w (w.alloc o):=PQ w o
theorem Blk.mod{b e:Nat}{cs:Array Value}(h:Blk w b cs e)(hm:Mod S w u)(hn:¬ S b):Blk u b cs e:=(hm.block b h.lt hn).trans h
theorem Mod.cell(hm:Mod S w u){a:Addr}{v:Value}(hn:¬ S a.block)(h:w.cell? a=some v):u.cell? a=some v:=by
 rw[World.cell?_of_block (hm.block a.block (block_lt_of_cell h) hn)];exact h
theorem Only.set(w:World)(b i:Nat)(v:Value):Only (b+1) w (w.setCell ⟨b,i,none⟩ v) :=
 ⟨rfl,rfl,rfl,by rw[gV];exact zb4 _,λk _ hn=>by
  unfold World.setCell;simp only[Array.getElem?_modify];rw[if_neg (λh=>hn (by omega))]⟩
end
structure Ty(α:Type) where
 k:Nat
 rd:(Nat->Prop)->World->α->List Value->Prop
 len:∀ {F w x cs},rd F w x cs->cs.length=k
 one:∀ {F w x cs},rd F w x cs->∀c∈cs,c.oneCell'=true
 mono:∀ {F F':Nat->Prop} {w x cs},(∀b,F b->F' b)->rd F w x cs->rd F' w x cs
 keep:∀ {F:Nat->Prop} {w u x cs},(∀b,F b->b<w.heap.size->u.heap[b]?=w.heap[b]?)->rd F w x cs->rd F u x cs
structure Ls{α:Type}(T:Ty α)(F:Nat->Prop)(w:World)(a:Option Addr)(n c:Nat)(xs:List α):Prop where
 len:n=xs.length
 cap:n<=c
 get:∀i x,xs[i]?=some x->∃p cs,a=some p/\F p.block/\T.rd F w x cs/\∀j y,cs[j]?=some y->w.cell? (p.add (i*T.k+j))=some y
section
variable{α:Type}{T:Ty α}{F F':Nat->Prop}{w u:World}{a:Option Addr}{n c:Nat}{xs:List α}
theorem Ls.mono(h:Ls T F w a n c xs)(hF:∀b,F b->F' b):Ls T F' w a n c xs :=
 ⟨h.len,h.cap,λi x hi=>let⟨p,cs,h1,h2,h3,h4⟩:=h.get i x hi; ⟨p,cs,h1,hF _ h2,T.mono hF h3,h4⟩⟩
theorem Ls.keep(h:Ls T F w a n c xs)(hu:∀b,F b->b<w.heap.size->u.heap[b]?=w.heap[b]?):Ls T F u a n c xs :=
 ⟨h.len,h.cap,λi x hi=>let⟨p,cs,h1,h2,h3,h4⟩:=h.get i x hi; ⟨p,cs,h1,h2,T.keep hu h3,λj y hj=>by
  have:=h4 j y hj;rw[World.cell?_of_block (hu _ (by rw[add_block];exact h2) (block_lt_of_cell this))];exact this⟩⟩
theorem Ls.mod{S:Nat->Prop}(h:Ls T F w a n c xs)(hm:Mod S w u)(hn:∀b,F b->¬ S b):Ls T F u a n c xs:=h.keep λb hb hlt=>hm.block b hlt (hn b hb)
theorem Ls.kept(h:Ls T F w a n c xs)(hm:Kept w u):Ls T F u a n c xs:=h.keep λb _ hlt=>hm.block b hlt
theorem Ls.nil(T:Ty α)(F:Nat->Prop)(w:World)(a:Option Addr)(c:Nat):Ls T F w a 0 c []:=⟨rfl,Nat.zero_le _,λi x h=>by simp at h⟩
end
def Ty.sl{α:Type}(T:Ty α):Ty (List α) where
 k:=1
 rd F w xs cs:=∃a n c,cs=[.slice a n c]/\Ls T F w a n c xs
 len:=by rintro F w x cs ⟨a,n,c,rfl,_⟩;rfl
 one:=by rintro F w x cs ⟨a,n,c,rfl,_⟩ v hv;simp at hv;subst hv;rfl
 mono:=by rintro F F' w x cs hF ⟨a,n,c,rfl,h⟩;exact⟨a,n,c,rfl,h.mono hF⟩
 keep:=by rintro F w u x cs hu ⟨a,n,c,rfl,h⟩;exact⟨a,n,c,rfl,h.keep hu⟩
def Ty.flat{α:Type}(en:α->Value)(h1:∀x,(en x).oneCell'=true):Ty α where
 k:=1
 rd _ _ x cs:=cs=[en x]
 len:=by rintro F w x cs rfl;rfl
 one:=by rintro F w x cs rfl v hv;simp at hv;subst hv;exact h1 x
 mono:=λ_ h=>h
 keep:=λ_ h=>h
def vJ(k:IntKind):Ty Int := .flat (λx => .int k x) (λ_=>rfl)
def a0Y:Ty ByteArray := .flat (λx => .string x) (λ_=>rfl)
def Ty.cells{α:Type}(k:Nat)(en:α->List Value)(hl:∀x,(en x).length=k)(h1:∀x,∀c∈en x,c.oneCell'=true):Ty α where
 k:=k
 rd _ _ x cs:=cs=en x
 len:=by rintro F w x cs rfl;exact hl x
 one:=by rintro F w x cs rfl;exact h1 x
 mono:=λ_ h=>h
 keep:=λ_ h=>h
def Row(w:World)(e size:Nat)(a:Option Addr)(n c:Nat)(cs:List Value)(g:Nat):Prop :=
 cs.length=n*size/\((g=0/\a=none/\n=0/\c=0)\/∃b cur,g=b+1/\a=some ⟨b,0,none⟩/\Blk w b cur e/\n<=c/\c<=maxLen/\cur.size=c*size/\cur.toList.take (n*size)=cs)
section
variable{w u:World}{e size:Nat}{a:Option Addr}{n c g:Nat}{cs:List Value}{S:Nat->Prop}
theorem Row.le(h:Row w e size a n c cs g):g<=w.heap.size:=by
 rcases h.2 with ⟨rfl,_⟩ | ⟨b,cur,rfl,_,hb,_⟩
 .exact Nat.zero_le _
 .exact hb.lt
theorem Row.mod(h:Row w e size a n c cs g)(hm:Mod S w u)(hn:∀k,k+1=g->¬ S k):Row u e size a n c cs g:=by
 refine⟨h.1,?_⟩
 rcases h.2 with h0 | ⟨b,cur,rfl,h1,hb,h2⟩
 .exact .inl h0
 .exact .inr ⟨b,cur,rfl,h1,hb.mod hm (hn b rfl),h2⟩
theorem Row.kept(h:Row w e size a n c cs g)(hm:Kept w u):Row u e size a n c cs g:=h.mod (Kept.mod (S:=λ_=>False) hm) (λ_ _ h=>h)
theorem Row.nil(w:World)(e size:Nat):Row w e size none 0 0 [] 0:=⟨by simp,.inl ⟨rfl,rfl,rfl,rfl⟩⟩
theorem Row.cell(h:Row w e size a n c cs g){i:Nat}{v:Value}(hi:cs[i]?=some v):∃b,g=b+1/\a=some ⟨b,0,none⟩/\w.cell? ⟨b,i,none⟩=some v:=by
 rcases h.2 with ⟨rfl,rfl,rfl,_⟩ | ⟨b,cur,rfl,rfl,hb,hnc,hc,hs,ht⟩
 .have:cs=[]:=za9 (by simpa using h.1);subst this;simp at hi
 .refine⟨b,rfl,rfl,?_⟩;rw[hb.cell];subst ht;have hlt:=(za1.1 hi).1;rw[zb6]at hlt;rw[zd6]at hi;rw[if_pos (by omega)]at hi;simpa using hi
theorem Row.cap(h:Row w e size a n c cs g):n<=c:=by
 rcases h.2 with ⟨rfl,rfl,rfl,rfl⟩ | ⟨b,cur,rfl,rfl,hb,hnc,_⟩ <;> omega
theorem Row.set(h:Row w e size a n c cs g){i:Nat}(hi:i<n*size)(v:Value):∃b,g=b+1/\a=some ⟨b,0,none⟩/\su w ⟨b,i,none⟩/\Row (w.setCell ⟨b,i,none⟩ v) e size a n c (cs.set i v) g/\Only g w (w.setCell ⟨b,i,none⟩ v):=by
 rcases h.2 with ⟨rfl,rfl,rfl,_⟩ | ⟨b,cur,rfl,rfl,hb,hnc,hc,hs,ht⟩
 .omega
 .have hle:n*size<=c*size:=Nat.mul_le_mul_right _ hnc;refine⟨b,rfl,rfl,hb.ok (by omega),⟨by simpa using h.1,.inr ⟨b,_,rfl,rfl,hb.set i v,hnc,hc,by simpa using hs,?_⟩⟩,Only.set w b i v⟩;subst ht;rw[Array.toList_setIfInBounds,List.take_set]
end
theorem jJ{P:Program}{w:World}{t ty e size bytes:Nat}(hT:fV P t e size bytes)(hsz:0<size){a:Option Addr}{n c g:Nat}{xs:List Value}(hown:Row w e size a n c xs g)
  {news:List Value} {s:Option Addr} {m d:Nat} (hl:news.length=m*size) (hnews:∀j u,news[j]?=some u->∃p,s=some p/\w.cell? (p.add j)=some u) (hm0:s=none->m=0)
  (h1:∀u∈news,u.oneCell'=true) (h63:n+m<=maxLen) (hbytes:(n+m)*bytes<=140737488355328) {K:Value->zg6}
  (hk:∀a' c' g' w',Row w' e size a' (n+m) c' (xs++news) g'->(g'=g\/g'=w.heap.size+1)->Only g w w'->K (.slice a' (n+m) c') w') :
  dC P (Builtin.append_ #[t,t] ty #[.slice a n c,.slice s m d]) w K:=by
 obtain⟨ht,i,z,hi,hz,rfl,rfl,hzs⟩:=hT;intro dd;have hsmall:n+m<=9223372036854775807:=by simp only[maxLen]at h63;omega
 have hlen:(xs++news).length=(n+m)*i.size:=by rw[za6,hown.1,hl,ze7]
 cases s with
 |none=>
  obtain rfl:=hm0 rfl;obtain rfl:news=[]:=za9 (by simpa using hl);refine⟨.slice a n c,w,dd,oC ht hi _ _ _ _ hown.cap,?_⟩;exact hk a c g w (by simpa using hown) (.inl rfl) (Mod.refl _)
 |some p=>
  have hn':∀j u,news[j]?=some u->(dr w dd).cell? (p.add j)=some u:=λj u hj=>by obtain⟨p',hp,hc⟩:=hnews j u hj;cases hp;exact hc
  have hnew:∀(old:Nat),old<n+m ->
    Row ((dr w dd).drew.alloc (.cells (xs.toArray++news.toArray++Builtin.zeroCells z.cells (grownCap (dr w dd) (n+m) old e - (n+m))) e)) e i.size (some ⟨w.heap.size,0,none⟩) (n+m) (grownCap (dr w dd) (n+m) old e) (xs++news) (w.heap.size+1):=by
   intro old ho;have hge:=grownCap_ge (dr w dd) (n+m) old e;have hcm:grownCap (dr w dd) (n+m) old e<=maxLen:=grownCap_le_maxLen (dr w dd) (n+m) old e h63;refine⟨hlen,.inr ⟨w.heap.size,_,rfl,rfl,heap_alloc_new (dr w dd).drew _,hge,hcm,?_,?_⟩⟩
   .simp only[Array.size_append,List.size_toArray,size_zeroCells,hzs,hown.1,hl,<- Nat.add_mul];congr 1;omega
   .simp only[Array.toList_append,za5];rw[<- List.append_assoc,<- hlen];exact List.take_left
  have hdr:∀(o:Obj),(dr w dd).drew.alloc o=dr (w.alloc o) ((dr w dd).drew).drawn:=λo=>rfl;have honly:∀(o:Obj),Only g w (w.alloc o):=λo=>Kept.mod (Kept.new w o)
  rcases hown.2 with ⟨rfl,rfl,rfl,rfl⟩ | ⟨b,cur,rfl,rfl,hg,hnc,hcm,hcs,htake⟩
  .have hx:xs=[]:=za9 (by simpa using hown.1);subst hx
   by_cases hm:m=0
   .subst hm;have hn:news=[]:=za9 (by simpa using hl);subst hn;refine⟨.slice none 0 0,w,dd,?_,hk none 0 0 w (Row.nil w e i.size) (.inl rfl) (Mod.refl _)⟩;simp[Builtin.append_,run_underlying ht,sizeOf,typeInfo,hi,Builtin.lenOf,Builtin.firstCells,loadCells,loadCellsFrom]
   .have hr:=run_append_nil (P:=P) (dr w dd) t ty e i z ht hi hz p m d news hl hn' (by omega) (by omega) (by have hb:=hbytes;simp only[zd1]at hb;omega);have hgr:=hnew 0 (by omega);simp only[zd1,zc9,Array.empty_append]at hgr hk;rw[hdr]at hr;refine⟨_,_,_,hr,hk _ _ _ _ ?_ (.inr rfl) (honly _)⟩;exact hgr
  .by_cases hroom:n+m<=c
   .have hfit:n*i.size+news.length<=cur.size:=by rw[hl,hcs,<- Nat.add_mul];exact Nat.mul_le_mul_right _ hroom
    have hr:=run_append_room (P:=P) (dr w dd) t ty e i ht hi b n c cur hg p m d news hl hn' h1 hroom hfit;refine⟨_,w.setRow b _,dd,hr,hk _ _ (b+1) _ ⟨hlen,.inr ⟨b,_,rfl,rfl,setRow_heap w b cur _ e _ hg,hroom,hcm,?_,?_⟩⟩ (.inl rfl) ⟨rfl,rfl,rfl,by simp[World.setRow],λk _ hk=>setRow_other w b k _ (λe=>hk (by omega))⟩⟩
    .simp only[List.size_toArray,za6,zb6,zb7,zf2];omega
    .rw[htake,<- hlen];exact List.take_left
   .have holds:∀j u,xs[j]?=some u->(dr w dd).cell? ((⟨b,0,none⟩:Addr).add j)=some u:=λj u hj=>by
     obtain⟨b',hb',_,hc⟩:=hown.cell hj;obtain rfl:b'=b:=by omega
     rw[addr_add,zd1];exact hc
    have hr:=run_append_grow (P:=P) (dr w dd) t ty e i z ht hi hz ⟨b,0,none⟩ n c xs hown.1 holds p m d news hl hn' (by omega) (by omega) (growslice_fits (by omega) hbytes);rw[hdr]at hr;exact⟨_,_,_,hr,hk _ _ _ _ (hnew c (by omega)) (.inr rfl) (honly _)⟩
section
variable{α β:Type}{en:α->Value}{w u:World}{a:Option Addr}{n c g e:Nat}{xs:List α}{F S:Nat->Prop}
def Arr(en:α->Value)(e:Nat)(w:World)(a:Option Addr)(n c:Nat)(xs:List α)(g:Nat):Prop:=Row w e 1 a n c (xs.map en) g
theorem Arr.len(h:Arr en e w a n c xs g):n=xs.length:=by have:=h.1;simp at this;omega
theorem Arr.sl(h:Arr en e w a n c xs g):Sl en w a n xs:=by
 refine⟨h.len,λi x hi=>?_⟩;obtain⟨b,rfl,rfl,hc⟩:=Row.cell (i:=i) h (v:=en x) (by simp[hi]);exact⟨_,rfl,by rw[addr_add,zd1];exact hc⟩
theorem Arr.ls{h1:∀x,(en x).oneCell'=true}(h:Arr en e w a n c xs g):Ls (Ty.flat en h1) (λb=>b+1=g) w a n c xs:=by
 refine⟨h.len,h.cap,λi x hi=>?_⟩;obtain⟨b,rfl,rfl,hc⟩:=Row.cell (i:=i) h (v:=en x) (by simp[hi]);refine⟨_,_,rfl,rfl,rfl,λj y hj=>?_⟩
 cases j with
 |zero=>cases hj;rw[addr_add];simpa[Ty.flat] using hc
 |succ j=>cases hj
theorem Arr.mod(h:Arr en e w a n c xs g)(hm:Mod S w u)(hn:∀k,k+1=g->¬ S k):Arr en e u a n c xs g:=Row.mod h hm hn
theorem Arr.kept(h:Arr en e w a n c xs g)(hm:Kept w u):Arr en e u a n c xs g:=Row.kept h hm
theorem Arr.nil(en:α->Value)(e:Nat)(w:World):Arr en e w none 0 0 [] 0:=Row.nil w e 1
theorem Arr.le(h:Arr en e w a n c xs g):g<=w.heap.size:=Row.le h
theorem Arr.capLe(h:Arr en e w a n c xs g):n<=c:=Row.cap h
theorem Ls.sl{h1:∀x,(en x).oneCell'=true}(h:Ls (Ty.flat en h1) F w a n c xs):Sl en w a n xs :=
 ⟨h.len,λi x hi=>by
  obtain⟨p,cs,h1,_,h3,h4⟩:=h.get i x hi;obtain rfl:cs=[en x]:=h3;exact⟨p,h1,by simpa[Ty.flat] using h4 0 _ rfl⟩⟩
theorem Sl.rd(h:Sl en w a n xs){f:β->Value}{sel:α->β}(hf:∀x,en x=f (sel x)){i:Int}{K:β->Prop}(h0:0<=i)(hi:i<n)(hk:∀x,xs[i.toNat]?=some x->K (sel x)) :
  aV a λq=>chk (0<=i/\i<(n:Int)) (∃y:β,w.cell? (q.add (i.toNat*1))=some (f y)/\K y):=by
 have hi':i.toNat<n:=by omega
 refine h.read hi' λp hp=>dK ⟨h0,hi⟩ ⟨sel (xs[i.toNat]'(h.len ▸ hi')),?_,hk _ (za2 _)⟩;rw[<- hf,Nat.mul_one];exact hp
theorem Sl.rdI{k:IntKind}{xs:List Int}(h:Sl (λx => .int k x) w a n xs){i:Int}{K:Int->Prop}(h0:0<=i)(hi:i<n)(hk:∀x:Int,xs[i.toNat]?=some x->K x) :
  aV a λq=>chk (0<=i/\i<(n:Int)) (∃y:Int,w.cell? (q.add (i.toNat*1))=some (.int k y)/\K y):=h.rd (sel:=λx=>x) (λ_=>rfl) h0 hi hk
theorem Arr.wr(h:Arr en e w a n c xs g){i:Int}{K:zg6}(h0:0<=i)(hi:i<n){v:Value}{x:α}(hv:v=en x)(hk:∀u,Arr en e u a n c (xs.set i.toNat x) g->Only g w u->K u) :
  aV a λq=>chk (0<=i/\i<(n:Int)) (su w ((q.add (i.toNat*1)).add 0)/\nw (w.setCell ((q.add (i.toNat*1)).add 0) v) K):=by
 obtain⟨b,rfl,rfl,hok,hr,ho⟩:=Row.set h (i:=i.toNat) (by omega) v;refine dK ⟨h0,hi⟩ ?_;simp only[addr_add,Nat.mul_one,zd1,zd2];refine⟨hok,hk _ ?_ ho⟩;subst hv;unfold Arr;rw[List.map_set];exact hr
theorem CU(v:Value)(n:Nat):madeCells #[v] n=(List.replicate n v).toArray:=by
 apply Array.ext
 .simp[madeCells]
 .intro i h1 h2;simp[madeCells,Nat.mod_one]
theorem Arr.make{K:zg6}{v:Value}{x:α}(hv:v=en x){l:Int}{by_:Nat}(h0:0<=l)(hb:(by_:Int)*l<=281474976710656)(hm:l<=9223372036854775807)
  (hk:∀u,Arr en e u (some (na w)) l.toNat l.toNat (List.replicate l.toNat x) (w.heap.size+1)->Kept w u->K u) :
  chk ((0:Int)<=l/\l<=l/\(by_:Int)*l<=281474976710656/\l<=9223372036854775807) (nw (w.alloc (.cells (madeCells #[v] (l.toNat*1)) e)) K):=by
 refine dK ⟨h0,Int.le_refl _,hb,hm⟩ (hk _ ?_ (Kept.new w _));refine⟨by simp,.inr ⟨w.heap.size,_,rfl,rfl,Blk.new w _ e,zb4 _,by simp only[maxLen];omega,by simp[size_madeCells],?_⟩⟩;subst hv;rw[Nat.mul_one,CU,List.map_replicate];simp
theorem Arr.push{P:Program}{t ty by_:Nat}(hT:fV P t e 1 by_)(h:Arr en e w a n c xs g){v:Value}{x:α}(hv:v=en x)(h1:(en x).oneCell'=true)(h63:n+1<=maxLen)(hb:(n+1)*by_<=140737488355328){K:Value->zg6}
  (hk:∀a' c' g' u,Arr en e u a' (n+1) c' (xs++[x]) g'->(g'=g\/w.heap.size<g')->g'≠0->Only g w u->K (.slice a' (n+1) c') u) :
  nw (w.alloc (.cells #[v] e)) λw'=>dC P (Builtin.append_ #[t,t] ty #[.slice a n c,.slice (some (na w)) 1 1]) w' K:=by
 subst hv;have hn:=Kept.new w (.cells #[en x] e);refine jJ hT (by omega) (Row.kept h hn) (news:=[en x]) (by simp) (λj u hj=>⟨_,rfl,by rw[uz];simpa using hj⟩) (λh=>by cases h) (by simpa using h1) h63 hb λa' c' g' u hr hg ho=>?_;refine hk a' c' g' u (by unfold Arr;simpa using hr) (by rcases hg with h | h <;> simp_all;omega) ?_ ?_
 .rcases hr.2 with ⟨_,_,h0,_⟩ | ⟨b,_,rfl,_⟩ <;> omega
 .exact(Kept.mod (S:=λk=>k+1=g) hn).trans ho zg7 zg7
theorem Arr.pushes{P:Program}{t ty by_:Nat}(hT:fV P t e 1 by_)(h:Arr en e w a n c xs g)(h1:∀x,(en x).oneCell'=true){s:Option Addr}{m d:Nat}{ys:List α}(hs:Sl en w s m ys)(h63:n+m<=maxLen)(hb:(n+m)*by_<=140737488355328){K:Value->zg6}
  (hk:∀a' c' g' u,Arr en e u a' (n+m) c' (xs++ys) g'->(g'=g\/w.heap.size<g')->Only g w u->K (.slice a' (n+m) c') u) :
  dC P (Builtin.append_ #[t,t] ty #[.slice a n c,.slice s m d]) w K:=by
 refine jJ hT (by omega) h (news:=ys.map en) (by simp[hs.len]) (λj u hj=>?_) (λh0=>?_) (by simpa usingλx _=>h1 x) h63 hb λa' c' g' u hr hg ho=>?_
 .obtain⟨y,hy,rfl⟩:=zd7.1 (by simpa using hj);exact hs.get j y hy
 .rcases Nat.eq_zero_or_pos m with hm | hm
  .exact hm
  .obtain⟨q,hq,_⟩:=hs.at (i:=0) hm;rw[h0]at hq;cases hq
 .exact hk a' c' g' u (by unfold Arr;simpa using hr) (by omega) ho
end
end Go.E
namespace Go.E
open Go Go.RowKit
def enB(x:UInt8):Value := .int .u8 (x.toNat:Int)
end Go.E
namespace Go.E
open Go Go.RowKit Go.ChangeShapes
section
variable{H:Type}{enc:TypeId×Value->H}{P:Program}{w:World}{t e:TypeId}{B:DataW H->Nat}{α:Type}
def vZ(enc:TypeId×Value->H)(P:Program)(w:World)(B:DataW H->Nat)(T:Ty α)(t:TypeId)(G:α->Nat->Prop):Prop :=
 ∀cs y,TR enc P w t cs y->∃x,T.rd (λb=>b<w.heap.size) w x cs/\G x (B y.1)
theorem vZ.weak{T:Ty α}{G G':α->Nat->Prop}(h:vZ enc P w B T t G)(hG:∀x b,G x b->G' x b):vZ enc P w B T t G':=λcs y hy=>let⟨x,h1,h2⟩:=h cs y hy; ⟨x,h1,hG _ _ h2⟩
theorem qo{k:IntKind}(ht:P.underlying t=some (.int k)):vZ enc P w B (vJ k) t (λx _=>(Lit.int k x).wf=true):=λcs y hy=>by
 obtain⟨n,rfl,hw⟩:=xu ht hy;exact⟨n,rfl,hw⟩
theorem qY{T:Ty α}{G:α->Nat->Prop}(hB:Yt B)(ht:P.underlying t=some (.slice e))(hc:P.cellsOf e=T.k)(hk0:T.k≠0)(h:vZ enc P w B T e G) :
  vZ enc P w B T.sl t (λxs b=>xs.length<=b/\∀x∈xs,∃b',b'<=b/\G x b'):=λcs y hy=>by
 obtain⟨a,n,c,rfl,h1,_,h3,h4,h5⟩:=QM hB ht hy
 cases a with
 |none=>
  obtain⟨rfl,rfl⟩:=h4 rfl;exact⟨[],⟨none,0,0,rfl,Ls.nil _ _ _ _ _⟩,Nat.zero_le _,λx hx=>by cases hx⟩
 |some p=>
  have each:∀i:Fin n,∃x,(∃cs,T.rd (λb=>b<w.heap.size) w x cs/\∀j v,cs[j]?=some v->w.cell? (p.add (i*T.k+j))=some v)/\∃b',b'<=B y.1/\G x b':=by
   intro i;obtain⟨cs',z,hc1,hz,hb⟩:=h5 p rfl i i.isLt;obtain⟨x,hx,hG⟩:=h cs' z hz;refine⟨x,⟨cs',hx,λj v hj=>?_⟩,_,hb,hG⟩;rw[hc]at hc1;rw[<- add_add];exact cells_at hc1 j v hj
  obtain⟨f,hf⟩:=Classical.axiomOfChoice each;have hp:0<n->T.k≠0->p.block<w.heap.size:=λhn hk=>by
   obtain⟨⟨cs,hr,hcs⟩,_⟩:=hf ⟨0,hn⟩;have hl:=T.len hr;have:=hcs 0 (cs[0]'(by omega)) (za2 _);have:=block_lt_of_cell this
   rwa [add_block]at this
  refine⟨List.ofFn f,⟨some p,n,c,rfl,by simp,h1,λi x hi=>?_⟩,by simpa using h3,λx hx=>?_⟩
  .obtain⟨hlt,rfl⟩:=za1.1 hi;simp only[List.length_ofFn]at hlt;obtain⟨⟨cs,hr,hcs⟩,_⟩:=hf ⟨i,hlt⟩;exact⟨p,cs,rfl,hp (by omega) hk0,by simpa using hr,hcs⟩
  .obtain⟨i,rfl⟩:=List.mem_ofFn.1 hx;exact(hf i).2
end
section
variable{α:Type}{k:Nat}{en:α->List Value}{w u:World}{a:Option Addr}{n c g e:Nat}{xs:List α}{S:Nat->Prop}
def aK(k:Nat)(en:α->List Value)(e:Nat)(w:World)(a:Option Addr)(n c:Nat)(xs:List α)(g:Nat):Prop:=Row w e k a n c (xs.flatMap en) g
theorem aK.len(hl:∀x,(en x).length=k)(hk:0<k)(h:aK k en e w a n c xs g):n=xs.length:=by
 have h1:=h.1;rw[gQ xs (λx _=>hl x)]at h1;exact(Nat.eq_of_mul_eq_mul_right hk h1).symm
theorem aK.slk(hl:∀x,(en x).length=k)(hk:0<k)(h:aK k en e w a n c xs g):SlK k en w a n xs:=by
 refine⟨h.len hl hk,λi x hi=>?_⟩;have hf:∀j v,(en x)[j]?=some v->(xs.flatMap en)[i*k+j]?=some v:=λj v hj=>nY xs (λx _=>hl x) i x hi j v hj;have h0:∃v,(en x)[0]?=some v:=⟨(en x)[0]'(by rw[hl];omega),za2 _⟩;obtain⟨v0,h0⟩:=h0;obtain⟨b,rfl,rfl,_⟩:=Row.cell h (hf 0 v0 h0);refine⟨_,rfl,λj v hj=>?_⟩;obtain⟨b',hb',_,hc⟩:=Row.cell h (hf j v hj);obtain rfl:b'=b:=by omega
 rw[addr_add,zd1];exact hc
theorem aK.mod(h:aK k en e w a n c xs g)(hm:Mod S w u)(hn:∀k,k+1=g->¬ S k):aK k en e u a n c xs g:=Row.mod h hm hn
theorem aK.kept(h:aK k en e w a n c xs g)(hm:Kept w u):aK k en e u a n c xs g:=Row.kept h hm
theorem aK.nil(k:Nat)(en:α->List Value)(e:Nat)(w:World):aK k en e w none 0 0 [] 0:=Row.nil w e k
theorem aK.le(h:aK k en e w a n c xs g):g<=w.heap.size:=Row.le h
theorem aK.push{P:Program}{t ty by_:Nat}(hT:fV P t e k by_)(hl:∀x,(en x).length=k)(hk0:0<k)(h:aK k en e w a n c xs g){cs:Array Value}{x:α}(hv:cs.toList=en x)(h1:∀v∈en x,v.oneCell'=true)(h63:n+1<=maxLen)(hb:(n+1)*by_<=140737488355328){K:Value->zg6}
  (hk:∀a' c' g' u,aK k en e u a' (n+1) c' (xs++[x]) g'->(g'=g\/w.heap.size<g')->g'≠0->Only g w u->K (.slice a' (n+1) c') u) :
  nw (w.alloc (.cells cs e)) λw'=>dC P (Builtin.append_ #[t,t] ty #[.slice a n c,.slice (some (na w)) 1 1]) w' K:=by
 have hn:=Kept.new w (.cells cs e);refine jJ hT hk0 (Row.kept h hn) (news:=en x) (by simp[hl]) (λj u hj=>⟨_,rfl,by rw[uz,<- Array.getElem?_toList,hv];exact hj⟩) (λh=>by cases h) h1 h63 hb λa' c' g' u hr hg ho=>?_;refine hk a' c' g' u (by unfold aK;simpa using hr) (by rcases hg with h | h <;> simp_all;omega) ?_ ?_
 .rcases hr.2 with ⟨_,_,h0,_⟩ | ⟨b,_,rfl,_⟩ <;> omega
 .exact(Kept.mod (S:=λk=>k+1=g) hn).trans ho zg7 zg7
theorem zY(hl:∀x,(en x).length=k):∀(xs:List α) (i j:Nat) (x:α) (v:Value),xs[i]?=some x->j<k->∀y,en y=(en x).set j v->(xs.set i y).flatMap en=(xs.flatMap en).set (i*k+j) v
 | [],i,j,x,v,h,_,_,_=>by cases h
 |z::zs,0,j,x,v,h,hj,y,hy=>by
  simp only[List.getElem?_cons_zero,Option.some.injEq]at h;subst h;rw[List.set_cons_zero,zd9,zd9,hy,Nat.zero_mul,zd1,List.set_append_left _ _ (by rw[hl];exact hj)]
 |z::zs,i+1,j,x,v,h,hj,y,hy=>by
  simp only[List.getElem?_cons_succ]at h;rw[List.set_cons_succ,zd9,zd9,zY hl zs i j x v h hj y hy,List.set_append_right _ _ (by rw[hl,ze7];omega),hl,show(i+1)*k+j - k=i*k+j from by rw[ze7];omega]
theorem aK.set(hl:∀x,(en x).length=k)(h:aK k en e w a n c xs g){i j:Nat}{x y:α}{v:Value}(hx:xs[i]?=some x)(hi:i<n)(hj:j<k)(hy:en y=(en x).set j v) :
  ∃b,g=b+1/\a=some ⟨b,0,none⟩/\su w ⟨b,i*k+j,none⟩/\aK k en e (w.setCell ⟨b,i*k+j,none⟩ v) a n c (xs.set i y) g/\Only g w (w.setCell ⟨b,i*k+j,none⟩ v):=by
 have hlt:i*k+j<n*k:=by
  have:=Nat.mul_le_mul_right k hi;rw[Nat.succ_mul]at this;omega
 obtain⟨b,h1,h2,h3,h4,h5⟩:=Row.set h hlt v;refine⟨b,h1,h2,h3,?_,h5⟩;unfold aK;rw[zY hl xs i j x v hx hj y hy];exact h4
end
abbrev enR(r:Int×Int):List Value:=[.int .i64 r.1,.int .i64 r.2]
def tR:Ty (Int×Int) := .cells 2 enR (λ_=>rfl) (λx c hc=>by simp only[zb3,zf9,or_false]at hc;rcases hc with h | h <;> subst h <;> rfl)
section
variable{w u:World}{a:Option Addr}{n c g e:Nat}{xs:List (Int×Int)}{F:Nat->Prop}{i:Int}
theorem Ls.X0(h:Ls tR F w a n c xs):SlK 2 enR w a n xs:=⟨h.len,λi x hi=>by
 obtain⟨p,cs,h1,_,h3,h4⟩:=h.get i x hi;obtain rfl:cs=enR x:=h3;exact⟨p,h1,h4⟩⟩
theorem SlK.rd2(h:SlK 2 enR w a n xs){K:Int->Int->Prop}(h0:0<=i)(hi:i<n)(hk:∀x,xs[i.toNat]?=some x->K x.1 x.2) :
  aV a λq=>chk (0<=i/\i<(n:Int)) (∃y:Int,w.cell? ((q.add (i.toNat*2)).add 0)=some (.int .i64 y)/\(∃z:Int,w.cell? ((q.add (i.toNat*2)).add 1)=some (.int .i64 z)/\K y z)):=by
 have hi':i.toNat<n:=by omega
 refine h.read hi' λp hp=>dK ⟨h0,hi⟩ ⟨_,?_,_,?_,hk _ (za2 (h.len ▸ hi'))⟩
 .rw[add_add];exact hp 0 _ rfl
 .rw[add_add];exact hp 1 _ rfl
theorem aK.X0(h:aK 2 enR e w a n c xs g):SlK 2 enR w a n xs:=h.slk (λ_=>rfl) (by omega)
theorem YG{x y:Int}{K:zg6}(hk:∀u,Blk u w.heap.size #[.int .i64 x,.int .i64 y] e->Kept w u->K u) :
  nw (w.alloc (.cells #[.int .i64 0,.int .i64 0] e)) λw1=>su w1 ((na w).add 0)/\(nw (w1.setCell ((na w).add 0) (.int .i64 x)) λw2=>su w2 ((na w).add 1)/\(nw (w2.setCell ((na w).add 1) (.int .i64 y)) K)):=by
 have b0:=Blk.new w #[.int .i64 0,.int .i64 0] e;have b1:=b0.set 0 (.int .i64 x);have b2:=b1.set 1 (.int .i64 y);simp only[gK];refine bZ ⟨b0.ok (by simp),bZ ⟨b1.ok (by simp),hk _ b2 ?_⟩⟩;have s1:From w.heap.size w _:=Kept.mod (Kept.new w (.cells #[.int .i64 0,.int .i64 0] e));have s2:=From.then s1 (Only.set _ w.heap.size 0 (.int .i64 x)) λk h1 h2=>by omega
 exact(From.then s2 (Only.set _ w.heap.size 1 (.int .i64 y)) λk h1 h2=>by omega).kept
theorem Blk.rd{w b:World}{cs:Array Value}{i:Nat}{v:Value}(h:Blk w b.heap.size cs e)(hi:cs[i]?=some v):w.cell? ((na b).add i)=some v:=by
 rw[gK,h.cell,hi]
end
section
end
end Go.E
abbrev zg1:=@Go.E.Kept.trans
abbrev zg3:=@Go.E.Kept.new
abbrev zg4:=@Go.E.From.kept
abbrev zg5:=@Go.E.Only.set
