/- Part of a proof; no conditions. -/
import Derived.Calls
import Derived.Deep.Quiet
import Derived.StillTail
import Derived.Laws.Tables
import Derived.Laws.MakeOwn
import Derived.Below
import Derived.Tactics
import Derived.RangeFuncRecord
import Derived.RangeFuncSeq
import Derived.RangeFuncLeaves
import Derived.Sort.QuietThIn
import Derived.TacticsIn
import Derived.KernelRfl
set_option linter.unusedVariables false
set_option linter.unusedSimpArgs false
set_option linter.unusedSectionVars false
abbrev za0:=@List.mem_of_getElem?
abbrev za1:=@List.getElem?_eq_some_iff
abbrev za2:=@List.getElem?_eq_getElem
abbrev za3:=@Int.toNat_natCast
abbrev za4:=@Exists.intro
abbrev za5:=@List.append_assoc
abbrev za6:=@List.length_append
abbrev za7:=@List.length_map
abbrev za8:=@List.getD_eq_getElem?_getD
abbrev za9:=@List.eq_nil_of_length_eq_zero
abbrev zb0:=@List.drop_eq_getElem_cons
abbrev zb1:=@List.take_of_length_le
abbrev zb2:=@List.mem_append
abbrev zb3:=@List.mem_cons
abbrev zb4:=@Nat.le_refl
abbrev zb5:=@Nat.le_trans
abbrev zb6:=@List.length_take
abbrev zb7:=@List.length_drop
abbrev zb8:=@List.map_append
abbrev zb9:=@List.getElem?_append_left
abbrev zc0:=@List.getElem?_append_right
abbrev zc1:=@List.getElem?_map
abbrev zc2:=@Option.some.inj
abbrev zc3:=@List.getElem?_eq_none
abbrev zc4:=@Array.getElem?_eq_some_iff
abbrev zc5:=@List.length_cons
abbrev zc6:=@List.length_nil
abbrev zc7:=@List.length_singleton
abbrev zc8:=@List.append_nil
abbrev zc9:=@List.nil_append
abbrev zd0:=@List.mem_singleton
abbrev zd1:=@Nat.zero_add
abbrev zd2:=@Nat.add_zero
abbrev zd3:=@List.take_length
abbrev zd4:=@List.mem_map
abbrev zd5:=@List.length_replicate
abbrev zd6:=@List.getElem?_take
abbrev zd7:=@Option.map_eq_some_iff
abbrev zd8:=@List.all_eq_true
abbrev zd9:=@List.flatMap_cons
abbrev ze0:=@List.map_cons
abbrev ze1:=@List.cons_append
abbrev ze2:=@Array.getD_eq_getD_getElem?
abbrev ze3:=@List.mem_filter
abbrev ze4:=@Classical.byContradiction
abbrev ze5:=@Bool.and_eq_true
abbrev ze6:=@List.map_map
abbrev ze7:=@Nat.add_mul
abbrev ze8:=@List.mem_map_of_mem
abbrev ze9:=@List.foldl_cons
abbrev zf0:=@Array.getElem?_setIfInBounds_self_of_lt
abbrev zf1:=@List.nodup_cons
abbrev zf2:=@Array.length_toList
abbrev zf3:=@List.mem_of_mem_take
abbrev zf4:=@List.getElem?_set
abbrev zf5:=@Nat.lt_of_lt_of_le
abbrev zf6:=@List.length_set
abbrev zf7:=@List.perm_middle
abbrev zf8:=@Nat.sub_self
abbrev zf9:=@List.not_mem_nil
abbrev zg6:=Go.World->Prop
abbrev zg7{α:Type}{A P:α->Prop}:∀a,A a->P a->P a:=λ_ _ h=>h
namespace Go.E
open Go
def dr(w:World)(d:Nat):World:={ w with drawn:=d }
theorem jO(w:World):dr w w.drawn=w:=rfl
structure Kp(w:World) where
 out:World
 keep:∀a v,w.cell? a=some v->out.cell? a=some v
def Kp.dr(w:World)(d:Nat):Kp w:=⟨E.dr w d,λ_ _ h=>h⟩
def CallsD(P:Program)(f:FuncId)(args:Array Value)(w:World)(R:Value->zg6):Prop :=
 ∀d,Calls P f args (dr w d) λe w'=>∃v u d',e = .returned v/\w'=dr u d'/\R v u
theorem CallsD.mono{P:Program}{f:FuncId}{args:Array Value}{w:World}{R R':Value->zg6}(h:CallsD P f args w R)
  (hr:∀v u,R v u->R' v u):CallsD P f args w R' :=
 λd=>(h d).mono λ_ _ ⟨v,u,d',e1,e2,r⟩=>⟨v,u,d',e1,e2,hr _ _ r⟩
def chk(c:Prop)[h:Decidable c](K:Prop):Prop := @Decidable.rec c (λ_=>Prop) (λ_=>False) (λ_=>K) h
def Y8(c:Prop)[h:Decidable c](K:Prop):Prop := @Decidable.rec c (λ_=>Prop) (λ_=>K) (λ_=>False) h
theorem qC{c K:Prop}[h:Decidable c]:chk c K↔c/\K:=by cases h <;> simp_all [chk]
theorem Eb{c K:Prop}[h:Decidable c]:Y8 c K↔¬ c/\K:=by cases h <;> simp_all [Y8]
def nv{α:Type}(x:α)(K:α->Prop):Prop:=K x
def af(b:Bool)(t f:Prop):Prop:=match b with
 |true=>t
 |false=>f
theorem aQ(b:Bool)(t f:Prop):af b t f↔((b=true->t)/\(b=false->f)):=by cases b <;> simp[af]
inductive Lf where
 |bool | int (k:IntKind) | float (k:FloatKind) | string | slice | pointer | map | any
def Lf.ex:Lf->(Value->Prop)->Prop
 | .bool,K=>∃b,K (.bool b)
 | .int k,K=>∃n,K (.int k n)
 | .float k,K=>∃n,K (.float k n)
 | .string,K=>∃s,K (.string s)
 | .slice,K=>∃a n c,K (.slice a n c)
 | .pointer,K=>∃a,K (.pointer a)
 | .map,K=>∃r,K (.map r)
 | .any,K=>∃v,K v
theorem Lf.wS{l:Lf}{K:Value->Prop}(h:l.ex K):∃v,K v:=by
 cases l <;> simp only[Lf.ex]at h
 all_goals first
  |exact h
  | (obtain⟨a,n,c,h⟩:=h;exact⟨_,h⟩)
  | (obtain⟨a,h⟩:=h;exact⟨_,h⟩)
def lvs(P:Program):Nat->TypeId->List Lf
 |0,_=>[]
 |n+1,t=>match P.underlying t with
  |some .bool=>[.bool]
  |some (.int k)=>[.int k]
  |some (.float k)=>[.float k]
  |some .string=>[.string]
  |some (.slice _)=>[.slice]
  |some (.pointer _)=>[.pointer]
  |some (.map _ _)=>[.map]
  |some (.struct fs)=>fs.toList.flatMap λf=>lvs P n f.type
  |some (.array len e)=>(List.replicate len (lvs P n e)).flatten
  |_=>[.any]
def ldN(w:World)(a:Addr):Nat->List Lf->(List Value->Prop)->Prop
 |_,[],K=>K []
 |i,l::ls,K=>l.ex λv=>w.cell? (a.add i)=some v/\ldN w a (i+1) ls λvs=>K (v::vs)
theorem JZ(w:World)(a:Addr):∀(ls:List Lf) (i:Nat) (K:List Value->Prop),ldN w a i ls K ->
  ∃vs,vs.length=ls.length/\(∀j v,vs[j]?=some v->w.cell? (a.add (i+j))=some v)/\K vs
 | [],_,K,h=>⟨[],rfl,by simp,h⟩
 |l::ls,i,K,h=>by
  obtain⟨v,hv,h2⟩:=Lf.wS h;obtain⟨vs,hl,hc,hK⟩:=JZ w a ls (i+1) _ h2;refine⟨v::vs,by simp[hl],λj u hj=>?_,hK⟩
  cases j with
  |zero=>simp at hj;subst hj;simpa using hv
  |succ j=>simp at hj;have:=hc j u hj;rwa [show i+(j+1)=i+1+j by omega]
def a0k(P:Program)(t:TypeId):Bool:=match P.underlying t with
 |some (.struct _) | some (.array _ _)=>true
 |_=>false
def ldT(P:Program)(t:TypeId)(w:World)(a:Addr)(K:Value->Prop):Prop :=
 match P.underlying t with
 |some (.struct _) | some (.array _ _) =>
  if((P.info? t).map (·.size))=some (lvs P 8 t).length then ldN w a 0 (lvs P 8 t) (λvs=>K (.agg vs.toArray)) else False
 |none=>False
 |some _=>match lvs P 8 t with
  | [l]=>l.ex λv=>w.cell? a=some v/\K v
  |_=>False
theorem run_loadCellsFrom(P:Program)(w:World)(a:Addr):∀(vs:List Value) (i:Nat) (acc:Array Value),(∀j v,vs[j]?=some v->w.cell? (a.add (i+j))=some v) ->
  (loadCellsFrom a i vs.length acc).run P w = .ok (acc++vs.toArray) w
 | [],i,acc,_=>by simp[loadCellsFrom,pure]
 |v::vs,i,acc,h=>by
  have h0:=h 0 v rfl;have ih:=run_loadCellsFrom P w a vs (i+1) (acc.push v) (λj u hj=>by have:=h (j+1) u (by simpa using hj);rwa [show i+(j+1)=i+1+j by omega]at this);rw[zd2]at h0;simp only[zc5,loadCellsFrom,load,bind,Sem.bind,Sem.run,h0];rw[ih];simp
theorem run_bind'{α β:Type}(P:Program)(s:Sem α)(f:α->Sem β)(w w1:World)(a:α)(h:s.run P w = .ok a w1):(s >>= f).run P w=(f a).run P w1:=by
 rw[Sem.run_bind,h];rfl
theorem rD(P:Program)(w:World):program.run P w = .ok P w:=rfl
theorem run_typeInfo{P:Program}{t:TypeId}{i:TypeInfo}(h:P.info? t=some i)(w:World):(typeInfo t).run P w = .ok i w:=by
 unfold typeInfo;rw[run_bind' P _ _ w w P (rD P w),h];rfl
theorem dF{P:Program}{t:TypeId}{i:TypeDesc}(h:P.underlying t=some i)(w:World):(underlying t).run P w = .ok i w:=by
 unfold underlying;rw[run_bind' P _ _ w w P (rD P w),h];rfl
theorem lu{P:Program}{t:TypeId}{n:Nat}(h:(P.info? t).map (·.size)=some n)(w:World):(sizeOf t).run P w = .ok n w:=by
 unfold sizeOf
 cases hi:P.info? t with
 |none=>rw[hi]at h;cases h
 |some i=>
  rw[hi]at h;simp only[Option.map_some,Option.some.injEq]at h;rw[run_bind' P _ _ w w i (run_typeInfo hi w),<- h];rfl
def Si:TypeDesc->Bool
 | .struct _=>true
 | .array _ _=>true
 |_=>false
theorem qp{P:Program}{t:TypeId}{i:TypeDesc}(h:P.underlying t=some i)(w:World) :
  (isAgg t).run P w = .ok (Si i) w:=by
 unfold isAgg;rw[run_bind' P _ _ w w i (dF h w)]
 cases i <;> rfl
theorem OI{P:Program}{a:Addr}{w:World}{v:Value}(h:w.cell? a=some v):(load a).run P w = .ok v w:=by
 simp[load,Sem.run,h]
theorem NM{P:Program}{t:TypeId}{w:World}{a:Addr}{K:Value->Prop}(h:ldT P t w a K) :
  ∃v,(∀d:Kp w,(loadVar t a).run P d.out = .ok v d.out)/\K v:=by
 unfold ldT at h;have agg:∀(x:TypeDesc),P.underlying t=some x->Si x=true ->
   (if((P.info? t).map (·.size))=some (lvs P 8 t).length then ldN w a 0 (lvs P 8 t) (λvs=>K (.agg vs.toArray)) else False)->∃v,(∀d:Kp w,(loadVar t a).run P d.out = .ok v d.out)/\K v:=by
  intro x hx hb hh;split at hh
  case isFalse=>exact hh.elim
  rename_i hs;obtain⟨vs,hl,hc,hK⟩:=JZ w a _ _ _ hh;refine⟨.agg vs.toArray,λd=>?_,hK⟩;unfold loadVar;rw[run_bind' P _ _ _ _ _ (qp hx d.out),hb];simp only[if_true];rw[<- hl]at hs;rw[run_bind' P _ _ _ _ _ (lu hs d.out),run_bind' P _ _ _ d.out (vs.toArray)]
  .rfl
  .have:=run_loadCellsFrom P d.out a vs 0 #[] (λj v hj=>d.keep _ _ (hc j v hj));simpa[loadCells] using this
 have one:∀(x:TypeDesc),P.underlying t=some x->Si x=false ->
   (match lvs P 8 t with | [l]=>l.ex λv=>w.cell? a=some v/\K v | _=>False)->∃v,(∀d:Kp w,(loadVar t a).run P d.out = .ok v d.out)/\K v:=by
  intro x hx hb hh;split at hh
  case h_2=>exact hh.elim
  obtain⟨v,hv,hK⟩:=Lf.wS hh;refine⟨v,λd=>?_,hK⟩;unfold loadVar;rw[run_bind' P _ _ _ _ _ (qp hx d.out),hb];exact OI (d.keep _ _ hv)
 split at h
 .rename_i fs hx;exact agg _ hx rfl h
 .rename_i n e hx;exact agg _ hx rfl h
 .exact h.elim
 .rename_i x hn1 hn2 hx;refine one x hx ?_ h
  cases x <;> first | rfl | exact(hn1 _ rfl).elim | exact(hn2 _ _ rfl).elim
def sJ(P:Program)(s:Sem Next)(w:World)(v:Value):Prop:=∀d:Kp w,s.run P d.out = .ok (.value v) d.out
def Cj(P:Program)(s:Sem Value)(w:World)(v:Value):Prop:=∀d:Kp w,s.run P d.out = .ok v d.out
theorem sJ.of{P:Program}{s:Sem Value}{w:World}{v:Value}(h:Cj P s w v):sJ P (do pure (.value (<- s))) w v:=λd=>by
 rw[run_bind' P _ _ _ _ _ (h d)];rfl
def Qo(op:BinOp)(k:IntKind)(x y:Int):Int :=
 let a:=BitVec.ofInt k.bits x
 let b:=BitVec.ofInt k.bits y
 match op with
 | .and=>k.wrap (a &&& b).toNat
 | .or=>k.wrap (a ||| b).toNat
 | .xor=>k.wrap (a ^^^ b).toNat
 | .andNot=>k.wrap (a &&& ~~~b).toNat
 |_=>0
def unN(op:UnOp)(x:Value)(K:Value->Prop):Prop :=
 match op,x with
 | .neg,.int k n=>K (.int k (k.wrap (0 - n)))
 | .xor,.int k n=>K (.int k (k.wrap (BitVec.ofInt k.bits (if k.signed then -1 else k.max) ^^^ BitVec.ofInt k.bits n).toNat))
 | .not,.bool b=>K (.bool !b)
 |_,_=>False
theorem VF{P:Program}{op:UnOp}{x:Value}{K:Value->Prop}(w:World)(h:unN op x K):∃v,Cj P (Op.unary op x) w v/\K v:=by
 unfold unN at h;split at h
 .exact⟨_,λ_=>rfl,h⟩
 .exact⟨_,λ_=>rfl,h⟩
 .exact⟨_,λ_=>rfl,h⟩
 .exact h.elim
def Zg(op:BinOp)(k:IntKind)(a b:Int)(K:Value->Prop):Prop :=
 match op with
 | .add=>K (.int k (k.wrap (a+b)))
 | .sub=>K (.int k (k.wrap (a - b)))
 | .mul=>K (.int k (k.wrap (a*b)))
 | .quo=>Y8 (b=0) (K (.int k (k.wrap (a.tdiv b))))
 | .rem=>Y8 (b=0) (K (.int k (a.tmod b)))
 | .and | .or | .xor | .andNot=>K (.int k (Qo op k a b))
 | .shl | .shr=>False
 | .eql=>K (.bool (a==b))
 | .neq=>K (.bool (a != b))
 | .lss=>K (.bool (decide (a<b)))
 | .leq=>K (.bool (decide (a<=b)))
 | .gtr=>K (.bool (decide (a>b)))
 | .geq=>K (.bool (decide (a>=b)))
theorem Rz{P:Program}{op:BinOp}{k:IntKind}{a b:Int}{K:Value->Prop}{t:TypeId}(w:World)(h:Zg op k a b K):∃v,Cj P (binOp op t (.int k a) (.int k b)) w v/\K v:=by
 unfold Zg at h
 cases op <;> simp only at h
 case quo=>
  obtain⟨hb,h⟩:=Eb.1 h;exact⟨_,λd=>by simp[binOp,Op.intDiv,hb],h⟩
 case rem=>
  obtain⟨hb,h⟩:=Eb.1 h;exact⟨_,λd=>by simp[binOp,Op.intDiv,hb],h⟩
 all_goals first
  |exact h.elim
  |exact⟨_,λd=>by simp[binOp,Op.intArith,Op.intBits,Op.intCmp,Qo],h⟩
def shN(op:BinOp)(k:IntKind)(a b:Int)(K:Value->Prop):Prop :=
 Y8 (b<0) (match op with
 | .shl=>K (.int k (k.wrap (a*2 ^ (min b.toNat k.bits))))
 | .shr=>K (.int k (a.fdiv (2 ^ (min b.toNat k.bits))))
 |_=>False)
theorem NH{P:Program}{op:BinOp}{k k2:IntKind}{a b:Int}{K:Value->Prop}{t:TypeId}(w:World)(h:shN op k a b K):∃v,Cj P (binOp op t (.int k a) (.int k2 b)) w v/\K v:=by
 unfold shN at h;obtain⟨hb,h⟩:=Eb.1 h
 cases op <;> simp only at h
 all_goals first
  |exact h.elim
  |exact⟨_,λd=>by simp[binOp,Op.shift,hb],h⟩
def Zv(op:BinOp)(k:FloatKind)(a b:Nat)(K:Value->Prop):Prop :=
 match op with
 | .eql=>K (.bool (k.format.order a b==some .eq))
 | .neq=>K (.bool (k.format.order a b != some .eq))
 | .lss=>K (.bool (k.format.order a b==some .lt))
 | .leq=>K (.bool (k.format.order a b==some .lt||k.format.order a b==some .eq))
 | .gtr=>K (.bool (k.format.order a b==some .gt))
 | .geq=>K (.bool (k.format.order a b==some .gt||k.format.order a b==some .eq))
 |_=>False
theorem S9{P:Program}{op:BinOp}{k:FloatKind}{a b:Nat}{K:Value->Prop}{t:TypeId}(w:World)(h:Zv op k a b K):∃v,Cj P (binOp op t (.float k a) (.float k b)) w v/\K v:=by
 unfold Zv at h
 cases op <;> simp only at h
 all_goals first
  |exact h.elim
  |exact⟨_,λd=>by simp[binOp,Op.floatCmp],h⟩
def ZU(op:BinOp)(a b:ByteArray)(K:Value->Prop):Prop :=
 match op with
 | .eql=>K (.bool (a.toList==b.toList))
 | .neq=>K (.bool !(a.toList==b.toList))
 |_=>False
theorem QY{P:Program}{op:BinOp}{a b:ByteArray}{K:Value->Prop}{t:TypeId}(w:World)(h:ZU op a b K):∃v,Cj P (binOp op t (.string a) (.string b)) w v/\K v:=by
 unfold ZU at h
 cases op <;> simp only at h
 all_goals first
  |exact h.elim
  |exact⟨_,λd=>by simp[binOp,Op.stringOp],h⟩
def eqN(P:Program)(t:TypeId)(x y:Value)(K:Bool->Prop):Prop :=
 match P.underlying t,x,y with
 |some .bool,.bool a,.bool b=>K (a==b)
 |some (.slice _),.slice a _ _,.slice none _ _=>K a.isNone
 |some (.pointer _),.pointer a,.pointer none=>K a.isNone
 |some (.map _ _),.map a,.map none=>K a.isNone
 |some (.struct _),.agg xs,.agg ys=>if P.eqGuardType P.depth t=true then False else∃b,(∀w,(Op.equal t (.agg xs) (.agg ys)).run P w = .ok b w)/\K b
 |some (.array _ _),.agg xs,.agg ys=>if P.eqGuardType P.depth t=true then False else∃b,(∀w,(Op.equal t (.agg xs) (.agg ys)).run P w = .ok b w)/\K b
 |_,_,_=>False
theorem Oe{P:Program}{t:TypeId}(n:Nat)(h:P.underlying t=some .bool)(a b:Bool)(w:World):(Op.equalIn (n+1) t (.bool a) (.bool b)).run P w = .ok (a==b) w:=by
 unfold Op.equalIn;rw[run_bind' P _ _ _ _ _ (dF h w)];rfl
theorem Lm{P:Program}{t e:TypeId}(n:Nat)(h:P.underlying t=some (.slice e))(a:Option Addr)(l c l' c':Nat)(w:World):(Op.equalIn (n+1) t (.slice a l c) (.slice none l' c')).run P w = .ok a.isNone w:=by
 unfold Op.equalIn;rw[run_bind' P _ _ _ _ _ (dF h w)];cases a <;> rfl
theorem EX{P:Program}{t e:TypeId}(n:Nat)(h:P.underlying t=some (.pointer e))(a:Option Addr)(w:World):(Op.equalIn (n+1) t (.pointer a) (.pointer none)).run P w = .ok a.isNone w:=by
 unfold Op.equalIn;rw[run_bind' P _ _ _ _ _ (dF h w)];cases a <;> rfl
theorem QN{P:Program}{t e f:TypeId}(n:Nat)(h:P.underlying t=some (.map e f))(a:Option Nat)(w:World):(Op.equalIn (n+1) t (.map a) (.map none)).run P w = .ok a.isNone w:=by
 unfold Op.equalIn;rw[run_bind' P _ _ _ _ _ (dF h w)];cases a <;> rfl
theorem Bo{P:Program}{op:BinOp}{t:TypeId}{x y:Value}{xo yo:Operand}{w:World}{b:Bool}(hop:op = .eql\/op = .neq)
  (hb1:binOp .eql t x y=(do pure (.bool (<- Op.equal t x y)))) (hb2:binOp .neq t x y=(do pure (.bool (!(<- Op.equal t x y)))))
  (hg:∀(o:BinOp) (d:Kp w),(o = .eql\/o = .neq)->(eqGuard o t xo yo x y).run P d.out = .ok () d.out) (he:∀d:Kp w,(Op.equal t x y).run P d.out = .ok b d.out) :
  Cj P (do eqGuard op t xo yo x y;binOp op t x y) w (.bool (if op = .eql then b else !b)):=λd=>by
 rw[run_bind' P _ _ _ _ _ (hg op d hop)]
 rcases hop with rfl | rfl
 .rw[hb1,run_bind' P _ _ _ _ _ (he d)];rfl
 .rw[hb2,run_bind' P _ _ _ _ _ (he d)];rfl
theorem EF{P:Program}{t:TypeId}{xs ys:Array Value}{xo yo:Operand}{o:BinOp}(hg:P.eqGuardType P.depth t=false)(w:World)(ho:o = .eql\/o = .neq) :
  (eqGuard o t xo yo (.agg xs) (.agg ys)).run P w = .ok () w:=by
 rcases ho with rfl | rfl <;> simp[eqGuard,program,Sem.run,hg]
theorem NV{P:Program}{op:BinOp}{t:TypeId}{x y:Value}{xo yo:Operand}{K:Bool->Prop}(w:World)(h:eqN P t x y K)(hop:op = .eql\/op = .neq) :
  ∃b,Cj P (do eqGuard op t xo yo x y;binOp op t x y) w (.bool (if op = .eql then b else !b))/\K b:=by
 unfold eqN at h;split at h
 .rename_i hu;exact⟨_,Bo hop rfl rfl (λo d ho=>by rcases ho with rfl | rfl <;> rfl) (λd=>Oe 9999 hu _ _ _),h⟩
 .rename_i hu;exact⟨_,Bo hop rfl rfl (λo d ho=>by rcases ho with rfl | rfl <;> rfl) (λd=>Lm 9999 hu _ _ _ _ _ _),h⟩
 .rename_i hu;exact⟨_,Bo hop rfl rfl (λo d ho=>by rcases ho with rfl | rfl <;> rfl) (λd=>EX 9999 hu _ _),h⟩
 .rename_i hu;exact⟨_,Bo hop rfl rfl (λo d ho=>by rcases ho with rfl | rfl <;> rfl) (λd=>QN 9999 hu _ _),h⟩
 .split at h
  .exact h.elim
  .rename_i hg;obtain⟨b,hb,hK⟩:=h;exact⟨b,Bo hop rfl rfl (λo d ho=>EF (by simpa using hg) _ ho) (λd=>hb _),hK⟩
 .split at h
  .exact h.elim
  .rename_i hg;obtain⟨b,hb,hK⟩:=h;exact⟨b,Bo hop rfl rfl (λo d ho=>EF (by simpa using hg) _ ho) (λd=>hb _),hK⟩
 .exact h.elim
def a01(P:Program)(op:BinOp)(t:TypeId)(x y:Value)(K:Value->Prop):Prop :=
 match op,x,y with
 | .shl,.int k a,.int _ b=>shN .shl k a b K
 | .shr,.int k a,.int _ b=>shN .shr k a b K
 |op,.int k a,.int k' b=>if k=k' then Zg op k a b K else False
 |op,.float k a,.float k' b=>if k=k' then Zv op k a b K else False
 |op,.string a,.string b=>ZU op a b K
 | .eql,x,y=>eqN P t x y λb=>K (.bool b)
 | .neq,x,y=>eqN P t x y λb=>K (.bool !b)
 |_,_,_=>False
theorem QW{P:Program}{op:BinOp}{t:TypeId}{x y:Value}{xo yo:Operand}{K:Value->Prop}(w:World)(h:a01 P op t x y K) :
  ∃v,Cj P (do eqGuard op t xo yo x y;binOp op t x y) w v/\K v:=by
 have g:∀ {v:Value},(∀d:Kp w,(eqGuard op t xo yo x y).run P d.out = .ok () d.out)->Cj P (binOp op t x y) w v->Cj P (do eqGuard op t xo yo x y;binOp op t x y) w v:=by
  intro v hg hr d;rw[run_bind' P _ _ _ _ _ (hg d)];exact hr d
 unfold a01 at h;split at h
 .obtain⟨v,hr,hK⟩:=NH (P:=P) (t:=t) w h;exact⟨v,g (λd=>rfl) hr,hK⟩
 .obtain⟨v,hr,hK⟩:=NH (P:=P) (t:=t) w h;exact⟨v,g (λd=>rfl) hr,hK⟩
 .split at h
  .rename_i hk;subst hk;obtain⟨v,hr,hK⟩:=Rz (P:=P) (t:=t) w h;exact⟨v,g (λd=>by cases op <;> rfl) hr,hK⟩
  .exact h.elim
 .split at h
  .rename_i hk;subst hk;obtain⟨v,hr,hK⟩:=S9 (P:=P) (t:=t) w h;exact⟨v,g (λd=>by cases op <;> rfl) hr,hK⟩
  .exact h.elim
 .obtain⟨v,hr,hK⟩:=QY (P:=P) (t:=t) w h;exact⟨v,g (λd=>by cases op <;> rfl) hr,hK⟩
 .obtain⟨b,hr,hK⟩:=NV (op := .eql) (xo:=xo) (yo:=yo) w h (.inl rfl);exact⟨_,hr,hK⟩
 .obtain⟨b,hr,hK⟩:=NV (op := .neq) (xo:=xo) (yo:=yo) w h (.inr rfl);exact⟨_,hr,hK⟩
 .exact h.elim
def aV{α:Type}(o:Option α)(K:α->Prop):Prop:=match o with
 |some a=>K a
 |none=>False
theorem gm{α:Type}{o:Option α}{K:α->Prop}(h:aV o K):∃a,o=some a/\K a:=by
 cases o with
 |none=>exact h.elim
 |some a=>exact⟨a,rfl,h⟩
def Lc(v:Value)(K:Addr->Prop):Prop:=match v with
 | .pointer o=>aV o K
 |_=>False
theorem ql{v:Value}{K:Addr->Prop}(h:Lc v K):∃a,v = .pointer (some a)/\K a:=by
 unfold Lc at h;split at h
 .obtain⟨a,rfl,h⟩:=gm h;exact⟨a,rfl,h⟩
 .exact h.elim
def pk(b p q:Bool):Bool:=match b with
 |true=>p
 |false=>q
def UA(b:Bool)(x y:Value)(K:Value->Prop):Prop:=match x,y with
 | .bool p,.bool q=>K (.bool (pk b p q))
 |x,y=>af b (K x) (K y)
theorem MK{b:Bool}{x y:Value}{K:Value->Prop}(h:UA b x y K):K (if b then x else y):=by
 unfold UA at h;split at h
 .cases b <;> exact h
 .cases b <;> exact h
def VT(c x y:Value)(K:Value->Prop):Prop:=match c with
 | .bool b=>UA b x y K
 |_=>False
theorem Lh{c x y:Value}{K:Value->Prop}(h:VT c x y K):∃b,c = .bool b/\K (if b then x else y):=by
 unfold VT at h;split at h
 .exact⟨_,rfl,MK h⟩
 .exact h.elim
def Dt(P:Program)(s:TypeId)(i:Nat):Option Field:=match P.underlying s with
 |some (.struct fs)=>fs[i]?
 |_=>none
def Sv(P:Program)(t:TypeId):Option Nat:=(P.info? t).map (·.size)
def wo(P:Program)(s:TypeId)(x:Value)(i:Nat)(K:Value->Prop):Prop :=
 match Dt P s i with
 |none=>False
 |some f=>match Sv P f.type with
  |some (_+1)=>Lc x λa=>K (.pointer (some (a.add f.offset)))
  |_=>False
theorem Ac{P:Program}{s:TypeId}{i:Nat}{f:Field}(h:Dt P s i=some f):∃fs,P.underlying s=some (.struct fs)/\fs[i]?=some f:=by
 unfold Dt at h;split at h
 .exact⟨_,by assumption,h⟩
 .cases h
theorem AL{P:Program}{s:TypeId}{x:Value}{i:Nat}{K:Value->Prop}(w:World)(h:wo P s x i K) :
  ∃v,Cj P (Instr.fieldAt s x i) w v/\K v:=by
 unfold wo at h;split at h
 .exact h.elim
 rename_i f hf;split at h
 .rename_i n hn;obtain⟨a,rfl,hK⟩:=ql h;obtain⟨fs,hu,hi⟩:=Ac hf;refine⟨_,λd=>?_,hK⟩;unfold Instr.fieldAt;rw[run_bind' P _ _ _ _ _ (dF hu _)];simp only[hi];rw[run_bind' P _ _ _ _ a rfl,run_bind' P _ _ _ d.out (a.add f.offset)]
  .rfl
  .unfold fieldPlace;rw[run_bind' P _ _ _ _ _ (lu hn _),if_neg (Nat.succ_ne_zero n)];rfl
 .exact h.elim
def VV(P:Program)(t:TypeId)(cs:Array Value)(off:Nat)(K:Value->Prop):Prop :=
 match P.underlying t with
 |none=>False
 |some x=>match Si x with
  |true=>match Sv P t with
   |some n=>K (.agg (cs.extract off (off+n)))
   |none=>False
  |false=>aV cs[off]? K
theorem PE{P:Program}{t:TypeId}{cs:Array Value}{off:Nat}{K:Value->Prop}(w:World)(h:VV P t cs off K) :
  ∃v,Cj P (part t cs off) w v/\K v:=by
 unfold VV at h;split at h
 .exact h.elim
 rename_i x hu;split at h
 .rename_i hb;split at h
  .rename_i n hn;refine⟨_,λd=>?_,h⟩;unfold part;rw[run_bind' P _ _ _ _ _ (qp hu _),hb];simp only[if_true];rw[run_bind' P _ _ _ _ _ (lu hn _)];rfl
  .exact h.elim
 .rename_i hb;obtain⟨v,hv,hK⟩:=gm h;refine⟨v,λd=>?_,hK⟩;unfold part;rw[run_bind' P _ _ _ _ _ (qp hu _),hb];simp only[Bool.false_eq_true,if_false,hv];rfl
def fieldN(P:Program)(s:TypeId)(x:Value)(i:Nat)(K:Value->Prop):Prop :=
 match Dt P s i,x with
 |some f,.agg cs=>VV P f.type cs f.offset K
 |_,_=>False
theorem Kr{P:Program}{s:TypeId}{x:Value}{i:Nat}{K:Value->Prop}(w:World)(h:fieldN P s x i K) :
  ∃v,Cj P (Instr.field s x i) w v/\K v:=by
 unfold fieldN at h;split at h
 .rename_i f cs hf;obtain⟨fs,hu,hi⟩:=Ac hf;obtain⟨v,hr,hK⟩:=PE w h;refine⟨v,λd=>?_,hK⟩;unfold Instr.field;rw[run_bind' P _ _ _ _ _ (dF hu _)];simp only[hi];rw[run_bind' P _ _ _ _ cs rfl];exact hr d
 .exact h.elim
def vK(P:Program)(t:TypeId)(x ix:Value)(K:Value->Prop):Prop :=
 match ix with
 | .int _ i=>match P.underlying t,x with
  |some (.array len e),x=>match Sv P e with
   |some sz=>Lc x λa=>chk (0<=i/\i<(len:Int)) (K (.pointer (some (a.add (i.toNat*sz)))))
   |none=>False
  |some (.slice e),.slice base n _=>match Sv P e with
   |some sz=>aV base λa=>chk (0<=i/\i<(n:Int)) (K (.pointer (some (a.add (i.toNat*sz)))))
   |none=>False
  |_,_=>False
 |_=>False
theorem AV{P:Program}{t:TypeId}{x ix:Value}{K:Value->Prop}(w:World)(h:vK P t x ix K) :
  ∃v,Cj P (Instr.indexAt t x ix) w v/\K v:=by
 unfold vK at h;split at h
 case h_2=>exact h.elim
 rename_i k i;split at h
 .rename_i len e hu;split at h
  .rename_i sz hs;obtain⟨a,rfl,h⟩:=ql h;obtain⟨hb,h⟩:=qC.1 h
   .refine⟨_,λd=>?_,h⟩;unfold Instr.indexAt;rw[run_bind' P _ _ _ _ (k,i) rfl];simp only;rw[run_bind' P _ _ _ _ _ (dF hu _)];simp only;rw[run_bind' P _ _ _ _ a rfl,run_bind' P _ _ _ _ (some a,len,e) rfl,run_bind' P _ _ _ _ _ (dF hu _)];simp only;rw[if_pos hb,run_bind' P _ _ _ _ _ (lu hs _)];rfl
  .exact h.elim
 .rename_i e base n c hu;split at h
  .rename_i sz hs;obtain⟨a,rfl,h⟩:=gm h;obtain⟨hb,h⟩:=qC.1 h
   .refine⟨_,λd=>?_,h⟩;unfold Instr.indexAt;rw[run_bind' P _ _ _ _ (k,i) rfl];simp only;rw[run_bind' P _ _ _ _ _ (dF hu _)];simp only;rw[run_bind' P _ _ _ _ (some a,n,e) rfl,run_bind' P _ _ _ _ _ (dF hu _)];simp only;rw[if_pos hb,run_bind' P _ _ _ _ _ (lu hs _)];rfl
  .exact h.elim
 .exact h.elim
def Qz(P:Program)(t:TypeId)(x ix:Value)(K:Value->Prop):Prop :=
 match ix with
 | .int _ i=>match P.underlying t,x with
  |some (.array len e),.agg cs=>match Sv P e with
   |some sz=>chk (0<=i/\i<(len:Int)) (match P.underlying e with
    |none=>False
    |some d=>match Si d with
     |true=>False
     |false=>match lvs P 8 e with
      | [l]=>l.ex λv=>cs[i.toNat*sz]?=some v/\K v
      |_=>False)
   |none=>False
  |some .string,.string s=>chk (0<=i) (∃b:UInt8,s[i.toNat]?=some b/\K (.int .u8 b.toNat))
  |_,_=>False
 |_=>False
theorem Ld{P:Program}{t:TypeId}{x ix:Value}{K:Value->Prop}(w:World)(h:Qz P t x ix K) :
  ∃v,Cj P (Instr.index t x ix) w v/\K v:=by
 unfold Qz at h;split at h
 case h_2=>exact h.elim
 rename_i k i;split at h
 .rename_i len e cs hu;split at h
  .rename_i sz hs;obtain⟨hb,h⟩:=qC.1 h
   .split at h
    .exact h.elim
    rename_i x he;split at h
    .exact h.elim
    rename_i hag;split at h
    .obtain⟨v,hc,hK⟩:=Lf.wS h;refine⟨v,λd=>?_,hK⟩;unfold Instr.index;rw[run_bind' P _ _ _ _ (k,i) rfl];simp only;rw[run_bind' P _ _ _ _ _ (dF hu _)];simp only;rw[if_pos hb,run_bind' P _ _ _ _ _ (lu hs _)];unfold part;rw[run_bind' P _ _ _ _ _ (qp he _)];simp only[hag,Bool.false_eq_true,if_false,hc];rfl
    .exact h.elim
  .exact h.elim
 .rename_i s hu;obtain⟨hb,h⟩:=qC.1 h
  .obtain⟨b,hbs,hK⟩:=h;refine⟨_,λd=>?_,hK⟩;unfold Instr.index;rw[run_bind' P _ _ _ _ (k,i) rfl];simp only;rw[run_bind' P _ _ _ _ _ (dF hu _)];simp only[if_pos hb,hbs];rfl
 .exact h.elim
def CY(x:Value)(i:Nat)(K:Value->Prop):Prop:=match x with
 | .tuple vs=>aV vs[i]? K
 |_=>False
theorem FP{P:Program}{x:Value}{i:Nat}{K:Value->Prop}(w:World)(h:CY x i K) :
  ∃v,Cj P (Instr.extract x i) w v/\K v:=by
 unfold CY at h;split at h
 .obtain⟨v,hv,hK⟩:=gm h;exact⟨v,λd=>by simp[Instr.extract,hv],hK⟩
 .exact h.elim
def slA(a:Option Addr)(m l sz:Nat):Option Addr:=if m=l then a else a.map (·.add (l*sz))
def TC(v:Option Value)(y dflt:Nat)(K:Nat->Prop):Prop:=match v with
 |none=>K dflt
 |some (.int _ i)=>chk (0<=i/\i<=(y:Int)) (K i.toNat)
 |some _=>False
theorem jY{P:Program}{k:IntKind}{i:Int}{y:Nat}{c:BoundsCode}{w:World}(h:0<=i/\i<=(y:Int)):(Instr.sliceBound (.int k i) y c).run P w = .ok i.toNat w:=by
 unfold Instr.sliceBound;rw[run_bind' P _ _ _ _ (k,i) rfl];simp only[if_pos h];rfl
def O4(P:Program)(t:TypeId)(x:Value)(lo hi mx:Option Value)(K:Value->Prop):Prop :=
 match P.underlying t,x with
 |some (.slice e),.slice a n c=>match Sv P e with
  |some sz=>match mx with
   |none=>TC hi c n λh=>TC lo h 0 λl=>K (.slice (slA a c l sz) (h - l) (c - l))
   |some mv=>match hi with
    |none=>False
    |some hv=>TC (some mv) c c λm=>TC (some hv) m n λh=>TC lo h 0 λl=>K (.slice (slA a m l sz) (h - l) (m - l))
  |none=>False
 |some .string,.string s=>match mx with
  |none=>TC hi s.size s.size λh=>TC lo h 0 λl=>K (.string (s.extract l h))
  |some _=>False
 |_,_=>False
theorem lK{v:Option Value}{y dflt:Nat}{K:Nat->Prop}(h:TC v y dflt K) :
  (v=none/\K dflt)\/(∃k i,v=some (.int k i)/\(0<=i/\i<=(y:Int))/\K i.toNat):=by
 unfold TC at h;split at h
 .exact .inl ⟨rfl,h⟩
 .rename_i k i;obtain⟨hb,h⟩:=qC.1 h;exact .inr ⟨k,i,rfl,hb,h⟩
 .exact h.elim
theorem LP{P:Program}{t:TypeId}{x:Value}{lo hi mx:Option Value}{K:Value->Prop}(w:World)(h:O4 P t x lo hi mx K) :
  ∃v,Cj P (Instr.sliceAt t x lo hi mx) w v/\K v:=by
 unfold O4 at h;split at h
 .rename_i e a n c hu;split at h
  case h_2=>exact h.elim
  rename_i sz hs;have go:∀(m hh l:Nat) (w':World),(Instr.sliceBounds true n c lo hi mx).run P w' = .ok (l,hh,m) w' ->
    (Instr.sliceAt t (.slice a n c) lo hi mx).run P w' = .ok (.slice (slA a m l sz) (hh - l) (m - l)) w':=by
   intro m hh l w' hb;unfold Instr.sliceAt;rw[run_bind' P _ _ _ _ _ (dF hu _)];simp only;unfold Instr.slice;rw[run_bind' P _ _ _ _ _ (dF hu _)];simp only;rw[run_bind' P _ _ _ _ _ hb];simp only;rw[run_bind' P _ _ _ _ _ (lu hs _)];rfl
  split at h
  .rcases lK h with ⟨hh,h3⟩ | ⟨k2,i2,hh,hb2,h3⟩ <;> subst hh <;>
    rcases lK h3 with ⟨hl,h4⟩ | ⟨k3,i3,hl,hb3,h4⟩ <;> subst hl
   .exact⟨_,λd=>go _ _ _ _ rfl,h4⟩
   .exact⟨_,λd=>go _ _ _ _ (by simp[Instr.sliceBounds,jY hb3]),h4⟩
   .exact⟨_,λd=>go _ _ _ _ (by simp[Instr.sliceBounds,jY hb2]),h4⟩
   .exact⟨_,λd=>go _ _ _ _ (by simp[Instr.sliceBounds,jY hb2,jY hb3]),h4⟩
  .split at h
   .exact h.elim
   rcases lK h with ⟨hm,h0⟩ | ⟨k,i,hm,hb,h0⟩
   .cases hm
   cases hm;clear h
   rcases lK h0 with ⟨hh,h3⟩ | ⟨k2,i2,hh,hb2,h3⟩
   .cases hh
   cases hh
   rcases lK h3 with ⟨hl,h4⟩ | ⟨k3,i3,hl,hb3,h4⟩ <;> subst hl
   .exact⟨_,λd=>go _ _ _ _ (by simp[Instr.sliceBounds,jY hb,jY hb2]),h4⟩
   .exact⟨_,λd=>go _ _ _ _ (by simp[Instr.sliceBounds,jY hb,jY hb2,jY hb3]),h4⟩
 .rename_i s hu;split at h
  case h_2=>exact h.elim
  have go:∀(m hh l:Nat) (w':World),(Instr.sliceBounds false s.size s.size lo hi none).run P w' = .ok (l,hh,m) w' ->
     (Instr.sliceAt t (.string s) lo hi none).run P w' = .ok (.string (s.extract l hh)) w':=by
   intro m hh l w' hb;unfold Instr.sliceAt;rw[run_bind' P _ _ _ _ _ (dF hu _)];simp only;unfold Instr.slice;rw[run_bind' P _ _ _ _ _ (dF hu _)];simp only[Option.isSome_none,Bool.false_eq_true,if_false];rw[run_bind' P _ _ _ _ _ hb];rfl
  rcases lK h with ⟨hh,h3⟩ | ⟨k2,i2,hh,hb2,h3⟩ <;> subst hh <;>
   rcases lK h3 with ⟨hl,h4⟩ | ⟨k3,i3,hl,hb3,h4⟩ <;> subst hl
  .exact⟨_,λd=>go s.size _ _ _ rfl,h4⟩
  .exact⟨_,λd=>go s.size _ _ _ (by simp[Instr.sliceBounds,jY hb3]),h4⟩
  .exact⟨_,λd=>go s.size _ _ _ (by simp[Instr.sliceBounds,jY hb2]),h4⟩
  .exact⟨_,λd=>go s.size _ _ _ (by simp[Instr.sliceBounds,jY hb2,jY hb3]),h4⟩
 .exact h.elim
def cvN(P:Program)(s t:TypeId)(x:Value)(K:Value->Prop):Prop :=
 match P.underlying s,P.underlying t,x with
 |some (.int _),some (.int k),.int _ n=>K (.int k (k.wrap n))
 |some (.int _),some (.float k),.int _ n=>K (.float k (k.nearest n))
 |some .string,some .string,.string b=>K (.string b)
 |_,_,_=>False
theorem Wu{P:Program}{s t:TypeId}{x:Value}{K:Value->Prop}(w:World)(h:cvN P s t x K):∃v,Cj P (convert s t x) w v/\K v:=by
 unfold cvN at h;split at h
 .rename_i h1 h2;refine⟨_,λd=>?_,h⟩;unfold convert;rw[run_bind' P _ _ _ _ _ (dF h1 _),run_bind' P _ _ _ _ _ (dF h2 _)];rfl
 .rename_i h1 h2;refine⟨_,λd=>?_,h⟩;unfold convert;rw[run_bind' P _ _ _ _ _ (dF h1 _),run_bind' P _ _ _ _ _ (dF h2 _)];rfl
 .rename_i h1 h2;refine⟨_,λd=>?_,h⟩;unfold convert;rw[run_bind' P _ _ _ _ _ (dF h1 _),run_bind' P _ _ _ _ _ (dF h2 _)];rfl
 .exact h.elim
def lenV:Option TypeDesc->Value->Option Value
 |some .string,.string s=>some (goInt s.size)
 |some (.slice _),.slice _ n _=>some (goInt n)
 |some (.array n _),_=>some (goInt n)
 |_,_=>none
def ZG(P:Program)(b:Builtin)(ts:Array TypeId)(xs:List Value)(K:Value->Prop):Prop :=
 match b,xs with
 | .len,[x]=>match ts[0]? with
  |none=>False
  |some t=>aV (lenV (P.underlying t) x) K
 | .min,[.int k x,.int _ y]=>K (.int k (if y<x then y else x))
 | .max,[.int k x,.int _ y]=>K (.int k (if x<y then y else x))
 |_,_=>False
theorem SI{P:Program}{b:Builtin}{ts:Array TypeId}{ty:TypeId}{cs:Array Bool}{xs:List Value}{K:Value->Prop}(w:World)(h:ZG P b ts xs K) :
  ∃v,sJ P (builtin b ts ty cs xs.toArray) w v/\K v:=by
 unfold ZG at h;split at h
 .rename_i x;split at h
  .exact h.elim
  rename_i t ht;obtain⟨v,hv,hK⟩:=gm h;refine⟨v,λd=>?_,hK⟩;unfold builtin;simp only;refine run_bind' P _ _ _ d.out v ?_;unfold Builtin.len_;simp only[ht,List.getElem?_toArray,List.getElem?_cons_zero]
  cases hu:P.underlying t with
  |none=>rw[hu]at hv;cases hv
  |some u=>
   rw[run_bind' P _ _ _ _ _ (dF hu _)];rw[hu]at hv
   cases u <;> cases x <;> simp only[lenV,Option.some.injEq]at hv <;> first | (subst hv;rfl) | cases hv
 .exact⟨_,λd=>rfl,h⟩
 .exact⟨_,λd=>rfl,h⟩
 .exact h.elim
def ckN(x:Value)(K:Value->Prop):Prop:=match x with
 | .pointer o=>aV o λa=>K (.pointer (some a))
 | .func (.func f) fs cs=>K (.func (.func f) fs cs)
 | .iface t v=>K (.iface t v)
 |_=>False
def Zw(P:Program)(t:TypeId)(x:Value)(K:Value->Prop):Prop:=match P.underlying t with
 |none=>False
 |some (.interface _)=>False
 |some _=>K (.iface t x)
theorem RX{P:Program}{t:TypeId}{x:Value}{K:Value->Prop}(w:World)(h:Zw P t x K):∃v,Cj P (Instr.makeInterface t x) w v/\K v:=by
 unfold Zw at h;split at h
 .exact h.elim
 .exact h.elim
 .rename_i u hn hu;refine⟨_,λd=>?_,h⟩;unfold Instr.makeInterface;rw[run_bind' P _ _ _ _ _ (dF hu _)]
  cases u <;> first | rfl | exact(hn _ rfl).elim
def partsOf(ρ:Operand->Value)(parts:Array (Nat×Operand)):List (Nat×Value):=(parts.map λ(i,x)=>(i,ρ x)).toList
def U9(P:Program)(f:FuncId):Bool:=match P.funcs[f]? with
 |some fn=>fn.body.isNone
 |none=>true
def ZW(P:Program)(f:FuncId):Lf:=match P.funcs[f]? with
 |some fn=>match fn.resultTypes[0]? with
  |some t=>(lvs P 8 t).headD .any
  |none => .any
 |none => .any
def Ir(P:Program)(ρ:Operand->Value)(c:Call)(w:World)(K:Value->Prop):Prop :=
 match c.callee with
 | .builtin b=>ZG P b c.argTypes (c.args.toList.map ρ) K
 | .value (.func f)=>if U9 P f=true then(ZW P f).ex λv=>sJ P (callFunc f (c.args.map ρ)) w v/\K v else False
 |_=>False
def vM(P:Program)(ρ:Operand->Value)(o:Oper)(w:World)(K:Value->Prop):Prop :=
 match o.op with
 | .move x=>K (ρ x)
 | .assign x=>K (ρ x)
 | .pick c x y=>VT (ρ c) (ρ x) (ρ y) K
 | .unOp op _ x=>unN op (ρ x) K
 | .binOp op t x y _=>a01 P op t (ρ x) (ρ y) K
 | .convert s t x=>cvN P s t (ρ x) K
 | .load t p=>Lc (ρ p) λa=>ldT P t w a K
 | .fieldAddr s x i=>wo P s (ρ x) i K
 | .field s x i=>fieldN P s (ρ x) i K
 | .indexAddr t x i=>vK P t (ρ x) (ρ i) K
 | .index t x i=>Qz P t (ρ x) (ρ i) K
 | .extract x i=>CY (ρ x) i K
 | .slice t x lo hi mx=>O4 P t (ρ x) (lo.map ρ) (hi.map ρ) (mx.map ρ) K
 | .makeFunc fn fs cs=>K (.func fn (fs.map ρ) (cs.map ρ))
 | .makeInterface t x=>Zw P t (ρ x) K
 | .build t parts=>aV (P.built t (partsOf ρ parts)) λcs=>K (.agg cs)
 | .nilCheck x=>ckN (ρ x) K
 | .call c=>Ir P ρ c w K
 |_=>False
theorem jV{P:Program}{ρ:Operand->Value}{o:Oper}{w:World}{K:Value->Prop}(hρ:∀f,ρ (.func f) = .func (.func f) #[] #[])(h:vM P ρ o w K) :
  ∃v,sJ P (execOp ρ o) w v/\K v:=by
 obtain⟨dst,op,ty,pos,after,guard⟩:=o;unfold vM at h
 cases op <;> simp only at h <;> first | exact h.elim | skip
 case move x=>exact⟨_,λd=>rfl,h⟩
 case assign x=>exact⟨_,λd=>rfl,h⟩
 case pick c x y=>
  obtain⟨b,hc,hK⟩:=Lh h;refine⟨_,λd=>?_,hK⟩;unfold execOp;simp only[hc];rfl
 case unOp op t x=>obtain⟨v,hr,hK⟩:=VF (P:=P) w h;exact⟨v,sJ.of hr,hK⟩
 case binOp op t x y yt=>obtain⟨v,hr,hK⟩:=QW (P:=P) (xo:=x) (yo:=y) w h;exact⟨v,sJ.of hr,hK⟩
 case convert s t x=>obtain⟨v,hr,hK⟩:=Wu (P:=P) w h;exact⟨v,sJ.of hr,hK⟩
 case load t p=>
  obtain⟨a,ha,h⟩:=ql h;obtain⟨v,hr,hK⟩:=NM h;refine⟨v,sJ.of (λd=>?_),hK⟩;unfold Instr.loadAt;rw[ha,run_bind' P _ _ _ _ a rfl];exact hr d
 case fieldAddr s x i=>obtain⟨v,hr,hK⟩:=AL (P:=P) w h;exact⟨v,sJ.of hr,hK⟩
 case field s x i=>obtain⟨v,hr,hK⟩:=Kr (P:=P) w h;exact⟨v,sJ.of hr,hK⟩
 case indexAddr t x i=>obtain⟨v,hr,hK⟩:=AV (P:=P) w h;exact⟨v,sJ.of hr,hK⟩
 case index t x i=>obtain⟨v,hr,hK⟩:=Ld (P:=P) w h;exact⟨v,sJ.of hr,hK⟩
 case extract x i=>obtain⟨v,hr,hK⟩:=FP (P:=P) w h;exact⟨v,sJ.of hr,hK⟩
 case slice t x lo hi mx=>obtain⟨v,hr,hK⟩:=LP (P:=P) w h;exact⟨v,sJ.of hr,hK⟩
 case makeFunc fn fs cs=>exact⟨_,sJ.of (λd=>rfl),h⟩
 case makeInterface t x=>obtain⟨v,hr,hK⟩:=RX (P:=P) w h;exact⟨v,sJ.of hr,hK⟩
 case build t parts=>
  obtain⟨cs,hc,hK⟩:=gm h;exact⟨_,sJ.of (λd=>run_build d.out t _ cs hc),hK⟩
 case nilCheck x=>
  unfold ckN at h;unfold execOp sJ;simp only;split at h
  .rename_i o ho;obtain⟨a,rfl,hK⟩:=gm h;rw[ho];exact⟨_,λd=>rfl,hK⟩
  .rename_i f fs cs ho;rw[ho];exact⟨_,λd=>rfl,h⟩
  .rename_i t v ho;rw[ho];exact⟨_,λd=>rfl,h⟩
  .exact h.elim
 case call c=>
  unfold Ir at h;obtain⟨callee,args,ats⟩:=c;simp only at h;split at h
  .rename_i b;obtain⟨v,hr,hK⟩:=SI (P:=P) (ty:=ty) (cs:=args.map λ| .const _=>true | _=>false) w h;refine⟨v,λd=>?_,hK⟩;unfold execOp resolve;simp only;rw[run_bind' P _ _ _ _ _ rfl];have:=hr d;rw[show(args.toList.map ρ).toArray=args.map ρ from by rw[<- Array.toList_map]]at this;exact this
  .rename_i f;split at h
   .obtain⟨v,⟨hr,hK⟩⟩:=Lf.wS h;refine⟨v,λd=>?_,hK⟩;have:=hr d;unfold execOp resolve;simp only[hρ,Deferred.ofValue];rw[run_bind' P _ _ _ _ _ rfl];simpa[invoke] using this
   .exact h.elim
  .exact h.elim
def dC(P:Program)(s:Sem Value)(w:World)(K:Value->zg6):Prop :=
 ∀d,∃v u d',s.run P (dr w d) = .ok v (dr u d')/\K v u
theorem dC.mono{P:Program}{s:Sem Value}{w:World}{K K':Value->zg6}(h:dC P s w K)(hk:∀v u,K v u->K' v u):dC P s w K' :=
 λd=>let⟨v,u,d',hr,hK⟩:=h d; ⟨v,u,d',hr,hk _ _ hK⟩
theorem dC.of{P:Program}{s:Sem Value}{w:World}{v:Value}{u:World}{K:Value->zg6}(h:∀d,s.run P (dr w d) = .ok v (dr u d))(hk:K v u):dC P s w K :=
 λd=>⟨v,u,d,h d,hk⟩
def OpD(P:Program)(s:Sem Next)(w:World)(K:Value->zg6):Prop :=
 (∀d,∃v u d',s.run P (dr w d) = .ok (.value v) (dr u d')/\K v u) \/
 (∀d,∃u d',s.run P (dr w d) = .ok .skip (dr u d')/\K undef u) \/
 (∃f args,(∀d,s.run P (dr w d) = .ok (.enter f args) (dr w d))/\CallsD P f args w K)
theorem OpD.nT{P:Program}{s:Sem Value}{w:World}{K:Value->zg6}(h:dC P s w K):OpD P (do pure (.value (<- s))) w K :=
 .inl λd=>let⟨v,u,d',hr,hK⟩:=h d; ⟨v,u,d',by rw[run_bind' P _ _ _ _ _ hr];rfl,hK⟩
def exs:List Lf->(List Value->Prop)->Prop
 | [],K=>K []
 |l::ls,K=>l.ex λv=>exs ls λvs=>K (v::vs)
def shapes(P:Program):List TypeId->(List Value->Prop)->Prop
 | [],K=>K []
 |t::ts,K=>match P.underlying t with
  |none=>False
  |some u=>match Si u with
   |true=>exs (lvs P 8 t) λvs=>shapes P ts λws=>K (.agg vs.toArray::ws)
   |false=>match lvs P 8 t with
    | [l]=>l.ex λv=>shapes P ts λws=>K (v::ws)
    |_=>False
def gX(P:Program)(t:TypeId)(K:Value->Prop):Prop :=
 match P.underlying t with
 |none=>False
 |some (.tuple ts)=>shapes P ts.toList λvs=>K (.tuple vs.toArray)
 |some _=>shapes P [t] λvs=>match vs with
  | [v]=>K v
  |_=>False
theorem Ji:∀(ls:List Lf) (K:List Value->Prop),exs ls K->∃vs,K vs
 | [],_,h=>⟨_,h⟩
 |_::ls,_,h=>let⟨_,h2⟩:=Lf.wS h;let⟨_,h3⟩:=Ji ls _ h2; ⟨_,h3⟩
theorem oO(P:Program):∀(ts:List TypeId) (K:List Value->Prop),shapes P ts K->∃vs,K vs
 | [],_,h=>⟨_,h⟩
 |t::ts,K,h=>by
  unfold shapes at h;split at h
  .exact h.elim
  split at h
  .obtain⟨vs,h2⟩:=Ji _ _ h;obtain⟨ws,h3⟩:=oO P ts _ h2;exact⟨_,h3⟩
  .split at h
   .obtain⟨v,h2⟩:=Lf.wS h;obtain⟨ws,h3⟩:=oO P ts _ h2;exact⟨_,h3⟩
   .exact h.elim
theorem jf{P:Program}{t:TypeId}{K:Value->Prop}(h:gX P t K):∃v,K v:=by
 unfold gX at h;split at h
 .exact h.elim
 .obtain⟨vs,h2⟩:=oO P _ _ h;exact⟨_,h2⟩
 .obtain⟨vs,h2⟩:=oO P _ _ h;split at h2
  .exact⟨_,h2⟩
  .exact h2.elim
def su(w:World)(a:Addr):Prop:=(∃u,w.cell? a=some u)/\w.frozen? a=false
def stN(a:Addr):Nat->List Value->(zg6)->World->Prop
 |_,[],K,w=>K w
 |i,u::us,K,w=>match u with
  | .agg _=>False
  | .tuple _=>False
  |u=>su w (a.add i)/\stN a (i+1) us K (w.setCell (a.add i) u)
theorem Qk(P:Program)(a:Addr):∀(us:List Value) (i:Nat) (K:zg6) (w:World),stN a i us K w ->
  ∃u,(∀d,(storeCells a us i).run P (dr w d) = .ok () (dr u d))/\K u
 | [],_,_,w,h=>⟨w,λ_=>rfl,h⟩
 |u::us,i,K,w,h=>by
  unfold stN at h;split at h
  .exact h.elim
  .exact h.elim
  .rename_i hn1 hn2;obtain⟨⟨⟨x,hx⟩,hf⟩,h2⟩:=h;obtain⟨w2,hr,hK⟩:=Qk P a us (i+1) K _ h2;refine⟨w2,λd=>?_,hK⟩;have h1:(store (a.add i) u).run P (dr w d) = .ok () (dr (w.setCell (a.add i) u) d):=by
    have hx':(dr w d).cell? (a.add i)=some x:=hx;have hf':(dr w d).frozen? (a.add i)=false:=hf;unfold store
    cases u <;> first | exact(hn1 _ rfl).elim | exact(hn2 _ rfl).elim | (simp only[Sem.run,hx',hf'];rfl)
   unfold storeCells;rw[run_bind' P _ _ _ _ _ h1];exact hr d
def OU(P:Program)(t:TypeId)(p v:Value)(K:zg6)(w:World):Prop :=
 Lc p λa=>if Sv P t=some v.cells.size then stN a 0 v.cells.toList K w else False
theorem KJ{P:Program}{t:TypeId}{p v:Value}{K:zg6}{w:World}(h:OU P t p v K w) :
  ∃u,(∀d,(Instr.storeAt t p v).run P (dr w d) = .ok () (dr u d))/\K u:=by
 unfold OU at h;obtain⟨a,rfl,h⟩:=ql h;split at h
 .rename_i hs;obtain⟨u,hr,hK⟩:=Qk P a _ _ _ _ h;refine⟨u,λd=>?_,hK⟩;unfold Instr.storeAt;rw[run_bind' P _ _ _ _ a rfl];unfold storeVar;rw[run_bind' P _ _ _ _ _ (lu hs _)];simp only[ne_eq,not_true_eq_false,if_false];exact hr d
 .exact h.elim
theorem E8{P:Program}{t:TypeId}{z:Value}(h:(P.info? t).bind (·.zero)=some z)(w:World):(zeroValue t).run P w = .ok z w:=by
 cases hi:P.info? t with
 |none=>rw[hi]at h;cases h
 |some i=>
  rw[hi]at h;unfold zeroValue;rw[run_bind' P _ _ _ _ _ (run_typeInfo hi _)];simp only[Option.bind_some]at h;rw[h];rfl
def X8(P:Program)(t:TypeId)(len:Nat)(parts:List (Nat×Value)):Option (TypeId×Array Value) :=
 match P.underlying t with
 |some (.slice e)=>match P.info? e with
  |some i=>match i.zero with
   |some z=>if len*i.size<=16777216 then(Instr.fill (λj=>some (j*i.size,i.size)) (if len*i.size=0 then #[] else madeCells z.cells (len*i.size)) parts).map λcs=>(e,cs) else none
   |none=>none
  |none=>none
 |_=>none
theorem CP{P:Program}{t:TypeId}{len:Nat}{parts:Array (Nat×Value)}{e:TypeId}{cs:Array Value}(h:X8 P t len parts.toList=some (e,cs))(w:World)(d:Nat) :
  (Instr.buildSlice t len parts).run P (dr w d) = .ok (.slice (some ⟨w.heap.size,0,none⟩) len len) (dr (w.alloc (.cells cs e)) d):=by
 unfold X8 at h;split at h
 .rename_i e' hu;split at h
  .rename_i i hi;split at h
   .rename_i z hz;split at h
    .rename_i hle;have hs:Sv P e'=some i.size:=by unfold Sv;rw[hi];rfl
     cases hf:Instr.fill (λj=>some (j*i.size,i.size)) (if len*i.size=0 then #[] else madeCells z.cells (len*i.size)) parts.toList with
     |none=>rw[hf]at h;cases h
     |some c=>
      rw[hf]at h;simp only[Option.map_some,Option.some.injEq,Prod.mk.injEq]at h;obtain⟨rfl,rfl⟩:=h;unfold Instr.buildSlice;rw[run_bind' P _ _ _ _ _ (dF hu _)];simp only;rw[run_bind' P _ _ _ _ _ (lu hs _)];have hn:¬ len*i.size>2 ^ 24:=by omega
      simp only[hn,if_false];have hf':∀z':Array Value,(len*i.size=0->z' = #[])->(¬ len*i.size=0->z'=z.cells)->Instr.fill (λj=>some (j*i.size,i.size)) ((Array.range (len*i.size)).map (z'[· % z'.size]!)) parts.toList=some c:=by
       intro z' h0 h1
       by_cases hz0:len*i.size=0
       .rw[if_pos hz0]at hf;rw[hz0];simpa[Array.range_zero'] using hf
       .rw[if_neg hz0]at hf;rw[h1 hz0];exact hf
      by_cases hz0:len*i.size=0
      .rw[if_pos hz0,run_bind' P _ _ _ _ #[] rfl,hf' #[] (λ_=>rfl) (λhh=>absurd hz0 hh)];simp only;rfl
      .rw[if_neg hz0,run_bind' P _ _ _ _ _ (E8 (by rw[hi];exact hz) _),run_bind' P _ _ _ _ z.cells rfl,hf' z.cells (λhh=>absurd hh hz0) (λ_=>rfl)];simp only;rfl
    .cases h
   .cases h
  .cases h
 .cases h
def Ry(P:Program)(t:TypeId):Option (Array Value):=((P.info? t).bind (·.zero)).map (·.cells)
def Ou(P:Program)(t:TypeId)(K:Value->zg6)(w:World):Prop :=
 aV (Ry P t) λcs=>K (.pointer (some ⟨w.heap.size,0,none⟩)) (w.alloc (.cells cs t))
theorem Mc{P:Program}{t:TypeId}{K:Value->zg6}{w:World}(h:Ou P t K w):dC P (Instr.alloc t true (.tuple #[])) w K:=by
 unfold Ou Ry at h;obtain⟨cs,hc,hK⟩:=gm h
 cases hz:(P.info? t).bind (·.zero) with
 |none=>rw[hz]at hc;cases hc
 |some z=>
  rw[hz]at hc;simp only[Option.map_some,Option.some.injEq]at hc;subst hc;refine dC.of (λd=>?_) hK;unfold Instr.alloc;rw[run_bind' P _ _ _ _ _ (E8 hz _)];rfl
def V5(P:Program)(t:TypeId)(l c:Value)(K:Value->zg6)(w:World):Prop :=
 match P.underlying t,l,c with
 |some (.slice e),.int _ l,.int _ c=>match P.info? e with
  |some i=>match i.zero with
   |some z=>chk (0<=l/\l<=c/\(i.bytes:Int)*c<=281474976710656/\c<=9223372036854775807)
     (K (.slice (some ⟨w.heap.size,0,none⟩) l.toNat c.toNat) (w.alloc (.cells (madeCells z.cells (c.toNat*i.size)) e)))
   |none=>False
  |none=>False
 |_,_,_=>False
theorem O9{P:Program}{t:TypeId}{l c:Value}{K:Value->zg6}{w:World}(h:V5 P t l c K w):dC P (Instr.makeSlice t l c) w K:=by
 unfold V5 at h;split at h
 .rename_i e kl l kc c hu;split at h
  .rename_i i hi;split at h
   .rename_i z hz;obtain⟨hb,h⟩:=qC.1 h;exact dC.of (λd=>run_make (dr w d) t e i z hu hi hz kl kc l c hb.1 hb.2.1 hb.2.2.1 hb.2.2.2) h
   .exact h.elim
  .exact h.elim
 .exact h.elim
def wz(P:Program)(t:TypeId)(name:String):Option FuncId :=
 match P.info? t with
 |none=>none
 |some i=>match i.methods.find? (·.name==name) with
  |some m=>if m.path.isEmpty=true then(match m.func,P.underlying t with
   |some (_,_),some (.pointer _)=>none
   |some (f,false),some _=>some f
   |_,_=>none) else none
  |none=>none
def kZ(P:Program)(f:FuncId):Bool:=match P.funcs[f]? with
 | some fn => fn.body.isSome && !(fn.name == "runtime.NumGoroutine")
 |none=>false
def AO(P:Program)(ty:TypeId)(K:Value->zg6):Value->World->Prop:=λv u=>gX P ty λv'=>v=v'/\K v' u
def Zn(K:Value->zg6):Value->World->Prop:=λv u=>(v = .tuple #[.bool false]/\K (.tuple #[.bool false]) u)\/∃k x:Value,v = .tuple #[.bool true,k,x]/\K (.tuple #[.bool true,k,x]) u
def XY(K:Value->zg6):Value->World->Prop:=λv u=>∃p:Addr,v = .pointer (some p)/\K (.pointer (some p)) u
def Xv(K:Value->zg6):Value->World->Prop:=λv u=>∃k x:Value,v = .tuple #[k,x]/\K (.tuple #[k,x]) u
def O0(P:Program)(ρ:Operand->Value)(ty:TypeId)(c:Call)(K:Value->zg6)(w:World):Prop :=
 match c.callee with
 | .value fo=>match ρ fo with
  | .func (.func f) first captured=>if kZ P f=true then CallsD P f (first++c.args.map ρ++captured) w (AO P ty K) else False
  |_=>False
 | .invoke r name=>match ρ r with
  | .iface t v=>aV (wz P t name) λf=>if kZ P f=true then CallsD P f (#[v]++c.args.map ρ) w (AO P ty K) else False
  |_=>False
 | .builtin .append=>dC P (Builtin.append_ c.argTypes ty (c.args.map ρ)) w (AO P ty K)
 | .builtin .copy=>dC P (Builtin.copy_ c.argTypes ty (c.args.map ρ)) w (AO P ty K)
 |_=>False
theorem jE{P:Program}{ty:TypeId}{K:Value->zg6}{v:Value}{u:World}(h:AO P ty K v u):K v u:=by
 obtain⟨v',rfl,hK⟩:=jf h;exact hK
theorem je{P:Program}{f:FuncId}(h:kZ P f=true)(args:Array Value)(w:World):(callFunc f args).run P w = .ok (.enter f args) w:=by
 unfold kZ at h;split at h
 .rename_i fn hf;simp only[ze5,Bool.not_eq_true']at h
  have hn : (fn.name == "runtime.NumGoroutine") = false := h.2
  unfold callFunc;rw[run_bind' P _ _ _ _ _ (rD P w),hf];simp only[hn,Bool.false_eq_true,if_false]
  cases hb:fn.body with
  |none=>rw[hb]at h;cases h.1
  |some c=>simp
 .cases h
theorem wJ{P:Program}{t:TypeId}{name:String}{f:FuncId}(h:wz P t name=some f)(n:Nat)(v:Value)(w:World):(method (n+1) t v name).run P w = .ok (f,v) w:=by
 unfold wz at h;split at h
 .cases h
 rename_i i hi;split at h
 .rename_i m hm;split at h
  .rename_i hp;unfold method;rw[run_bind' P _ _ _ _ _ (run_typeInfo hi _)];simp only[hm];have hpl:m.path.toList=[]:=by simpa using hp
   rw[hpl,run_bind' P _ _ _ _ (t,Place.val v) rfl];simp only;split at h
   .cases h
   .rename_i f0 u hn hf hu;simp only[Option.some.injEq]at h;subst h;rw[hf];simp only;unfold receiverAt;rw[run_bind' P _ _ _ w v (by
     rw[run_bind' P _ _ _ _ _ (dF hu _)]
     cases u <;> first | rfl | exact(hn _ _ rfl).elim | exact(hn _ rfl).elim | exact(hn _ _ hf rfl).elim)]
    rfl
   .cases h
  .cases h
 .cases h
def KR(P:Program)(ρ:Operand->Value)(o:Oper)(K:Value->zg6)(w:World):Prop :=
 match o.op with
 | .store t p x=>OU P t (ρ p) (ρ x) (K undef) w
 | .alloc t=>Ou P t K w
 | .box t x=>K (.pointer (some ⟨w.heap.size,0,none⟩)) (w.alloc (.cells (ρ x).cells t))
 | .makeSlice t l c=>V5 P t (ρ l) (ρ c) K w
 | .buildSlice t len parts=>aV (X8 P t len (partsOf ρ parts)) λec=>K (.slice (some ⟨w.heap.size,0,none⟩) len len) (w.alloc (.cells ec.2 ec.1))
 | .call c=>O0 P ρ o.type c K w
 | .convert s t x=>dC P (convert s t (ρ x)) w (AO P o.type K)
 | .makeMap t none=>K (.map (some w.heap.size)) (w.alloc (.map #[] 0))
 | .lookup t m k ok=>dC P (Instr.lookup t (ρ m) (ρ k) ok) w (AO P o.type K)
 | .mapEntry t m k=>dC P (Instr.mapEntry t (ρ m) (ρ k)) w (AO P o.type K)
 | .range t x=>dC P (Instr.range t (ρ x)) w (XY K)
 | .next it s=>dC P (Instr.next (ρ it) s o.type) w (Zn K)
 | .entry it=>dC P (Instr.entry (ρ it)) w (Xv K)
 | .mapUpdate t m k x=>dC P (do Instr.mapUpdate t (ρ m) (ρ k) (ρ x);pure undef) w λ_ u=>K undef u
 | .entryStore t m s x=>dC P (do Instr.entryStore t (ρ m) (ρ s) (ρ x);pure undef) w λ_ u=>K undef u
 |_=>False
theorem OpD.QA{P:Program}{s:Sem Unit}{w:World}{K:Value->zg6}(h:dC P (do s;pure undef) w λ_ u=>K undef u):OpD P (do s;pure .skip) w K :=
 .inr (.inl λd=>by
  obtain⟨v,u,d',hr,hK⟩:=h d;rw[Sem.run_bind]at hr
  cases hs:s.run P (dr w d) with
  |halt hh w'=>rw[hs]at hr;cases hr
  |ok x w' =>
   rw[hs]at hr;simp only[Result.andThen_ok,Sem.run_pure,Result.ok.injEq]at hr;exact⟨u,d',by rw[run_bind' P _ _ _ _ _ hs,hr.2];rfl,hK⟩)
theorem rC{P:Program}{ρ:Operand->Value}{o:Oper}{K:Value->zg6}{w:World}(hd:P.types.size+Made.depth≠0)(h:KR P ρ o K w):OpD P (execOp ρ o) w K:=by
 obtain⟨dst,op,ty,pos,after,guard⟩:=o;unfold KR at h
 cases op <;> simp only at h <;> first | exact h.elim | skip
 case store t p x=>
  obtain⟨u,hr,hK⟩:=KJ h;exact .inr (.inl λd=>⟨u,d,by unfold execOp;simp only;rw[run_bind' P _ _ _ _ _ (hr d)];rfl,hK⟩)
 case alloc t=>exact OpD.nT (Mc h)
 case box t x=>exact OpD.nT (dC.of (λd=>rfl) h)
 case makeSlice t l c=>exact OpD.nT (O9 h)
 case buildSlice t len parts=>
  obtain⟨⟨e,cs⟩,hc,hK⟩:=gm h;exact OpD.nT (dC.of (λd=>CP hc w d) hK)
 case convert s t x=>exact OpD.nT (h.mono λv u hk=>jE hk)
 case lookup t m k ok=>exact OpD.nT (h.mono λv u hk=>jE hk)
 case mapEntry t m k=>exact OpD.nT (h.mono λv u hk=>jE hk)
 case range t x=>exact OpD.nT (h.mono λv u ⟨p,h1,h2⟩=>h1 ▸ h2)
 case next it s=>exact OpD.nT (h.mono λv u hk=>hk.elim (λh=>h.1 ▸ h.2) λ⟨k,x,h1,h2⟩=>h1 ▸ h2)
 case entry it=>exact OpD.nT (h.mono λv u ⟨k,x,h1,h2⟩=>h1 ▸ h2)
 case mapUpdate t m k x=>exact OpD.QA h
 case entryStore t m s x=>exact OpD.QA h
 case makeMap t r=>
  cases r with
  |some r=>exact h.elim
  |none=>exact OpD.nT (dC.of (λd=>rfl) h)
 case call c=>
  obtain⟨callee,args,ats⟩:=c;unfold O0 at h
  cases callee with
  |value fo=>
   simp only at h;split at h
   .rename_i f first captured hf;split at h
    .rename_i hb;refine .inr (.inr ⟨f,first++args.map ρ++captured,λd=>?_,h.mono λv u hk=>jE hk⟩);unfold execOp resolve;simp only[hf,Deferred.ofValue];rw[run_bind' P _ _ _ _ _ rfl];exact je hb _ _
    .exact h.elim
   .exact h.elim
  |invoke r name=>
   simp only at h;split at h
   .rename_i t v hv;obtain⟨f,hf,h⟩:=gm h;split at h
    .rename_i hb;refine .inr (.inr ⟨f,#[v]++args.map ρ,λd=>?_,h.mono λv u hk=>jE hk⟩);obtain⟨n,hn⟩:∃n,P.types.size+Made.depth=n+1:=⟨P.types.size+Made.depth - 1,by omega⟩;unfold execOp resolve;simp only[hv];rw[run_bind' P _ _ _ _ _ rfl];unfold invoke;obtain⟨xs,hxs⟩:∃xs:List Value,args.map ρ=xs.toArray:=⟨(args.map ρ).toList,rfl⟩;rw[hxs];have e0:(#[Value.iface t v]++xs.toArray)[0]?=some (.iface t v):=by simp
     have e1:(#[Value.iface t v]++xs.toArray).extract 1 (#[Value.iface t v]++xs.toArray).size=xs.toArray:=by simp
     simp only[e0,e1];unfold callMethod;simp only;rw[run_bind' P _ _ _ _ _ (rD P _),hn,run_bind' P _ _ _ _ _ (wJ hf n v _)];exact je hb _ _
    .exact h.elim
   .exact h.elim
  |builtin b=>
   cases b <;> simp only at h <;> first | exact h.elim | skip
   .have:execOp ρ ⟨dst,.call ⟨.builtin .append,args,ats⟩,ty,pos,after,guard⟩=(do pure (.value (<- Builtin.append_ ats ty (args.map ρ)))):=rfl;rw[this];exact OpD.nT (h.mono λv u hk=>jE hk)
   .have:execOp ρ ⟨dst,.call ⟨.builtin .copy,args,ats⟩,ty,pos,after,guard⟩=(do pure (.value (<- Builtin.copy_ ats ty (args.map ρ)))):=rfl;rw[this];exact OpD.nT (h.mono λv u hk=>jE hk)
end Go.E
namespace Go.E
open Go Go.RowKit
abbrev kV:=Nat->Option Value
def up(vals:kV)(i:Nat)(v:Value):kV:=λk=>match Nat.beq k i with
 |true=>some v
 |false=>vals k
theorem nG(vals:kV)(i:Nat)(v:Value):up vals i v i=some v:=by unfold up;rw[show Nat.beq i i=true from Nat.beq_refl i]
theorem vW{vals:kV}{i k:Nat}{v:Value}(h:k≠i):up vals i v k=vals k:=by
 unfold up
 cases hb:Nat.beq k i with
 |true=>exact absurd (Nat.eq_of_beq_eq_true hb) h
 |false=>rfl
theorem PG{vals:kV}{i j:Nat}{v u:Value}(h:i≠j):up (up vals i v) j u=up (up vals j u) i v:=by
 funext k
 by_cases hi:k=i
 .subst hi;rw[vW h,nG,nG]
 .by_cases hj:k=j
  .subst hj;rw[nG,vW hi,nG]
  .rw[vW hj,vW hi,vW hi,vW hj]
inductive Anc(ops:Array Oper)(md:Region.Mode):Nat->Nat->Prop where
 |base {j:Nat} {o:Oper} {e:Edge}:ops[j]?=some o->e∈o.after->Region.binds md e=true->Anc ops md e.on j
 |step {j k:Nat} {o:Oper} {e:Edge}:ops[j]?=some o->e∈o.after->Region.binds md e=true->Anc ops md k e.on->Anc ops md k j
def Dn(ops:Array Oper)(md:Region.Mode)(listed:Array Bool):Prop :=
 ∀k o,ops[k]?=some o->listed.getD k false=true->∀e∈o.after,Region.binds md e=true->listed.getD e.on false=true
theorem rJ{ops:Array Oper}{md:Region.Mode}{listed:Array Bool}(hd:Dn ops md listed){k j:Nat}(h:Anc ops md k j) :
  (∀o,ops[j]?=some o->∀e∈o.after,Region.binds md e=true->listed.getD e.on false=true)->listed.getD k false=true:=by
 induction h with
 |base ho he hb=>intro hj;exact hj _ ho _ he hb
 |step ho he hb h ih=>intro hj;exact ih λo' ho'=>hd _ _ ho' (hj _ ho _ he hb)
theorem Bh{ops:Array Oper}{md:Region.Mode}{listed:Array Bool}{i:Nat}(hd:Dn ops md listed)(hi:i∈Region.ready md ops listed):Dn ops md (listed.setIfInBounds i true):=by
 intro k o ho hl e he hb;refine getD_set_true ?_
 by_cases hki:k=i
 .subst hki;obtain⟨_,o',ho',hall⟩:=mem_ready.1 hi;rw[ho]at ho'
  cases ho'
  exact hall e he hb
 .rw[getD_set_ne false (Ne.symm hki)]at hl;exact hd k o ho hl e he hb
section
variable{P:Program}{ops:Array Oper}{md:Region.Mode}{C:zg6}{Le:World->zg6}{Φ:Nat->Value->zg6}{isV:Oper->Bool}
def Facts(Φ:Nat->Value->zg6)(vals:kV)(u:World):Prop:=∀j v,vals j=some v->Φ j v u
def yY(P:Program)(Le:World->zg6)(Φ:Nat->Value->zg6)(i:Nat)(u:World):Result Next->Prop
 | .ok (.value v) u'=>Φ i v u'/\Le u u'
 | .ok .skip u'=>Φ i undef u'/\Le u u'
 | .ok (.enter f args) u'=>Calls P f args u' (λe u''=>∃v,e = .returned v/\Φ i v u''/\Le u u'')
 |_=>False
def MO(P:Program)(ops:Array Oper)(md:Region.Mode)(C:zg6)(Le:World->zg6)(Φ:Nat->Value->zg6)(o:Oper)(i:Nat)(vals:kV)(a:Act):Prop :=
 ∀u,C u->(∀j,Anc ops md j i->∀v,vals j=some v->Φ j v u)->yY P Le Φ i u ((execOp a.eval o).run P u)
def Gf(P:Program)(ops:Array Oper)(md:Region.Mode)(C:zg6)(Le:World->zg6)(Φ:Nat->Value->zg6)(isV:Oper->Bool)(o:Oper)(i:Nat)(K:kV->Act->Prop)(vals:kV)(a:Act):Prop :=
 match isV o with
 |true=>∃v,(∀u,C u->(execOp a.eval o).run P u = .ok (.value v) u)/\K vals (a.put o.dst v)
 |false=>MO P ops md C Le Φ o i vals a/\∀v,(∃u,C u/\Facts Φ (up vals i v) u)->K (up vals i v) (a.put o.dst v)
def rOp(P:Program)(ops:Array Oper)(md:Region.Mode)(C:zg6)(Le:World->zg6)(Φ:Nat->Value->zg6)(isV:Oper->Bool)(i:Nat)(K:kV->Act->Prop)(vals:kV)(a:Act):Prop :=
 match ops[i]? with
 |none=>K vals a
 |some o=>if Region.wanted o (yielded ops a.tmps) then Gf P ops md C Le Φ isV o i K vals a else K vals (a.put o.dst undef)
def BZ(P:Program)(ops:Array Oper)(md:Region.Mode)(C:zg6)(Le:World->zg6)(Φ:Nat->Value->zg6)(isV:Oper->Bool)(Q:Act->zg6):Nat->Array Bool->kV->Act->Prop
 |0,listed,vals,a=>Region.ready md ops listed=[]/\∀u,C u->Facts Φ vals u->Q a u
 |fuel+1,listed,vals,a=>(Region.ready md ops listed=[]->∀u,C u->Facts Φ vals u->Q a u) /\
  ∀i∈Region.ready md ops listed,rOp P ops md C Le Φ isV i (BZ P ops md C Le Φ isV Q fuel (listed.setIfInBounds i true)) vals a
structure jd(C:zg6)(Le:World->zg6)(Φ:Nat->Value->zg6):Prop where
 cls:∀u u',C u->Le u u'->C u'
 stable:∀i v u u',C u->Φ i v u->Le u u'->Φ i v u'
theorem oK{vals:kV}{i:Nat}{v:Value}{u u':World}(L:jd C Le Φ)(hC:C u)(hF:Facts Φ vals u)(hv:Φ i v u')(hL:Le u u'):Facts Φ (up vals i v) u':=by
 intro j x hj
 by_cases hji:j=i
 .subst hji;rw[nG]at hj;cases hj;exact hv
 .rw[vW hji]at hj;exact L.stable _ _ _ _ hC (hF j x hj) hL
theorem L9{i:Nat}{u:World}{r:Result Next}(h:yY P Le Φ i u r):∃v u',Φ i v u'/\Le u u':=by
 unfold yY at h;split at h
 .exact⟨_,_,h⟩
 .exact⟨_,_,h⟩
 .obtain⟨e,w',fr,⟨v,_,h1,h2⟩,_⟩:=h [];exact⟨v,w',h1,h2⟩
 .exact h.elim
theorem CS{o:Oper}{i:Nat}{vals:kV}{a:Act}(L:jd C Le Φ)(hn:∃u,C u/\Facts Φ vals u)(h:MO P ops md C Le Φ o i vals a):∃v,∃u,C u/\Facts Φ (up vals i v) u:=by
 obtain⟨u,hC,hF⟩:=hn;obtain⟨v,u',h1,h2⟩:=L9 (h u hC λj _ x hx=>hF j x hx);exact⟨v,u',L.cls _ _ hC h2,oK L hC hF h1 h2⟩
theorem kG{o:Oper}{i:Nat}{vals vals':kV}{a a':Act}(he:execOp a'.eval o=execOp a.eval o)(hv:∀j,Anc ops md j i->vals' j=vals j)(h:MO P ops md C Le Φ o i vals a):MO P ops md C Le Φ o i vals' a':=by
 intro u hC hF;rw[he];exact h u hC λj hj x hx=>hF j hj x (by rw[hv j hj];exact hx)
theorem qV{i:Nat}{K K':kV->Act->Prop}{vals:kV}{a:Act}(hn:∃u,C u/\Facts Φ vals u)
  (hk:∀vals' a',(∃u,C u/\Facts Φ vals' u)->(∀k,k≠i->vals' k=vals k)->K vals' a'->K' vals' a') (h:rOp P ops md C Le Φ isV i K vals a):rOp P ops md C Le Φ isV i K' vals a:=by
 unfold rOp at *
 split
 .rename_i ho;rw[ho]at h;exact hk _ _ hn (λ_ _=>rfl) h
 .rename_i o ho;rw[ho]at h;simp only at h
  split
  .rename_i hw;rw[if_pos hw]at h;unfold Gf at *
   split
   .rename_i hv;rw[hv]at h;obtain⟨v,h1,h2⟩:=h;exact⟨v,h1,hk _ _ hn (λ_ _=>rfl) h2⟩
   .rename_i hv;rw[hv]at h;exact⟨h.1,λv hp=>hk _ _ hp (λk hk=>vW hk) (h.2 v hp)⟩
  .rename_i hw;rw[if_neg hw]at h;exact hk _ _ hn (λ_ _=>rfl) h
theorem Uo{i:Nat}{K:kV->Act->Prop}{vals:kV}{a:Act}(L:jd C Le Φ)(hn:∃u,C u/\Facts Φ vals u)(h:rOp P ops md C Le Φ isV i K vals a):∃vals' a',K vals' a':=by
 unfold rOp at h;split at h
 .exact⟨_,_,h⟩
 .split at h
  .unfold Gf at h;split at h
   .obtain⟨v,_,h2⟩:=h;exact⟨_,_,h2⟩
   .obtain⟨v,hp⟩:=CS L hn h.1;exact⟨_,_,h.2 v hp⟩
  .exact⟨_,_,h⟩
theorem MB{vals:kV}{i j:Nat}{v x:Value}{u:World}(hij:i≠j)(hj:vals j=none)(h:Facts Φ (up (up vals j x) i v) u):Facts Φ (up vals i v) u:=by
 intro k y hk
 by_cases hki:k=i
 .subst hki;rw[nG]at hk;exact h k y (by rw[nG];exact hk)
 .rw[vW hki]at hk;refine h k y ?_;rw[vW hki]
  by_cases hkj:k=j
  .subst hkj;rw[hj]at hk;cases hk
  .rw[vW hkj];exact hk
theorem Jb{i j:Nat}{oi oj:Oper}{W:kV->Act->Prop}{vals:kV}{a:Act}(L:jd C Le Φ)(hi:ops[i]?=some oi)(hj:ops[j]?=some oj)(hij:i≠j)
  (hap:oi.apart ops oj=true) (hsi:∀cs b,oi.op ≠ .select cs b) (hsj:∀cs b,oj.op ≠ .select cs b) (hvi:vals i=none) (hvj:vals j=none)
  (hai:¬ Anc ops md i j) (haj:¬ Anc ops md j i) (hn:∃u,C u/\Facts Φ vals u)
  (H:rOp P ops md C Le Φ isV i (rOp P ops md C Le Φ isV j W) vals a):rOp P ops md C Le Φ isV j (rOp P ops md C Le Φ isV i W) vals a:=by
 obtain⟨h1,h2,h3⟩:=Oper.apart_spec hap;have ej:∀(a:Act) v,execOp (a.put oi.dst v).eval oj=execOp a.eval oj:=λa v=>execOp_put oj hsj a oi.dst v h1;have ei:∀(a:Act) v,execOp (a.put oj.dst v).eval oi=execOp a.eval oi:=λa v=>execOp_put oi hsi a oj.dst v h3;have wj:∀(a:Act) v,Region.wanted oj (yielded ops (a.put oi.dst v).tmps)=Region.wanted oj (yielded ops a.tmps):=λa v=>wanted_put oj a oi.dst v h1;have wi:∀(a:Act) v,Region.wanted oi (yielded ops (a.put oj.dst v).tmps)=Region.wanted oi (yielded ops a.tmps):=λa v=>wanted_put oi a oj.dst v h3;have pc:∀(a:Act) v u,(a.put oi.dst v).put oj.dst u=(a.put oj.dst u).put oi.dst v:=λa v u=>Act.put_comm a v u h2;obtain⟨u0,hC0,hF0⟩:=hn;have ancj:∀v k,Anc ops md k j->up vals i v k=vals k:=λv k hk=>vW λh=>hai (h ▸ hk);have anci:∀v k,Anc ops md k i->up vals j v k=vals k:=λv k hk=>vW λh=>haj (h ▸ hk);unfold rOp at H ⊢;simp only[hi,hj,wi,wj]at H ⊢;unfold Gf at H ⊢;simp only[ei,ej,wi,wj]at H ⊢
 by_cases hwi:Region.wanted oi (yielded ops a.tmps)=true <;> by_cases hwj:Region.wanted oj (yielded ops a.tmps)=true <;> simp only[hwi,hwj,if_true,if_false]at H ⊢
 .cases hti:isV oi <;> cases htj:isV oj <;> simp only[hti,htj]at H ⊢
  .obtain⟨ci,H⟩:=H;obtain⟨v0,hp0⟩:=CS L ⟨u0,hC0,hF0⟩ ci;obtain⟨cj,_⟩:=H v0 hp0;refine⟨kG (a:=a.put oi.dst v0) (ej a v0).symm (λk hk=>(ancj v0 k hk).symm) cj,λvj hpj=>⟨kG (ei a vj) (λk hk=>anci vj k hk) ci,λvi hpi=>?_⟩⟩;obtain⟨u,hC,hF⟩:=hpi;have:=(H vi ⟨u,hC,MB hij hvj hF⟩).2 vj ⟨u,hC,by rw[PG hij];exact hF⟩
   rwa [PG hij,pc]at this
  .obtain⟨ci,H⟩:=H;obtain⟨v0,hp0⟩:=CS L ⟨u0,hC0,hF0⟩ ci;obtain⟨vj,ejv,_⟩:=H v0 hp0;refine⟨vj,ejv,kG (ei a vj) (λ_ _=>rfl) ci,λvi hpi=>?_⟩;obtain⟨vj',ejv',hW⟩:=H vi hpi;have:vj'=vj:=by
    have e1:=ejv u0 hC0;have e2:=ejv' u0 hC0;rw[e1]at e2;simpa using e2.symm
   subst this
   rwa [pc]at hW
  .obtain⟨vi,eiv,cj,H⟩:=H;refine⟨kG (a:=a.put oi.dst vi) (ej a vi).symm (λ_ _=>rfl) cj,λvj hpj=>⟨vi,eiv,?_⟩⟩;have:=H vj hpj
   rwa [pc]at this
  .obtain⟨vi,eiv,vj,ejv,H⟩:=H;exact⟨vj,ejv,vi,eiv,by rwa [pc]at H⟩
 .cases hti:isV oi <;> simp only[hti]at H ⊢
  .obtain⟨ci,H⟩:=H;exact⟨kG (ei a undef) (λ_ _=>rfl) ci,λvi hpi=>by have:=H vi hpi;simp only[Bool.false_eq_true,if_false]at this;rwa [pc]at this⟩
  .obtain⟨vi,eiv,H⟩:=H;simp only[Bool.false_eq_true,if_false]at H;exact⟨vi,eiv,by rwa [pc]at H⟩
 .cases htj:isV oj <;> simp only[htj,Bool.false_eq_true,if_false]at H ⊢
  .obtain⟨cj,H⟩:=H;refine⟨kG (a:=a.put oi.dst undef) (ej a undef).symm (λ_ _=>rfl) cj,λvj hpj=>?_⟩;have:=H vj hpj
   rwa [pc]at this
  .obtain⟨vj,ejv,H⟩:=H;exact⟨vj,ejv,by rwa [pc]at H⟩
 .simp only[Bool.false_eq_true,if_false]at H ⊢
  rwa [pc]at H
theorem FD{Q:Act->zg6}{i:Nat}{oi:Oper}(L:jd C Le Φ)(hi:ops[i]?=some oi)(hsel:∀(j:Nat) (o:Oper) cs b,ops[j]?=some o->o.op ≠ .select cs b) :
  ∀(fuel:Nat) (listed:Array Bool) (vals:kV) (a:Act),
   (∀j oj,ops[j]?=some oj->j≠i->listed.getD j true=false->(∀e∈oj.after,Region.binds md e=true->e.on≠i)->oi.apart ops oj=true) ->
   i∈Region.ready md ops listed->Dn ops md listed->(∀k,listed.getD k true=false->vals k=none)->(∃u,C u/\Facts Φ vals u) ->
   rOp P ops md C Le Φ isV i (BZ P ops md C Le Φ isV Q fuel (listed.setIfInBounds i true)) vals a->BZ P ops md C Le Φ isV Q (fuel+1) listed vals a:=by
 intro fuel
 induction fuel with
 |zero=>
  intro listed vals a _ hr _ _ hn H;refine⟨λh=>(by rw[h]at hr;cases hr),λj hj=>?_⟩
  by_cases hji:j=i
  .subst hji;exact H
  .obtain⟨_,_,h0⟩:=Uo L hn H;have:=ready_mono hj hji;rw[h0.1]at this;cases this
 |succ fuel ih=>
  intro listed vals a hfree hr hdn hnone hn H;refine⟨λh=>(by rw[h]at hr;cases hr),λj hj=>?_⟩
  by_cases hji:j=i
  .subst hji;exact H
  .obtain⟨hjun,oj,hoj,hall⟩:=mem_ready.1 hj;obtain⟨hiun,oi',hoi',halli⟩:=mem_ready.1 hr;rw[hi]at hoi'
   cases hoi'
   have flip:∀k,listed.getD k true=false->listed.getD k false=true->False:=by
    intro k h0 h1
    rcases Nat.lt_or_ge k listed.size with h' | h'
    .simp[h']at h0 h1;rw[h0]at h1;cases h1
    .simp[Array.getElem?_eq_none h']at h1
   have hnot:∀e∈oj.after,Region.binds md e=true->e.on≠i:=λe he hb heq=>flip i hiun (by have:=hall e he hb;rwa [heq]at this);have hai:¬ Anc ops md i j:=λh=>flip i hiun (rJ hdn h λo ho=>by rw[hoj]at ho;cases ho;exact hall);have haj:¬ Anc ops md j i:=λh=>flip j hjun (rJ hdn h λo ho=>by rw[hi]at ho;cases ho;exact halli);have H2:rOp P ops md C Le Φ isV i (rOp P ops md C Le Φ isV j (BZ P ops md C Le Φ isV Q fuel ((listed.setIfInBounds i true).setIfInBounds j true))) vals a :=
    qV hn (λvals' a' _ _ h=>h.2 j (ready_mono hj hji)) H
   have H3:=Jb L hi hoj (Ne.symm hji) (hfree j oj hoj hji hjun hnot) (λcs b=>hsel i oi cs b hi) (λcs b=>hsel j oj cs b hoj) (hnone i hiun) (hnone j hjun) hai haj hn H2;refine qV hn (λvals' a' hn' hv' h=>?_) H3;have hfree':∀k ok,ops[k]?=some ok->k≠i->(listed.setIfInBounds j true).getD k true=false ->
     (∀e∈ok.after,Region.binds md e=true->e.on≠i)->oi.apart ops ok=true:=λk ok hk hki hun hno=>by
    refine hfree k ok hk hki ?_ hno
    by_cases hjk:j=k
    .subst hjk;exact hjun
    .rw[getD_set_ne true hjk]at hun;exact hun
   refine ih (listed.setIfInBounds j true) vals' a' hfree' (ready_mono hr (Ne.symm hji)) (Bh hdn hj) (λk hk=>?_) hn' ?_
   .by_cases hjk:j=k
    .subst hjk;exfalso
     rcases Nat.lt_or_ge j listed.size with h' | h'
     .rw[ze2,zf0 h']at hk;cases hk
     .rw[ze2,Array.getElem?_eq_none (by simpa using h')]at hk;cases hk
    .rw[getD_set_ne true hjk]at hk;rw[hv' k (Ne.symm hjk)];exact hnone k hk
   .rw[Array.setIfInBounds_comm _ _ hji];exact h
def TZ(P:Program)(ops:Array Oper)(md:Region.Mode)(C:zg6)(Le:World->zg6)(Φ:Nat->Value->zg6)(isV:Oper->Bool)(Q:Act->zg6):List Oper->Nat->kV->Act->Prop
 | [],_,vals,a=>∀u,C u->Facts Φ vals u->Q a u
 |o::l,k,vals,a=>if Region.wanted o (yielded ops a.tmps) then Gf P ops md C Le Φ isV o k (TZ P ops md C Le Φ isV Q l (k+1)) vals a else TZ P ops md C Le Φ isV Q l (k+1) vals (a.put o.dst undef)
theorem BN{Q:Act->zg6}(L:jd C Le Φ)(hs:Region.noSelect ops=true):∀(l:List Oper) (k:Nat) (listed:Array Bool) (vals:kV) (a:Act),(∀j,l[j]?=ops[k+j]?) ->
  Region.lexFrom md ops l.length k listed=true->Dn ops md listed->(∀k,listed.getD k true=false->vals k=none)->(∃u,C u/\Facts Φ vals u) ->
  TZ P ops md C Le Φ isV Q l k vals a->BZ P ops md C Le Φ isV Q l.length listed vals a
 | [],_,_,_,_,_,hB,_,_,_,h=>⟨by simpa[Region.lexFrom] using hB,h⟩
 |o::l,k,listed,vals,a,hl,hB,hdn,hnone,hn,h=>by
  have h0:ops[k]?=some o:=by simpa using(hl 0).symm
  simp only[zc5,Region.lexFrom,ze5]at hB;obtain⟨⟨hr,hf⟩,hB'⟩:=hB;have hr':k∈Region.ready md ops listed:=by simpa using hr
  have hst:rOp P ops md C Le Φ isV k (TZ P ops md C Le Φ isV Q l (k+1)) vals a:=by unfold rOp;simp only[h0];exact h
  refine FD L h0 (Region.noSelect_spec hs) l.length listed vals a (Region.free_spec h0 hf) hr' hdn hnone hn (qV hn (λvals' a' hn' hv' h'=>?_) hst);refine BN L hs l (k+1) _ _ _ (λj=>by have:=hl (j+1);simpa[Nat.add_assoc,Nat.add_comm 1 j] using this) hB' (Bh hdn hr') (λj hj=>?_) hn' h'
  by_cases hjk:k=j
  .subst hjk;exfalso
   rcases Nat.lt_or_ge k listed.size with h' | h'
   .rw[ze2,zf0 h']at hj;cases hj
   .rw[ze2,Array.getElem?_eq_none (by simpa using h')]at hj;cases hj
  .rw[getD_set_ne true hjk]at hj;rw[hv' j (Ne.symm hjk)];exact hnone j hj
theorem BU{o:Oper}{i:Nat}{K:kV->Act->Prop}{vals:kV}{a:Act}{u:World}{K':Act->zg6}{Q':Exit->Act->zg6}(L:jd C Le Φ)(hC:C u)(hF:Facts Φ vals u)
  (hk:∀vals' a' u',C u'->Facts Φ vals' u'->K vals' a'->K' a' u') (h:Gf P ops md C Le Φ isV o i K vals a):o.wp P a u K' Q':=by
 unfold Gf at h;unfold Oper.wp;split at h
 .obtain⟨v,hr,hK⟩:=h;rw[hr u hC];exact hk _ _ _ hC hF hK
 .obtain⟨hc,hK⟩:=h;have hc:=hc u hC λj _ x hx=>hF j x hx;generalize (execOp a.eval o).run P u=r at *
  cases r with
  |ok n u' =>
   cases n <;> simp only[yY]at hc <;> simp only[Oper.upon]
   case value v=>exact hk _ _ _ (L.cls _ _ hC hc.2) (oK L hC hF hc.1 hc.2) (hK v ⟨u',L.cls _ _ hC hc.2,oK L hC hF hc.1 hc.2⟩)
   case skip=>exact hk _ _ _ (L.cls _ _ hC hc.2) (oK L hC hF hc.1 hc.2) (hK undef ⟨u',L.cls _ _ hC hc.2,oK L hC hF hc.1 hc.2⟩)
   case enter f args=>
    refine hc.mono λe u'' ⟨v,he,h1,h2⟩=>?_;subst he;exact hk _ _ _ (L.cls _ _ hC h2) (oK L hC hF h1 h2) (hK v ⟨u'',L.cls _ _ hC h2,oK L hC hF h1 h2⟩)
  |halt x u'=>simp only[yY]at hc
theorem mX{Q:Act->zg6}{Q':Exit->Act->zg6}(L:jd C Le Φ)(hQ:∀a u,C u->Q a u->Q' .normal a u):∀(fuel:Nat) (listed:Array Bool) (vals:kV) (a:Act) (u:World),C u->Facts Φ vals u ->
  BZ P ops md C Le Φ isV Q fuel listed vals a->wpAny P md ops Q' fuel listed a u
 |0,_,_,_,_,hC,hF,h=>⟨h.1,hQ _ _ hC (h.2 _ hC hF)⟩
 |fuel+1,listed,vals,a,u,hC,hF,h=>⟨λh0=>hQ _ _ hC (h.1 h0 _ hC hF),λi hi=>by
  have h:=h.2 i hi;unfold rOp at h;unfold wpOp;split at h
  .rename_i ho;rw[ho];exact mX L hQ fuel _ _ _ _ hC hF h
  .rename_i o ho;rw[ho];simp only;split at h
   .rename_i hw;rw[if_pos hw];exact .inl (BU L hC hF (λvals' a' u' hC' hF' hK=>mX L hQ fuel _ _ _ _ hC' hF' hK) h)
   .rename_i hw;rw[if_neg hw];exact mX L hQ fuel _ _ _ _ hC hF h⟩
theorem DV{id:Nat}{Q:Act->zg6}{Q':Exit->Act->zg6}{a:Act}{w:World}(L:jd C Le Φ)(hm:P.follows .mixedOrders=true)(hB:Region.lexB .any ops=true)(hC:C { w with drawn:=w.drawn+1 })
  (hQ:∀a u,C u->Q a u->Q' .normal a u) (h:TZ P ops .any C Le Φ isV Q ops.toList 0 (λ_=>none) a):(Code.region id ops true).wp P Q' a w:=by
 simp only[Region.lexB,ze5]at hB;refine wp_region_any hm (mX (isV:=isV) (vals:=λ_=>none) L hQ _ _ _ _ hC (λj v hj=>by cases hj) ?_);have:=BN (P:=P) (md := .any) (isV:=isV) (Q:=Q) L hB.1 ops.toList 0 (Array.replicate ops.size false) (λ_=>none) a (by simp) (by simpa using hB.2)
  (λk o ho hl=>by rw[getD_replicate_false]at hl;cases hl) (λ_ _=>rfl) ⟨_,hC,λj v hj=>by cases hj⟩ h
 simpa using this
end
section
variable{P:Program}{ops:Array Oper}{md:Region.Mode}{C:zg6}{Le:World->zg6}{Φ:Nat->Value->zg6}{isV:Oper->Bool}
def BX(P:Program)(ops:Array Oper)(md:Region.Mode)(C:zg6)(Le:World->zg6)(Φ:Nat->Value->zg6)(isV:Oper->Bool)(n:Nat)(L:Array Bool->kV->Act->Prop):Nat->Array Bool->kV->Act->Prop
 |0,listed,vals,a=>L listed vals a
 |f+1,listed,vals,a=>Region.ready md ops listed≠[]/\∀i∈Region.ready md ops listed,i<n/\rOp P ops md C Le Φ isV i (BX P ops md C Le Φ isV n L f (listed.setIfInBounds i true)) vals a
theorem lh{n g:Nat}{L:Array Bool->kV->Act->Prop}{Q':Exit->Act->zg6}(W:jd C Le Φ)(hL:∀listed vals a u,L listed vals a->C u->Facts Φ vals u->wpAny P md ops Q' g listed a u) :
  ∀(f:Nat) (listed:Array Bool) (vals:kV) (a:Act) (u:World),C u->Facts Φ vals u->BX P ops md C Le Φ isV n L f listed vals a->wpAny P md ops Q' (f+g) listed a u
 |0,listed,vals,a,u,hC,hF,h=>by rw[zd1];exact hL _ _ _ _ h hC hF
 |f+1,listed,vals,a,u,hC,hF,h=>by
  rw[show f+1+g=(f+g)+1 by omega];refine⟨λh0=>absurd h0 h.1,λi hi=>?_⟩;have h:=(h.2 i hi).2;unfold rOp at h;unfold wpOp;split at h
  .rename_i ho;rw[ho];exact lh W hL f _ _ _ _ hC hF h
  .rename_i o ho;rw[ho];simp only;split at h
   .rename_i hw;rw[if_pos hw];exact .inl (BU W hC hF (λvals' a' u' hC' hF' hK=>lh W hL f _ _ _ _ hC' hF' hK) h)
   .rename_i hw;rw[if_neg hw];exact lh W hL f _ _ _ _ hC hF h
theorem ES{n i:Nat}{oi:Oper}{L:Array Bool->kV->Act->Prop}(W:jd C Le Φ)(hi:ops[i]?=some oi)(hsel:∀(j:Nat) (o:Oper) cs b,ops[j]?=some o->o.op ≠ .select cs b)
  (hs:Region.sinkB md ops n=true) (hc:Region.chainB md ops n=true) (hn:n<ops.size) (hin:i<n)
  (hdone:∀listed vals a,L listed vals a->∀j∈Region.ready md ops listed,n<=j) :
  ∀(fuel:Nat) (listed:Array Bool) (vals:kV) (a:Act),HeadInv md ops n listed ->
   (∀j oj,ops[j]?=some oj->j≠i->listed.getD j true=false->(∀e∈oj.after,Region.binds md e=true->e.on≠i)->oi.apart ops oj=true) ->
   i∈Region.ready md ops listed->Dn ops md listed->(∀k,listed.getD k true=false->vals k=none)->(∃u,C u/\Facts Φ vals u) ->
   rOp P ops md C Le Φ isV i (BX P ops md C Le Φ isV n L fuel (listed.setIfInBounds i true)) vals a->BX P ops md C Le Φ isV n L (fuel+1) listed vals a:=by
 intro fuel
 induction fuel with
 |zero=>
  intro listed vals a inv _ hr hdn hnone hne H;have hun:=(mem_ready.1 hr).1;refine⟨λh=>(by rw[h]at hr;cases hr),λj hj=>?_⟩;have hjn:j<n:=by
   rcases Nat.lt_or_ge j n with h | h
   .exact h
   .exact absurd hj (tail_waits hs hc hn inv _ i rfl hin hun j h)
  refine⟨hjn,?_⟩
  by_cases hji:j=i
  .subst hji;exact H
  .obtain⟨vals',a',h0⟩:=Uo W hne H;have:=hdone _ _ _ h0 j (ready_mono hj hji);omega
 |succ fuel ih=>
  intro listed vals a inv hfree hr hdn hnone hne H;have hun:=(mem_ready.1 hr).1;refine⟨λh=>(by rw[h]at hr;cases hr),λj hj=>?_⟩;have hjn:j<n:=by
   rcases Nat.lt_or_ge j n with h | h
   .exact h
   .exact absurd hj (tail_waits hs hc hn inv _ i rfl hin hun j h)
  refine⟨hjn,?_⟩
  by_cases hji:j=i
  .subst hji;exact H
  .obtain⟨hjun,oj,hoj,hall⟩:=mem_ready.1 hj;obtain⟨hiun,oi',hoi',halli⟩:=mem_ready.1 hr;rw[hi]at hoi'
   cases hoi'
   have flip:∀k,listed.getD k true=false->listed.getD k false=true->False:=by
    intro k h0 h1
    rcases Nat.lt_or_ge k listed.size with h' | h'
    .simp[h']at h0 h1;rw[h0]at h1;cases h1
    .simp[Array.getElem?_eq_none h']at h1
   have hnot:∀e∈oj.after,Region.binds md e=true->e.on≠i:=λe he hb heq=>flip i hiun (by have:=hall e he hb;rwa [heq]at this);have hai:¬ Anc ops md i j:=λh=>flip i hiun (rJ hdn h λo ho=>by rw[hoj]at ho;cases ho;exact hall);have haj:¬ Anc ops md j i:=λh=>flip j hjun (rJ hdn h λo ho=>by rw[hi]at ho;cases ho;exact halli);have H2:rOp P ops md C Le Φ isV i (rOp P ops md C Le Φ isV j (BX P ops md C Le Φ isV n L fuel ((listed.setIfInBounds i true).setIfInBounds j true))) vals a :=
    qV hne (λvals' a' _ _ h=>(h.2 j (ready_mono hj hji)).2) H
   have H3:=Jb W hi hoj (Ne.symm hji) (hfree j oj hoj hji hjun hnot) (λcs b=>hsel i oi cs b hi) (λcs b=>hsel j oj cs b hoj) (hnone i hiun) (hnone j hjun) hai haj hne H2;refine qV hne (λvals' a' hn' hv' h=>?_) H3;have hfree':∀k ok,ops[k]?=some ok->k≠i->(listed.setIfInBounds j true).getD k true=false ->
     (∀e∈ok.after,Region.binds md e=true->e.on≠i)->oi.apart ops ok=true:=λk ok hk hki hun hno=>by
    refine hfree k ok hk hki ?_ hno
    by_cases hjk:j=k
    .subst hjk;exact hjun
    .rw[getD_set_ne true hjk]at hun;exact hun
   refine ih (listed.setIfInBounds j true) vals' a' (inv.set hj hjn) hfree' (ready_mono hr (Ne.symm hji)) (Bh hdn hj) (λk hk=>?_) hn' ?_
   .by_cases hjk:j=k
    .subst hjk;exfalso
     rcases Nat.lt_or_ge j listed.size with h' | h'
     .rw[ze2,zf0 h']at hk;cases hk
     .rw[ze2,Array.getElem?_eq_none (by simpa using h')]at hk;cases hk
    .rw[getD_set_ne true hjk]at hk;rw[hv' k (Ne.symm hjk)];exact hnone k hk
   .rw[Array.setIfInBounds_comm _ _ hji];exact h
def Et(P:Program)(ops:Array Oper)(md:Region.Mode)(C:zg6)(Le:World->zg6)(Φ:Nat->Value->zg6)(isV:Oper->Bool)(G:kV->Act->Prop):List Oper->Nat->kV->Act->Prop
 | [],_,vals,a=>G vals a
 |o::l,k,vals,a=>if Region.wanted o (yielded ops a.tmps) then Gf P ops md C Le Φ isV o k (Et P ops md C Le Φ isV G l (k+1)) vals a else Et P ops md C Le Φ isV G l (k+1) vals (a.put o.dst undef)
theorem BP{n g:Nat}{G:kV->Act->Prop}(W:jd C Le Φ)(hsel:Region.noSelect ops=true)(hs:Region.sinkB md ops n=true)(hc:Region.chainB md ops n=true)(hn:n<ops.size) :
  ∀(l:List Oper) (k:Nat) (listed:Array Bool) (vals:kV) (a:Act),(∀j,j<l.length->l[j]?=ops[k+j]?)->k+l.length=n->HeadInv md ops n listed ->
  Region.lexHead md ops g l.length k listed=true->Dn ops md listed->(∀k,listed.getD k true=false->vals k=none)->(∃u,C u/\Facts Φ vals u)->Et P ops md C Le Φ isV G l k vals a ->
  BX P ops md C Le Φ isV n (λlisted' vals' a'=>Region.seqB md ops g n listed'=true/\G vals' a') l.length listed vals a
 | [],k,listed,vals,a,_,hk,_,hB,_,_,_,h=>by
  have:k=n:=by simpa using hk
  subst this;exact⟨by simpa[Region.lexHead] using hB,h⟩
 |o::l,k,listed,vals,a,hl,hk,inv,hB,hdn,hnone,hne,h=>by
  have h0:ops[k]?=some o:=by simpa using(hl 0 (by simp)).symm
  simp only[zc5,Region.lexHead,ze5]at hB;obtain⟨⟨hr,hf⟩,hB'⟩:=hB;have hkn:k<n:=by simp only[zc5]at hk;omega
  have hr':k∈Region.ready md ops listed:=by simpa using hr
  have hst:rOp P ops md C Le Φ isV k (Et P ops md C Le Φ isV G l (k+1)) vals a:=by unfold rOp;simp only[h0];exact h
  refine ES W h0 (Region.noSelect_spec hsel) hs hc hn hkn (λlisted' vals' a' hL=>seqB_ready hL.1) l.length listed vals a inv (Region.free_spec h0 hf) hr' hdn hnone hne (qV hne (λvals' a' hn' hv' h'=>?_) hst);refine BP W hsel hs hc hn l (k+1) _ _ _ (λj hj=>by have:=hl (j+1) (by simp;omega);simpa[Nat.add_assoc,Nat.add_comm 1 j] using this) (by simp only[zc5]at hk;omega) (inv.set hr' hkn) hB' (Bh hdn hr') (λj hj=>?_) hn' h'
  by_cases hjk:k=j
  .subst hjk;exfalso
   rcases Nat.lt_or_ge k listed.size with h' | h'
   .rw[ze2,zf0 h']at hj;cases hj
   .rw[ze2,Array.getElem?_eq_none (by simpa using h')]at hj;cases hj
  .rw[getD_set_ne true hjk]at hj;rw[hv' j (Ne.symm hjk)];exact hnone j hj
theorem qQ{Q':Exit->Act->zg6}{a:Act}{w:World}(n:Nat)(W:jd C Le Φ)(hB:Region.lexTailB .any ops n=true)(hC:C { w with drawn:=w.drawn+1 })
  (h:Et P ops .any C Le Φ isV (λvals a'=>∀u,C u->Facts Φ vals u->wpList P ops Q' (ops.toList.drop n) a' u) (ops.toList.take n) 0 (λ_=>none) a):wpAny P .any ops Q' ops.size (Array.replicate ops.size false) a { w with drawn:=w.drawn+1 }:=by
 simp only[Region.lexTailB,ze5,decide_eq_true_eq]at hB;obtain⟨⟨⟨⟨hsel,hn⟩,hs⟩,hc⟩,hlex⟩:=hB;have htl:(ops.toList.take n).length=n:=by simp;omega
 have hdl:(ops.toList.drop n).length=ops.size - n:=by simp
 have inv0:HeadInv .any ops n (Array.replicate ops.size false) :=
  ⟨by simp,λj oj _ hl=>(by rw[getD_replicate_false]at hl;cases hl),λt _ ht=>getD_in (by simpa using ht) (getD_replicate_false _ _)⟩
 have H:=BP (md := .any) (g:=ops.size - n) W hsel hs hc hn (ops.toList.take n) 0 (Array.replicate ops.size false) (λ_=>none) a (λj hj=>by
  have hj':j<n:=by rw[htl]at hj;exact hj
  rw[zd6,if_pos hj'];simp) (by simpa using htl) inv0 (by rw[htl];exact hlex) (λk o ho hl=>by rw[getD_replicate_false]at hl;cases hl) (λ_ _=>rfl) ⟨_,hC,λj v hj=>by cases hj⟩ h
 have:=lh (P:=P) (Q':=Q') (g:=ops.size - n) W (λlisted vals a' u hL hCu hF=>by
  have:=wpAny_of_seq (md := .any) (Q':=Q') (ops:=ops) (ops.toList.drop n) n listed a' u (λj=>by simp[List.getElem?_drop]) (by rw[hdl];exact hL.1) (hL.2 u hCu hF)
  rwa [hdl]at this) _ _ _ _ _ hC (λj v hj=>by cases hj) H
 rw[htl,show n+(ops.size - n)=ops.size by omega]at this;exact this
theorem Ap{id:Nat}{Q':Exit->Act->zg6}{a:Act}{w:World}(n:Nat)(W:jd C Le Φ)(hm:P.follows .mixedOrders=true)(hB:Region.lexTailB .any ops n=true)(hC:C { w with drawn:=w.drawn+1 })
  (h:Et P ops .any C Le Φ isV (λvals a'=>∀u,C u->Facts Φ vals u->wpList P ops Q' (ops.toList.drop n) a' u) (ops.toList.take n) 0 (λ_=>none) a):(Code.region id ops true).wp P Q' a w :=
 wp_region_any hm (qQ n W hB hC h)
end
def a1l(P:Program)(s t:TypeId):Bool:=match P.underlying s,P.underlying t with
 |some (.int _),some (.int _)=>true
 |some (.int _),some (.float _)=>true
 |some .string,some .string=>true
 |_,_=>false
def isVal(P:Program)(o:Oper):Bool:=match o.op with
 | .store .. | .alloc _ | .box .. | .makeSlice .. | .buildSlice .. | .makeMap .. | .lookup .. | .mapEntry .. | .range .. | .next .. | .entry .. | .mapUpdate .. | .entryStore .. | .insert .. => false
 | .convert s t _=>a1l P s t
 | .call c=>match c.callee with
  | .builtin .len | .builtin .min | .builtin .max=>true
  | .value (.func f)=>U9 P f
  |_=>false
 |_=>true
def opN(P:Program)(ρ:Operand->Value)(o:Oper)(K:Value->zg6)(w:World):Prop :=
 match isVal P o with
 |true=>vM P ρ o w λv=>K v w
 |false=>KR P ρ o K w
def gd(b:Bool)(F:Bool->Prop):Prop:=match b with
 |true=>F true
 |false=>F false
theorem UM{b:Bool}{F:Bool->Prop}(h:gd b F):F b:=by cases b <;> exact h
def xA(ops:Array Oper)(a:Act)(j:Nat)(want:Bool)(yes no:Act->Prop):Prop :=
 match (ops[j]?).bind (·.dst) with
 |none=>False
 |some s=>match a.tmps[s]? with
  |some (.bool b)=>gd b λb'=>match b'==want with
   |true=>yes { a with tmps:=a.tmps.setIfInBounds s (.bool b') }
   |false=>no { a with tmps:=a.tmps.setIfInBounds s (.bool b') }
  |some (.tuple _)=>no a
  |_=>False
theorem Jv{xs:Array Value}{s:Nat}{v:Value}(h:xs[s]?=some v):xs.setIfInBounds s v=xs:=by
 obtain⟨h1,rfl⟩:=zc4.1 h;simp[Array.setIfInBounds,h1]
theorem iO{ops:Array Oper}{a:Act}{j:Nat}{want:Bool}{yes no:Act->Prop}(h:xA ops a j want yes no) :
  ∃r:Bool,(∀o:Oper,o.guard=some (j,want)->Region.wanted o (yielded ops a.tmps)=r)/\(if r=true then yes a else no a):=by
 unfold xA at h;split at h
 .exact h.elim
 rename_i s hs;split at h
 .rename_i b hb;have h:=UM h;rw[Jv hb]at h;have hy:yielded ops a.tmps j=some b:=by
   unfold yielded;rw[hs];simp[hb]
  refine⟨b==want,λo hg=>by unfold Region.wanted;rw[hg];simp[hy],?_⟩
  cases hbw:(b==want) with
  |true=>rw[hbw]at h;exact h
  |false=>rw[hbw]at h;exact h
 .rename_i t hb;have hy:yielded ops a.tmps j=none:=by
   unfold yielded;rw[hs];simp[hb]
  exact⟨false,λo hg=>by unfold Region.wanted;rw[hg];simp[hy],h⟩
 .exact h.elim
def G6(P:Program)(ops:Array Oper)(Q:Act->zg6):List Oper->Act->World->Prop
 | [],a,w=>Q a w
 |o::rest,a,w=>match o.guard with
  |none=>opN P a.eval o (λv u=>G6 P ops Q rest (a.put o.dst v) u) w
  |some (j,want)=>xA ops a j want (λa=>opN P a.eval o (λv u=>G6 P ops Q rest (a.put o.dst v) u) w) (λa=>G6 P ops Q rest (a.put o.dst undef) w)
theorem Un{P:Program}{o:Oper}{a:Act}{K:Value->zg6}{K':Act->zg6}{Q:Exit->Act->zg6}{w:World}(hd:P.types.size+Made.depth≠0)(h:opN P a.eval o K w)
  (hk:∀v u d',K v u->K' (a.put o.dst v) (dr u d')) (d:Nat):o.wp P a (dr w d) K' Q:=by
 unfold opN at h;unfold Oper.wp;split at h
 .obtain⟨v,hr,hK⟩:=jV (λ_=>rfl) h;rw[show(execOp a.eval o).run P (dr w d)=_ from hr (Kp.dr w d)];exact hk _ _ _ hK
 .rcases rC hd h with h | h | ⟨f,args,hr,hc⟩
  .obtain⟨v,u,d',hr,hK⟩:=h d;rw[hr];exact hk _ _ _ hK
  .obtain⟨u,d',hr,hK⟩:=h d;rw[hr];exact hk _ _ _ hK
  .rw[hr d];refine(hc d).mono λe w' ⟨v,u,d',he,hw,hK⟩=>?_;subst he hw;exact hk _ _ _ hK
theorem lZ{P:Program}{ops:Array Oper}{Q:Act->zg6}{Q':Exit->Act->zg6}(hd:P.types.size+Made.depth≠0)(hq:∀a u d,Q a u->Q' .normal a (dr u d)) :
  ∀(l:List Oper) (a:Act) (w:World),G6 P ops Q l a w->∀d,wpList P ops Q' l a (dr w d)
 | [],a,w,h,d=>hq _ _ _ h
 |o::rest,a,w,h,d=>by
  unfold G6 at h;unfold wpList;split at h
  .rename_i hg;have hw:Region.wanted o (yielded ops a.tmps)=true:=by unfold Region.wanted;rw[hg]
   rw[if_pos hw];exact .inl (Un hd h (λv u d' hK=>lZ hd hq rest _ _ hK d') d)
  .rename_i j want hg;obtain⟨r,hr,h⟩:=iO h;have hw:=hr o hg;rw[hw];split at h
   .rename_i hb;rw[if_pos (by simpa using hb)];exact .inl (Un hd h (λv u d' hK=>lZ hd hq rest _ _ hK d') d)
   .rename_i hb;rw[if_neg (by simpa using hb)];exact lZ hd hq rest _ _ h d
theorem wY{P:Program}{ops:Array Oper}{Q:Act->zg6}(w:World){Q2:Act->Prop}(hq:∀a',Q a' w->Q2 a'):∀(l:List Oper) (a:Act),l.all (isVal P)=true->G6 P ops Q l a w ->
  wpQuiet P ops (λw'=>∃d,w'=dr w d) Q2 l a
 | [],a,_,h=>hq _ h
 |o::rest,a,hv,h=>by
  simp only[List.all_cons,ze5]at hv;have one:∀a:Act,opN P a.eval o (λv u=>G6 P ops Q rest (a.put o.dst v) u) w->o.quiet P a (λw'=>∃d,w'=dr w d) (wpQuiet P ops (λw'=>∃d,w'=dr w d) Q2 rest):=by
   intro a h;unfold opN at h;rw[hv.1]at h;obtain⟨v,hr,hK⟩:=jV (λ_=>rfl) h;refine⟨v,?_,wY w hq rest _ hv.2 hK⟩;rintro w' ⟨d,rfl⟩;unfold Oper.quietAt;rw[show(execOp a.eval o).run P (dr w d)=_ from hr (Kp.dr w d)];exact⟨rfl,rfl⟩
  unfold G6 at h;unfold wpQuiet;split at h
  .rename_i hg;have hw:Region.wanted o (yielded ops a.tmps)=true:=by unfold Region.wanted;rw[hg]
   rw[if_pos hw];exact one a h
  .rename_i j want hg;obtain⟨r,hr,h⟩:=iO h;have hw:=hr o hg;rw[hw];split at h
   .rename_i hb;rw[if_pos (by simpa using hb)];exact one a h
   .rename_i hb;rw[if_neg (by simpa using hb)];exact wY w hq rest _ hv.2 h
theorem wR{P:Program}{ops:Array Oper}{Q:Act->zg6}(w:World)(d:Nat)(l2:List Oper){Q2:Act->Prop}(hq:∀a',G6 P ops Q l2 a' w->Q2 a'):∀(l:List Oper) (a:Act),l.all (isVal P)=true->G6 P ops Q (l++l2) a w ->
  wpStill P ops (dr w d) Q2 l a
 | [],a,_,h=>hq _ h
 |o::rest,a,hv,h=>by
  simp only[List.all_cons,ze5]at hv;have one:∀a:Act,opN P a.eval o (λv u=>G6 P ops Q (rest++l2) (a.put o.dst v) u) w->o.still P a (dr w d) (wpStill P ops (dr w d) Q2 rest):=by
   intro a h;unfold opN at h;rw[hv.1]at h;obtain⟨v,hr,hK⟩:=jV (λ_=>rfl) h;unfold Oper.still;rw[show(execOp a.eval o).run P (dr w d)=_ from hr (Kp.dr w d)];exact⟨rfl,wR w d l2 hq rest _ hv.2 hK⟩
  simp only[ze1]at h;unfold G6 at h;unfold wpStill;split at h
  .rename_i hg;have hw:Region.wanted o (yielded ops a.tmps)=true:=by unfold Region.wanted;rw[hg]
   rw[if_pos hw];exact one a h
  .rename_i j want hg;obtain⟨r,hr,h⟩:=iO h;have hw:=hr o hg;rw[hw];split at h
   .rename_i hb;rw[if_pos (by simpa using hb)];exact one a h
   .rename_i hb;rw[if_neg (by simpa using hb)];exact wR w d l2 hq rest _ hv.2 h
def Ey(P:Program):List Oper->Nat
 | []=>0
 |o::l=>match isVal P o with
  |true=>Ey P l+1
  |false=>0
theorem Bc(P:Program):∀l:List Oper,(l.take (Ey P l)).all (isVal P)=true
 | []=>rfl
 |o::l=>by
  unfold Ey
  split
  .rename_i h;have:=Bc P l;simp only[List.take_succ_cons,List.all_cons,h,this,Bool.and_self]
  .rfl
def UX(P:Program)(ops:Array Oper)(draw:Bool):Bool:=match draw with
 |false=>true
 |true=>match ops.toList.all (isVal P) with
  |true=>Region.lexB .any ops
  |false=>Region.lexTailB .any ops (Ey P ops.toList)
theorem VL{P:Program}{id:Nat}{ops:Array Oper}{draw:Bool}{Q:Act->zg6}{Q':Exit->Act->zg6}{a:Act}{w:World}(hm:P.follows .mixedOrders=true)(hd:P.types.size+Made.depth≠0)
  (hok:UX P ops draw=true) (hq:∀a u d,Q a u->Q' .normal a (dr u d)) (h:G6 P ops Q ops.toList a w) (d:Nat):(Code.region id ops draw).wp P Q' a (dr w d):=by
 unfold UX at hok
 cases draw with
 |false=>exact wp_region_list (lZ hd hq _ _ _ h d)
 |true=>
  simp only at hok;split at hok
  .rename_i hv;refine wp_region_quiet (C:=λw'=>∃d,w'=dr w d) hm hok ⟨d+1,rfl⟩ ?_;exact wY w (λa' hQ w' ⟨d',hw'⟩=>by subst hw';exact hq _ _ _ hQ) _ _ hv h
  .obtain⟨l⟩:=ops;refine wp_region_still_tail _ hm hok ?_;refine wR (Q:=Q) w (d+1) (l.drop (Ey P l)) (λa' h'=>?_) _ _ (Bc P l) (by rw[List.take_append_drop];exact h);exact lZ hd hq _ _ _ h' (d+1)
def Kp.below{w u:World}(h:Below w.heap.size w u):Kp w:=⟨u,λa v hc=>by rw[h.cell (block_lt_of_cell hc)];exact hc⟩
def qfN(P:Program)(fv:Value)(args:Array Value)(ty:TypeId)(w0:World)(K:Value->Prop):Prop:=match fv with
 | .func (.func f) first captured=>if kZ P f=true then gX P ty λv=>
   (∀u,Below w0.heap.size w0 u->E.CallsD P f (first++args++captured) u λv' u'=>v'=v/\Below w0.heap.size w0 u')/\K v else False
 |_=>False
def qcN(P:Program)(ρ:Operand->Value)(o:Oper)(w0:World)(K:Value->Prop):Prop :=
 match o.op with
 | .call c=>match c.callee with
  | .value fo=>qfN P (ρ fo) (c.args.map ρ) o.type w0 K
  | .invoke r name=>match ρ r with
   | .iface t x=>aV (wz P t name) λf=>if kZ P f=true then gX P o.type λv=>
     (∀u,Below w0.heap.size w0 u->E.CallsD P f (#[x]++c.args.map ρ) u λv' u'=>v'=v/\Below w0.heap.size w0 u')/\K v else False
   |_=>False
  |_=>False
 |_=>False
def qN(P:Program)(ρ:Operand->Value)(o:Oper)(w0:World)(K:Value->Prop):Prop:=match isVal P o with
 |true=>vM P ρ o w0 K
 |false=>qcN P ρ o w0 K
def TM(P:Program)(ops:Array Oper)(w0:World)(Q:Act->zg6):List Oper->Act->Prop
 | [],a=>∀u,Below w0.heap.size w0 u->Q a u
 |o::rest,a=>match o.guard with
  |none=>qN P a.eval o w0 (λv=>TM P ops w0 Q rest (a.put o.dst v))
  |some (j,want)=>xA ops a j want (λa=>qN P a.eval o w0 (λv=>TM P ops w0 Q rest (a.put o.dst v))) (λa=>TM P ops w0 Q rest (a.put o.dst undef))
theorem tH{P:Program}{f:FuncId}{args:Array Value}{w0 u:World}{v:Value}(h:E.CallsD P f args u λv' u'=>v'=v/\Below w0.heap.size w0 u') :
  Calls P f args u λe w''=>e = .returned v/\Below w0.heap.size w0 w'':=by
 have:=h u.drawn;rw[jO]at this;refine this.mono λe w' ⟨v',u',d',he,hw,hv,hb⟩=>?_;subst he hw hv;exact⟨rfl,⟨hb.os,hb.tape,hb.output,hb.size,hb.block⟩⟩
theorem JW{P:Program}{o:Oper}{a:Act}{w0:World}{K:Value->Prop}{K':Act->Prop}(hd:P.types.size+Made.depth≠0)(h:qN P a.eval o w0 K)(hk:∀v,K v->K' (a.put o.dst v)) :
  o.quiet P a (λu=>Below w0.heap.size w0 u) K':=by
 unfold qN at h;split at h
 .obtain⟨v,hr,hK⟩:=jV (λ_=>rfl) h;refine⟨v,λu hu=>?_,hk _ hK⟩;unfold Oper.quietAt;rw[show(execOp a.eval o).run P u=_ from hr (Kp.below hu)];exact⟨rfl,rfl⟩
 .unfold qcN at h;split at h
  case h_2=>exact h.elim
  rename_i c ho;obtain⟨dst,op,ty,pos,after,guard⟩:=o;simp only at ho h;subst ho;obtain⟨callee,args,ats⟩:=c
  cases callee with
  |builtin b=>exact h.elim
  |value fo=>
   simp only at h;unfold qfN at h;split at h
   .rename_i f first captured hf;split at h
    .rename_i hb;obtain⟨v,hc,hK⟩:=jf h;refine⟨v,λu hu=>?_,hk _ hK⟩;unfold Oper.quietAt execOp resolve;simp only[hf,Deferred.ofValue];rw[run_bind' P _ _ _ _ _ rfl];have hrc:=je hb (first++args.map a.eval++captured) u;simp only[invoke,hrc];exact⟨rfl,tH (hc u hu)⟩
    .exact h.elim
   .exact h.elim
  |invoke r name=>
   simp only at h;split at h
   .rename_i t x hv;obtain⟨f,hf,h⟩:=gm h;split at h
    .rename_i hb;obtain⟨v,hc,hK⟩:=jf h;refine⟨v,λu hu=>?_,hk _ hK⟩;obtain⟨n,hn⟩:∃n,P.types.size+Made.depth=n+1:=⟨P.types.size+Made.depth - 1,by omega⟩;have hrun:(execOp a.eval ⟨dst,.call ⟨.invoke r name,args,ats⟩,ty,pos,after,guard⟩).run P u = .ok (.enter f (#[x]++args.map a.eval)) u:=by
      unfold execOp resolve;simp only[hv];rw[run_bind' P _ _ _ _ _ rfl];unfold invoke;obtain⟨xs,hxs⟩:∃xs:List Value,args.map a.eval=xs.toArray:=⟨(args.map a.eval).toList,rfl⟩;rw[hxs];have e0:(#[Value.iface t x]++xs.toArray)[0]?=some (.iface t x):=by simp
      have e1:(#[Value.iface t x]++xs.toArray).extract 1 (#[Value.iface t x]++xs.toArray).size=xs.toArray:=by simp
      simp only[e0,e1];unfold callMethod;simp only;rw[run_bind' P _ _ _ _ _ (rD P _),hn,run_bind' P _ _ _ _ _ (wJ hf n x _)];exact je hb _ _
     unfold Oper.quietAt;rw[hrun];exact⟨rfl,tH (hc u hu)⟩
    .exact h.elim
   .exact h.elim
theorem nX{P:Program}{ops:Array Oper}{Q:Act->zg6}{w0:World}{Q2:Act->Prop}(hd:P.types.size+Made.depth≠0)(hq:∀a',(∀u,Below w0.heap.size w0 u->Q a' u)->Q2 a'):∀(l:List Oper) (a:Act),TM P ops w0 Q l a ->
  wpQuiet P ops (λu=>Below w0.heap.size w0 u) Q2 l a
 | [],a,h=>hq _ h
 |o::rest,a,h=>by
  unfold TM at h;unfold wpQuiet;split at h
  .rename_i hg;have hw:Region.wanted o (yielded ops a.tmps)=true:=by unfold Region.wanted;rw[hg]
   rw[if_pos hw];exact JW hd h λv hK=>nX hd hq rest _ hK
  .rename_i j want hg;obtain⟨r,hr,h⟩:=iO h;have hw:=hr o hg;rw[hw];split at h
   .rename_i hb;rw[if_pos (by simpa using hb)];exact JW hd h λv hK=>nX hd hq rest _ hK
   .rename_i hb;rw[if_neg (by simpa using hb)];exact nX hd hq rest _ h
theorem Vm{P:Program}{id:Nat}{ops:Array Oper}{Q:Act->zg6}{Q':Exit->Act->zg6}{a:Act}{w:World}(hm:P.follows .mixedOrders=true)(hd:P.types.size+Made.depth≠0)
  (hok:Region.lexB .any ops=true) (hq:∀a u d,Q a u->Q' .normal a (dr u d)) (h:TM P ops w Q ops.toList a) (d:Nat):(Code.region id ops true).wp P Q' a (dr w d):=by
 refine wp_region_quiet (C:=λu=>Below w.heap.size w u) hm hok ⟨rfl,rfl,rfl,zb4 _,λ_ _=>rfl⟩ ?_;refine nX hd (λa' hQ w' hw'=>?_) _ _ h;have:=hq _ _ w'.drawn (hQ w' hw')
 rwa [jO]at this
def Lf.all:Lf->(Value->Prop)->Prop
 | .bool,K=>∀b,K (.bool b)
 | .int k,K=>∀n,K (.int k n)
 | .float k,K=>∀n,K (.float k n)
 | .string,K=>∀s,K (.string s)
 | .slice,K=>∀a n c,K (.slice a n c)
 | .pointer,K=>∀a,K (.pointer a)
 | .map,K=>∀r,K (.map r)
 | .any,K=>∀v,K v
def Zr:List Lf->(List Value->Prop)->Prop
 | [],K=>K []
 |l::ls,K=>l.all λv=>Zr ls λvs=>K (v::vs)
def tY(P:Program):List TypeId->(List Value->Prop)->Prop
 | [],K=>K []
 |t::ts,K=>match P.underlying t with
  |none=>True
  |some u=>match Si u with
   |true=>Zr (lvs P 8 t) λvs=>tY P ts λws=>K (.agg vs.toArray::ws)
   |false=>match lvs P 8 t with
    | [l]=>l.all λv=>tY P ts λws=>K (v::ws)
    |_=>True
def MX(P:Program)(t:TypeId)(K:Value->Prop):Prop :=
 match P.underlying t with
 |none=>True
 |some (.tuple ts)=>tY P ts.toList λvs=>K (.tuple vs.toArray)
 |some _=>tY P [t] λvs=>match vs with
  | [v]=>K v
  |_=>True
theorem Lf.Iq{l:Lf}{K J:Value->Prop}(h:l.ex J)(hk:l.all K):∃v,J v/\K v:=by
 cases l <;> simp only[Lf.ex,Lf.all]at h hk
 all_goals first
  | (obtain⟨a,n,c,h⟩:=h;exact⟨_,h,hk _ _ _⟩)
  | (obtain⟨a,h⟩:=h;exact⟨_,h,hk _⟩)
theorem F6:∀(ls:List Lf) (K J:List Value->Prop),exs ls J->Zr ls K->∃vs,J vs/\K vs
 | [],_,_,h,hk=>⟨_,h,hk⟩
 |_::ls,_,_,h,hk=>let⟨_,h2,hk2⟩:=Lf.Iq h hk;let⟨_,h3,hk3⟩:=F6 ls _ _ h2 hk2; ⟨_,h3,hk3⟩
theorem nC(P:Program):∀(ts:List TypeId) (K J:List Value->Prop),shapes P ts J->tY P ts K->∃vs,J vs/\K vs
 | [],_,_,h,hk=>⟨_,h,hk⟩
 |t::ts,K,J,h,hk=>by
  unfold shapes at h;unfold tY at hk;split at h
  .exact h.elim
  rename_i u hu;rw[hu]at hk;simp only at hk;split at h
  .rename_i hb;rw[hb]at hk;obtain⟨vs,h2,hk2⟩:=F6 _ _ _ h hk;obtain⟨ws,h3,hk3⟩:=nC P ts _ _ h2 hk2;exact⟨_,h3,hk3⟩
  .rename_i hb;rw[hb]at hk;simp only at hk;split at h
   .rename_i l hl;rw[hl]at hk;obtain⟨v,h2,hk2⟩:=Lf.Iq h hk;obtain⟨ws,h3,hk3⟩:=nC P ts _ _ h2 hk2;exact⟨_,h3,hk3⟩
   .exact h.elim
theorem uP{P:Program}{t:TypeId}{K J:Value->Prop}(h:gX P t J)(hk:MX P t K):∃v,J v/\K v:=by
 unfold gX at h;unfold MX at hk;split at h
 .exact h.elim
 .rename_i ts hu;rw[hu]at hk;obtain⟨vs,h2,hk2⟩:=nC P _ _ _ h hk;exact⟨_,h2,hk2⟩
 .rename_i u hn hu;rw[hu]at hk;have hk:tY P [t] λvs=>match vs with
    | [v]=>K v
    |_=>True:=by
   cases u <;> first | exact hk | exact(hn _ rfl).elim
  obtain⟨vs,h2,hk2⟩:=nC P _ _ _ h hk;split at h2
  .exact⟨_,h2,hk2⟩
  .exact h2.elim
def ins(x:Nat):List Nat->List Nat
 | []=>[x]
 |y::l=>match Nat.beq x y with
  |true=>y::l
  |false=>y::ins x l
def Qd:List Nat->List Nat->List Nat
 | [],l=>l
 |x::xs,l=>Qd xs (ins x l)
theorem zl{x j:Nat}:∀ {l:List Nat},j∈ins x l->j=x\/j∈l
 | [],h=>by simpa[ins] using h
 |y::l,h=>by
  unfold ins at h;split at h
  .exact .inr h
  .rcases zb3.1 h with h | h
   .exact .inr (by simp[h])
   .rcases zl h with h | h
    .exact .inl h
    .exact .inr (by simp[h])
theorem CB{j:Nat}:∀ {xs l:List Nat},j∈Qd xs l->j∈xs\/j∈l
 | [],_,h => .inr h
 |x::xs,l,h=>by
  rcases CB (xs:=xs) h with h | h
  .exact .inl (by simp[h])
  .rcases zl h with h | h
   .exact .inl (by simp[h])
   .exact .inr h
def XK(T:List (List Nat)):List Edge->List Nat->List Nat
 | [],l=>l
 |e::es,l=>match Region.binds .any e with
  |true=>XK T es (Qd (T.getD e.on []) l)
  |false=>XK T es l
def kR(T:List (List Nat))(o:Oper):List Nat:=XK T o.after.toList []
theorem vz{T:List (List Nat)}{j:Nat}:∀ {es:List Edge} {l:List Nat},j∈XK T es l->(∃e∈es,Region.binds .any e=true/\j∈T.getD e.on [])\/j∈l
 | [],_,h => .inr h
 |e::es,l,h=>by
  unfold XK at h;split at h
  .rename_i hb
   rcases vz h with ⟨e',he,h1⟩ | h
   .exact .inl ⟨e',by simp[he],h1⟩
   .rcases CB h with h | h
    .exact .inl ⟨e,by simp,hb,h⟩
    .exact .inr h
  .rcases vz h with ⟨e',he,h1⟩ | h
   .exact .inl ⟨e',by simp[he],h1⟩
   .exact .inr h
def EU(P:Program)(k:Nat)(o:Oper)(anc:List Nat):List Nat:=match isVal P o with
 |true=>anc
 |false=>ins k anc
def Zt:List Oper->Nat->Option Op
 | [],_=>none
 |o::l,d=>match o.dst with
  |some e=>match Nat.beq e d with
   |true=>some o.op
   |false=>Zt l d
  |none=>Zt l d
def Ut(ops:List Oper):Nat->Operand->Bool
 |k+1,.tmp d=>match Zt ops d with
  |some (.fieldAddr _ x _)=>Ut ops k x
  |some (.indexAddr _ x _)=>Ut ops k x
  |some (.field _ x _)=>Ut ops k x
  |some (.extract x _)=>Ut ops k x
  |some (.nilCheck x)=>Ut ops k x
  |some (.move x)=>Ut ops k x
  |some (.load _ x)=>Ut ops k x
  |some (.call c)=>match c.callee with
   | .value _=>true
   |_=>false
  |_=>false
 |_,_=>false
def IJ(P:Program)(ops:Array Oper)(o:Oper):Bool:=match o.op with
 | .load _ p=>match Ut ops.toList ops.size p with
  |true=>false
  |false=>true
 |_=>isVal P o
def vO(P:Program)(ops:Array Oper)(k:Nat)(o:Oper)(anc:List Nat):List Nat:=match IJ P ops o with
 |true=>anc
 |false=>ins k anc
def hyps(Φ:Nat->Value->zg6)(vals:kV)(u:World):List Nat->Prop->Prop
 | [],K=>K
 |j::js,K=>match vals j with
  |some v=>Φ j v u->hyps Φ vals u js K
  |none=>hyps Φ vals u js K
theorem kS{Φ:Nat->Value->zg6}{vals:kV}{u:World}{K:Prop}:∀ {l:List Nat},hyps Φ vals u l K->(∀j∈l,∀v,vals j=some v->Φ j v u)->K
 | [],h,_=>h
 |j::js,h,hf=>by
  unfold hyps at h;split at h
  .rename_i v hv;exact kS (h (hf j (by simp) v hv)) λk hk=>hf k (by simp[hk])
  .exact kS h λk hk=>hf k (by simp[hk])
def erN(P:Program)(ρ:Operand->Value)(o:Oper)(w0:World)(hy:World->Prop->Prop)(Φk:Value->zg6)(K:Value->Prop):Prop :=
 match o.op with
 | .call c=>match c.callee with
  | .value fo=>match ρ fo with
   | .func (.func f) first captured=>if kZ P f=true then
     (∀u,Below w0.heap.size w0 u->hy u (E.CallsD P f (first++c.args.map ρ++captured) u λv u'=>gX P o.type λv'=>v=v'/\Φk v' u'/\Below u.heap.size u u')) /\
     MX P o.type λv=>(∃u,Below w0.heap.size w0 u/\Φk v u)->K v else False
   |_=>False
  | .invoke r name=>match ρ r with
   | .iface t x=>aV (wz P t name) λf=>if kZ P f=true then
     (∀u,Below w0.heap.size w0 u->hy u (E.CallsD P f (#[x]++c.args.map ρ) u λv u'=>gX P o.type λv'=>v=v'/\Φk v' u'/\Below u.heap.size u u')) /\
     MX P o.type λv=>(∃u,Below w0.heap.size w0 u/\Φk v u)->K v else False
   |_=>False
  | .builtin .append=>
    (∀u,Below w0.heap.size w0 u->hy u (dC P (Builtin.append_ c.argTypes o.type (c.args.map ρ)) u λv u'=>gX P o.type λv'=>v=v'/\Φk v' u'/\Below u.heap.size u u')) /\
    MX P o.type λv=>(∃u,Below w0.heap.size w0 u/\Φk v u)->K v
  |_=>False
 | .load t p=>match P.underlying t with
  |some (.tuple _)=>False
  |_=>(∀u,Below w0.heap.size w0 u->hy u (Lc (ρ p) λa=>ldT P t u a λv=>Φk v u)) /\
   MX P t λv=>(∃u,Below w0.heap.size w0 u/\Φk v u)->K v
 | .lookup t m k ok=>
   (∀u,Below w0.heap.size w0 u->hy u (dC P (Instr.lookup t (ρ m) (ρ k) ok) u λv u'=>gX P o.type λv'=>v=v'/\Φk v' u'/\Below u.heap.size u u')) /\
   MX P o.type λv=>(∃u,Below w0.heap.size w0 u/\Φk v u)->K v
 | .buildSlice t len parts=>aV (X8 P t len (partsOf ρ parts)) λec=>
   (∀u,Below w0.heap.size w0 u->hy u (Φk (.slice (some ⟨u.heap.size,0,none⟩) len len) (u.alloc (.cells ec.2 ec.1)))) /\
   ∀p:Addr,(∃u,Below w0.heap.size w0 u/\Φk (.slice (some p) len len) u)->K (.slice (some p) len len)
 | .makeSlice t l c=>match P.underlying t,ρ l,ρ c with
  |some (.slice e),.int _ l,.int _ c=>match P.info? e with
   |some i=>match i.zero with
    |some z=>chk (0<=l/\l<=c/\(i.bytes:Int)*c<=281474976710656/\c<=9223372036854775807)
      ((∀u,Below w0.heap.size w0 u->hy u (Φk (.slice (some ⟨u.heap.size,0,none⟩) l.toNat c.toNat) (u.alloc (.cells (madeCells z.cells (c.toNat*i.size)) e)))) /\
       ∀(p:Addr) (x y:Nat),(∃u,Below w0.heap.size w0 u/\Φk (.slice (some p) x y) u)->K (.slice (some p) x y))
    |none=>False
   |none=>False
  |_,_,_=>False
 | .alloc t=>aV (Ry P t) λcs=>
   (∀u,Below w0.heap.size w0 u->hy u (Φk (.pointer (some ⟨u.heap.size,0,none⟩)) (u.alloc (.cells cs t)))) /\
   ∀p:Addr,(∃u,Below w0.heap.size w0 u/\Φk (.pointer (some p)) u)->K (.pointer (some p))
 | .box t x=>
   (∀u,Below w0.heap.size w0 u->hy u (Φk (.pointer (some ⟨u.heap.size,0,none⟩)) (u.alloc (.cells (ρ x).cells t)))) /\
   ∀p:Addr,(∃u,Below w0.heap.size w0 u/\Φk (.pointer (some p)) u)->K (.pointer (some p))
 |_=>False
theorem LU{l:Lf}{J J':Value->Prop}(hj:∀v,J v->J' v)(hl:l.ex J):l.ex J':=by
 cases l <;> simp only[Lf.ex]at hl ⊢
 all_goals first
  | (obtain⟨a,n,c,h⟩:=hl;exact⟨_,_,_,hj _ h⟩)
  | (obtain⟨a,h⟩:=hl;exact⟨_,hj _ h⟩)
theorem O5{l:Lf}{J:Value->Prop}(hl:l.ex J):l.ex λv=>J v/\l.ex λv'=>v=v':=by
 cases l <;> simp only[Lf.ex]at hl ⊢
 all_goals first
  | (obtain⟨a,n,c,h⟩:=hl;exact⟨_,_,_,h,_,_,_,rfl⟩)
  | (obtain⟨a,h⟩:=hl;exact⟨_,h,_,rfl⟩)
theorem Ol:∀ {ls:List Lf} {J J':List Value->Prop},(∀v,J v->J' v)->exs ls J->exs ls J'
 | [],J,J',hj,h=>hj _ h
 |l::ls,J,J',hj,h=>by
  unfold exs at h ⊢;exact LU (λv hv=>Ol (λvs=>hj _) hv) h
theorem II{w:World}{a:Addr}:∀ {ls:List Lf} {i:Nat} {K K':List Value->Prop},(∀vs,K vs->K' vs)->ldN w a i ls K->ldN w a i ls K'
 | [],i,K,K',hk,h=>hk _ h
 |l::ls,i,K,K',hk,h=>by
  unfold ldN at h ⊢;exact LU (λv hv=>⟨hv.1,II (λvs=>hk _) hv.2⟩) h
theorem zX{w:World}{a:Addr}:∀ {ls:List Lf} {i:Nat} {K:List Value->Prop},ldN w a i ls K->ldN w a i ls λvs=>(exs ls λvs'=>vs=vs')/\K vs
 | [],i,K,h=>⟨rfl,h⟩
 |l::ls,i,K,h=>by
  unfold ldN at h ⊢;refine LU (λv hv=>⟨hv.1.1,II (λvs hvs=>⟨?_,hvs.2⟩) (zX hv.1.2)⟩) (O5 h);unfold exs;exact LU (λv' hv'=>Ol (λvs' hvs'=>by rw[hv',hvs']) hvs.1) hv.2
theorem Qw{P:Program}{t:TypeId}{w:World}{a:Addr}{K:Value->Prop}(ht:∀ts,P.underlying t≠some (.tuple ts))(h:ldT P t w a K):ldT P t w a λv=>(gX P t λv'=>v=v')/\K v:=by
 unfold ldT at h ⊢
 cases hu:P.underlying t with
 |none=>rw[hu]at h;exact h
 |some u=>
  have sN:∀K:Value->Prop,gX P t K=shapes P [t] λvs=>match vs with | [v]=>K v | _=>False:=λK=>by
   unfold gX;rw[hu]
   cases u <;> first | rfl | exact absurd hu (ht _)
  rw[hu]at h;have agg:Si u=true->∀vs:List Value,(exs (lvs P 8 t) λvs'=>vs=vs')->gX P t λv'=>Value.agg vs.toArray=v':=λhb vs hvs=>by
   rw[sN];unfold shapes;rw[hu];simp only[hb];exact Ol (λvs' e=>by unfold shapes;rw[e]) hvs
  have one:Si u=false->∀(l:Lf),lvs P 8 t=[l]->∀v:Value,(l.ex λv'=>v=v')->gX P t λv'=>v=v':=λhb l hl v hv=>by
   rw[sN];unfold shapes;rw[hu];simp only[hb,hl];exact LU (λv' e=>by unfold shapes;exact e) hv
  cases u <;> simp only at h ⊢
  case struct=>
   split at h
   .rename_i hsz;rw[if_pos hsz];exact II (λvs hvs=>⟨agg rfl vs hvs.1,hvs.2⟩) (zX h)
   .exact h.elim
  case array=>
   split at h
   .rename_i hsz;rw[if_pos hsz];exact II (λvs hvs=>⟨agg rfl vs hvs.1,hvs.2⟩) (zX h)
   .exact h.elim
  all_goals
   split at h
   .rename_i l hl;exact LU (λv hv=>⟨hv.1.1,one rfl l hl v hv.2,hv.1.2⟩) (O5 h)
   .exact h.elim
def Gh(P:Program)(ops:Array Oper)(i:Nat)(v:Value):Prop:=match ops[i]? with
 |none=>False
 |some o=>match o.op with
  | .call _=>gX P o.type λv'=>v=v'
  | .lookup .. => gX P o.type λv'=>v=v'
  | .load t _=>gX P t λv'=>v=v'
  | .buildSlice _ len _=>∃p,v = .slice (some p) len len
  | .makeSlice .. => ∃p x y,v = .slice (some p) x y
  | .alloc _=>∃p,v = .pointer (some p)
  | .box .. => ∃p,v = .pointer (some p)
  |_=>False
def MN(P:Program)(ops:Array Oper)(w0:World)(Φ:Nat->Value->zg6)(Q:Act->zg6):List Oper->Nat->List (List Nat)->List Nat->kV->Act->Prop
 | [],_,_,done,vals,a=>∀u,Below w0.heap.size w0 u->hyps Φ vals u done (Q a u)
 |o::rest,k,T,done,vals,a=>
  (λ(run:Act->Prop)=>match o.guard with
   |none=>run a
   |some (j,want)=>xA ops a j want run (λa=>MN P ops w0 Φ Q rest (k+1) (T++[vO P ops k o (kR T o)]) done vals (a.put o.dst undef)))
  (λa=>match IJ P ops o with
   |true=>vM P a.eval o w0 λv=>MN P ops w0 Φ Q rest (k+1) (T++[vO P ops k o (kR T o)]) done vals (a.put o.dst v)
   |false=>erN P a.eval o w0 (λu=>hyps Φ vals u (kR T o)) (Φ k) λv=>MN P ops w0 Φ Q rest (k+1) (T++[vO P ops k o (kR T o)]) (done++[k]) (up vals k v) (a.put o.dst v))
def CW(w0 u:World):Prop:=Below w0.heap.size w0 u
def LeW(u u':World):Prop:=Below u.heap.size u u'
def EP(P:Program)(ops:Array Oper)(Φ:Nat->Value->zg6)(i:Nat)(v:Value)(u:World):Prop:=Gh P ops i v/\Φ i v u
theorem lT{P:Program}{t:TypeId}{J J':Value->Prop}(h:gX P t J)(hj:∀v,J v->J' v):gX P t J':=by
 have l1:∀ {l:Lf} {J J':Value->Prop},l.ex J->(∀v,J v->J' v)->l.ex J':=by
  intro l J J' h hj
  cases l <;> simp only[Lf.ex]at h ⊢
  all_goals first
   | (obtain⟨a,n,c,h⟩:=h;exact⟨_,_,_,hj _ h⟩)
   | (obtain⟨a,h⟩:=h;exact⟨_,hj _ h⟩)
 have l2:∀(ls:List Lf) (J J':List Value->Prop),exs ls J->(∀v,J v->J' v)->exs ls J':=by
  intro ls
  induction ls with
  |nil=>intro J J' h hj;exact hj _ h
  |cons l ls ih=>intro J J' h hj;exact l1 h λv hv=>ih _ _ hv λvs=>hj _
 have l3:∀(ts:List TypeId) (J J':List Value->Prop),shapes P ts J->(∀v,J v->J' v)->shapes P ts J':=by
  intro ts
  induction ts with
  |nil=>intro J J' h hj;exact hj _ h
  |cons t ts ih=>
   intro J J' h hj;unfold shapes at h ⊢;split at h
   .exact h.elim
   split at h
   .exact l2 _ _ _ h λvs hv=>ih _ _ hv λws=>hj _
   .split at h
    .exact l1 h λvs hv=>ih _ _ hv λws=>hj _
    .exact h.elim
 unfold gX at h ⊢;split at h
 .exact h.elim
 .exact l3 _ _ _ h λvs=>hj _
 .refine l3 _ _ _ h λvs hv=>?_;split at hv
  .exact hj _ hv
  .exact hv.elim
theorem oV{w u:World}{n d:Nat}(h:Below n w u):Below n w (dr u d):=⟨h.os,h.tape,h.output,h.size,h.block⟩
theorem Fz{P:Program}{ops:Array Oper}{k:Nat}{o:Oper}{c:Call}{Φ:Nat->Value->zg6}{f:FuncId}{args:Array Value}{u:World}(ho:ops[k]?=some o)(hc:o.op = .call c)
  (hst:∀v u d,Φ k v u->Φ k v (dr u d))
  (h:E.CallsD P f args u λv u'=>gX P o.type λv'=>v=v'/\Φ k v' u'/\Below u.heap.size u u') :
  Calls P f args u λe u'=>∃v,e = .returned v/\EP P ops Φ k v u'/\LeW u u':=by
 have:=h u.drawn;rw[jO]at this;refine this.mono λe w' ⟨v,u',d',he,hw,hs⟩=>?_;subst he hw;obtain⟨v',rfl,hP,hB⟩:=jf hs;refine⟨v,rfl,⟨?_,hst _ _ _ hP⟩,oV hB⟩;unfold Gh;rw[ho];simp only[hc];exact lT hs λv' h=>h.1
theorem Il{P:Program}{ops:Array Oper}{k:Nat}{o:Oper}{Φ:Nat->Value->zg6}{w0:World}{a:Act}{hy:World->Prop->Prop}{K:Value->Prop}{vals:kV}(hd:P.types.size+Made.depth≠0)
  (ho:ops[k]?=some o) (hst:∀v u d,Φ k v u->Φ k v (dr u d)) (hhy:∀u,(∀j,Anc ops .any j k->∀v,vals j=some v->EP P ops Φ j v u)->∀K,hy u K->K) (h:erN P a.eval o w0 hy (Φ k) K) :
  MO P ops .any (CW w0) LeW (EP P ops Φ) o k vals a/\∀v,(∃u,CW w0 u/\EP P ops Φ k v u)->K v:=by
 have fresh:∀(u:World) (ob:Obj),LeW u (u.alloc ob):=λu ob=>(Below.refl _ _).alloc (zb4 _) ob;obtain⟨dst,op,ty,pos,after,guard⟩:=o;unfold erN at h
 cases op <;> simp only at h <;> first | exact h.elim | skip
 case call c=>
  obtain⟨callee,args,ats⟩:=c;have hall:∀ {K:Value->Prop},(MX P ty λv=>(∃u,Below w0.heap.size w0 u/\Φ k v u)->K v)->∀v,(∃u,CW w0 u/\EP P ops Φ k v u)->K v:=by
   intro K h v ⟨u,hC,hs,hP⟩;unfold Gh at hs;rw[ho]at hs;simp only at hs;obtain⟨v',rfl,hK⟩:=uP hs h;exact hK ⟨u,hC,hP⟩
  cases callee with
  |value fo=>
   simp only at h;split at h
   .rename_i f first captured hf;split at h
    .rename_i hb;refine⟨λu hC hF=>?_,hall h.2⟩;have hcall:=hhy u hF _ (h.1 u hC);have hrun:(execOp a.eval ⟨dst,.call ⟨.value fo,args,ats⟩,ty,pos,after,guard⟩).run P u = .ok (.enter f (first++args.map a.eval++captured)) u:=by
      have hrc:=je hb (first++args.map a.eval++captured) u;unfold execOp resolve;simp only[hf,Deferred.ofValue];rw[run_bind' P _ _ _ _ _ rfl];simp only[invoke,hrc]
     rw[hrun];exact Fz ho rfl hst hcall
    .exact h.elim
   .exact h.elim
  |invoke r name=>
   simp only at h;split at h
   .rename_i t x hv;obtain⟨f,hf,h⟩:=gm h;split at h
    .rename_i hb;refine⟨λu hC hF=>?_,hall h.2⟩;have hcall:=hhy u hF _ (h.1 u hC);obtain⟨n,hn⟩:∃n,P.types.size+Made.depth=n+1:=⟨P.types.size+Made.depth - 1,by omega⟩;have hrun:(execOp a.eval ⟨dst,.call ⟨.invoke r name,args,ats⟩,ty,pos,after,guard⟩).run P u = .ok (.enter f (#[x]++args.map a.eval)) u:=by
      unfold execOp resolve;simp only[hv];rw[run_bind' P _ _ _ _ _ rfl];unfold invoke;obtain⟨xs,hxs⟩:∃xs:List Value,args.map a.eval=xs.toArray:=⟨(args.map a.eval).toList,rfl⟩;rw[hxs];have e0:(#[Value.iface t x]++xs.toArray)[0]?=some (.iface t x):=by simp
      have e1:(#[Value.iface t x]++xs.toArray).extract 1 (#[Value.iface t x]++xs.toArray).size=xs.toArray:=by simp
      simp only[e0,e1];unfold callMethod;simp only;rw[run_bind' P _ _ _ _ _ (rD P _),hn,run_bind' P _ _ _ _ _ (wJ hf n x _)];exact je hb _ _
     rw[hrun];exact Fz ho rfl hst hcall
    .exact h.elim
   .exact h.elim
  |builtin b=>
   cases b <;> simp only at h <;> first | exact h.elim | skip
   refine⟨λu hC hF=>?_,hall h.2⟩;obtain⟨v,u',d',hr,hs⟩:=hhy u hF _ (h.1 u hC) u.drawn;rw[jO]at hr;have hrun:(execOp a.eval ⟨dst,.call ⟨.builtin .append,args,ats⟩,ty,pos,after,guard⟩).run P u = .ok (.value v) (dr u' d'):=by
    rw[show execOp a.eval ⟨dst,.call ⟨.builtin .append,args,ats⟩,ty,pos,after,guard⟩=(do pure (.value (<- Builtin.append_ ats ty (args.map a.eval)))) from rfl,run_bind' P _ _ _ _ _ hr];rfl
   rw[hrun];obtain⟨v',rfl,hP,hB⟩:=jf hs;refine⟨⟨?_,hst _ _ _ hP⟩,oV hB⟩;unfold Gh;rw[ho];exact lT hs λv' h=>h.1
 case load t p=>
  have hnt:∀ts,P.underlying t≠some (.tuple ts):=λts e=>by rw[e]at h;exact h
  have h':(∀u,Below w0.heap.size w0 u->hy u (Lc (a.eval p) λa=>ldT P t u a λv=>Φ k v u))/\MX P t λv=>(∃u,Below w0.heap.size w0 u/\Φ k v u)->K v:=by
   cases hu:P.underlying t with
   |none=>rw[hu]at h;exact h
   |some x=>rw[hu]at h;cases x <;> first | exact h | exact(hnt _ hu).elim
  refine⟨λu hC hF=>?_,λv ⟨u,hC,hs,hP⟩=>?_⟩
  .have hl:=hhy u hF _ (h'.1 u hC);have hl2:vM P a.eval ⟨dst,.load t p,ty,pos,after,guard⟩ u λv=>(gX P t λv'=>v=v')/\Φ k v u:=by
    show Lc (a.eval p) _;unfold Lc at hl ⊢;split at hl
    .obtain⟨q,rfl,hq⟩:=gm hl;exact Qw hnt hq
    .exact hl.elim
   obtain⟨v,hr,hs,hP⟩:=jV (λ_=>rfl) hl2;have hr':=hr (Kp.below (Below.refl _ _));rw[show(execOp a.eval ⟨dst,.load t p,ty,pos,after,guard⟩).run P u = .ok (.value v) u from hr'];refine⟨⟨?_,hP⟩,Below.refl _ _⟩;unfold Gh;rw[ho];exact hs
  .unfold Gh at hs;rw[ho]at hs;simp only at hs;obtain⟨v',rfl,hK⟩:=uP hs h'.2;exact hK ⟨u,hC,hP⟩
 case lookup t m ko ok=>
  refine⟨λu hC hF=>?_,λv ⟨u,hC,hs,hP⟩=>?_⟩
  .obtain⟨v,u',d',hr,hs⟩:=hhy u hF _ (h.1 u hC) u.drawn;rw[jO]at hr;have hrun:(execOp a.eval ⟨dst,.lookup t m ko ok,ty,pos,after,guard⟩).run P u = .ok (.value v) (dr u' d'):=by
    rw[show execOp a.eval ⟨dst,.lookup t m ko ok,ty,pos,after,guard⟩=(do pure (.value (<- Instr.lookup t (a.eval m) (a.eval ko) ok))) from rfl,run_bind' P _ _ _ _ _ hr];rfl
   rw[hrun];obtain⟨v',rfl,hP,hB⟩:=jf hs;refine⟨⟨?_,hst _ _ _ hP⟩,oV hB⟩;unfold Gh;rw[ho];exact lT hs λv' h=>h.1
  .unfold Gh at hs;rw[ho]at hs;simp only at hs;obtain⟨v',rfl,hK⟩:=uP hs h.2;exact hK ⟨u,hC,hP⟩
 case buildSlice t len parts=>
  obtain⟨⟨e,cs⟩,hc,h1,h2⟩:=gm h;refine⟨λu hC hF=>?_,λv ⟨u,hC,hs,hP⟩=>?_⟩
  .have hfact:=hhy u hF _ (h1 u hC);have hrun:(execOp a.eval ⟨dst,.buildSlice t len parts,ty,pos,after,guard⟩).run P u = .ok (.value (.slice (some ⟨u.heap.size,0,none⟩) len len)) (u.alloc (.cells cs e)):=by
    have:=CP hc u u.drawn;rw[jO]at this;show((do pure (.value (<- Instr.buildSlice t len (parts.map λ(i,x)=>(i,a.eval x)))):Sem Next)).run P u=_;rw[run_bind' P _ _ _ _ _ this];rfl
   rw[hrun];exact⟨⟨by unfold Gh;rw[ho];exact⟨_,rfl⟩,hfact⟩,fresh _ _⟩
  .unfold Gh at hs;rw[ho]at hs;obtain⟨p,rfl⟩:=hs;exact h2 p ⟨u,hC,hP⟩
 case makeSlice t lo co=>
  split at h
  case h_2=>exact h.elim
  rename_i e kl l kc c hu hl hc;split at h
  case h_2=>exact h.elim
  rename_i i hi;split at h
  case h_2=>exact h.elim
  rename_i z hz;obtain⟨hb,h1,h2⟩:=qC.1 h;refine⟨λu hC hF=>?_,λv ⟨u,hC,hs,hP⟩=>?_⟩
  .have hfact:=hhy u hF _ (h1 u hC);have hrun:(execOp a.eval ⟨dst,.makeSlice t lo co,ty,pos,after,guard⟩).run P u = .ok (.value (.slice (some ⟨u.heap.size,0,none⟩) l.toNat c.toNat)) (u.alloc (.cells (madeCells z.cells (c.toNat*i.size)) e)):=by
    show((do pure (.value (<- Instr.makeSlice t (a.eval lo) (a.eval co))):Sem Next)).run P u=_;rw[hl,hc,run_bind' P _ _ _ _ _ (run_make u t e i z hu hi hz kl kc l c hb.1 hb.2.1 hb.2.2.1 hb.2.2.2)];rfl
   rw[hrun];exact⟨⟨by unfold Gh;rw[ho];exact⟨_,_,_,rfl⟩,hfact⟩,fresh _ _⟩
  .unfold Gh at hs;rw[ho]at hs;obtain⟨p,x,y,rfl⟩:=hs;exact h2 p x y ⟨u,hC,hP⟩
 case alloc t=>
  unfold Ry at h;obtain⟨cs,hc,h1,h2⟩:=gm h;refine⟨λu hC hF=>?_,λv ⟨u,hC,hs,hP⟩=>?_⟩
  .have hfact:=hhy u hF _ (h1 u hC)
   cases hz:(P.info? t).bind (·.zero) with
   |none=>rw[hz]at hc;cases hc
   |some z=>
    rw[hz]at hc;simp only[Option.map_some,Option.some.injEq]at hc;subst hc;have hrun:(execOp a.eval ⟨dst,.alloc t,ty,pos,after,guard⟩).run P u = .ok (.value (.pointer (some ⟨u.heap.size,0,none⟩))) (u.alloc (.cells z.cells t)):=by
     show((do pure (.value (<- Instr.alloc t true (.tuple #[]))):Sem Next)).run P u=_;unfold Instr.alloc;rw[run_bind' P _ _ _ _ _ (by rw[run_bind' P _ _ _ _ _ (E8 hz _)];rfl)];rfl
    rw[hrun];exact⟨⟨by unfold Gh;rw[ho];exact⟨_,rfl⟩,hfact⟩,fresh _ _⟩
  .unfold Gh at hs;rw[ho]at hs;obtain⟨p,rfl⟩:=hs;exact h2 p ⟨u,hC,hP⟩
 case box t x=>
  refine⟨λu hC hF=>?_,λv ⟨u,hC,hs,hP⟩=>?_⟩
  .have hfact:=hhy u hF _ (h.1 u hC);have hrun:(execOp a.eval ⟨dst,.box t x,ty,pos,after,guard⟩).run P u = .ok (.value (.pointer (some ⟨u.heap.size,0,none⟩))) (u.alloc (.cells (a.eval x).cells t)):=rfl;rw[hrun];exact⟨⟨by unfold Gh;rw[ho];exact⟨_,rfl⟩,hfact⟩,fresh _ _⟩
  .unfold Gh at hs;rw[ho]at hs;obtain⟨p,rfl⟩:=hs;exact h.2 p ⟨u,hC,hP⟩
theorem yD{P:Program}{ops:Array Oper}{w0:World}{Φ:Nat->Value->zg6}{Q:Act->zg6}(hd:P.types.size+Made.depth≠0)(hst:∀i v u d,Φ i v u->Φ i v (dr u d)) :
  ∀(l:List Oper) (k:Nat) (T:List (List Nat)) (done:List Nat) (vals:kV) (a:Act),(∀j,l[j]?=ops[k+j]?)->T.length=k->(∀p j,j∈T.getD p []->j=p\/Anc ops .any j p) ->
  MN P ops w0 Φ Q l k T done vals a->TZ P ops .any (CW w0) LeW (EP P ops Φ) (IJ P ops) Q l k vals a
 | [],_,_,done,vals,a,_,_,_,h=>λu hC hF=>kS (h u hC) λj _ v hv=>(hF j v hv).2
 |o::rest,k,T,done,vals,a,hl,hT,hA,h=>by
  have h0:ops[k]?=some o:=by simpa using(hl 0).symm
  have hl':∀j,rest[j]?=ops[k+1+j]?:=λj=>by have:=hl (j+1);simpa[Nat.add_assoc,Nat.add_comm 1 j] using this
  have hanc:∀j,j∈kR T o->Anc ops .any j k:=by
   intro j hj
   rcases vz hj with ⟨e,he,hb,hm⟩ | hj
   .rcases hA _ _ hm with h | h
    .subst h;exact .base h0 (by simpa using he) hb
    .exact .step h0 (by simpa using he) hb h
   .cases hj
  have hT':(T++[vO P ops k o (kR T o)]).length=k+1:=by simp[hT]
  have hA':∀p j,j∈(T++[vO P ops k o (kR T o)]).getD p []->j=p\/Anc ops .any j p:=by
   intro p j hj
   by_cases hp:p<T.length
   .rw[za8,zb9 hp,<- List.getD_eq_getElem?_getD]at hj;exact hA p j hj
   .rw[za8,zc0 (by omega)]at hj
    by_cases hpk:p=k
    .subst hpk;rw[hT,zf8]at hj;simp only[List.getElem?_cons_zero,Option.getD_some]at hj;unfold vO at hj;split at hj
     .exact .inr (hanc j hj)
     .rcases zl hj with h | h
      .exact .inl h
      .exact .inr (hanc j h)
    .rw[zc3 (by simp;omega)]at hj;cases hj
  have run:∀a:Act,(match IJ P ops o with
    |true=>vM P a.eval o w0 λv=>MN P ops w0 Φ Q rest (k+1) (T++[vO P ops k o (kR T o)]) done vals (a.put o.dst v)
    |false=>erN P a.eval o w0 (λu=>hyps Φ vals u (kR T o)) (Φ k) λv=>MN P ops w0 Φ Q rest (k+1) (T++[vO P ops k o (kR T o)]) (done++[k]) (up vals k v) (a.put o.dst v)) ->
    Gf P ops .any (CW w0) LeW (EP P ops Φ) (IJ P ops) o k (TZ P ops .any (CW w0) LeW (EP P ops Φ) (IJ P ops) Q rest (k+1)) vals a:=by
   intro a h;unfold Gf
   split
   .rename_i hv;rw[hv]at h;obtain⟨v,hr,hK⟩:=jV (λ_=>rfl) h;exact⟨v,λu hC=>hr (Kp.below hC),yD hd hst rest (k+1) _ _ _ _ hl' hT' hA' hK⟩
   .rename_i hv;rw[hv]at h;obtain⟨h1,h2⟩:=Il (ops:=ops) (vals:=vals) hd h0 (hst k) (λu hF K hh=>kS hh λj hj v hv=>(hF j (hanc j hj) v hv).2) h;exact⟨h1,λv ⟨u,hC,hF⟩=>yD hd hst rest (k+1) _ _ _ _ hl' hT' hA' (h2 v ⟨u,hC,hF k v (nG _ _ _)⟩)⟩
  unfold MN at h;unfold TZ;simp only at h;split at h
  .rename_i hg;have hw:Region.wanted o (yielded ops a.tmps)=true:=by unfold Region.wanted;rw[hg]
   rw[if_pos hw];exact run a h
  .rename_i j want hg;obtain⟨r,hr,h⟩:=iO h;have hw:=hr o hg;rw[hw];split at h
   .rename_i hb;rw[if_pos (by simpa using hb)];exact run a h
   .rename_i hb;rw[if_neg (by simpa using hb)];exact yD hd hst rest (k+1) _ _ _ _ hl' hT' hA' h
theorem vw{P:Program}{ops:Array Oper}{w0:World}{Φ:Nat->Value->zg6}{Q:Act->zg6}(hd:P.types.size+Made.depth≠0)(hst:∀i v u d,Φ i v u->Φ i v (dr u d)) :
  ∀(l:List Oper) (k:Nat) (T:List (List Nat)) (done:List Nat) (vals:kV) (a:Act),(∀j,j<l.length->l[j]?=ops[k+j]?)->T.length=k->(∀p j,j∈T.getD p []->j=p\/Anc ops .any j p) ->
  MN P ops w0 Φ Q l k T done vals a->Et P ops .any (CW w0) LeW (EP P ops Φ) (IJ P ops) (λvals a=>∀u,CW w0 u->Facts (EP P ops Φ) vals u->Q a u) l k vals a
 | [],_,_,done,vals,a,_,_,_,h=>λu hC hF=>kS (h u hC) λj _ v hv=>(hF j v hv).2
 |o::rest,k,T,done,vals,a,hl,hT,hA,h=>by
  have h0:ops[k]?=some o:=by simpa using(hl 0 (by simp)).symm
  have hl':∀j,j<rest.length->rest[j]?=ops[k+1+j]?:=λj hj=>by have:=hl (j+1) (by simp;omega);simpa[Nat.add_assoc,Nat.add_comm 1 j] using this
  have hanc:∀j,j∈kR T o->Anc ops .any j k:=by
   intro j hj
   rcases vz hj with ⟨e,he,hb,hm⟩ | hj
   .rcases hA _ _ hm with h | h
    .subst h;exact .base h0 (by simpa using he) hb
    .exact .step h0 (by simpa using he) hb h
   .cases hj
  have hT':(T++[vO P ops k o (kR T o)]).length=k+1:=by simp[hT]
  have hA':∀p j,j∈(T++[vO P ops k o (kR T o)]).getD p []->j=p\/Anc ops .any j p:=by
   intro p j hj
   by_cases hp:p<T.length
   .rw[za8,zb9 hp,<- List.getD_eq_getElem?_getD]at hj;exact hA p j hj
   .rw[za8,zc0 (by omega)]at hj
    by_cases hpk:p=k
    .subst hpk;rw[hT,zf8]at hj;simp only[List.getElem?_cons_zero,Option.getD_some]at hj;unfold vO at hj;split at hj
     .exact .inr (hanc j hj)
     .rcases zl hj with h | h
      .exact .inl h
      .exact .inr (hanc j h)
    .rw[zc3 (by simp;omega)]at hj;cases hj
  have run:∀a:Act,(match IJ P ops o with
    |true=>vM P a.eval o w0 λv=>MN P ops w0 Φ Q rest (k+1) (T++[vO P ops k o (kR T o)]) done vals (a.put o.dst v)
    |false=>erN P a.eval o w0 (λu=>hyps Φ vals u (kR T o)) (Φ k) λv=>MN P ops w0 Φ Q rest (k+1) (T++[vO P ops k o (kR T o)]) (done++[k]) (up vals k v) (a.put o.dst v)) ->
    Gf P ops .any (CW w0) LeW (EP P ops Φ) (IJ P ops) o k (Et P ops .any (CW w0) LeW (EP P ops Φ) (IJ P ops) (λvals a=>∀u,CW w0 u->Facts (EP P ops Φ) vals u->Q a u) rest (k+1)) vals a:=by
   intro a h;unfold Gf
   split
   .rename_i hv;rw[hv]at h;obtain⟨v,hr,hK⟩:=jV (λ_=>rfl) h;exact⟨v,λu hC=>hr (Kp.below hC),vw hd hst rest (k+1) _ _ _ _ hl' hT' hA' hK⟩
   .rename_i hv;rw[hv]at h;obtain⟨h1,h2⟩:=Il (ops:=ops) (vals:=vals) hd h0 (hst k) (λu hF K hh=>kS hh λj hj v hv=>(hF j (hanc j hj) v hv).2) h;exact⟨h1,λv ⟨u,hC,hF⟩=>vw hd hst rest (k+1) _ _ _ _ hl' hT' hA' (h2 v ⟨u,hC,hF k v (nG _ _ _)⟩)⟩
  unfold MN at h;unfold Et;simp only at h;split at h
  .rename_i hg;have hw:Region.wanted o (yielded ops a.tmps)=true:=by unfold Region.wanted;rw[hg]
   rw[if_pos hw];exact run a h
  .rename_i j want hg;obtain⟨r,hr,h⟩:=iO h;have hw:=hr o hg;rw[hw];split at h
   .rename_i hb;rw[if_pos (by simpa using hb)];exact run a h
   .rename_i hb;rw[if_neg (by simpa using hb)];exact vw hd hst rest (k+1) _ _ _ _ hl' hT' hA' h
def pX:List Oper->Nat
 | []=>0
 |o::l=>match o.op with
  | .store .. => 0
  | .mapEntry .. => 0
  | .mapUpdate .. => 0
  | .entryStore .. => 0
  | .call c=>match c.callee with
   | .builtin .append=>0
   |_=>pX l+1
  |_=>pX l+1
def WG(P:Program)(ops:Array Oper)(Q:Act->zg6)(a:Act)(w0:World):Prop :=
 ∃Φ:Nat->Value->World->Prop,(∀i v u u',Φ i v u->Below u.heap.size u u'->Φ i v u') /\
  MN P ops w0 Φ (λa u=>G6 P ops Q (ops.toList.drop (pX ops.toList)) a u) (ops.toList.take (pX ops.toList)) 0 [] [] (λ_=>none) a
theorem Dv{P:Program}{ops:Array Oper}{Q:Act->zg6}{Q':Exit->Act->zg6}{a:Act}{w:World}(hd:P.types.size+Made.depth≠0)
  (hok:Region.lexTailB .any ops (pX ops.toList)=true) (hq:∀a u d,Q a u->Q' .normal a (dr u d)) (h:WG P ops Q a w) (d:Nat):wpAny P .any ops Q' ops.size (Array.replicate ops.size false) a { dr w d with drawn:=(dr w d).drawn+1 }:=by
 obtain⟨Φ,hs,h⟩:=h;have L:jd (CW w) LeW (EP P ops Φ):=⟨λu u' hC hL=>hC.trans (hL.mono hC.size),λi v u u' _ hP hL=>⟨hP.1,hs _ _ _ _ hP.2 hL⟩⟩;refine qQ (isV:=IJ P ops) (pX ops.toList) L hok ⟨rfl,rfl,rfl,zb4 _,λ_ _=>rfl⟩ ?_;have h2:=vw (ops:=ops) hd (λi v u d hP=>hs _ _ _ _ hP (oV (Below.refl _ _))) (ops.toList.take (pX ops.toList)) 0 [] [] (λ_=>none) a (λj hj=>by
  rw[zd6,if_pos (by simp at hj;omega)];simp) rfl (λp j hj=>by simp at hj) h
 have mono:∀(l:List Oper) (k:Nat) (vals:kV) (a:Act) {G G':kV->Act->Prop},(∀vals a,G vals a->G' vals a)->Et P ops .any (CW w) LeW (EP P ops Φ) (IJ P ops) G l k vals a->Et P ops .any (CW w) LeW (EP P ops Φ) (IJ P ops) G' l k vals a:=by
  intro l
  induction l with
  |nil=>intro k vals a G G' hG hh;exact hG _ _ hh
  |cons o l ih=>
   intro k vals a G G' hG hh;unfold Et at hh ⊢
   split
   .rename_i hw;rw[if_pos hw]at hh;unfold Gf at hh ⊢
    split
    .rename_i hv;rw[hv]at hh;obtain⟨v,h1,h2⟩:=hh;exact⟨v,h1,ih _ _ _ hG h2⟩
    .rename_i hv;rw[hv]at hh;exact⟨hh.1,λv hp=>ih _ _ _ hG (hh.2 v hp)⟩
   .rename_i hw;rw[if_neg hw]at hh;exact ih _ _ _ hG hh
 refine mono _ _ _ _ (λvals a hG u hC hF=>?_) h2;have:=lZ hd hq _ _ _ (hG u hC hF) u.drawn
 rwa [jO]at this
theorem Wy{P:Program}{id:Nat}{ops:Array Oper}{Q:Act->zg6}{Q':Exit->Act->zg6}{a:Act}{w:World}(hm:P.follows .mixedOrders=true)(hd:P.types.size+Made.depth≠0)
  (hok:Region.lexTailB .any ops (pX ops.toList)=true) (hq:∀a u d,Q a u->Q' .normal a (dr u d)) (h:WG P ops Q a w) (d:Nat):(Code.region id ops true).wp P Q' a (dr w d) :=
 wp_region_any hm (Dv hd hok hq h d)
def a0K(P:Program)(ops:Array Oper)(Q:Act->zg6)(a:Act)(w0:World):Prop :=
 ∃Φ:Nat->Value->World->Prop,(∀i v u u',Φ i v u->Below u.heap.size u u'->Φ i v u')/\MN P ops w0 Φ Q ops.toList 0 [] [] (λ_=>none) a
theorem Wj{P:Program}{id:Nat}{ops:Array Oper}{Q:Act->zg6}{Q':Exit->Act->zg6}{a:Act}{w:World}(hm:P.follows .mixedOrders=true)(hd:P.types.size+Made.depth≠0)
  (hok:Region.lexB .any ops=true) (hq:∀a u d,Q a u->Q' .normal a (dr u d)) (h:a0K P ops Q a w) (d:Nat):(Code.region id ops true).wp P Q' a (dr w d):=by
 obtain⟨Φ,hs,h⟩:=h;have L:jd (CW w) LeW (EP P ops Φ):=⟨λu u' hC hL=>hC.trans (hL.mono hC.size),λi v u u' _ hP hL=>⟨hP.1,hs _ _ _ _ hP.2 hL⟩⟩;refine DV (isV:=IJ P ops) (Q:=Q) L hm hok ⟨rfl,rfl,rfl,zb4 _,λ_ _=>rfl⟩ (λa u _ hQ=>?_) (yD hd (λi v u d hP=>hs _ _ _ _ hP (oV (Below.refl _ _))) _ _ _ _ _ _ (by simp) rfl (λp j hj=>by simp at hj) h);have:=hq _ _ u.drawn hQ
 rwa [jO]at this
def Lf.a0V:Lf->Bool
 | .bool=>true
 | .int _=>true
 | .float _=>true
 | .string=>true
 |_=>false
def Vt(P:Program):List Oper->Bool
 | []=>true
 |o::l=>match isVal P o with
  |true=>Vt P l
  |false=>match o.op with
   | .call c=>match c.callee with
    | .builtin _=>false
    |_=>match (lvs P 8 o.type).all Lf.a0V with
     |true=>Vt P l
     |false=>false
   |_=>false
def CK(wm u:World):Prop:=∀a v,wm.cell? a=some v->u.cell? a=some v
def oP(o:Oper)(k:Nat):Bool:=o.after.toList.any λe=>Region.binds .any e&&Nat.beq e.on k
def MR(P:Program):List Oper->Nat->Bool
 | [],_=>false
 |o::l,k=>match isVal P o with
  |true=>MR P l k
  |false=>match oP o k with
   |true=>MR P l k
   |false=>true
def Ic:List Oper->Nat->Bool
 | [],_=>true
 |o::l,k=>match oP o k with
  |true=>Ic l k
  |false=>false
def Ja(ops:Array Oper)(j:Nat):List Nat:=match ops[j]? with
 |some o=>(o.after.toList.filter λe=>Region.binds .any e).map λe=>e.on
 |none=>[]
def WX(ops:Array Oper):Nat->List Nat->List Nat
 |0,m=>m
 |j+1,m=>match m.any (Nat.beq j) with
  |true=>WX ops j (Ja ops j++m)
  |false=>WX ops j m
def allIn(m:List Nat):Nat->Bool
 |0=>true
 |j+1=>m.any (Nat.beq j)&&allIn m j
def F8(ops:Array Oper)(k:Nat):Bool:=allIn (WX ops (k+1) [k]) k
def ZF(ops:Array Oper):List Oper->Nat->Bool
 | [],k=>F8 ops k
 |_::_,_=>false
def MI(P:Program)(ops:Array Oper)(wm:World)(Q:Act->zg6):List Oper->Nat->Act->World->Prop
 | [],_,a,w=>Q a w
 |o::rest,k,a,w=>
  (λ(run:Act->Prop)=>match o.guard with
   |none=>run a
   |some (j,want)=>xA ops a j want run (λa=>MI P ops wm Q rest (k+1) (a.put o.dst undef) w))
  (λa=>match isVal P o with
   |true=>match MR P rest k with
    |false=>vM P a.eval o w λv=>MI P ops wm Q rest (k+1) (a.put o.dst v) w
    |true=>vM P a.eval o wm λv=>MI P ops wm Q rest (k+1) (a.put o.dst v) w
   |false=>match ZF ops rest k with
    |true=>KR P a.eval o (λv u=>MI P ops wm Q rest (k+1) (a.put o.dst v) u) w
    |false=>match Ic rest k with
    |true=>KR P a.eval o (λv u=>CK wm u/\MI P ops wm Q rest (k+1) (a.put o.dst v) u) w
    |false=>False)
def a0D(P:Program)(ops:Array Oper)(Q:Act->zg6)(a:Act)(w:World):Prop :=
 ∃wm,CK wm w/\MI P ops wm Q ops.toList 0 a w
section
variable{P:Program}{ops:Array Oper}{wm:World}
def Tu(P:Program)(s:Sem Next)(w:World)(K:Value->zg6):Prop :=
 (∃v u,s.run P w = .ok (.value v) u/\K v u)\/(∃u,s.run P w = .ok .skip u/\K undef u) \/
 (∃f args,s.run P w = .ok (.enter f args) w/\Calls P f args w λe u=>∃v,e = .returned v/\K v u)
theorem Tu.mono{s:Sem Next}{w:World}{K K':Value->zg6}(h:Tu P s w K)(hk:∀v u,K v u->K' v u):Tu P s w K':=by
 rcases h with ⟨v,u,h1,h2⟩ | ⟨u,h1,h2⟩ | ⟨f,args,h1,h2⟩
 .exact .inl ⟨v,u,h1,hk _ _ h2⟩
 .exact .inr (.inl ⟨u,h1,hk _ _ h2⟩)
 .exact .inr (.inr ⟨f,args,h1,h2.mono λe u ⟨v,he,hK⟩=>⟨v,he,hk _ _ hK⟩⟩)
theorem Tu.wp{o:Oper}{a:Act}{w:World}{K:Act->zg6}{Q:Exit->Act->zg6}(h:Tu P (execOp a.eval o) w λv u=>K (a.put o.dst v) u):o.wp P a w K Q:=by
 unfold Oper.wp
 rcases h with ⟨v,u,h1,h2⟩ | ⟨u,h1,h2⟩ | ⟨f,args,h1,h2⟩
 .rw[h1];exact h2
 .rw[h1];exact h2
 .rw[h1];exact h2.mono λe u ⟨v,he,hK⟩=>by subst he;exact hK
theorem Tu.of{s:Sem Next}{w:World}{K:Value->zg6}(h:OpD P s w K)(d:Nat):Tu P s (dr w d) λv u=>∃u' d',u=dr u' d'/\K v u':=by
 rcases h with h | h | ⟨f,args,hr,hc⟩
 .obtain⟨v,u,d',hr,hK⟩:=h d;exact .inl ⟨v,_,hr,u,d',rfl,hK⟩
 .obtain⟨u,d',hr,hK⟩:=h d;exact .inr (.inl ⟨_,hr,u,d',rfl,hK⟩)
 .exact .inr (.inr ⟨f,args,hr d,(hc d).mono λe w' ⟨v,u,d',he,hw,hK⟩=>⟨v,he,u,d',hw,hK⟩⟩)
def X4(P:Program)(ops:Array Oper)(i:Nat)(K:Act->zg6)(a:Act)(w:World):Prop:=match ops[i]? with
 |none=>K a w
 |some o=>if Region.wanted o (yielded ops a.tmps) then
   (if isVal P o=true then∃v,(execOp a.eval o).run P w = .ok (.value v) w/\K (a.put o.dst v) w else Tu P (execOp a.eval o) w λv u=>K (a.put o.dst v) u)
  else K (a.put o.dst undef) w
def NC(K:Option Nat)(listed:Array Bool):Prop:=∀k,K=some k->listed.getD k true=false
def KH(P:Program)(ops:Array Oper)(wm:World)(K:Option Nat)(Q:Act->zg6):Nat->Array Bool->Act->World->Prop
 |0,listed,a,w=>(NC K listed->CK wm w)/\Region.ready .any ops listed=[]/\Q a w
 |f+1,listed,a,w=>(NC K listed->CK wm w)/\(Region.ready .any ops listed=[]->Q a w)/\∀i∈Region.ready .any ops listed,X4 P ops i (KH P ops wm K Q f (listed.setIfInBounds i true)) a w
variable{K:Option Nat}
theorem KH.ck{Q:Act->zg6}{f:Nat}{listed:Array Bool}{a:Act}{w:World}(h:KH P ops wm K Q f listed a w):NC K listed->CK wm w:=by
 cases f with
 |zero=>exact h.1
 |succ f=>exact h.1
theorem lV{Q:Act->zg6}{Q':Exit->Act->zg6}(hq:∀a w,Q a w->Q' .normal a w):∀(f:Nat) (listed:Array Bool) (a:Act) (w:World),KH P ops wm K Q f listed a w->wpAny P .any ops Q' f listed a w
 |0,_,_,_,h=>⟨h.2.1,hq _ _ h.2.2⟩
 |f+1,listed,a,w,h=>by
  refine⟨λh0=>hq _ _ (h.2.1 h0),λi hi=>?_⟩;have hh:=h.2.2 i hi;unfold X4 at hh;unfold wpOp
  split
  .rename_i ho;rw[ho]at hh;exact lV hq f _ _ _ hh
  .rename_i o ho;rw[ho]at hh;simp only at hh
   split
   .rename_i hw;rw[if_pos hw]at hh;refine .inl ?_;split at hh
    .obtain⟨v,hr,hK⟩:=hh;unfold Oper.wp;rw[hr];exact lV hq f _ _ _ hK
    .exact(hh.mono λv u hK=>lV hq f _ _ _ hK).wp
   .rename_i hw;rw[if_neg hw]at hh;exact lV hq f _ _ _ hh
def YD(P:Program)(ops:Array Oper)(o:Oper)(v:Value)(a:Act)(D:zg6):Prop :=
 (isVal P o=true/\Region.wanted o (yielded ops a.tmps)=true/\∀u,D u->(execOp a.eval o).run P u = .ok (.value v) u) \/
 (Region.wanted o (yielded ops a.tmps)=false/\v=undef)
theorem YD.op{i:Nat}{o:Oper}{v:Value}{a:Act}{D:zg6}{K:Act->zg6}{w:World}(hi:ops[i]?=some o)(hy:YD P ops o v a D)(hD:D w)(h:K (a.put o.dst v) w):X4 P ops i K a w:=by
 unfold X4;rw[hi];simp only
 rcases hy with ⟨h1,h2,h3⟩ | ⟨h2,rfl⟩
 .rw[if_pos h2,if_pos h1];exact⟨v,h3 _ hD,h⟩
 .rw[h2];exact h
theorem YD.of_same{o:Oper}{v:Value}{a a':Act}{D:zg6}(hy:YD P ops o v a D)(he:execOp a'.eval o=execOp a.eval o)(hw:Region.wanted o (yielded ops a'.tmps)=Region.wanted o (yielded ops a.tmps)):YD P ops o v a' D:=by
 unfold YD at *;rw[he,hw];exact hy
theorem Kt{Q:Act->zg6}{i:Nat}{oi:Oper}{v:Value}(hi:ops[i]?=some oi)(hsel:∀(j:Nat) (o:Oper) cs b,ops[j]?=some o->o.op ≠ .select cs b){D:zg6}{late:Bool}(hlate:late=true->D=CK wm)(hK:∀k,K=some k->i≠k/\∀listed,Dn ops .any listed->k∈Region.ready .any ops listed->listed.getD i true=true) :
  ∀(fuel:Nat) (listed:Array Bool) (a:Act) (w:World),
   (∀j oj,ops[j]?=some oj->j≠i->listed.getD j true=false->(∀e∈oj.after,Region.binds .any e=true->e.on≠i)->oi.apart ops oj=true/\(late=false->isVal P oj=true)) ->
   Dn ops .any listed->NC K listed->i∈Region.ready .any ops listed->D w->YD P ops oi v a D ->
   KH P ops wm K Q fuel (listed.setIfInBounds i true) (a.put oi.dst v) w->KH P ops wm K Q (fuel+1) listed a w:=by
 intro fuel
 induction fuel with
 |zero=>
  intro listed a w _ hdn hnc hr hD hy H;have nci:NC K (listed.setIfInBounds i true):=λk hk=>by rw[getD_set_ne true (hK k hk).1];exact hnc k hk
  refine⟨λ_=>H.ck nci,λh=>(by rw[h]at hr;cases hr),λj hj=>?_⟩
  by_cases hji:j=i
  .subst hji;exact hy.op hi hD H
  .have:=ready_mono hj hji;rw[H.2.1]at this;cases this
 |succ fuel ih=>
  intro listed a w hfree hdn hnc hr hD hy H;have nci:NC K (listed.setIfInBounds i true):=λk hk=>by rw[getD_set_ne true (hK k hk).1];exact hnc k hk
  refine⟨λ_=>H.ck nci,λh=>(by rw[h]at hr;cases hr),λj hj=>?_⟩
  by_cases hji:j=i
  .subst hji;exact hy.op hi hD H
  .have h1:=H.2.2 j (ready_mono hj hji);obtain⟨hjun,oj,hoj,hall⟩:=mem_ready.1 hj;have hnot:∀e∈oj.after,Region.binds .any e=true->e.on≠i:=λe he hb heq=>by
    have h1:=hall e he hb;have h0:=(mem_ready.1 hr).1;rw[heq]at h1
    rcases Nat.lt_or_ge i listed.size with h' | h'
    .simp[h']at h0 h1;rw[h0]at h1;cases h1
    .simp[Array.getElem?_eq_none h']at h1
   obtain⟨hap,hjv⟩:=hfree j oj hoj hji hjun hnot;obtain⟨g1,g2,g3⟩:=Oper.apart_spec hap;have keep:∀u,YD P ops oi v (a.put oj.dst u) D:=λu=>hy.of_same (execOp_put oi (λcs b=>hsel i oi cs b hi) a oj.dst u g3) (wanted_put oi a oj.dst u g3);have hfree':∀k ok,ops[k]?=some ok->k≠i->(listed.setIfInBounds j true).getD k true=false ->
     (∀e∈ok.after,Region.binds .any e=true->e.on≠i)->oi.apart ops ok=true/\(late=false->isVal P ok=true):=λk ok hk hki hun hno=>by
    refine hfree k ok hk hki ?_ hno
    by_cases hjk:j=k
    .subst hjk;exact hjun
    .rw[getD_set_ne true hjk]at hun;exact hun
   have hjk:∀k,K=some k->j≠k:=λk hk hjk=>by
    subst hjk;have h1:=(hK j hk).2 listed hdn (hj);have h0:=(mem_ready.1 hr).1;rw[h1]at h0;cases h0
   have hnc1:NC K (listed.setIfInBounds j true):=λk hk=>by rw[getD_set_ne true (hjk k hk)];exact hnc k hk
   have hnc2:NC K ((listed.setIfInBounds i true).setIfInBounds j true):=λk hk=>by rw[getD_set_ne true (hjk k hk),getD_set_ne true (hK k hk).1];exact hnc k hk
   have hdn1:=Bh hdn (hj);have go:∀u w',D w'->KH P ops wm K Q fuel ((listed.setIfInBounds i true).setIfInBounds j true) ((a.put oi.dst v).put oj.dst u) w'->KH P ops wm K Q (fuel+1) (listed.setIfInBounds j true) (a.put oj.dst u) w':=by
    intro u w' hD' h3;refine ih (listed.setIfInBounds j true) _ _ hfree' hdn1 hnc1 (ready_mono hr (Ne.symm hji)) hD' (keep u) ?_;rw[Array.setIfInBounds_comm _ _ hji,<- Act.put_comm a v u g2];exact h3
   unfold X4 at h1 ⊢;rw[hoj]at h1 ⊢;simp only at h1 ⊢;rw[wanted_put oj a oi.dst v g1,execOp_put oj (λcs b=>hsel j oj cs b hoj) a oi.dst v g1]at h1
   split
   .rename_i hw;rw[if_pos hw]at h1
    split
    .rename_i hv;rw[if_pos hv]at h1;obtain⟨u,hu,hn⟩:=h1;exact⟨u,hu,go u w hD hn⟩
    .rename_i hv;rw[if_neg hv]at h1;have hl:late=true:=by
      cases hl:late with
      |true=>rfl
      |false=>exact absurd (hjv hl) hv
     exact h1.mono λu w' hn=>go u w' (by rw[hlate hl];exact hn.ck hnc2) hn
   .rename_i hw;rw[if_neg hw]at h1;exact go _ w hD h1
theorem qy{o:Oper}{k:Nat}(h:oP o k=true):∃e∈o.after,Region.binds .any e=true/\e.on=k:=by
 unfold oP at h;obtain⟨e,he,hb⟩:=List.any_eq_true.1 h;rw[ze5]at hb;exact⟨e,by simpa using he,hb.1,Nat.eq_of_beq_eq_true hb.2⟩
theorem wZ:∀ {l:List Oper} {k:Nat},MR P l k=false->∀o∈l,isVal P o=true\/oP o k=true
 | [],_,_,o,ho=>by cases ho
 |x::l,k,h,o,ho=>by
  unfold MR at h
  rcases zb3.1 ho with e | ho
  .subst e;split at h
   .rename_i hv;exact .inl hv
   .split at h
    .rename_i hw;exact .inr hw
    .cases h
  .split at h
   .exact wZ h o ho
   .split at h
    .exact wZ h o ho
    .cases h
theorem AY:∀ {l:List Oper} {k:Nat},Ic l k=true->∀o∈l,oP o k=true
 | [],_,_,o,ho=>by cases ho
 |x::l,k,h,o,ho=>by
  unfold Ic at h;split at h
  .rename_i hw
   rcases zb3.1 ho with e | ho
   .subst e;exact hw
   .exact AY h o ho
  .cases h
theorem PT{m:List Nat}{i:Nat}:m.any (Nat.beq i)=true↔i∈m:=by
 rw[List.any_eq_true];exact⟨λ⟨x,hx,h⟩=>by rw[Nat.eq_of_beq_eq_true h];exact hx,λh=>⟨i,h,Nat.beq_refl i⟩⟩
theorem yV{S:Nat->Prop}(hc:∀j i,S j->i∈Ja ops j->S i):∀(n:Nat) (m:List Nat),(∀i∈m,S i)->∀i∈WX ops n m,S i
 |0,m,hm,i,hi=>hm i hi
 |n+1,m,hm,i,hi=>by
  unfold WX at hi;split at hi
  .rename_i h;refine yV hc n _ (λx hx=>?_) i hi
   rcases zb2.1 hx with h' | h'
   .exact hc n x (hm n (PT.1 h)) h'
   .exact hm x h'
  .exact yV hc n m hm i hi
theorem BB{m:List Nat}:∀ {k:Nat},allIn m k=true->∀i,i<k->i∈m
 |0,_,i,hi=>absurd hi (Nat.not_lt_zero _)
 |k+1,h,i,hi=>by
  unfold allIn at h;rw[ze5]at h
  by_cases hik:i=k
  .subst hik;exact PT.1 h.1
  .exact BB h.2 i (by omega)
theorem Gu{j i:Nat}(h:i∈Ja ops j):∃o,ops[j]?=some o/\∃e∈o.after,Region.binds .any e=true/\e.on=i:=by
 unfold Ja at h;split at h
 .rename_i o ho;obtain⟨e,he,rfl⟩:=zd4.1 h;obtain⟨h1,h2⟩:=ze3.1 he;exact⟨o,ho,e,by simpa using h1,h2,rfl⟩
 .cases h
theorem Gw{k:Nat}(h:F8 ops k=true){i:Nat}(hi:i<k){listed:Array Bool}(hd:Dn ops .any listed)(hr:k∈Region.ready .any ops listed):listed.getD i true=true:=by
 obtain⟨_,o,ho,hall⟩:=mem_ready.1 hr;have key:∀x∈WX ops (k+1) [k],x=k\/listed.getD x false=true:=by
  refine yV (S:=λx=>x=k\/listed.getD x false=true) (λj x hj hx=>?_) (k+1) [k] (λx hx => .inl (by simpa using hx));obtain⟨o',ho',e,he,hb,rfl⟩:=Gu hx
  rcases hj with rfl | hj
  .rw[ho]at ho'
   cases ho'
   exact .inr (hall e he hb)
  .exact .inr (hd j o' ho' hj e he hb)
 rcases key i (BB h i hi) with h' | h'
 .omega
 .rcases Nat.lt_or_ge i listed.size with h2 | h2
  .simp[h2]at h' ⊢;exact h'
  .simp[Array.getElem?_eq_none h2]at h'
def kOf(ops:Array Oper):Option Nat:=match ops.size with
 |0=>none
 |n+1=>match F8 ops n with
  |true=>some n
  |false=>none
theorem Jf{k:Nat}(h:kOf ops=some k):ops.size=k+1/\F8 ops k=true:=by
 unfold kOf at h;split at h
 .cases h
 .rename_i n hn;split at h
  .rename_i ha;cases h;exact⟨hn,ha⟩
  .cases h
theorem yH{Q Q2:Act->zg6}(hd:P.types.size+Made.depth≠0)(hsel:Region.noSelect ops=true)(hq:∀a u d,Q a u->Q2 a (dr u d)) :
  ∀(l:List Oper) (k:Nat) (listed:Array Bool) (a:Act) (w:World),(∀j,l[j]?=ops[k+j]?)->(∀j,listed.getD j true=false->k<=j)->(∀j,k<=j->j<ops.size->listed.getD j true=false)->Dn ops .any listed->Region.lexFrom .any ops l.length k listed=true->(NC (kOf ops) listed->CK wm w)->MI P ops wm Q l k a w ->
  ∀d,KH P ops wm (kOf ops) Q2 l.length listed a (dr w d)
 | [],_,_,_,_,_,_,_,_,hB,hC,h,d=>⟨hC,by simpa[Region.lexFrom] using hB,hq _ _ _ h⟩
 |o::l,k,listed,a,w,hl,hlist,hun',hdn,hB,hC,h,d=>by
  have h0:ops[k]?=some o:=by simpa using(hl 0).symm
  have hl':∀j,l[j]?=ops[k+1+j]?:=λj=>by have:=hl (j+1);simpa[Nat.add_assoc,Nat.add_comm 1 j] using this
  have hsz:ops.size=k+1+l.length:=by
   have h1:=hl' l.length;rw[zc3 (zb4 _)]at h1;have h2:ops.size<=k+1+l.length:=Array.getElem?_eq_none_iff.1 h1.symm;have hk:=(zc4.1 h0).1
   rcases Nat.eq_zero_or_pos l.length with h3 | h3
   .omega
   .have h4:=hl' (l.length - 1);rw[za2 (by omega)]at h4;have:=(zc4.1 h4.symm).1;omega
  simp only[zc5,Region.lexFrom,ze5]at hB;obtain⟨⟨hr,hf⟩,hB'⟩:=hB;have hr':k∈Region.ready .any ops listed:=by simpa using hr
  have hks:k<listed.size:=by
   have:=(mem_ready.1 hr').1
   rcases Nat.lt_or_ge k listed.size with h' | h'
   .exact h'
   .simp[Array.getElem?_eq_none h']at this
  have hnc:NC (kOf ops) listed:=λq hq=>by
   obtain⟨q1,_⟩:=Jf hq;exact hun' q (by omega) (by omega)
  have hCk:=hC hnc;have hlist':∀j,(listed.setIfInBounds k true).getD j true=false->k+1<=j:=by
   intro j hj
   by_cases hjk:k=j
   .subst hjk;rw[ze2,zf0 hks]at hj;cases hj
   .rw[getD_set_ne true hjk]at hj;have:=hlist j hj;omega
  have hun'':∀j,k+1<=j->j<ops.size->(listed.setIfInBounds k true).getD j true=false:=λj h1 h2=>by
   rw[getD_set_ne true (by omega)];exact hun' j (by omega) h2
  have hdn':=Bh hdn hr';have behind:∀(j:Nat) (oj:Oper),ops[j]?=some oj->j≠k->listed.getD j true=false->oj∈l:=by
   intro j oj hj hne hun;have:=hlist j hun;have e:=hl' (j - (k+1));rw[show k+1+(j - (k+1))=j by omega,hj]at e;exact za0 e
  have skip:∀(late:Bool) (D:zg6) (v:Value) (a:Act),(late=true->D=CK wm)->(late=false->∀oj∈l,isVal P oj=true\/oP oj k=true)->D (dr w d)->YD P ops o v a D->MI P ops wm Q l (k+1) (a.put o.dst v) w ->
    KH P ops wm (kOf ops) Q2 (l.length+1) listed a (dr w d):=by
   intro late D v a h1 h2 h3 h4 h5;have rest:=yH hd hsel hq l (k+1) _ _ _ hl' hlist' hun'' hdn' hB' (λ_=>hCk) h5 d
   cases hle:l with
   |nil=>
    rw[hle]at rest;refine⟨hC,λhh=>(by rw[hh]at hr';cases hr'),λi hi=>?_⟩;obtain⟨hui,oi,hoi,_⟩:=mem_ready.1 hi;have h6:=hlist i hui;have h7:=(zc4.1 hoi).1;rw[hle]at hsz;simp only[zc6]at hsz;obtain rfl:i=k:=by omega
    exact h4.op h0 h3 rest
   |cons o2 l2=>
    rw[<- hle];refine Kt h0 (Region.noSelect_spec hsel) h1 (λq hq=>?_) l.length listed a (dr w d) (λj oj hj hne hun hno=>⟨Region.free_spec h0 hf j oj hj hne hun hno,λhlt=>?_⟩) hdn hnc hr' h3 h4 rest
    .obtain⟨q1,q2⟩:=Jf hq;rw[hle]at hsz;simp only[zc5]at hsz;exact⟨by omega,λL hL hqL=>Gw q2 (by omega) hL hqL⟩
    .rcases h2 hlt oj (behind j oj hj hne hun) with h | h
     .exact h
     .obtain⟨e,he,hb,hon⟩:=qy h;exact absurd hon (hno e he hb)
  have eff:∀(a:Act) (K:Value->zg6),isVal P o=false->Region.wanted o (yielded ops a.tmps)=true->Ic l k=true->KR P a.eval o K w->(∀v u',K v u'->∀d',KH P ops wm (kOf ops) Q2 l.length (listed.setIfInBounds k true) (a.put o.dst v) (dr u' d'))->KH P ops wm (kOf ops) Q2 (l.length+1) listed a (dr w d):=by
   intro a K hv hw hs heff hK;refine⟨hC,λh0=>(by rw[h0]at hr';cases hr'),λi hi=>?_⟩;have hik:i=k:=by
    by_cases hne:i=k
    .exact hne
    .exfalso;obtain⟨hun,oi,hoi,hall⟩:=mem_ready.1 hi;obtain⟨e,he,hb,hon⟩:=qy (AY hs oi (behind i oi hoi hne hun));have h1:=hall e he hb;rw[hon]at h1;have h2:=(mem_ready.1 hr').1;simp[hks]at h1 h2;rw[h1]at h2;cases h2
   subst hik;unfold X4;rw[h0];simp only;rw[if_pos hw,if_neg (by rw[hv];simp)];refine(Tu.of (rC hd heff) d).mono ?_;rintro v u ⟨u',d',rfl,hh⟩;exact hK v u' hh d'
  have run:∀a:Act,Region.wanted o (yielded ops a.tmps)=true->(match isVal P o with
   |true=>match MR P l k with
    |false=>vM P a.eval o w λv=>MI P ops wm Q l (k+1) (a.put o.dst v) w
    |true=>vM P a.eval o wm λv=>MI P ops wm Q l (k+1) (a.put o.dst v) w
   |false=>match ZF ops l k with
    |true=>KR P a.eval o (λv u=>MI P ops wm Q l (k+1) (a.put o.dst v) u) w
    |false=>match Ic l k with
    |true=>KR P a.eval o (λv u=>CK wm u/\MI P ops wm Q l (k+1) (a.put o.dst v) u) w
    |false=>False)->KH P ops wm (kOf ops) Q2 (l.length+1) listed a (dr w d):=by
   intro a hw h;split at h
   .rename_i hv;split at h
    .rename_i hlt;obtain⟨v,hr,hK⟩:=jV (λ_=>rfl) h;exact skip false (λu=>∃d,u=dr w d) v a (λe=>by cases e) (λ_ oj hoj=>wZ hlt oj hoj) ⟨d,rfl⟩ (.inl ⟨hv,hw,λu ⟨d',hu⟩=>by subst hu;exact hr (Kp.dr w d')⟩) hK
    .obtain⟨v,hr,hK⟩:=jV (λ_=>rfl) h;exact skip true (CK wm) v a (λ_=>rfl) (λe=>by cases e) hCk (.inl ⟨hv,hw,λu hu=>hr ⟨u,hu⟩⟩) hK
   .rename_i hv;split at h
    .rename_i he;have hle:l=[]/\F8 ops k=true:=by
      cases l with
      |nil=>exact⟨rfl,he⟩
      |cons x y=>cases he
     refine eff a _ hv hw (by rw[hle.1];rfl) h λv u' hK d'=>yH hd hsel hq l (k+1) _ _ _ hl' hlist' hun'' hdn' hB' (λhn=>?_) hK d';exfalso;have hkk:kOf ops=some k:=by
      unfold kOf;rw[hsz,hle.1];simp only[zc6,zd2];rw[hle.2]
     have:=hn k hkk;rw[ze2,zf0 hks]at this;cases this
    split at h
    .rename_i hs;exact eff a _ hv hw hs h λv u' hK d'=>yH hd hsel hq l (k+1) _ _ _ hl' hlist' hun'' hdn' hB' (λ_=>hK.1) hK.2 d'
    .exact h.elim
  unfold MI at h;simp only at h;split at h
  .rename_i hg;exact run a (by unfold Region.wanted;rw[hg]) h
  .rename_i j want hg;obtain⟨r,hr,h⟩:=iO h;have hw:=hr o hg;split at h
   .rename_i hb;exact run a (by rw[hw];exact hb) h
   .rename_i hb;exact skip true (CK wm) undef a (λ_=>rfl) (λe=>by cases e) hCk (.inr ⟨by rw[hw];simpa using hb,rfl⟩) h
theorem Wx{id:Nat}{Q:Act->zg6}{Q':Exit->Act->zg6}{a:Act}{w:World}(hm:P.follows .mixedOrders=true)(hd:P.types.size+Made.depth≠0)
  (hok:Region.lexB .any ops=true) (hq:∀a u d,Q a u->Q' .normal a (dr u d)) (h:a0D P ops Q a w) (d:Nat):(Code.region id ops true).wp P Q' a (dr w d):=by
 obtain⟨wm,hC,h⟩:=h;simp only[Region.lexB,ze5]at hok;have hfalse:∀(j:Nat) (b:Bool),(Array.replicate ops.size false).getD j b=if j<ops.size then false else b:=λj b=>by
  rw[ze2,Array.getElem?_replicate]
  split <;> rfl
 have:=yH (Q2:=λa u=>Q' .normal a u) hd hok.1 hq ops.toList 0 (Array.replicate ops.size false) a w (by simp) (λ_ _=>Nat.zero_le _) (λj _ hj=>by rw[hfalse,if_pos hj]) (λk o _ hl=>by rw[hfalse]at hl;split at hl <;> cases hl) (by simpa using hok.2) (λ_=>hC) h (d+1);refine wp_region_any hm (lV (wm:=wm) (K:=kOf ops) (λ_ _ h=>h) _ _ _ _ ?_);have e:ops.toList.length=ops.size:=by simp
 rw[e]at this;exact this
end
def Yf:List Oper->Bool
 | []=>false
 |o::l=>match o.op with
  | .store .. => true
  |_=>Yf l
abbrev rF(ro:Option Nat):Fence:={ Fence.wide with round:=ro }
structure Mod(S:Nat->Prop)(w u:World):Prop where
 os:u.os=w.os
 tape:u.tape=w.tape
 output:u.output=w.output
 size:w.heap.size<=u.heap.size
 block:∀k,k<w.heap.size->¬ S k->u.heap[k]?=w.heap[k]?
theorem Mod.refl{S:Nat->Prop}(w:World):Mod S w w:=⟨rfl,rfl,rfl,zb4 _,λ_ _ _=>rfl⟩
theorem Mod.trans{S T U:Nat->Prop}{w u x:World}(h:Mod S w u)(k:Mod T u x)(hS:∀k,k<w.heap.size->S k->U k)(hT:∀k,k<w.heap.size->T k->U k):Mod U w x :=
 ⟨k.os.trans h.os,k.tape.trans h.tape,k.output.trans h.output,zb5 h.size k.size,λb hb hn=>
  (k.block b (zf5 hb h.size) (λht=>hn (hT b hb ht))).trans (h.block b hb (λhs=>hn (hS b hb hs)))⟩
theorem Mod.weak{S U:Nat->Prop}{w u:World}(h:Mod S w u)(hS:∀k,k<w.heap.size->S k->U k):Mod U w u:=h.trans (Mod.refl (S:=λ_=>False) u) hS (λ_ _ h=>h.elim)
theorem Mod.put{S:Nat->Prop}(w:World){l:Nat}(o:Obj)(hS:S l):Mod S w (w.putObj l o) :=
 ⟨rfl,rfl,rfl,by simp,λ_ _ hn=>World.putObj_heap_other (λe=>hn (e ▸ hS))⟩
theorem Mod.new{S:Nat->Prop}(w:World)(o:Obj):Mod S w (w.alloc o) :=
 ⟨rfl,rfl,rfl,by simp,λk hk _=>by
  show(w.heap.push o)[k]?=w.heap[k]?;rw[Array.getElem?_push,if_neg (by omega)]⟩
def xk(P:Program)(l:Nat)(args:Array Value)(w:World)(R:Value->zg6):Prop :=
 ∀d m,YieldAt Fence.wide m P l args (dr w d) λe w'=>∃v u d',e = .returned v/\w'=dr u d'/\R v u
theorem xk.mono{P:Program}{l:Nat}{args:Array Value}{w:World}{R R':Value->zg6}(h:xk P l args w R)(hr:∀v u,R v u->R' v u):xk P l args w R' :=
 λd m=>let⟨fn,t,a,b,hy,hR⟩:=h d m; ⟨fn,t,a,b,hy,hR.mono λ_ _ ⟨v,u,d',e1,e2,r⟩=>⟨v,u,d',e1,e2,hr _ _ r⟩⟩
def a0g(P:Program)(v:Value)(name:String)(K:FuncId->Value->Prop):Prop:=match v with
 | .iface t x=>aV (wz P t name) λf=>if kZ P f=true then K f x else False
 |_=>False
def zO(P:Program)(v:Value)(args:Array Value)(w:World)(K:Value->zg6):Prop:=match v with
 | .func (.func f) first captured=>if kZ P f=true then CallsD P f (first++args++captured) w K else False
 | .func (.yield l) first _=>xk P l (first++args) w K
 |_=>False
def Tc(P:Program)(ρ:Operand->Value)(ty:TypeId)(c:Call)(K:Value->zg6)(w:World):Prop :=
 match c.callee with
 | .value fo=>zO P (ρ fo) (c.args.map ρ) w (AO P ty K)
 | .invoke r name=>a0g P (ρ r) name λf x=>CallsD P f (#[x]++c.args.map ρ) w (AO P ty K)
 |_=>O0 P ρ ty c K w
def Vy(P:Program)(ρ:Operand->Value)(o:Oper)(K:Value->zg6)(w:World):Prop :=
 match o.op with
 | .call c=>Tc P ρ o.type c K w
 |_=>KR P ρ o K w
def opI(P:Program)(ρ:Operand->Value)(o:Oper)(K:Value->zg6)(w:World):Prop :=
 match isVal P o with
 |true=>vM P ρ o w λv=>K v w
 |false=>Vy P ρ o K w
def W9(P:Program)(ops:Array Oper)(Q:Act->zg6):List Oper->Act->World->Prop
 | [],a,w=>Q a w
 |o::rest,a,w=>match o.guard with
  |none=>opI P a.eval o (λv u=>W9 P ops Q rest (a.put o.dst v) u) w
  |some (j,want)=>xA ops a j want (λa=>opI P a.eval o (λv u=>W9 P ops Q rest (a.put o.dst v) u) w) (λa=>W9 P ops Q rest (a.put o.dst undef) w)
theorem Md{P:Program}{ρ:Operand->Value}{o:Oper}{K:Value->zg6}{w:World}(hd:P.types.size+Made.depth≠0)(h:Vy P ρ o K w) :
  OpD P (execOp ρ o) w K\/∃l args,(∀u,(execOp ρ o).run P u=(Instr.yield l args).run P u)/\xk P l args w K:=by
 obtain⟨dst,op,ty,pos,after,guard⟩:=o
 by_cases hc:∃c,op = .call c
 .obtain⟨c,rfl⟩:=hc;obtain⟨callee,args,ats⟩:=c
  cases callee with
  |value fo=>
   unfold Vy Tc zO at h;simp only at h;split at h
   .rename_i f first captured hf;refine .inl (rC hd (o:=⟨dst,.call ⟨.value fo,args,ats⟩,ty,pos,after,guard⟩) ?_);unfold KR O0;simp only[hf];exact h
   .rename_i l first captured hf;refine .inr ⟨l,first++args.map ρ,λu=>?_,h.mono λv u hk=>jE hk⟩;unfold execOp resolve;simp only[hf,Deferred.ofValue];rw[run_bind' P _ _ _ _ _ rfl];rfl
   .exact h.elim
  |invoke r name=>
   unfold Vy Tc a0g at h;simp only at h;split at h
   .rename_i t x hv;refine .inl (rC hd (o:=⟨dst,.call ⟨.invoke r name,args,ats⟩,ty,pos,after,guard⟩) ?_);unfold KR O0;simp only[hv];exact h
   .exact h.elim
  |builtin b=>exact .inl (rC hd (by unfold Vy Tc at h;unfold KR;exact h))
 .refine .inl (rC hd ?_);unfold Vy at h;split at h
  .rename_i c ho;exact(hc ⟨c,ho⟩).elim
  .exact h
theorem LC{P:Program}{ρ:Operand->Value}{o:Oper}{w:World}{K:Value->Prop}(h:vM P ρ o w K):∀c,o.op ≠ .defer c:=by
 intro c hc;unfold vM at h;rw[hc]at h;exact h
theorem Q7{P:Program}{ρ:Operand->Value}{o:Oper}{w:World}{K:Value->zg6}(h:opI P ρ o K w):∀c,o.op ≠ .defer c:=by
 unfold opI at h;split at h
 .exact LC h
 .intro c hc;unfold Vy at h;rw[hc]at h;simp only at h;unfold KR at h;rw[hc]at h;exact h
theorem Bi{P:Program}{ro:Option Nat}{n:Nat}{f:FuncId}{args:Array Value}{w:World}{R:Ending->zg6}(h:CallsIn Fence.wide n P f args w R):CallsIn (rF ro) n P f args w R:=h
theorem LQ{P:Program}{ro:Option Nat}{n l:Nat}{f:FuncId}{tmps:Array Value}{assign body:Code}{w:World}{R:Ending->zg6}(h:RoundIn Fence.wide n P l f tmps assign body w R):RoundIn (rF ro) n P l f tmps assign body w R:=h
theorem Jw{P:Program}{ro:Option Nat}{n:Nat}{o:Oper}{a:Act}{K:Value->zg6}{K':Act->zg6}{Q:Exit->Act->zg6}{w:World}(hd:P.types.size+Made.depth≠0)(h:opI P a.eval o K w)
  (hk:∀v u d',K v u->K' (a.put o.dst v) (dr u d')) (d:Nat):o.wpIn (rF ro) n P a (dr w d) K' Q:=by
 have hs:=Oper.semAt_eq (rF ro).round a.eval o (Q7 h);unfold opI at h;unfold Oper.wpIn;refine⟨λ_ _=>trivial,?_⟩;rw[hs];split at h
 .obtain⟨v,hr,hK⟩:=jV (λ_=>rfl) h;rw[show(execOp a.eval o).run P (dr w d)=_ from hr (Kp.dr w d)];exact hk _ _ _ hK
 .rcases Md hd h with (h | h | ⟨f,args,hr,hc⟩) | ⟨l,args,hr,hy⟩
  .obtain⟨v,u,d',hr,hK⟩:=h d;rw[hr];exact hk _ _ _ hK
  .obtain⟨u,d',hr,hK⟩:=h d;rw[hr];exact hk _ _ _ hK
  .rw[hr d,Oper.uponIn_enter];refine⟨λe=>(nomatch (show false=true from e)),?_⟩;refine Bi (callsIn_wide.2 ((hc d).mono λe w' ⟨v,u,d',he,hw,hK⟩=>?_));subst he hw;exact hk _ _ _ hK
  .obtain⟨fn,t,asg,body,hyr,hR⟩:=hy d (n - 1);rw[hr,hyr,Oper.uponIn_round];refine⟨λe=>(nomatch (show false=true from e)),?_⟩;refine LQ (hR.mono λe w' ⟨v,u,d',he,hw,hK⟩=>?_);subst he hw;exact hk _ _ _ hK
theorem qI{P:Program}{ro:Option Nat}{n:Nat}{ops:Array Oper}{Q:Act->zg6}{Q':Exit->Act->zg6}(hd:P.types.size+Made.depth≠0)(hq:∀a u d,Q a u->Q' .normal a (dr u d)) :
  ∀(l:List Oper) (a:Act) (w:World),W9 P ops Q l a w->∀d,wpListIn (rF ro) n P ops Q' l a (dr w d)
 | [],a,w,h,d=>hq _ _ _ h
 |o::rest,a,w,h,d=>by
  unfold W9 at h;unfold wpListIn;split at h
  .rename_i hg;have hw:Region.wanted o (yielded ops a.tmps)=true:=by unfold Region.wanted;rw[hg]
   rw[if_pos hw];exact Jw hd h (λv u d' hK=>qI hd hq rest _ _ hK d') d
  .rename_i j want hg;obtain⟨r,hr,h⟩:=iO h;have hw:=hr o hg;rw[hw];split at h
   .rename_i hb;rw[if_pos (by simpa using hb)];exact Jw hd h (λv u d' hK=>qI hd hq rest _ _ hK d') d
   .rename_i hb;rw[if_neg (by simpa using hb)];exact⟨λ_ _=>trivial,qI hd hq rest _ _ h d⟩
def Nk(o:Oper):Bool:=match o.op with
 | .defer _=>false
 |_=>true
section
variable{P:Program}{ro:Option Nat}{n:Nat}{ops:Array Oper}{C:zg6}
theorem Ku{o:Oper}{a:Act}{K K':Act->Prop}(h:o.quiet P a C K)(hk:∀a,K a->K' a):o.quietIn (rF ro) n P a C K':=by
 obtain⟨v,h1,h2⟩:=h;refine⟨v,λw hw=>?_,hk _ h2⟩;have h3:=h1 w hw;unfold Oper.quietAt at h3;unfold Oper.quietAtIn;generalize (execOp a.eval o).run P w=r at *
 cases r with
 |halt x w'=>exact h3
 |ok x w' =>
  cases x <;> first | exact h3 | skip
  exact⟨h3.1,λe=>(nomatch (show false=true from e)),Bi (callsIn_wide.2 h3.2)⟩
theorem qE{Q:Act->Prop}:∀(l:List Oper) (a:Act),wpQuiet P ops C Q l a->wpQuietIn (rF ro) n P ops C Q l a
 | [],_,h=>h
 |o::rest,a,h=>by
  unfold wpQuiet at h;unfold wpQuietIn;refine⟨λ_ _ _ _=>trivial,?_⟩
  split
  .rename_i hw;rw[if_pos hw]at h;exact Ku h λa'=>qE rest a'
  .rename_i hw;rw[if_neg hw]at h;exact qE rest _ h
theorem Dx{o:Oper}{a:Act}{K:Act->Prop}{K':Act->zg6}{Q':Exit->Act->zg6}{w:World}(hn:Nk o=true)(hw:C w)(h:∀a w',C w'->K a->K' a w')
  (hh:o.quietIn (rF ro) n P a C K):o.wpIn (rF ro) n P a w K' Q':=by
 obtain⟨v,h1,h2⟩:=hh;have h3:=h1 w hw;refine⟨λ_ _=>trivial,?_⟩;rw[Oper.semAt_eq (rF ro).round a.eval o (λc hc=>by unfold Nk at hn;rw[hc]at hn;cases hn)];unfold Oper.quietAtIn at h3;generalize (execOp a.eval o).run P w=r at *
 cases r with
 |halt x w'=>exact h3.elim
 |ok x w' =>
  cases x <;> first | exact h3.elim | skip
  .obtain⟨rfl,rfl⟩:=h3;exact h _ _ hw h2
  .obtain⟨rfl,rfl⟩:=h3;exact h _ _ hw h2
  .obtain⟨rfl,hd,hc⟩:=h3;exact⟨hd,hc.mono λe w'' ⟨he,hw''⟩=>by subst he;exact h _ _ hw'' h2⟩
theorem kH{Q:Act->Prop}{Q':Exit->Act->zg6}(hn:∀(i:Nat) o,ops[i]?=some o->Nk o=true)(hQ:∀a w,C w->Q a->Q' .normal a w):∀(fuel:Nat) (listed:Array Bool) (a:Act) (w:World),C w ->
  wpAnyQIn (rF ro) n P .any ops C Q fuel listed a->wpAnyIn (rF ro) n P .any ops Q' fuel listed a w
 |0,_,_,_,hw,h=>⟨h.1,hQ _ _ hw h.2⟩
 |fuel+1,listed,a,w,hw,h=>by
  refine⟨λh0=>hQ _ _ hw (h.1 h0),λi hi=>?_⟩;have hh:=h.2 i hi;unfold qOpIn at hh;unfold wpOpIn
  split
  .rename_i ho;rw[ho]at hh;exact kH hn hQ fuel _ _ _ hw hh
  .rename_i o ho;rw[ho]at hh;obtain⟨ha,hh⟩:=hh
   split
   .rename_i hw';rw[if_pos hw']at hh;exact Dx (hn i o ho) hw (λa' w' hw'' hk=>kH hn hQ fuel _ _ _ hw'' hk) hh
   .rename_i hw';rw[if_neg hw']at hh;exact⟨λ_ _=>trivial,kH hn hQ fuel _ _ _ hw hh⟩
theorem Ot{id:Nat}{Q:Act->zg6}{Q':Exit->Act->zg6}{a:Act}{w:World}(hm:P.follows .mixedOrders=true)(hd:P.types.size+Made.depth≠0)
  (hok:Region.lexB .any ops=true) (hn:ops.toList.all Nk=true) (hq:∀a u d,Q a u->Q' .normal a (dr u d)) (h:TM P ops w Q ops.toList a) (d:Nat):(Code.region id ops true).wpIn (rF ro) n P Q' a (dr w d):=by
 have hq1:=qE (ro:=ro) (n:=n) (C:=λu=>Below w.heap.size w u) _ _ (nX hd (Q2:=λa'=>∀u,Below w.heap.size w u->Q a' u) (λa' hQ=>hQ) _ _ h);simp only[Region.lexB,ze5]at hok;have hl:=wpAnyQIn_lex (F:=rF ro) (n:=n) (C:=λu=>Below w.heap.size w u) (md := .any) hok.1 ops.toList 0 (Array.replicate ops.size false) a (by simp) (by simpa using hok.2) hq1;have hl':wpAnyQIn (rF ro) n P .any ops (λu=>Below w.heap.size w u) (λa'=>∀u,Below w.heap.size w u->Q a' u) ops.size (Array.replicate ops.size false) a:=by simpa using hl
 refine wpIn_region_any hm (kH (λi o ho=>zd8.1 hn o (by
  have:ops.toList[i]?=some o:=by simpa using ho
  exact za0 this)) (λa' u hu hQ=>?_) _ _ _ _ ?_ hl')
 .have:=hq _ _ u.drawn (hQ u hu)
  rwa [jO]at this
 .exact⟨rfl,rfl,rfl,zb4 _,λ_ _=>rfl⟩
end
def sD(P:Program):Code->(Exit->Act->zg6)->Act->World->Prop
 | .skip,Q,a,w=>Q .normal a w
 | .region _ ops draw,Q,a,w=>match draw with
  |false=>W9 P ops (Q .normal) ops.toList a w
  |true=>match Region.lexB .any ops&&ops.toList.all Nk with
   |true=>TM P ops w (Q .normal) ops.toList a
   |false=>False
 | .seq x y,Q,a,w=>sD P x (Exit.then (sD P y Q) Q) a w
 | .cond c x y,Q,a,w=>match a.eval c with
  | .bool b=>af b (sD P x Q a w) (sD P y Q a w)
  |_=>False
 | .block id c,Q,a,w=>sD P c (Exit.inBlock id Q) a w
 | .exit id,Q,a,w=>Q (.exit id) a w
 |_,_,_,_=>False
def upD(Q:Exit->Act->zg6):Exit->Act->World->Prop:=λe a w=>∃u d,w=dr u d/\Q e a u
theorem ou{P:Program}{ro:Option Nat}{n:Nat}(hm:P.follows .mixedOrders=true)(hd:P.types.size+Made.depth≠0):∀(c:Code) (Q:Exit->Act->zg6) (a:Act) (w:World),sD P c Q a w->∀d,c.wpIn (rF ro) n P (upD Q) a (dr w d)
 | .skip,Q,a,w,h,d=>wpIn_skip ⟨w,d,rfl,h⟩
 | .region id ops draw,Q,a,w,h,d=>by
  unfold sD at h
  cases draw with
  |false=>exact wpIn_region_list (qI hd (λa u d hq=>⟨u,d,rfl,hq⟩) _ _ _ h d)
  |true=>
   simp only at h;split at h
   .rename_i hok;rw[ze5]at hok;exact Ot hm hd hok.1 hok.2 (λa u d hq=>⟨u,d,rfl,hq⟩) h d
   .exact h.elim
 | .seq x y,Q,a,w,h,d=>by
  refine wpIn_seq (wpIn_mono (ou hm hd x _ a w h d) ?_);rintro e a' w' ⟨u,d',rfl,hq⟩
  cases e with
  |normal=>exact ou hm hd y Q a' u hq d'
  |exit id=>exact⟨u,d',rfl,hq⟩
  |goto l=>exact⟨u,d',rfl,hq⟩
  |ret=>exact⟨u,d',rfl,hq⟩
  |panic ch=>exact⟨u,d',rfl,hq⟩
  |outgrown=>exact⟨u,d',rfl,hq⟩
 | .cond c x y,Q,a,w,h,d=>by
  unfold sD at h;split at h
  .rename_i b hb;rw[aQ]at h;exact wpIn_cond_split hb (λht=>ou hm hd x Q a w (h.1 ht) d) (λhf=>ou hm hd y Q a w (h.2 hf) d)
  .exact h.elim
 | .block id c,Q,a,w,h,d=>by
  refine wpIn_block (wpIn_mono (ou hm hd c _ a w h d) ?_);rintro e a' w' ⟨u,d',rfl,hq⟩
  cases e with
  |exit id' =>
   simp only[Exit.inBlock]at hq ⊢
   split
   .rename_i hid;rw[if_pos hid]at hq;exact⟨u,d',rfl,hq⟩
   .rename_i hid;rw[if_neg hid]at hq;exact⟨u,d',rfl,hq⟩
  |normal=>exact⟨u,d',rfl,hq⟩
  |goto l=>exact⟨u,d',rfl,hq⟩
  |ret=>exact⟨u,d',rfl,hq⟩
  |panic ch=>exact⟨u,d',rfl,hq⟩
  |outgrown=>exact⟨u,d',rfl,hq⟩
 | .exit id,Q,a,w,h,d=>wpIn_exit ⟨w,d,rfl,h⟩
 | .loop _,_,_,_,h,_=>h.elim
 | .ret,_,_,_,h,_=>h.elim
 | .scope _,_,_,_,h,_=>h.elim
 | .label _,_,_,_,h,_=>h.elim
 | .goto _,_,_,_,h,_=>h.elim
 | .rangeFunc ..,_,_,_,h,_=>h.elim
 | .refuse _,_,_,_,h,_=>h.elim
def X9:List Oper->Act->Option Act
 | [],a=>some a
 |o::l,a=>match o.guard with
  |none=>match o.op with
   | .assign x=>X9 l (a.put o.dst (a.eval x))
   | .move x=>X9 l (a.put o.dst (a.eval x))
   |_=>none
  |some _=>none
def YL:Code->Act->Option Act
 | .skip,a=>some a
 | .region _ ops false,a=>X9 ops.toList a
 |_,_=>none
theorem GV{P:Program}{ro:Option Nat}{n:Nat}{ops:Array Oper}{Q:Exit->Act->zg6}{w:World}{b:Act}:∀(l:List Oper) (a:Act),X9 l a=some b->Q .normal b w->wpListIn (rF ro) n P ops Q l a w
 | [],a,h,hq=>by cases h;exact hq
 |o::l,a,h,hq=>by
  unfold X9 at h;unfold wpListIn;split at h
  .rename_i hg;have hw:Region.wanted o (yielded ops a.tmps)=true:=by unfold Region.wanted;rw[hg]
   rw[if_pos hw];refine⟨λ_ _=>trivial,?_⟩;obtain⟨dst,op,ty,pos,after,guard⟩:=o;simp only at h;split at h
   .rename_i x hx;rw[Oper.semAt_eq _ _ _ (by intro c hc;cases hc)];exact GV l _ h hq
   .rename_i x hx;rw[Oper.semAt_eq _ _ _ (by intro c hc;cases hc)];exact GV l _ h hq
   .cases h
  .cases h
theorem Wq{P:Program}{ro:Option Nat}{n:Nat}{Q:Exit->Act->zg6}{w:World}{a b:Act}{c:Code}(h:YL c a=some b)(hq:Q .normal b w):c.wpIn (rF ro) n P Q a w:=by
 unfold YL at h;split at h
 .cases h;exact wpIn_skip hq
 .exact wpIn_region_list (GV _ _ h hq)
 .cases h
def Stable(B:Nat)(J:Nat->Nat->zg6):Prop:=∀k g w u,J k g w->Mod (λb=>B<=b/\b+1≠g) w u->J k g u
def Y0(P:Program)(gf:FuncId)(lb:Array Value)(X:List (Int×Int))(V:Nat->Prop)(w:World):Prop :=
 ∀(l:Nat) (J:Nat->Nat->zg6) (W:World),Below w.heap.size w W->w.heap.size<=l->l<W.heap.size->Stable W.heap.size J->(∀k g u,J k g u->(g=0\/W.heap.size<g)/\g<=u.heap.size/\W.heap.size<=u.heap.size) ->
  (∀k g x u,X[k]?=some x->J k g u->xk P l #[.int .i64 x.1,.int .i64 x.2] u λv u'=>v = .bool true/\∃g',J (k+1) g' u'/\(g'=g\/u.heap.size<g')/\Mod (λb=>V b\/b=l\/b+1=g) u u') ->
  J 0 0 W->CallsD P gf (#[.func (.yield l) #[] #[]]++lb) W λ_ u=>∃g,J X.length g u
def OT(P:Program)(v:Value)(w:World)(Rd:Int->Int->World->(zg6)->Prop)(Fin:Nat->zg6):Prop :=
 ∃(gf:FuncId) (lb:Array Value) (X:List (Int×Int)) (V:Nat->Prop) (J:Nat->Nat->zg6),
  v = .func (.func gf) #[] lb/\kZ P gf=true/\(∀b,V b->b<w.heap.size)/\Y0 P gf lb X V w/\Stable w.heap.size J/\(∀k g u,J k g u->(g=0\/w.heap.size<g)/\g<=u.heap.size/\w.heap.size<=u.heap.size)/\J 0 0 w /\
  (∀k g x u,X[k]?=some x->J k g u->Rd x.1 x.2 u λu'=>∃g',J (k+1) g' u'/\(g'=g\/u.heap.size<g')/\Mod (λb=>V b\/b+1=g) u u') /\
  (∀g D u,J X.length g u->w.heap.size<=D->D<u.heap.size->D+1≠g->u.heap[D]?=some (.deferred (some []))->Fin D u)
def a0w(K:zg6):Exit->Act->World->Prop:=λe _ u=>match e with
 | .normal=>K u
 |_=>False
theorem PW{P:Program}{g:Operand}{ps:Array Tmp}{asg body:Code}{Q:Exit->Act->zg6}{a:Act}{w:World}{Rd:Int->Int->World->(zg6)->Prop}{Fin:Nat->zg6}
  (hm:P.follows .mixedOrders=true) (hd:P.types.size+Made.depth≠0) (hps:ps.size=2)
  (hR:∀x y u K,Rd x y u K->∃a1,YL asg { tmps:=(ps.zip #[.int .i64 x,.int .i64 y]).foldl (λt (p,v)=>t.setIfInBounds p v) a.tmps,defers:=[] }=some a1/\sD P body (a0w K) a1 u)
  (hF:∀D u,Fin D u->Q .normal { a with defers:={ target := .collected D,args := #[] }::a.defers } u)
  (h:OT P (a.eval g) w Rd Fin) (d:Nat):(Code.rangeFunc g ps asg body).wp P (upD Q) a (dr w d):=by
 obtain⟨gf,lb,X,V,J,hv,hb,hV,hI,hst,hg,h0,hrd,hfin⟩:=h;refine(wpIn_wide (n:=1)).1 (wpIn_rangeFunc λfn _=>?_);obtain⟨rec,hrec⟩:∃rec:LoopState->Loop,rec=λst=>{ state:=st,pending:=none,fn,tmps:=a.tmps,params:=ps,assign:=asg,body,defers:=w.heap.size }:=⟨_,rfl⟩;obtain⟨W1,hW1⟩:∃W1,(w.alloc (.deferred (some []))).alloc (.loop (rec .ready))=W1:=⟨_,rfl⟩;have hsz:W1.heap.size=w.heap.size+2:=by rw[<- hW1];simp
 have hm1:∀S,Mod S w W1:=λS=>by
  rw[<- hW1];exact(Mod.new (S:=S) w _).trans (Mod.new (S:=S) _ _) zg7 zg7
 have hL1:W1.heap[w.heap.size+1]?=some (.loop (rec .ready)):=by
  rw[<- hW1];have:=World.alloc_heap_new (w.alloc (.deferred (some []))) (.loop (rec .ready));rwa [World.size_alloc]at this
 have hD1:W1.heap[w.heap.size]?=some (.deferred (some [])):=by
  rw[<- hW1];have h1:=World.alloc_heap_new w (.deferred (some []));have h2:=(Mod.new (S:=λ_=>False) (w.alloc (.deferred (some []))) (.loop (rec .ready))).block w.heap.size (by simp) (λh=>h);exact h2.trans h1
 obtain⟨J',hJ'⟩:∃J':Nat->Nat->World->Prop,J'=λk g u=>J k g u/\u.heap[w.heap.size+1]?=some (.loop (rec .ready))/\u.heap[w.heap.size]?=some (.deferred (some []))/\(g=0\/W1.heap.size<g)/\W1.heap.size<=u.heap.size:=⟨_,rfl⟩;have lt:∀ {u:World} {k:Nat} {o:Obj},u.heap[k]?=some o->k<u.heap.size:=λh=>(zc4.1 h).1
 -- the iterator's contract
 have hcall:=hI (w.heap.size+1) J' W1 ⟨(hm1 (λ_=>False)).os,(hm1 (λ_=>False)).tape,(hm1 (λ_=>False)).output,(hm1 (λ_=>False)).size,λk hk=>(hm1 (λ_=>False)).block k hk (λh=>h)⟩ (by omega) (by omega)
  (by
   intro k g u u' h hmod;rw[hJ']at h ⊢;obtain⟨h1,h2,h3,h4,h5⟩:=h;have e2:=lt h2;have e3:=lt h3;exact⟨hst _ _ _ _ h1 (hmod.weak λb _ hb=>⟨by omega,hb.2⟩),(hmod.block _ e2 (λhb=>by omega)).trans h2,(hmod.block _ e3 (λhb=>by omega)).trans h3,h4,zb5 h5 hmod.size⟩)
  (by
   intro k g u h;rw[hJ']at h;exact⟨h.2.2.2.1,(hg _ _ _ h.1).2.1,h.2.2.2.2⟩)
  (by
   intro k g x u hx hj;rw[hJ']at hj;obtain⟨h1,h2,h3,h4,h5⟩:=hj;have e2:=lt h2;intro d m;have hy:=run_yield (P:=P) (args := #[.int .i64 x.1,.int .i64 x.2]) (show(dr u d).heap[w.heap.size+1]?=_ from h2) (by rw[hrec];simp[hps]);rw[hrec]at hy;refine⟨fn,_,asg,body,hy,roundIn_of_wpIn trivial ?_⟩;obtain⟨u2,hu2⟩:∃u2,u.putObj (w.heap.size+1) (.loop (rec .busy))=u2:=⟨_,rfl⟩;have m2:Mod (λb=>b=w.heap.size+1) u u2:=by rw[<- hu2];exact Mod.put u _ rfl
   have hl2:u2.heap[w.heap.size+1]?=some (.loop (rec .busy)):=by rw[<- hu2];exact World.putObj_heap_same e2
   have hD2:u2.heap[w.heap.size]?=some (.deferred (some [])):=(m2.block _ (lt h3) (by omega)).trans h3;have hj2:J k g u2:=hst _ _ _ _ h1 (m2.weak λb _ hb=>⟨by omega,by omega⟩);obtain⟨a1,ha1,hbody⟩:=hR _ _ _ _ (hrd k g x u2 hx hj2);refine Wq (ro:=some (w.heap.size+1)) ha1 ?_;refine⟨dr u2 d,?_,?_⟩
   .have:=run_beginRound (P:=P) (show(dr u d).heap[w.heap.size+1]?=_ from h2) (by rw[hrec]);rw[this,<- hu2,hrec];rfl
   .refine wpIn_mono (ou (ro:=some (w.heap.size+1)) hm hd _ _ _ _ hbody d) ?_;rintro e a3 w3 ⟨u3,d3,rfl,hq⟩
    cases e with
    |normal=>
     obtain⟨g',hj3,hgg,hm3⟩:=hq;have hs2:u2.heap.size=u.heap.size:=by rw[<- hu2];simp
     have hl3:u3.heap[w.heap.size+1]?=some (.loop (rec .busy)):=(hm3.block _ (lt hl2) (λhb=>hb.elim (λh=>by have:=hV _ h;omega) (λh=>by omega))).trans hl2;have hD3:u3.heap[w.heap.size]?=some (.deferred (some [])):=(hm3.block _ (lt hD2) (λhb=>hb.elim (λh=>by have:=hV _ h;omega) (λh=>by omega))).trans hD2;have he:=run_endRound (P:=P) none (show(dr u3 d3).heap[w.heap.size+1]?=_ from hl3);have e4:(dr u3 d3).putObj (w.heap.size+1) (.loop (rec .ready))=dr (u3.putObj (w.heap.size+1) (.loop (rec .ready))) d3:=rfl;refine⟨.bool true,dr (u3.putObj (w.heap.size+1) (.loop (rec .ready))) d3,?_,_,_,_,rfl,rfl,rfl,g',?_,?_,?_⟩
     .rw[he,<- e4,hrec];rfl
     .rw[hJ'];have m4:Mod (λb=>b=w.heap.size+1) u3 (u3.putObj (w.heap.size+1) (.loop (rec .ready))):=Mod.put u3 _ rfl;refine⟨hst _ _ _ _ hj3 (m4.weak λb _ hb=>⟨by omega,by omega⟩),World.putObj_heap_same (lt hl3),(m4.block _ (lt hD3) (by omega)).trans hD3,by omega,?_⟩;have:=hm3.size;have:=m4.size;omega
     .rw[<- hs2];exact hgg
     .have m4:Mod (λb=>b=w.heap.size+1) u3 (u3.putObj (w.heap.size+1) (.loop (rec .ready))):=Mod.put u3 _ rfl;refine(m2.trans hm3 (U:=λb=>V b\/b=w.heap.size+1\/b+1=g) (λ_ _ h => .inr (.inl h)) (λ_ _ h=>h.elim .inl (λh => .inr (.inr h)))).trans m4 (λ_ _ h=>h) (λ_ _ h => .inr (.inl h))
    |exit id=>exact hq.elim
    |goto l=>exact hq.elim
    |ret=>exact hq.elim
    |panic ch=>exact hq.elim
    |outgrown=>exact hq.elim)
  (by
   rw[hJ'];exact⟨hst _ _ _ _ h0 (hm1 _),hL1,hD1,.inl rfl,zb4 _⟩)
 refine⟨w.heap.size+1,[{ target := .collected w.heap.size,args := #[] }],dr W1 d,{ target := .fn (.func gf) lb,args := #[.func (.yield (w.heap.size+1)) #[] #[]] },dr W1 d,gf,
  #[.func (.yield (w.heap.size+1)) #[] #[]]++lb,dr W1 d,?_,?_,λ_ _=>trivial,?_,λe=>(nomatch (show false=true from e)),?_⟩
 .have:=run_enterLoop_outer (P:=P) (w:=dr w d) fn a.tmps ps asg body;rw[show(Fence.wide).round=none from rfl,this,<- hW1,hrec];rfl
 .simp only[resolve,hv];simp[go_sem]
 .exact je hb _ _
 .refine callsIn_wide.2 ((hcall d).mono ?_);rintro e w3 ⟨v,u,d',rfl,rfl,g',hj⟩;rw[hJ']at hj;obtain⟨h1,h2,h3,h4,h5⟩:=hj;have he:=run_endLoop (P:=P) (show(dr u d').heap[w.heap.size+1]?=_ from h2) (by rw[hrec];simp);rw[hrec]at he;refine⟨none,_,he,u.putObj (w.heap.size+1) (.loop { rec .ready with state := .exhausted }),d',by rw[hrec];rfl,?_⟩;have m4:Mod (λb=>b=w.heap.size+1) u (u.putObj (w.heap.size+1) (.loop { rec .ready with state := .exhausted })):=Mod.put u _ rfl;refine hF _ _ (hfin g' w.heap.size _ (hst _ _ _ _ h1 (m4.weak λb _ hb=>⟨by omega,by omega⟩)) (zb4 _) ?_ (by omega) ((m4.block _ (lt h3) (by omega)).trans h3));have:=m4.size;omega
def mvB(o:Oper):Bool:=match o.op with
 | .move _=>match o.guard with
  |none=>o.after.toList.all λe => !Region.binds .any e
  |some _=>false
 |_=>false
def iH:List Oper->Nat->List Nat
 | [],_=>[]
 |o::l,k=>match mvB o with
  |true=>k::iH l (k+1)
  |false=>iH l (k+1)
def more(I:List Nat)(k:Nat)(o:Oper):Oper:=match mvB o with
 |true=>o
 |false=>{ o with after:=(o.after.toList++(I.filter λj=>Nat.blt j k).map λj=>(⟨j,.data⟩:Edge)).toArray }
def xM(I:List Nat):List Oper->Nat->List Oper
 | [],_=>[]
 |o::l,k=>more I k o::xM I l (k+1)
def hoist(ops:Array Oper):Array Oper:=(xM (iH ops.toList 0) ops.toList 0).toArray
def Oo(ops:Array Oper):Bool:=Region.noSelect ops&&(iH ops.toList 0).all λi=>Region.free .any ops (Array.replicate ops.size false) i
def Je(P:Program)(ops:Array Oper):List Oper->Nat->Bool
 | [],_=>true
 |o::l,k=>match isVal P o with
  |true=>Je P ops l (k+1)
  |false=>match ZF ops l k with
   |true=>Je P ops l (k+1)
   |false=>match Ic l k with
    |true=>Je P ops l (k+1)
    |false=>false
theorem FH(I:List Nat)(k:Nat)(o:Oper):(more I k o).dst=o.dst/\(more I k o).op=o.op/\(more I k o).type=o.type/\(more I k o).guard=o.guard/\(∀ρ,execOp ρ (more I k o)=execOp ρ o):=by
 unfold more
 split
 .exact⟨rfl,rfl,rfl,rfl,λ_=>rfl⟩
 .exact⟨rfl,rfl,rfl,rfl,λ_=>rfl⟩
theorem BJ(I:List Nat):∀(l:List Oper) (k i:Nat),(xM I l k)[i]?=(l[i]?).map (more I (k+i))
 | [],k,i=>by simp[xM]
 |o::l,k,0=>by simp[xM]
 |o::l,k,i+1=>by
  simp only[xM,List.getElem?_cons_succ];rw[BJ I l (k+1) i,show k+1+i=k+(i+1) by omega]
theorem uU(ops:Array Oper)(i:Nat):(hoist ops)[i]?=(ops[i]?).map (more (iH ops.toList 0) i):=by
 unfold hoist;rw[List.getElem?_toArray,BJ,zd1,Array.getElem?_toList]
theorem Cm(I:List Nat):∀(l:List Oper) (k:Nat),(xM I l k).length=l.length
 | [],_=>rfl
 |o::l,k=>by simp[xM,Cm I l]
theorem Bf(ops:Array Oper):(hoist ops).size=ops.size:=by simp[hoist,Cm]
theorem nR:∀ {l:List Oper} {k i:Nat},i∈iH l k->k<=i/\∃o,l[i - k]?=some o/\mvB o=true
 | [],_,_,h=>by cases h
 |o::l,k,i,h=>by
  unfold iH at h;have tl:i∈iH l (k+1)->k<=i/\∃o',(o::l)[i - k]?=some o'/\mvB o'=true:=λh=>by
   obtain⟨h1,o',h2,h3⟩:=nR h;refine⟨by omega,o',?_,h3⟩;rw[show i - k=(i - (k+1))+1 by omega,List.getElem?_cons_succ];exact h2
  split at h
  .rename_i hm
   rcases zb3.1 h with e | h
   .subst e;exact⟨zb4 _,o,by simp,hm⟩
   .exact tl h
  .exact tl h
theorem mM:∀(l:List Oper) (k:Nat),(iH l k).Nodup
 | [],_=>List.nodup_nil
 |o::l,k=>by
  unfold iH
  split
  .refine zf1.2 ⟨λh=>?_,mM l (k+1)⟩;have:=(nR h).1;omega
  .exact mM l (k+1)
section
variable{P:Program}{ops:Array Oper}{Q:Exit->Act->zg6}
theorem Dq(ops:Array Oper)(t:Array Value):yielded (hoist ops) t=yielded ops t:=by
 funext j;unfold yielded;have:((hoist ops)[j]?).bind (·.dst)=(ops[j]?).bind (·.dst):=by
  rw[uU]
  cases ops[j]? with
  |none=>rfl
  |some o=>simp[(FH (iH ops.toList 0) j o).1]
 rw[this]
theorem Cf{i:Nat}{K:Act->zg6}{a:Act}{w:World}:wpOp P (hoist ops) Q i K a w=wpOp P ops Q i K a w:=by
 unfold wpOp;rw[uU,Dq]
 cases ops[i]? with
 |none=>rfl
 |some o=>
  obtain⟨h1,h2,h3,h4,h5⟩:=FH (iH ops.toList 0) i o;simp only[Option.map_some];have e1:Region.wanted (more (iH ops.toList 0) i o) (yielded ops a.tmps)=Region.wanted o (yielded ops a.tmps):=by unfold Region.wanted;rw[h4]
  have e2:(more (iH ops.toList 0) i o).wp P a w K Q=o.wp P a w K Q:=by
   unfold Oper.wp;rw[h5];unfold Oper.upon;rw[h1]
  have e3:(more (iH ops.toList 0) i o).asks P a w=o.asks P a w:=by unfold Oper.asks;rw[h5]
  rw[e1,e2,e3,h1]
theorem zy{listed:Array Bool}(h:∀i∈iH ops.toList 0,listed.getD i false=true):Region.ready .any (hoist ops) listed=Region.ready .any ops listed:=by
 unfold Region.ready;rw[Bf];refine List.filter_congr λi _=>?_;rw[uU]
 cases ops[i]? with
 |none=>rfl
 |some o=>
  simp only[Option.map_some,Option.getD_some];congr 1;unfold more
  split
  .rfl
  .simp only[<- Array.all_toList,List.all_append];rw[show(((iH ops.toList 0).filter λj=>Nat.blt j i).map λj=>(⟨j,.data⟩:Edge)).all (λe => !Region.binds .any e||listed.getD e.on false)=true from by
    rw[zd8];intro e he;obtain⟨j,hj,rfl⟩:=zd4.1 he;have:=h j (ze3.1 hj).1;simp only[this,Bool.or_true]]
   simp
theorem Bz:∀(fuel:Nat) (listed:Array Bool) (a:Act) (w:World),(∀i∈iH ops.toList 0,listed.getD i false=true)->wpAny P .any (hoist ops) Q fuel listed a w->wpAny P .any ops Q fuel listed a w
 |0,listed,a,w,hI,h=>by
  unfold wpAny at h ⊢;rw[zy hI]at h;exact h
 |fuel+1,listed,a,w,hI,h=>by
  unfold wpAny at h ⊢;rw[zy hI]at h;refine⟨h.1,λi hi=>?_⟩;have h2:=h.2 i hi;rw[Cf]at h2;exact wpOp_mono (λa w hK=>Bz fuel _ a w (λj hj=>getD_set_true (hI j hj)) hK) h2
theorem PM{i:Nat}{oi:Oper}{l0:Array Bool}(hi:ops[i]?=some oi)(h:Region.free .any ops (Array.replicate ops.size false) i=true):Region.free .any ops l0 i=true:=by
 unfold Region.free at h ⊢;rw[hi]at h ⊢;simp only[zd8,List.mem_range]at h ⊢;intro j hj;have:=h j hj;rw[ze2,Array.getElem?_replicate,if_pos hj]at this;simp only[Option.getD_some,Bool.or_false]at this
 cases hl:l0.getD j true with
 |true=>simp
 |false=>simpa using this
theorem FI(hs:Region.noSelect ops=true)(hf:∀i∈iH ops.toList 0,Region.free .any ops (Array.replicate ops.size false) i=true)(hQ:∀e a w,Q e a w->e = .normal) :
  ∀(J:List Nat) (f:Nat) (listed:Array Bool) (a:Act) (w:World),(∀i∈J,i∈iH ops.toList 0)->J.Nodup->listed.size=ops.size->(∀i∈J,listed.getD i true=false) ->
   (∀i∈iH ops.toList 0,i∉J->listed.getD i false=true)->wpAny P .any (hoist ops) Q (f+J.length) listed a w->wpAny P .any ops Q (f+J.length) listed a w
 | [],f,listed,a,w,_,_,_,_,hd,h=>Bz _ _ _ _ (λi hi=>hd i hi (by simp)) h
 |i::J,f,listed,a,w,hJ,hnd,hsz,hun,hd,h=>by
  rw[show f+(i::J).length=(f+J.length)+1 by simp;omega]at h ⊢;obtain⟨_,o,ho,hm⟩:=nR (hJ i (by simp));simp only[Nat.sub_zero,Array.getElem?_toList]at ho;have hop:∃x,o.op = .move x/\o.guard=none/\∀e∈o.after,Region.binds .any e=false:=by
   unfold mvB at hm;split at hm
   .rename_i x hx;split at hm
    .rename_i hg;refine⟨x,hx,hg,λe he=>?_⟩;have:=zd8.1 hm e (by simpa using he);simpa using this
    .cases hm
   .cases hm
  obtain⟨x,hx,hg,hedge⟩:=hop;have hwant:∀y,Region.wanted o y=true:=λy=>by unfold Region.wanted;rw[hg]
  have hrun:∀w,(execOp a.eval o).run P w = .ok (.value (a.eval x)) w:=λw=>by unfold execOp;simp only[hx];rfl
  have hready:i∈Region.ready .any ops listed:=mem_ready.2 ⟨hun i (by simp),o,ho,λe he hb=>by rw[hedge e he]at hb;cases hb⟩;have hmore:more (iH ops.toList 0) i o=o:=by unfold more;rw[hm]
  have hready':i∈Region.ready .any (hoist ops) listed:=mem_ready.2 ⟨hun i (by simp),o,by rw[uU,ho];simp[hmore],λe he hb=>by rw[hedge e he]at hb;cases hb⟩;have hnlo:¬ LetsOut Q:=λ⟨a,w,h⟩=>by have:=hQ _ _ _ h;cases this
  unfold wpAny at h;have h2:=h.2 i hready';rw[Cf]at h2;unfold wpOp at h2;rw[ho]at h2;simp only[hwant,if_true]at h2;have h3:wpAny P .any (hoist ops) Q (f+J.length) (listed.setIfInBounds i true) (a.put o.dst (a.eval x)) w:=by
   rcases h2 with h2 | h2
   .unfold Oper.wp at h2;rw[hrun]at h2;exact h2
   .exact absurd h2.2 hnlo
  have hil:i<listed.size:=by rw[hsz];exact(zc4.1 ho).1
  have h4:=FI hs hf hQ J f (listed.setIfInBounds i true) _ w (λj hj=>hJ j (by simp[hj])) (zf1.1 hnd).2 (by simpa using hsz) (λj hj=>by
    have hij:i≠j:=λe=>(zf1.1 hnd).1 (e ▸ hj);rw[getD_set_ne true hij];exact hun j (by simp[hj]))
   (λj hj hnj=>by
    by_cases hij:i=j
    .subst hij;rw[ze2,zf0 hil];rfl
    .exact getD_set_true (hd j hj (by simp[hnj,Ne.symm hij]))) h3
  exact wpAny_take ho hs (PM ho (hf i (hJ i (by simp)))) (by simpa using hready) (λc a w h=>by have:=hQ _ _ _ h;cases this) (.inl ⟨hwant _,hrun⟩) h4
end
theorem tu{P:Program}{ops:Array Oper}{Q':Exit->Act->zg6}:∀(fuel:Nat) (listed:Array Bool) (a:Act) (w:World),wpAny P .any ops (λe a w=>e = .normal/\Q' .normal a w) fuel listed a w->wpAny P .any ops Q' fuel listed a w
 |0,_,_,_,h=>⟨h.1,h.2.2⟩
 |fuel+1,listed,a,w,h=>by
  refine⟨λh0=>(h.1 h0).2,λi hi=>?_⟩;have h2:=wpOp_mono (λa w hK=>tu fuel _ a w hK) (h.2 i hi);have no:¬ LetsOut λe a w=>e = .normal/\Q' .normal a w:=λ⟨a,w,h,_⟩=>by cases h
  unfold wpOp at h2 ⊢
  split
  .rename_i ho;rw[ho]at h2;exact h2
  .rename_i o ho;rw[ho]at h2;simp only at h2
   split
   .rename_i hw;rw[if_pos hw]at h2
    rcases h2 with h2 | h2
    .left;unfold Oper.wp at h2 ⊢;generalize (execOp a.eval o).run P w=r at *
     cases r with
     |ok n w' =>
      cases n <;> simp only[Oper.upon]at h2 ⊢ <;> first
       |exact h2
       |exact Calls.mono h2 (λe w'' he=>by cases e <;> first | exact he | exact absurd he no | (exact absurd he.1 (by simp)))
     |halt x w'=>cases x <;> simp only[Oper.upon]at h2 ⊢ <;> first | exact h2 | exact absurd h2.1 (by simp)
    .exact absurd h2.2 no
   .rename_i hw;rw[if_neg hw]at h2;exact h2
theorem VM{P:Program}{id:Nat}{ops:Array Oper}{Q:Act->zg6}{Q':Exit->Act->zg6}{a:Act}{w:World}(hm:P.follows .mixedOrders=true)(hd:P.types.size+Made.depth≠0)
  (hh:Oo ops=true) (hok:Region.lexTailB .any (hoist ops) (pX (hoist ops).toList)=true) (hq:∀a u d,Q a u->Q' .normal a (dr u d)) (h:WG P (hoist ops) Q a w) (d:Nat):(Code.region id ops true).wp P Q' a (dr w d):=by
 unfold Oo at hh;rw[ze5,zd8]at hh;have h1:=Dv (Q':=λe a w=>e = .normal/\Q' .normal a w) hd hok (λa u d hh=>⟨rfl,hq a u d hh⟩) h d;refine wp_region_any hm ?_;rw[Bf]at h1;have hlen:(iH ops.toList 0).length<=ops.size:=by
  have:(iH ops.toList 0) ⊆ List.range ops.size:=λi hi=>by
   obtain⟨_,o,ho,_⟩:=nR hi;simp only[Nat.sub_zero,Array.getElem?_toList]at ho;exact List.mem_range.2 (zc4.1 ho).1
  have:=(mM ops.toList 0).length_le_of_subset this;simpa using this
 have hfalse:∀(i:Nat) (b:Bool),i∈iH ops.toList 0->(Array.replicate ops.size false).getD i b=false:=λi b hi=>by
  obtain⟨_,o,ho,_⟩:=nR hi;simp only[Nat.sub_zero,Array.getElem?_toList]at ho;rw[ze2,Array.getElem?_replicate,if_pos (zc4.1 ho).1];rfl
 obtain⟨f,hf⟩:∃f,ops.size=f+(iH ops.toList 0).length:=⟨ops.size - (iH ops.toList 0).length,by omega⟩;have h2:=FI (ops:=ops) (P:=P) (Q:=λe a w=>e = .normal/\Q' .normal a w) hh.1 hh.2 (λe a w hq=>hq.1) (iH ops.toList 0) f (Array.replicate ops.size false) a _ (λi hi=>hi) (mM _ _) (by simp) (λi hi=>hfalse i true hi) (λi hi hn=>absurd hi hn) (by rw[<- hf];exact h1);rw[<- hf]at h2;exact tu _ _ _ _ h2
structure GX(wm w0:World)(C:zg6)(Le:World->zg6)(Φ:Nat->Value->zg6):Prop where
 ck:∀u,C u->CK wm u
 start:C w0
 dr:∀u d,Le u (dr u d)
 tr:∀u u' u'',Le u u'->Le u' u''->Le u u''
 cls:∀u u',C u->Le u u'->C u'
 st:∀i v u u',C u->Φ i v u->Le u u'->Φ i v u'
def erG(P:Program)(ρ:Operand->Value)(o:Oper)(C:zg6)(Le:World->zg6)(hy:World->Prop->Prop)(Φk:Value->zg6)(K:Value->Prop):Prop :=
 match o.op with
 | .call c=>match c.callee with
  | .builtin .append=>
    (∀u,C u->hy u (dC P (Builtin.append_ c.argTypes o.type (c.args.map ρ)) u λv u'=>gX P o.type λv'=>v=v'/\Φk v' u'/\Le u u')) /\
    MX P o.type λv=>(∃u,C u/\Φk v u)->K v
  |_=>False
 | .lookup t m k ok=>
   (∀u,C u->hy u (dC P (Instr.lookup t (ρ m) (ρ k) ok) u λv u'=>gX P o.type λv'=>v=v'/\Φk v' u'/\Le u u')) /\
   MX P o.type λv=>(∃u,C u/\Φk v u)->K v
 | .mapEntry t m k=>
   (∀u,C u->hy u (dC P (Instr.mapEntry t (ρ m) (ρ k)) u λv u'=>∃(x:Value) (s:Int),v = .tuple #[x,.int .i64 s]/\Φk (.tuple #[x,.int .i64 s]) u'/\Le u u')) /\
   ∀(x:Value) (s:Int),(∃u,C u/\Φk (.tuple #[x,.int .i64 s]) u)->K (.tuple #[x,.int .i64 s])
 | .buildSlice t len parts=>aV (X8 P t len (partsOf ρ parts)) λec=>
   (∀u,C u->hy u (Φk (.slice (some ⟨u.heap.size,0,none⟩) len len) (u.alloc (.cells ec.2 ec.1))/\Le u (u.alloc (.cells ec.2 ec.1)))) /\
   ∀p:Addr,(∃u,C u/\Φk (.slice (some p) len len) u)->K (.slice (some p) len len)
 |_=>False
def Aq(P:Program)(ops:Array Oper)(i:Nat)(v:Value):Prop:=match ops[i]? with
 |none=>False
 |some o=>match o.op with
  | .call _=>gX P o.type λv'=>v=v'
  | .lookup .. => gX P o.type λv'=>v=v'
  | .mapEntry .. => ∃(x:Value) (s:Int),v = .tuple #[x,.int .i64 s]
  | .buildSlice _ len _=>∃p,v = .slice (some p) len len
  |_=>False
def Ug(P:Program)(ops:Array Oper)(wm:World)(C:zg6)(Le:World->zg6)(Φ:Nat->Value->zg6)(Q:Act->zg6):List Oper->Nat->List (List Nat)->List Nat->kV->Act->Prop
 | [],_,_,done,vals,a=>∀u,C u->hyps Φ vals u done (Q a u)
 |o::rest,k,T,done,vals,a=>
  (λ(run:Act->Prop)=>match o.guard with
   |none=>run a
   |some (j,want)=>xA ops a j want run (λa=>Ug P ops wm C Le Φ Q rest (k+1) (T++[EU P k o (kR T o)]) done vals (a.put o.dst undef)))
  (λa=>match isVal P o with
   |true=>vM P a.eval o wm λv=>Ug P ops wm C Le Φ Q rest (k+1) (T++[EU P k o (kR T o)]) done vals (a.put o.dst v)
   |false=>erG P a.eval o C Le (λu=>hyps Φ vals u (kR T o)) (Φ k) λv=>Ug P ops wm C Le Φ Q rest (k+1) (T++[EU P k o (kR T o)]) (done++[k]) (up vals k v) (a.put o.dst v))
def N9(P:Program)(ops:Array Oper)(Φ:Nat->Value->zg6)(i:Nat)(v:Value)(u:World):Prop:=Aq P ops i v/\Φ i v u
theorem TT{P:Program}{ops:Array Oper}{k:Nat}{o:Oper}{wm w0:World}{C:zg6}{Le:World->zg6}{Φ:Nat->Value->zg6}{a:Act}{hy:World->Prop->Prop}{K:Value->Prop}{vals:kV}(L:GX wm w0 C Le Φ)
  (ho:ops[k]?=some o) (hhy:∀u,(∀j,Anc ops .any j k->∀v,vals j=some v->N9 P ops Φ j v u)->∀K,hy u K->K) (h:erG P a.eval o C Le hy (Φ k) K) :
  MO P ops .any C Le (N9 P ops Φ) o k vals a/\∀v,(∃u,C u/\N9 P ops Φ k v u)->K v:=by
 have st':∀v u u' d,C u->Le u u'->Φ k v u'->Φ k v (dr u' d):=λv u u' d hC hL hP=>L.st _ _ _ _ (L.cls _ _ hC hL) hP (L.dr _ _);obtain⟨dst,op,ty,pos,after,guard⟩:=o;have hall:(∀w:Value,Aq P ops k w=gX P ty λv'=>w=v')->∀ {K:Value->Prop},(MX P ty λv=>(∃u,C u/\Φ k v u)->K v)->∀v,(∃u,C u/\N9 P ops Φ k v u)->K v:=by
  intro hsh K h v ⟨u,hC,hs,hP⟩;rw[hsh]at hs;obtain⟨v',rfl,hK⟩:=uP hs h;exact hK ⟨u,hC,hP⟩
 unfold erG at h
 cases op <;> simp only at h <;> first | exact h.elim | skip
 case call c=>
  obtain⟨callee,args,ats⟩:=c;have hsh:∀w:Value,Aq P ops k w=gX P ty λv'=>w=v':=λw=>by unfold Aq;rw[ho]
  cases callee with
  |value fo=>exact h.elim
  |invoke r name=>exact h.elim
  |builtin b=>
   cases b <;> simp only at h <;> first | exact h.elim | skip
   refine⟨λu hC hF=>?_,hall hsh h.2⟩;obtain⟨v,u',d',hr,hs⟩:=hhy u hF _ (h.1 u hC) u.drawn;rw[jO]at hr;have hrun:(execOp a.eval ⟨dst,.call ⟨.builtin .append,args,ats⟩,ty,pos,after,guard⟩).run P u = .ok (.value v) (dr u' d'):=by
    rw[show execOp a.eval ⟨dst,.call ⟨.builtin .append,args,ats⟩,ty,pos,after,guard⟩=(do pure (.value (<- Builtin.append_ ats ty (args.map a.eval)))) from rfl,run_bind' P _ _ _ _ _ hr];rfl
   rw[hrun];obtain⟨v',rfl,hP,hB⟩:=jf hs;exact⟨⟨(hsh v).symm ▸ lT hs λv' h=>h.1,st' _ _ _ _ hC hB hP⟩,L.tr _ _ _ hB (L.dr _ _)⟩
 case lookup t m ko ok=>
  have hsh:∀w:Value,Aq P ops k w=gX P ty λv'=>w=v':=λw=>by unfold Aq;rw[ho]
  refine⟨λu hC hF=>?_,hall hsh h.2⟩;obtain⟨v,u',d',hr,hs⟩:=hhy u hF _ (h.1 u hC) u.drawn;rw[jO]at hr;have hrun:(execOp a.eval ⟨dst,.lookup t m ko ok,ty,pos,after,guard⟩).run P u = .ok (.value v) (dr u' d'):=by
   rw[show execOp a.eval ⟨dst,.lookup t m ko ok,ty,pos,after,guard⟩=(do pure (.value (<- Instr.lookup t (a.eval m) (a.eval ko) ok))) from rfl,run_bind' P _ _ _ _ _ hr];rfl
  rw[hrun];obtain⟨v',rfl,hP,hB⟩:=jf hs;exact⟨⟨(hsh v).symm ▸ lT hs λv' h=>h.1,st' _ _ _ _ hC hB hP⟩,L.tr _ _ _ hB (L.dr _ _)⟩
 case mapEntry t m ko=>
  refine⟨λu hC hF=>?_,λv ⟨u,hC,hs,hP⟩=>?_⟩
  .obtain⟨v,u',d',hr,x,s,rfl,hP,hB⟩:=hhy u hF _ (h.1 u hC) u.drawn;rw[jO]at hr;have hrun:(execOp a.eval ⟨dst,.mapEntry t m ko,ty,pos,after,guard⟩).run P u = .ok (.value (.tuple #[x,.int .i64 s])) (dr u' d'):=by
    rw[show execOp a.eval ⟨dst,.mapEntry t m ko,ty,pos,after,guard⟩=(do pure (.value (<- Instr.mapEntry t (a.eval m) (a.eval ko)))) from rfl,run_bind' P _ _ _ _ _ hr];rfl
   rw[hrun];exact⟨⟨by unfold Aq;rw[ho];exact⟨_,_,rfl⟩,st' _ _ _ _ hC hB hP⟩,L.tr _ _ _ hB (L.dr _ _)⟩
  .unfold Aq at hs;rw[ho]at hs;obtain⟨x,s,rfl⟩:=hs;exact h.2 x s ⟨u,hC,hP⟩
 case buildSlice t len parts=>
  obtain⟨⟨e,cs⟩,hc,h1,h2⟩:=gm h;refine⟨λu hC hF=>?_,λv ⟨u,hC,hs,hP⟩=>?_⟩
  .have hfact:=hhy u hF _ (h1 u hC);have hrun:(execOp a.eval ⟨dst,.buildSlice t len parts,ty,pos,after,guard⟩).run P u = .ok (.value (.slice (some ⟨u.heap.size,0,none⟩) len len)) (u.alloc (.cells cs e)):=by
    have:=CP hc u u.drawn;rw[jO]at this;show((do pure (.value (<- Instr.buildSlice t len (parts.map λ(i,x)=>(i,a.eval x)))):Sem Next)).run P u=_;rw[run_bind' P _ _ _ _ _ this];rfl
   rw[hrun];exact⟨⟨by unfold Aq;rw[ho];exact⟨_,rfl⟩,hfact.1⟩,hfact.2⟩
  .unfold Aq at hs;rw[ho]at hs;obtain⟨p,rfl⟩:=hs;exact h2 p ⟨u,hC,hP⟩
theorem vH{P:Program}{ops:Array Oper}{wm w0:World}{C:zg6}{Le:World->zg6}{Φ:Nat->Value->zg6}{Q:Act->zg6}(L:GX wm w0 C Le Φ) :
  ∀(l:List Oper) (k:Nat) (T:List (List Nat)) (done:List Nat) (vals:kV) (a:Act),(∀j,j<l.length->l[j]?=ops[k+j]?)->T.length=k->(∀p j,j∈T.getD p []->j=p\/Anc ops .any j p) ->
  Ug P ops wm C Le Φ Q l k T done vals a->Et P ops .any C Le (N9 P ops Φ) (isVal P) (λvals a=>∀u,C u->Facts (N9 P ops Φ) vals u->Q a u) l k vals a
 | [],_,_,done,vals,a,_,_,_,h=>λu hC hF=>kS (h u hC) λj _ v hv=>(hF j v hv).2
 |o::rest,k,T,done,vals,a,hl,hT,hA,h=>by
  have h0:ops[k]?=some o:=by simpa using(hl 0 (by simp)).symm
  have hl':∀j,j<rest.length->rest[j]?=ops[k+1+j]?:=λj hj=>by have:=hl (j+1) (by simp;omega);simpa[Nat.add_assoc,Nat.add_comm 1 j] using this
  have hanc:∀j,j∈kR T o->Anc ops .any j k:=by
   intro j hj
   rcases vz hj with ⟨e,he,hb,hm⟩ | hj
   .rcases hA _ _ hm with h | h
    .subst h;exact .base h0 (by simpa using he) hb
    .exact .step h0 (by simpa using he) hb h
   .cases hj
  have hT':(T++[EU P k o (kR T o)]).length=k+1:=by simp[hT]
  have hA':∀p j,j∈(T++[EU P k o (kR T o)]).getD p []->j=p\/Anc ops .any j p:=by
   intro p j hj
   by_cases hp:p<T.length
   .rw[za8,zb9 hp,<- List.getD_eq_getElem?_getD]at hj;exact hA p j hj
   .rw[za8,zc0 (by omega)]at hj
    by_cases hpk:p=k
    .subst hpk;rw[hT,zf8]at hj;simp only[List.getElem?_cons_zero,Option.getD_some]at hj;unfold EU at hj;split at hj
     .exact .inr (hanc j hj)
     .rcases zl hj with h | h
      .exact .inl h
      .exact .inr (hanc j h)
    .rw[zc3 (by simp;omega)]at hj;cases hj
  have run:∀a:Act,(match isVal P o with
    |true=>vM P a.eval o wm λv=>Ug P ops wm C Le Φ Q rest (k+1) (T++[EU P k o (kR T o)]) done vals (a.put o.dst v)
    |false=>erG P a.eval o C Le (λu=>hyps Φ vals u (kR T o)) (Φ k) λv=>Ug P ops wm C Le Φ Q rest (k+1) (T++[EU P k o (kR T o)]) (done++[k]) (up vals k v) (a.put o.dst v)) ->
    Gf P ops .any C Le (N9 P ops Φ) (isVal P) o k (Et P ops .any C Le (N9 P ops Φ) (isVal P) (λvals a=>∀u,C u->Facts (N9 P ops Φ) vals u->Q a u) rest (k+1)) vals a:=by
   intro a h;unfold Gf
   split
   .rename_i hv;rw[hv]at h;obtain⟨v,hr,hK⟩:=jV (λ_=>rfl) h;exact⟨v,λu hC=>hr ⟨u,L.ck _ hC⟩,vH L rest (k+1) _ _ _ _ hl' hT' hA' hK⟩
   .rename_i hv;rw[hv]at h;obtain⟨h1,h2⟩:=TT (ops:=ops) (vals:=vals) L h0 (λu hF K hh=>kS hh λj hj v hv=>(hF j (hanc j hj) v hv).2) h;exact⟨h1,λv ⟨u,hC,hF⟩=>vH L rest (k+1) _ _ _ _ hl' hT' hA' (h2 v ⟨u,hC,hF k v (nG _ _ _)⟩)⟩
  unfold Ug at h;unfold Et;simp only at h;split at h
  .rename_i hg;have hw:Region.wanted o (yielded ops a.tmps)=true:=by unfold Region.wanted;rw[hg]
   rw[if_pos hw];exact run a h
  .rename_i j want hg;obtain⟨r,hr,h⟩:=iO h;have hw:=hr o hg;rw[hw];split at h
   .rename_i hb;rw[if_pos (by simpa using hb)];exact run a h
   .rename_i hb;rw[if_neg (by simpa using hb)];exact vH L rest (k+1) _ _ _ _ hl' hT' hA' h
def Gy:List Oper->Nat
 | []=>0
 |o::l=>match o.op with
  | .store .. => 0
  | .mapUpdate .. => 0
  | .entryStore .. => 0
  |_=>Gy l+1
def XQ:List Oper->Bool
 | []=>false
 |o::l=>match o.op with
  | .mapUpdate .. => true
  | .entryStore .. => true
  |_=>XQ l
def a0H(P:Program)(ops:Array Oper)(Q:Act->zg6)(a:Act)(w0:World):Prop :=
 ∃(wm:World) (C:zg6) (Le:World->zg6) (Φ:Nat->Value->zg6),GX wm w0 C Le Φ /\
  Ug P ops wm C Le Φ (λa u=>G6 P ops Q (ops.toList.drop (Gy ops.toList)) a u) (ops.toList.take (Gy ops.toList)) 0 [] [] (λ_=>none) a
theorem WN{P:Program}{id:Nat}{ops:Array Oper}{Q:Act->zg6}{Q':Exit->Act->zg6}{a:Act}{w:World}(hm:P.follows .mixedOrders=true)(hd:P.types.size+Made.depth≠0)
  (hok:Region.lexTailB .any ops (Gy ops.toList)=true) (hq:∀a u d,Q a u->Q' .normal a (dr u d)) (h:a0H P ops Q a w) (d:Nat):(Code.region id ops true).wp P Q' a (dr w d):=by
 obtain⟨wm,C,Le,Φ,L,h⟩:=h;have W:jd C Le (N9 P ops Φ):=⟨L.cls,λi v u u' hC hP hL=>⟨hP.1,L.st _ _ _ _ hC hP.2 hL⟩⟩;refine Ap (isV:=isVal P) (Gy ops.toList) W hm hok (L.cls _ _ L.start (L.dr _ _)) ?_;have h2:=vH (ops:=ops) L (ops.toList.take (Gy ops.toList)) 0 [] [] (λ_=>none) a (λj hj=>by
  rw[zd6,if_pos (by simp at hj;omega)];simp) rfl (λp j hj=>by simp at hj) h
 have mono:∀(l:List Oper) (k:Nat) (vals:kV) (a:Act) {G G':kV->Act->Prop},(∀vals a,G vals a->G' vals a)->Et P ops .any C Le (N9 P ops Φ) (isVal P) G l k vals a->Et P ops .any C Le (N9 P ops Φ) (isVal P) G' l k vals a:=by
  intro l
  induction l with
  |nil=>intro k vals a G G' hG hh;exact hG _ _ hh
  |cons o l ih=>
   intro k vals a G G' hG hh;unfold Et at hh ⊢
   split
   .rename_i hw;rw[if_pos hw]at hh;unfold Gf at hh ⊢
    split
    .rename_i hv;rw[hv]at hh;obtain⟨v,h1,h2⟩:=hh;exact⟨v,h1,ih _ _ _ hG h2⟩
    .rename_i hv;rw[hv]at hh;exact⟨hh.1,λv hp=>ih _ _ _ hG (hh.2 v hp)⟩
   .rename_i hw;rw[if_neg hw]at hh;exact ih _ _ _ hG hh
 refine mono _ _ _ _ (λvals a hG u hC hF=>?_) h2;have:=lZ hd hq _ _ _ (hG u hC hF) u.drawn
 rwa [jO]at this
def exB(o:Oper):Bool:=match o.op with
 | .extract .. => match o.guard with
  |none=>true
  |some _=>false
 |_=>false
def Yc(on:Oper):List Oper->Nat->Nat
 | [],k=>k
 |o::l,k=>match exB o && !oP on k with
  |true=>k
  |false=>Yc on l (k+1)
def patch(ops:Array Oper)(n e:Nat):Array Oper:=match ops[n]? with
 |some o=>ops.setIfInBounds n { o with after:=(o.after.toList++[(⟨e,.data⟩:Edge)]).toArray }
 |none=>ops
def MQ(ops:Array Oper):Nat:=match ops[pX ops.toList]? with
 |some on=>Yc on ops.toList 0
 |none=>0
def NZ(ops:Array Oper):Array Oper:=patch ops (pX ops.toList) (MQ ops)
def Vu(ops:Array Oper):List Edge->Array Bool
 | []=>Array.replicate ops.size false
 |d::l=>match Region.binds .any d with
  |true=>(Vu ops l).setIfInBounds d.on true
  |false=>Vu ops l
def Vz(ops:Array Oper):Bool:=match ops[pX ops.toList]? with
 |some on=>match ops[MQ ops]? with
  |some oe=>Region.noSelect ops&&exB oe&&(!Nat.beq (MQ ops) (pX ops.toList))&&(oe.after.toList.all λd => !Region.binds .any d||oP on d.on)&&Region.free .any ops (Vu ops oe.after.toList) (MQ ops)&&Region.lexTailB .any (NZ ops) (pX (NZ ops).toList)
  |none=>false
 |none=>false
section
variable{P:Program}{ops:Array Oper}{Q:Exit->Act->zg6}{n e:Nat}{on oe:Oper}
def wt(n e i:Nat)(o:Oper):Oper:=if i=n then { o with after:=(o.after.toList++[(⟨e,.data⟩:Edge)]).toArray } else o
theorem zg(i:Nat):(patch ops n e)[i]?=(ops[i]?).map (wt n e i):=by
 unfold patch
 cases hn:ops[n]? with
 |none=>
  simp only
  by_cases hi:i=n
  .subst hi;rw[hn];rfl
  .unfold wt;simp[hi]
 |some o=>
  simp only
  by_cases hi:i=n
  .subst hi;rw[hn,zf0 (zc4.1 hn).1];unfold wt;simp
  .rw[Array.getElem?_setIfInBounds_ne (Ne.symm hi)];unfold wt;simp[hi]
theorem MP:(patch ops n e).size=ops.size:=by
 unfold patch
 split <;> simp
theorem Pm(i:Nat)(o:Oper):(wt n e i o).dst=o.dst/\(wt n e i o).op=o.op/\(wt n e i o).guard=o.guard/\(∀ρ,execOp ρ (wt n e i o)=execOp ρ o):=by
 unfold wt
 split
 .exact⟨rfl,rfl,rfl,λ_=>rfl⟩
 .exact⟨rfl,rfl,rfl,λ_=>rfl⟩
theorem Dc(t:Array Value):yielded (patch ops n e) t=yielded ops t:=by
 funext j;unfold yielded;have:((patch ops n e)[j]?).bind (·.dst)=(ops[j]?).bind (·.dst):=by
  rw[zg]
  cases ops[j]? with
  |none=>rfl
  |some o=>simp[(Pm (n:=n) (e:=e) j o).1]
 rw[this]
theorem Bq{i:Nat}{K:Act->zg6}{a:Act}{w:World}:wpOp P (patch ops n e) Q i K a w=wpOp P ops Q i K a w:=by
 unfold wpOp;rw[zg,Dc]
 cases ops[i]? with
 |none=>rfl
 |some o=>
  obtain⟨h1,h2,h4,h5⟩:=Pm (n:=n) (e:=e) i o;simp only[Option.map_some];have e1:Region.wanted (wt n e i o) (yielded ops a.tmps)=Region.wanted o (yielded ops a.tmps):=by unfold Region.wanted;rw[h4]
  have e2:(wt n e i o).wp P a w K Q=o.wp P a w K Q:=by
   unfold Oper.wp;rw[h5];unfold Oper.upon;rw[h1]
  have e3:(wt n e i o).asks P a w=o.asks P a w:=by unfold Oper.asks;rw[h5]
  rw[e1,e2,e3,h1]
theorem lU{listed:Array Bool}{i:Nat}:i∈Region.ready .any (patch ops n e) listed↔i∈Region.ready .any ops listed/\(i=n->listed.getD e false=true):=by
 rw[mem_ready,mem_ready,zg];constructor
 .rintro⟨h1,o,ho,hall⟩;obtain⟨o',ho',rfl⟩:=zd7.1 ho;refine⟨⟨h1,o',ho',λd hd hb=>hall d ?_ hb⟩,λhi=>hall ⟨e,.data⟩ ?_ rfl⟩
  .unfold wt
   split
   .simp[hd]
   .exact hd
  .unfold wt;rw[if_pos hi];simp
 .rintro⟨⟨h1,o,ho,hall⟩,hn⟩;refine⟨h1,_,by rw[ho];rfl,λd hd hb=>?_⟩;unfold wt at hd;split at hd
  .rename_i hi;have hd':d∈o.after\/d=⟨e,.data⟩:=by simpa using hd
   rcases hd' with hd' | rfl
   .exact hall d hd' hb
   .exact hn hi
  .exact hall d hd hb
theorem zM{j:Nat}(hj:j<ops.size):∀ {l:List Edge},(Vu ops l).getD j true=true->∃d∈l,Region.binds .any d=true/\d.on=j
 | [],h=>by
  unfold Vu at h;rw[ze2,Array.getElem?_replicate,if_pos hj]at h;cases h
 |d::l,h=>by
  unfold Vu at h;split at h
  .rename_i hb
   by_cases hd:d.on=j
   .exact⟨d,.head _,hb,hd⟩
   .rw[getD_set_ne true hd]at h;obtain⟨d',h1,h2⟩:=zM hj h;exact⟨d',.tail _ h1,h2⟩
  .obtain⟨d',h1,h2⟩:=zM hj h;exact⟨d',.tail _ h1,h2⟩
theorem V7{i:Nat}{oi:Oper}{l0 l1:Array Bool}(hi:ops[i]?=some oi)(hl:∀j,j<ops.size->l0.getD j true=true->l1.getD j true=true)(h:Region.free .any ops l0 i=true):Region.free .any ops l1 i=true:=by
 unfold Region.free at h ⊢;rw[hi]at h ⊢;simp only[zd8,List.mem_range]at h ⊢;intro j hj;have:=h j hj
 cases hx:l0.getD j true with
 |true=>simp[hl j hj hx]
 |false=>
  rw[hx]at this
  cases l1.getD j true with
  |true=>simp
  |false=>exact this
theorem QL(hs:Region.noSelect ops=true)(he:ops[e]?=some oe)(hn:ops[n]?=some on)(hex:exB oe=true)(hne:e≠n)(hsub:∀d∈oe.after,Region.binds .any d=true->∃d'∈on.after,Region.binds .any d'=true/\d'.on=d.on)(hf:Region.free .any ops (Vu ops oe.after.toList) e=true)(hQ:∀e a w,Q e a w->e = .normal) :
  ∀(fuel:Nat) (listed:Array Bool) (a:Act) (w:World),listed.size=ops.size->wpAny P .any (patch ops n e) Q fuel listed a w->wpAny P .any ops Q fuel listed a w:=by
 have hel:=(zc4.1 he).1;have key:∀listed:Array Bool,listed.size=ops.size->n∈Region.ready .any ops listed->listed.getD e false=true\/e∈Region.ready .any ops listed:=λlisted hz hr=>by
  obtain⟨_,o,ho,hall⟩:=mem_ready.1 hr;rw[hn]at ho;obtain rfl:=zc2 ho
  cases hl:listed.getD e false with
  |true=>exact .inl rfl
  |false=>
   refine .inr (mem_ready.2 ⟨?_,oe,he,λd hd hb=>?_⟩)
   .rw[ze2]at hl ⊢;have hlt:e<listed.size:=by omega
    rw[Array.getElem?_eq_getElem hlt]at hl ⊢;exact hl
   .obtain⟨d',h1,h2,h3⟩:=hsub d hd hb;rw[<- h3];exact hall d' h1 h2
 obtain⟨x,k,hop,hg⟩:∃x k,oe.op = .extract x k/\oe.guard=none:=by
  unfold exB at hex;split at hex
  .rename_i x k hx;split at hex
   .rename_i hg;exact⟨x,k,hx,hg⟩
   .cases hex
  .cases hex
 have hwant:∀y,Region.wanted oe y=true:=λy=>by unfold Region.wanted;rw[hg]
 have hnlo:¬ LetsOut Q:=λ⟨a,w,h⟩=>by have:=hQ _ _ _ h;cases this
 intro fuel
 induction fuel with
 |zero=>
  intro listed a w hz h;refine⟨?_,h.2⟩;have h0:=h.1;refine List.eq_nil_iff_forall_not_mem.2 λi hi=>?_;have no:∀j,¬ j∈Region.ready .any (patch ops n e) listed:=λj=>by rw[h0];exact zf9
  by_cases hin:i=n
  .subst hin
   rcases key listed hz hi with hl | hl
   .exact no _ (lU.2 ⟨hi,λ_=>hl⟩)
   .exact no _ (lU.2 ⟨hl,λh=>absurd h hne⟩)
  .exact no _ (lU.2 ⟨hi,λh=>absurd h hin⟩)
 |succ fuel ih=>
  intro listed a w hz h
  by_cases hre:e∈Region.ready .any ops listed
  .have h2:=h.2 e (lU.2 ⟨hre,λh=>absurd h hne⟩);rw[Bq]at h2;unfold wpOp at h2;rw[he]at h2;simp only[hwant,if_true]at h2;have hx:∃v,(∀w,(execOp a.eval oe).run P w = .ok (.value v) w)/\wpAny P .any (patch ops n e) Q fuel (listed.setIfInBounds e true) (a.put oe.dst v) w:=by
    rcases h2 with h2 | h2
    .unfold Oper.wp at h2;have hr:∀w,(execOp a.eval oe).run P w=(do let v <- Instr.extract (a.eval x) k;pure (Next.value v)).run P w:=λw=>by unfold execOp;simp only[hop]
     cases ht:a.eval x with
     |tuple vs=>
      cases hv:vs[k]? with
      |some v=>
       have hrun:∀w,(execOp a.eval oe).run P w = .ok (.value v) w:=λw=>by
        rw[hr,ht];unfold Instr.extract;simp only[hv];rfl
       refine⟨v,hrun,?_⟩;rw[hrun]at h2;exact h2
      |none=>
       rw[hr,ht]at h2;unfold Instr.extract at h2;simp only[hv]at h2;exact h2.elim
     |_=>
      rw[hr,ht]at h2;unfold Instr.extract at h2;exact h2.elim
    .exact absurd h2.2 hnlo
   obtain⟨v,hrun,h3⟩:=hx;have h4:=ih (listed.setIfInBounds e true) _ w (by simpa using hz) h3;have hfl:Region.free .any ops listed e=true:=V7 he (λj hj hpj=>by
    obtain⟨d,hd1,hd2,rfl⟩:=zM hj hpj;obtain⟨_,o,ho,hall⟩:=mem_ready.1 hre;rw[he]at ho;obtain rfl:=zc2 ho;have:=hall d (by simpa using hd1) hd2;rw[ze2]at this ⊢;have hlt:d.on<listed.size:=by omega
    rw[Array.getElem?_eq_getElem hlt]at this ⊢;exact this) hf
   exact wpAny_take he hs hfl (by simpa using hre) (λc a w h=>by have:=hQ _ _ _ h;cases this) (.inl ⟨hwant _,hrun⟩) h4
  .have hiff:∀i,i∈Region.ready .any (patch ops n e) listed↔i∈Region.ready .any ops listed:=λi=>by
    rw[lU];refine⟨λh=>h.1,λhi=>⟨hi,λhin=>?_⟩⟩;subst hin
    rcases key listed hz hi with hl | hl
    .exact hl
    .exact absurd hl hre
   refine⟨λh0=>h.1 (List.eq_nil_iff_forall_not_mem.2 λi hi=>?_),λi hi=>?_⟩
   .have:=(hiff i).1 hi;rw[h0]at this;cases this
   .have h2:=h.2 i ((hiff i).2 hi);rw[Bq]at h2;exact wpOp_mono (λa w hK=>ih _ a w (by simpa using hz) hK) h2
end
theorem Vx{P:Program}{id:Nat}{ops:Array Oper}{Q:Act->zg6}{Q':Exit->Act->zg6}{a:Act}{w:World}(hm:P.follows .mixedOrders=true)(hd:P.types.size+Made.depth≠0)
  (hk:Vz ops=true) (hq:∀a u d,Q a u->Q' .normal a (dr u d)) (h:WG P (NZ ops) Q a w) (d:Nat):(Code.region id ops true).wp P Q' a (dr w d):=by
 unfold Vz at hk;split at hk
 .rename_i on hn;split at hk
  .rename_i oe he;simp only[ze5]at hk;obtain⟨⟨⟨⟨⟨k1,k2⟩,k3⟩,k4⟩,k5⟩,k6⟩:=hk;have h1:=Dv (Q':=λe a w=>e = .normal/\Q' .normal a w) hd k6 (λa u d hh=>⟨rfl,hq a u d hh⟩) h d;refine wp_region_any hm ?_;have hz:(NZ ops).size=ops.size:=MP;rw[hz]at h1;refine tu _ _ _ _ (QL (n:=pX ops.toList) (e:=MQ ops) k1 he hn k2 (λe=>?_) (λd hd' hb=>?_) k5 (λe a w hq=>hq.1) _ _ _ _ (by simp) h1)
   .have:Nat.beq (MQ ops) (pX ops.toList)=true:=by rw[e];simp
    rw[this]at k3;cases k3
   .have:=zd8.1 k4 d (by simpa using hd');rw[hb]at this;simp only[Bool.not_true,Bool.false_or]at this;exact qy this
  .cases hk
 .cases hk
inductive An where
 |nil
 |mk (keep:Option (List Nat)) (x y:An)
def An.fst:An->An
 | .nil => .nil
 | .mk _ x _=>x
def An.snd:An->An
 | .nil => .nil
 | .mk _ _ y=>y
def An.keep:An->Option (List Nat)
 | .nil=>none
 | .mk k _ _=>k
def Lp(g:Nat->Value):List Nat->Nat->List Value->List Value
 |_,_,[]=>[]
 | [],i,_::vs=>g i::Lp g [] (i+1) vs
 |l::ls,i,v::vs=>match Nat.beq i l with
  |true=>v::Lp g ls (i+1) vs
  |false=>g i::Lp g (l::ls) (i+1) vs
def mix(L:List Nat)(g:Nat->Value)(a:Act):Act:=⟨(Lp g L 0 a.tmps.toList).toArray,a.defers⟩
def clr(L:List Nat)(a:Act):Act:=mix L (λ_=>undef) a
theorem lI{g h:Nat->Value}:∀(vs:List Value) (L:List Nat) (i:Nat),(∀j,i<=j->g j=h j)->Lp g L i vs=Lp h L i vs
 | [],L,i,_=>by cases L <;> rfl
 |v::vs,[],i,hg=>by
  simp only[Lp];rw[hg i (zb4 _),lI vs [] (i+1) (λj hj=>hg j (by omega))]
 |v::vs,l::ls,i,hg=>by
  simp only[Lp];rw[hg i (zb4 _),lI vs ls (i+1) (λj hj=>hg j (by omega)),lI vs (l::ls) (i+1) (λj hj=>hg j (by omega))]
theorem uQ(h:Nat->Value):∀(vs:List Value) (L:List Nat) (i:Nat),Lp (λj=>vs.getD (j - i) undef) L i (Lp h L i vs)=vs
 | [],L,i=>by cases L <;> rfl
 |v::vs,L,i=>by
  have hc:∀j,i+1<=j->(v::vs).getD (j - i) undef=vs.getD (j - (i+1)) undef:=by
   intro j hj;rw[show j - i=(j - (i+1))+1 by omega];rfl
  cases L with
  |nil=>
   simp only[Lp,zf8,List.getD_cons_zero,List.cons.injEq,true_and];rw[lI _ _ _ hc];exact uQ h vs [] (i+1)
  |cons l ls=>
   cases hb:Nat.beq i l with
   |true=>
    simp only[Lp,hb];rw[lI _ _ _ hc,uQ h vs ls (i+1)]
   |false=>
    simp only[Lp,hb,zf8,List.getD_cons_zero];rw[lI _ _ _ hc,uQ h vs (l::ls) (i+1)]
theorem JO(L:List Nat)(a:Act):∃g,mix L g (clr L a)=a:=by
 obtain⟨⟨tm⟩,df⟩:=a;exact⟨_,by
  unfold mix clr mix;simp only;congr 1;exact congrArg List.toArray (uQ (λ_=>undef) tm L 0)⟩
def jT(o:Option (List Nat))(F:Act->zg6)(a:Act)(w:World):Prop:=match o with
 |none=>F a w
 |some L=>(λa0=>∀g:Nat->Value,F (mix L g a0) w) (clr L a)
theorem Gl{o:Option (List Nat)}{F:Act->zg6}{a:Act}{w:World}(h:jT o F a w):F a w:=by
 cases o with
 |none=>exact h
 |some L=>
  obtain⟨g,hg⟩:=JO L a;have:=h g
  rwa [hg]at this
def bg(L:List Nat)(body:(Exit->Act->zg6)->Act->zg6)(Q:Exit->Act->zg6):Nat->Act->World->Prop
 |0,_,_=>False
 |k+1,a,w=>∀g:Nat->Value,body (Exit.then (λa w=>bg L body Q k (clr L a) w) Q) (mix L g a) w
def uV(P:Program):Code->An->(Exit->Act->zg6)->Act->World->Prop
  | .skip,_,Q,a,w=>Q .normal a w
  | .region _ ops false,_,Q,a,w=>W9 P ops (Q .normal) ops.toList a w
  | .region _ ops true,_,Q,a,w=>match UX P ops true with
    |true=>G6 P ops (Q .normal) ops.toList a w
    |false=>match Region.lexTailB .any ops (pX ops.toList) with
     |true=>WG P ops (Q .normal) a w
     |false=>match Region.lexB .any ops with
      |true=>match Yf ops.toList with
       |true=>match Je P ops ops.toList 0 with
        |true=>a0D P ops (Q .normal) a w
        |false=>match Oo ops&&Region.lexTailB .any (hoist ops) (pX (hoist ops).toList) with
         |true=>WG P (hoist ops) (Q .normal) a w
         |false=>match Vz ops with
          |true=>WG P (NZ ops) (Q .normal) a w
          |false=>False
       |false=>match XQ ops.toList&&Region.lexTailB .any ops (Gy ops.toList) with
        |true=>a0H P ops (Q .normal) a w
        |false=>match Vt P ops.toList with
         |true=>TM P ops w (Q .normal) ops.toList a
         |false=>a0K P ops (Q .normal) a w
      |false=>False
  | .seq x y,n,Q,a,w=>uV P x n.fst (Exit.then (jT n.keep (uV P y n.snd Q)) Q) a w
  | .cond c x y,n,Q,a,w=>match a.eval c with
    | .bool b=>af b (uV P x n.fst Q a w) (uV P y n.snd Q a w)
    |_=>False
  | .block id c,n,Q,a,w=>uV P c n.fst (Exit.inBlock id Q) a w
  | .loop c,n,Q,a,w=>∃k,bg (n.keep.getD []) (uV P c n.fst) Q k (clr (n.keep.getD []) a) w
  | .exit id,_,Q,a,w=>Q (.exit id) a w
  | .ret,_,Q,a,w=>Q .ret a w
  | .rangeFunc g ps asg body,_,Q,a,w=>match Nat.beq ps.size 2 with
    |true=>OT P (a.eval g) w (λx y u K=>match YL asg { tmps:=(ps.zip #[.int .i64 x,.int .i64 y]).foldl (λt (p,v)=>t.setIfInBounds p v) a.tmps,defers:=[] } with
        |some a1=>sD P body (a0w K) a1 u
        |none=>False)
        (λD u=>Q .normal { a with defers:={ target := .collected D,args := #[] }::a.defers } u)
    |false=>False
  |_,_,_,_,_=>False
theorem Code.zf{P:Program}{c:Code}{n:An}{L:List Nat}{Q:Exit->Act->zg6}(step:∀(Q:Exit->Act->zg6) a w,uV P c n Q a w->∀d,c.wp P (upD Q) a (dr w d)) :
  ∀(k:Nat) (a:Act) (w:World),bg L (uV P c n) Q k (clr L a) w->∀d,∀(b:Frame) (kk:List Item) (cs:List Frame),
   ∃e a' w',upD Q e a' w'/\Arrives P (lone (b.at a (.code c :: .inLoop c::kk)) cs (dr w d)) b kk cs e a' w'
 |0,_,_,h,_=>h.elim
 |k+1,a,w,h,d=>λb kk cs=>by
  obtain⟨g,hg⟩:=JO L a;have h:=h g;rw[hg]at h;obtain⟨e,a₁,w₁,⟨u,d',hw,hq⟩,harr⟩:=step _ a w h d b (.inLoop c::kk) cs;subst hw
  cases e with
  |normal=>
   obtain⟨e₂,a₂,w₂,hq₂,harr₂⟩:=Code.zf step k a₁ u hq d' b kk cs;exact⟨e₂,a₂,w₂,hq₂,.of_steps (Steps.trans harr (.one step_inLoop)) harr₂⟩
  |exit id=>exact⟨_,a₁,_,⟨u,d',rfl,hq⟩,.pass (x := .inLoop c) rfl (λ_ _ => .inl (by simp)) harr⟩
  |goto l=>exact⟨_,a₁,_,⟨u,d',rfl,hq⟩,.pass (x := .inLoop c) rfl (λ_ _ => .inl (by simp)) harr⟩
  |ret=>exact⟨_,a₁,_,⟨u,d',rfl,hq⟩,.pass (x := .inLoop c) rfl (λ_ _ => .inl (by simp)) harr⟩
  |panic ch=>exact⟨_,a₁,_,⟨u,d',rfl,hq⟩,.pass (x := .inLoop c) rfl (λ_ _ => .inl (by simp)) harr⟩
  |outgrown=>exact⟨_,a₁,_,⟨u,d',rfl,hq⟩,.pass (x := .inLoop c) rfl (λ_ _ => .inl (by simp)) harr⟩
theorem oJ{P:Program}(hm:P.follows .mixedOrders=true)(hd:P.types.size+Made.depth≠0):∀(c:Code) (n:An) (Q:Exit->Act->zg6) (a:Act) (w:World),uV P c n Q a w->∀d,c.wp P (upD Q) a (dr w d)
 | .skip,n,Q,a,w,h,d=>wp_skip ⟨w,d,rfl,h⟩
 | .region id ops false,n,Q,a,w,h,d=>(wpIn_wide (n:=0)).1 (wpIn_region_list (qI (ro:=none) hd (λa u d hq=>⟨u,d,rfl,hq⟩) _ _ _ h d))
 | .region id ops true,n,Q,a,w,h,d=>by
  unfold uV at h;split at h
  .rename_i hok;exact VL hm hd hok (λa u d hq=>⟨u,d,rfl,hq⟩) h d
  .rename_i hok
   .split at h
    .rename_i htail;exact Wy hm hd htail (λa u d hq=>⟨u,d,rfl,hq⟩) h d
    .split at h
     .rename_i hlex;split at h
      .split at h
       .exact Wx hm hd hlex (λa u d hq=>⟨u,d,rfl,hq⟩) h d
       .split at h
        .rename_i hh;rw[ze5]at hh;exact VM hm hd hh.1 hh.2 (λa u d hq=>⟨u,d,rfl,hq⟩) h d
        .split at h
         .rename_i hh;exact Vx hm hd hh (λa u d hq=>⟨u,d,rfl,hq⟩) h d
         .exact h.elim
      split at h
      .rename_i hh;rw[ze5]at hh;exact WN hm hd hh.2 (λa u d hq=>⟨u,d,rfl,hq⟩) h d
      split at h
      .exact Vm hm hd hlex (λa u d hq=>⟨u,d,rfl,hq⟩) h d
      .exact Wj hm hd hlex (λa u d hq=>⟨u,d,rfl,hq⟩) h d
     .exact h.elim
 | .seq x y,n,Q,a,w,h,d=>by
  refine wp_seq (wp_mono (oJ hm hd x n.fst _ a w h d) ?_);rintro e a' w' ⟨u,d',rfl,hq⟩
  cases e with
  |normal=>exact oJ hm hd y n.snd Q a' u (Gl hq) d'
  |exit id=>exact⟨u,d',rfl,hq⟩
  |goto l=>exact⟨u,d',rfl,hq⟩
  |ret=>exact⟨u,d',rfl,hq⟩
  |panic ch=>exact⟨u,d',rfl,hq⟩
  |outgrown=>exact⟨u,d',rfl,hq⟩
 | .cond c x y,n,Q,a,w,h,d=>by
  unfold uV at h;split at h
  .rename_i b hb;rw[aQ]at h;refine wp_cond_split hb (λht=>oJ hm hd x n.fst Q a w (h.1 ht) d) (λhf=>oJ hm hd y n.snd Q a w (h.2 hf) d)
  .exact h.elim
 | .block id c,n,Q,a,w,h,d=>by
  refine wp_block (wp_mono (oJ hm hd c n.fst _ a w h d) ?_);rintro e a' w' ⟨u,d',rfl,hq⟩
  cases e with
  |exit id' =>
   simp only[Exit.inBlock]at hq ⊢
   split
   .rename_i hid;rw[if_pos hid]at hq;exact⟨u,d',rfl,hq⟩
   .rename_i hid;rw[if_neg hid]at hq;exact⟨u,d',rfl,hq⟩
  |normal=>exact⟨u,d',rfl,hq⟩
  |goto l=>exact⟨u,d',rfl,hq⟩
  |ret=>exact⟨u,d',rfl,hq⟩
  |panic ch=>exact⟨u,d',rfl,hq⟩
  |outgrown=>exact⟨u,d',rfl,hq⟩
 | .loop c,n,Q,a,w,h,d=>by
  obtain⟨k,hk⟩:=h;intro b kk cs;obtain⟨e,a',w',hq,harr⟩:=Code.zf (Q:=Q) (λQ a w h d=>oJ hm hd c n.fst Q a w h d) k a w hk d b kk cs;exact⟨e,a',w',hq,.of_steps (.one step_loop) harr⟩
 | .exit id,n,Q,a,w,h,d=>wp_exit ⟨w,d,rfl,h⟩
 | .ret,n,Q,a,w,h,d=>wp_ret ⟨w,d,rfl,h⟩
 | .scope _,_,_,_,_,h,_=>h.elim
 | .label _,_,_,_,_,h,_=>h.elim
 | .goto _,_,_,_,_,h,_=>h.elim
 | .rangeFunc g ps asg body,n,Q,a,w,h,d=>by
  unfold uV at h;split at h
  .rename_i hb;refine PW hm hd (Nat.eq_of_beq_eq_true hb) (λx y u K hr=>?_) (λD u hf=>hf) h d;split at hr
   .rename_i a1 ha;exact⟨a1,ha,hr⟩
   .exact hr.elim
  .exact h.elim
 | .refuse _,_,_,_,_,h,_=>h.elim
def TQ(P:Program):List ResultVar->Array Value->World->(List Value->Prop)->Prop
 | [],_,_,K=>K []
 | .tmp t::rs,tm,w,K=>TQ P rs tm w λvs=>K (tm.getD t undef::vs)
 | .cell a t::rs,tm,w,K=>Lc (tm.getD a undef) λad=>ldT P t w ad λv=>TQ P rs tm w λvs=>K (v::vs)
def resV:List Value->Value
 | [v]=>v
 |vs => .tuple vs.toArray
def nw(w:World)(K:zg6):Prop:=K w
def fin(P:Program)(fn:Func)(R:Value->zg6):Exit->Act->World->Prop
 | .normal,a,u | .ret,a,u=>match a.defers with
  | []=>TQ P fn.results.toList a.tmps u λvs=>R (resV vs) u
  | [dd]=>match dd.target with
   | .collected D=>u.heap[D]?=some (.deferred (some []))/\nw (u.putObj D (.deferred none)) λu'=>TQ P fn.results.toList a.tmps u' λvs=>R (resV vs) u'
   |_=>False
  |_=>False
 |_,_,_=>False
def codeOf(fn:Func):Code:=match fn.body with
 |some c=>c
 | none => .refuse ""
def XV(fn:Func)(args:Array Value):Act:=⟨args++Array.replicate (fn.ntmps - args.size) undef,[]⟩
def fnN(P:Program)(fn:Func)(n:An)(args:Array Value)(w:World)(R:Value->zg6):Prop :=
 uV P (codeOf fn) n (fin P fn R) (XV fn args) w
def Zc(tm:Array Value):ResultVar->Sem Value
 | .tmp t=>pure (tm.getD t undef)
 | .cell a t=>do loadVar t (<- asAddr (tm.getD a undef))
theorem D8{P:Program}{w:World}:∀(rs:List ResultVar) (tm:Array Value) (K:List Value->Prop),TQ P rs tm w K ->
  ∃vs,(∀d,(rs.mapM (Zc tm)).run P (dr w d) = .ok vs (dr w d))/\K vs
 | [],tm,K,h=>⟨[],λ_=>rfl,h⟩
 | .tmp t::rs,tm,K,h=>by
  obtain⟨vs,hr,hK⟩:=D8 rs tm _ h;refine⟨_,λd=>?_,hK⟩;rw[List.mapM_cons,run_bind' P _ _ _ _ (tm.getD t undef) rfl,run_bind' P _ _ _ _ _ (hr d)];rfl
 | .cell a t::rs,tm,K,h=>by
  unfold TQ at h;obtain⟨ad,ha,h⟩:=ql h;obtain⟨v,hv,h⟩:=NM h;obtain⟨vs,hr,hK⟩:=D8 rs tm _ h;refine⟨_,λd=>?_,hK⟩;rw[List.mapM_cons,run_bind' P _ _ _ (dr w d) v (by
   unfold Zc;simp only[ha];rw[run_bind' P _ _ _ _ ad rfl];exact hv (Kp.dr w d)),run_bind' P _ _ _ _ _ (hr d)]
  rfl
theorem PH{P:Program}{fn:Func}{tm:Array Value}{R:Value->zg6}{u:World}(h:TQ P fn.results.toList tm u λvs=>R (resV vs) u)(d:Nat) :
  ∃v,(results fn tm).run P (dr u d) = .ok v (dr u d)/\∃v' u' d',Ending.returned v = .returned v'/\dr u d=dr u' d'/\R v' u':=by
 obtain⟨vs,hr,hK⟩:=D8 _ _ _ h;refine⟨resV vs,?_,_,_,_,rfl,rfl,hK⟩;have e:results fn tm=(do
   let vs <- fn.results.mapM (Zc tm)
   pure (if h:vs.size=1 then vs[0] else .tuple vs)):=by
  unfold results;congr 1
 rw[e,Array.mapM_eq_mapM_toList];have:=hr d;rw[Sem.run_bind,Sem.run_map,this];simp only[Result.andThen_ok,Sem.run_pure];congr 1
 match vs with
 | []=>rfl
 | [v]=>rfl
 |v::v2::vs=>rfl
theorem Rk{P:Program}{fn:Func}{R:Value->zg6}{e:Exit}{a:Act}{u:World}(h:fin P fn R e a u)(d n:Nat) :
  bodyPostM Fence.wide n P fn (λe w'=>∃v u d',e = .returned v/\w'=dr u d'/\R v u) e a (dr u d):=by
 have go:(match a.defers with
   | []=>TQ P fn.results.toList a.tmps u λvs=>R (resV vs) u
   | [dd]=>match dd.target with
    | .collected D=>u.heap[D]?=some (.deferred (some []))/\nw (u.putObj D (.deferred none)) λu'=>TQ P fn.results.toList a.tmps u' λvs=>R (resV vs) u'
    |_=>False
   |_=>False) ->
   LeavesInM Fence.wide n P fn a.tmps (λe w'=>∃v u d',e = .returned v/\w'=dr u d'/\R v u) a.defers .returning (dr u d):=by
  intro h;split at h
  .rename_i hdf;rw[hdf];exact PH h d
  .rename_i dd hdf;rw[hdf];split at h
   .rename_i D hD;obtain⟨hk,hr⟩:=h;refine⟨by simp,.inl ⟨D,_,hD,run_takeDeferred (P:=P) (show(dr u d).heap[D]?=_ from hk),?_⟩⟩;exact PH (u:=u.putObj D (.deferred none)) hr d
   .exact h.elim
  .exact h.elim
 cases e with
 |normal=>exact go h
 |ret=>exact go h
 |exit id=>exact h.elim
 |goto l=>exact h.elim
 |panic c=>exact h.elim
 |outgrown=>exact h.elim
theorem PD{P:Program}{f:FuncId}{fn:Func}{n:An}{args:Array Value}{w:World}{R:Value->zg6}(hm:P.follows .mixedOrders=true)(hd:P.types.size+Made.depth≠0)
  (hf:P.funcs[f]?=some fn) (hb:fn.body.isSome=true) (h:fnN P fn n args w R):CallsD P f args w R:=by
 intro d;obtain⟨c,hc⟩:=Option.isSome_iff_exists.1 hb;refine(callsIn_wide (n:=0)).1 (callsIn_of_wp_marks hf hc trivial ((wpIn_wide).2 (wp_mono (oJ hm hd c n _ _ w (by unfold fnN codeOf at h;rw[hc]at h;exact h) d) ?_)) rfl);rintro e a w' ⟨u,d',rfl,hq⟩;exact Rk hq d' 0
def sub:Code->List Nat->Code
 |c,[]=>c
 | .seq x _,0::p=>sub x p
 | .seq _ y,(_+1)::p=>sub y p
 | .cond _ x _,0::p=>sub x p
 | .cond _ _ y,(_+1)::p=>sub y p
 | .block _ x,_::p=>sub x p
 | .loop x,_::p=>sub x p
 |c,_=>c
def ZC:An->List Nat->An
 |n,[]=>n
 | .mk _ x _,0::p=>ZC x p
 | .mk _ _ y,(_+1)::p=>ZC y p
 | .nil,_ => .nil
def na(w:World):Addr:=⟨w.heap.size,0,none⟩
abbrev OA:=Option Addr
abbrev VP:=Value->World->Prop
abbrev QT:=Exit->Act->World->Prop
def U:Nat->List Value->List Value
 |0,l=>l
 |n+1,l=>undef::U n l
def cdN(P:Program)(f:Func)(n:An)(p:List Nat):QT->Act->World->Prop:=uV P (sub (codeOf f) p) (ZC n p)
abbrev cI(w:World)(a:Addr)(k:IntKind)(K:Int->Prop):Prop:=∃x:Int,w.cell? a=some (.int k x)/\K x
abbrev cF(w:World)(a:Addr)(k:FloatKind)(K:Nat->Prop):Prop:=∃x:Nat,w.cell? a=some (.float k x)/\K x
abbrev cB(w:World)(a:Addr)(K:Bool->Prop):Prop:=∃x:Bool,w.cell? a=some (.bool x)/\K x
abbrev cS(w:World)(a:Addr)(K:ByteArray->Prop):Prop:=∃x:ByteArray,w.cell? a=some (.string x)/\K x
abbrev cL(w:World)(a:Addr)(K:OA->Nat->Nat->Prop):Prop:=∃(b:OA) (n c:Nat),w.cell? a=some (.slice b n c)/\K b n c
abbrev cM(w:World)(a:Addr)(K:Option Nat->Prop):Prop:=∃x:Option Nat,w.cell? a=some (.map x)/\K x
abbrev cV(w:World)(a:Addr)(K:Value->Prop):Prop:=∃x:Value,w.cell? a=some x/\K x
abbrev st(w:World)(a:Addr)(v:Value)(K:zg6):Prop:=su w a/\nw (w.setCell a v) K
abbrev ix(a:OA)(n:Nat)(i:Int)(K:Addr->Prop):Prop:=aV a λq=>chk ((0:Int)<=i/\i<(n:Int)) (K q)
abbrev inc(x:Int)(K:Int->Prop):Prop:=nv (IntKind.i64.wrap (x+1)) K
def Tn(P:Program)(v:Value)(args:Array Value)(w:World)(K:Value->zg6):Prop:=match v with
 | .func (.func f) first captured=>if kZ P f=true then CallsD P f (first++args++captured) w K else False
 |_=>False
theorem ju{p q:Prop}(h:p=∀_:Nat->Value,q:=by kernel_rfl):p=q:=h.trans (propext (forall_const _))
theorem Nz{P:Program}(hm:P.follows .mixedOrders=true)(hd:P.types.size+Made.depth≠0){f:FuncId}{fn:Func}{n:An}{args:Array Value}{w:World}{R:VP}{p:Prop}(hf:P.funcs[f]?=some fn)(hb:fn.body.isSome=true)(h:p)(e:fnN P fn n args w R=p):CallsD P f args w R :=
 PD (n:=n) hm hd hf hb (e.mpr h)
abbrev aR(x:An):An := .mk none .nil x
abbrev aL(x:An):An := .mk none x .nil
abbrev qS(o:Option (List Nat))(c:QT->Act->zg6)(q:QT):QT:=Exit.then (jT o (c q)) q
abbrev qL(L:List Nat)(c:QT->Act->zg6)(q:QT)(k:Nat):QT:=Exit.then (λa w=>bg L c q k (clr L a) w) q
abbrev fr(l:List Value):Act:=⟨l.toArray,[]⟩
abbrev KpF(F:Nat->Value->zg6):Prop:=∀i v u u',F i v u->Below u.heap.size u u'->F i v u'
end Go.E
abbrev zg0:=@Go.E.CallsD.mono
abbrev zg2:=@Go.E.Mod.trans
