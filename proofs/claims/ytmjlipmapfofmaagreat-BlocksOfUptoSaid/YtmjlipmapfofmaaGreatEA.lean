/- An evaluator of code as propositions (weakest preconditions), sound for whatever program under mixed orders; no conditions. -/
import Derived.Calls
import Derived.Deep.Quiet
import Derived.StillTail
import Derived.Laws.Tables
import Derived.Laws.MakeOwn
import Derived.Below
import Derived.Tactics
import Derived.RangeFuncRecord
import Derived.RangeFuncSeq
import Derived.RangeFuncLeaves
import Derived.Sort.QuietThIn
import Derived.TacticsIn
import Derived.KernelRfl
set_option linter.unusedVariables false
set_option linter.unusedSimpArgs false
set_option linter.unusedSectionVars false
namespace Go.E
open Go
def dr (w:World) (d:Nat):World:={ w with drawn:=d }
theorem jk (w:World):dr w w.drawn=w:=rfl
structure Kp (w:World) where
 out:World
 keep:∀ a v,w.cell? a=some v→out.cell? a=some v
def Kp.dr (w:World) (d:Nat):Kp w:=⟨E.dr w d,fun _ _ h=>h⟩
def CallsD (P:Program) (f:FuncId) (args:Array Value) (w:World) (R:Value→World→Prop):Prop :=
 ∀ d,Calls P f args (dr w d) fun e w'=>∃ v u d',e = .returned v∧w'=dr u d'∧R v u
theorem CallsD.mono {P:Program} {f:FuncId} {args:Array Value} {w:World} {R R':Value→World→Prop} (h:CallsD P f args w R)
  (hr:∀ v u,R v u→R' v u):CallsD P f args w R' :=
 fun d=>(h d).mono fun _ _ ⟨v,u,d',e1,e2,r⟩=>⟨v,u,d',e1,e2,hr _ _ r⟩
def chk (c:Prop) [h:Decidable c] (K:Prop):Prop := @Decidable.rec c (fun _=>Prop) (fun _=>False) (fun _=>K) h
def Su (c:Prop) [h:Decidable c] (K:Prop):Prop := @Decidable.rec c (fun _=>Prop) (fun _=>K) (fun _=>False) h
theorem nK {c K:Prop} [h:Decidable c]:chk c K↔c∧K:=by cases h <;> simp_all [chk]
theorem zn {c K:Prop} [h:Decidable c]:Su c K↔¬ c∧K:=by cases h <;> simp_all [Su]
def nv {α:Type} (x:α) (K:α→Prop):Prop:=K x
def af (b:Bool) (t f:Prop):Prop:=match b with
 | true=>t
 | false=>f
theorem aH (b:Bool) (t f:Prop):af b t f↔((b=true→t)∧(b=false→f)):=by cases b <;> simp [af]
inductive Lf where
 | bool | int (k:IntKind) | float (k:FloatKind) | string | slice | pointer | map | any
def Lf.ex:Lf→(Value→Prop)→Prop
 | .bool,K=>∃ b,K (.bool b)
 | .int k,K=>∃ n,K (.int k n)
 | .float k,K=>∃ n,K (.float k n)
 | .string,K=>∃ s,K (.string s)
 | .slice,K=>∃ a n c,K (.slice a n c)
 | .pointer,K=>∃ a,K (.pointer a)
 | .map,K=>∃ r,K (.map r)
 | .any,K=>∃ v,K v
theorem Lf.sQ {l:Lf} {K:Value→Prop} (h:l.ex K):∃ v,K v:=by
 cases l <;> simp only [Lf.ex] at h
 all_goals first
  | exact h
  | (obtain ⟨a,n,c,h⟩:=h; exact ⟨_,h⟩)
  | (obtain ⟨a,h⟩:=h; exact ⟨_,h⟩)
def lvs (P:Program):Nat→TypeId→List Lf
 | 0,_=>[]
 | n+1,t=>match P.underlying t with
  | some .bool=>[.bool]
  | some (.int k)=>[.int k]
  | some (.float k)=>[.float k]
  | some .string=>[.string]
  | some (.slice _)=>[.slice]
  | some (.pointer _)=>[.pointer]
  | some (.map _ _)=>[.map]
  | some (.struct fs)=>fs.toList.flatMap fun f=>lvs P n f.type
  | some (.array len e)=>(List.replicate len (lvs P n e)).flatten
  | _=>[.any]
def ldN (w:World) (a:Addr):Nat→List Lf→(List Value→Prop)→Prop
 | _,[],K=>K []
 | i,l::ls,K=>l.ex fun v=>w.cell? (a.add i)=some v∧ldN w a (i+1) ls fun vs=>K (v::vs)
theorem EF (w:World) (a:Addr):∀ (ls:List Lf) (i:Nat) (K:List Value→Prop),ldN w a i ls K →
  ∃ vs,vs.length=ls.length∧(∀ j v,vs[j]?=some v→w.cell? (a.add (i+j))=some v)∧K vs
 | [],_,K,h=>⟨[],rfl,by simp,h⟩
 | l::ls,i,K,h=>by
  obtain ⟨v,hv,h2⟩:=Lf.sQ h
  obtain ⟨vs,hl,hc,hK⟩:=EF w a ls (i+1) _ h2
  refine ⟨v::vs,by simp [hl],fun j u hj=>?_,hK⟩
  cases j with
  | zero=>simp at hj; subst hj; simpa using hv
  | succ j=>simp at hj; have:=hc j u hj; rwa [show i+(j+1)=i+1+j by omega]
def WQ (P:Program) (t:TypeId):Bool:=match P.underlying t with
 | some (.struct _) | some (.array _ _)=>true
 | _=>false
def ldT (P:Program) (t:TypeId) (w:World) (a:Addr) (K:Value→Prop):Prop :=
 match P.underlying t with
 | some (.struct _) | some (.array _ _) =>
  if ((P.info? t).map (·.size))=some (lvs P 8 t).length then ldN w a 0 (lvs P 8 t) (fun vs=>K (.agg vs.toArray)) else False
 | none=>False
 | some _=>match lvs P 8 t with
  | [l]=>l.ex fun v=>w.cell? a=some v∧K v
  | _=>False
theorem run_loadCellsFrom (P:Program) (w:World) (a:Addr):∀ (vs:List Value) (i:Nat) (acc:Array Value),(∀ j v,vs[j]?=some v→w.cell? (a.add (i+j))=some v) →
  (loadCellsFrom a i vs.length acc).run P w = .ok (acc++vs.toArray) w
 | [],i,acc,_=>by simp [loadCellsFrom,pure]
 | v::vs,i,acc,h=>by
  have h0:=h 0 v rfl
  have ih:=run_loadCellsFrom P w a vs (i+1) (acc.push v) (fun j u hj=>by have:=h (j+1) u (by simpa using hj); rwa [show i+(j+1)=i+1+j by omega] at this)
  rw [Nat.add_zero] at h0
  simp only [List.length_cons,loadCellsFrom,load,bind,Sem.bind,Sem.run,h0]
  rw [ih]
  simp
theorem run_bind' {α β:Type} (P:Program) (s:Sem α) (f:α→Sem β) (w w1:World) (a:α) (h:s.run P w = .ok a w1):(s >>= f).run P w=(f a).run P w1:=by
 rw [Sem.run_bind,h]; rfl
theorem oW (P:Program) (w:World):program.run P w = .ok P w:=rfl
theorem run_typeInfo {P:Program} {t:TypeId} {i:TypeInfo} (h:P.info? t=some i) (w:World):(typeInfo t).run P w = .ok i w:=by
 unfold typeInfo
 rw [run_bind' P _ _ w w P (oW P w),h]
 rfl
theorem cZ {P:Program} {t:TypeId} {i:TypeDesc} (h:P.underlying t=some i) (w:World):(underlying t).run P w = .ok i w:=by
 unfold underlying
 rw [run_bind' P _ _ w w P (oW P w),h]
 rfl
theorem jU {P:Program} {t:TypeId} {n:Nat} (h:(P.info? t).map (·.size)=some n) (w:World):(sizeOf t).run P w = .ok n w:=by
 unfold sizeOf
 cases hi:P.info? t with
 | none=>rw [hi] at h; cases h
 | some i =>
  rw [hi] at h
  simp only [Option.map_some,Option.some.injEq] at h
  rw [run_bind' P _ _ w w i (run_typeInfo hi w),← h]
  rfl
def O3:TypeDesc→Bool
 | .struct _=>true
 | .array _ _=>true
 | _=>false
theorem nV {P:Program} {t:TypeId} {i:TypeDesc} (h:P.underlying t=some i) (w:World) :
  (isAgg t).run P w = .ok (O3 i) w:=by
 unfold isAgg
 rw [run_bind' P _ _ w w i (cZ h w)]
 cases i <;> rfl
theorem Kw {P:Program} {a:Addr} {w:World} {v:Value} (h:w.cell? a=some v):(load a).run P w = .ok v w:=by
 simp [load,Sem.run,h]
theorem J5 {P:Program} {t:TypeId} {w:World} {a:Addr} {K:Value→Prop} (h:ldT P t w a K) :
  ∃ v,(∀ d:Kp w,(loadVar t a).run P d.out = .ok v d.out)∧K v:=by
 unfold ldT at h
 have agg:∀ (x:TypeDesc),P.underlying t=some x→O3 x=true →
   (if ((P.info? t).map (·.size))=some (lvs P 8 t).length then ldN w a 0 (lvs P 8 t) (fun vs=>K (.agg vs.toArray)) else False)→∃ v,(∀ d:Kp w,(loadVar t a).run P d.out = .ok v d.out)∧K v:=by
  intro x hx hb hh
  split at hh
  case isFalse=>exact hh.elim
  rename_i hs
  obtain ⟨vs,hl,hc,hK⟩:=EF w a _ _ _ hh
  refine ⟨.agg vs.toArray,fun d=>?_,hK⟩
  unfold loadVar
  rw [run_bind' P _ _ _ _ _ (nV hx d.out),hb]
  simp only [if_true]
  rw [← hl] at hs
  rw [run_bind' P _ _ _ _ _ (jU hs d.out),run_bind' P _ _ _ d.out (vs.toArray)]
  ·rfl
  ·have:=run_loadCellsFrom P d.out a vs 0 #[] (fun j v hj=>d.keep _ _ (hc j v hj))
   simpa [loadCells] using this
 have one:∀ (x:TypeDesc),P.underlying t=some x→O3 x=false →
   (match lvs P 8 t with | [l]=>l.ex fun v=>w.cell? a=some v∧K v | _=>False)→∃ v,(∀ d:Kp w,(loadVar t a).run P d.out = .ok v d.out)∧K v:=by
  intro x hx hb hh
  split at hh
  case h_2=>exact hh.elim
  obtain ⟨v,hv,hK⟩:=Lf.sQ hh
  refine ⟨v,fun d=>?_,hK⟩
  unfold loadVar
  rw [run_bind' P _ _ _ _ _ (nV hx d.out),hb]
  exact Kw (d.keep _ _ hv)
 split at h
 ·rename_i fs hx; exact agg _ hx rfl h
 ·rename_i n e hx; exact agg _ hx rfl h
 ·exact h.elim
 ·rename_i x hn1 hn2 hx
  refine one x hx ?_ h
  cases x <;> first | rfl | exact (hn1 _ rfl).elim | exact (hn2 _ _ rfl).elim
def pV (P:Program) (s:Sem Next) (w:World) (v:Value):Prop:=∀ d:Kp w,s.run P d.out = .ok (.value v) d.out
def xQ (P:Program) (s:Sem Value) (w:World) (v:Value):Prop:=∀ d:Kp w,s.run P d.out = .ok v d.out
theorem pV.of {P:Program} {s:Sem Value} {w:World} {v:Value} (h:xQ P s w v):pV P (do pure (.value (← s))) w v:=fun d=>by
 rw [run_bind' P _ _ _ _ _ (h d)]; rfl
def Kt (op:BinOp) (k:IntKind) (x y:Int):Int :=
 let a:=BitVec.ofInt k.bits x
 let b:=BitVec.ofInt k.bits y
 match op with
 | .and=>k.wrap (a &&& b).toNat
 | .or=>k.wrap (a ||| b).toNat
 | .xor=>k.wrap (a ^^^ b).toNat
 | .andNot=>k.wrap (a &&& ~~~b).toNat
 | _=>0
def unN (op:UnOp) (x:Value) (K:Value→Prop):Prop :=
 match op,x with
 | .neg,.int k n=>K (.int k (k.wrap (0 - n)))
 | .xor,.int k n=>K (.int k (k.wrap (BitVec.ofInt k.bits (if k.signed then -1 else k.max) ^^^ BitVec.ofInt k.bits n).toNat))
 | .not,.bool b=>K (.bool !b)
 | _,_=>False
theorem Rf {P:Program} {op:UnOp} {x:Value} {K:Value→Prop} (w:World) (h:unN op x K):∃ v,xQ P (Op.unary op x) w v∧K v:=by
 unfold unN at h
 split at h
 ·exact ⟨_,fun _=>rfl,h⟩
 ·exact ⟨_,fun _=>rfl,h⟩
 ·exact ⟨_,fun _=>rfl,h⟩
 ·exact h.elim
def VL (op:BinOp) (k:IntKind) (a b:Int) (K:Value→Prop):Prop :=
 match op with
 | .add=>K (.int k (k.wrap (a+b)))
 | .sub=>K (.int k (k.wrap (a - b)))
 | .mul=>K (.int k (k.wrap (a*b)))
 | .quo=>Su (b=0) (K (.int k (k.wrap (a.tdiv b))))
 | .rem=>Su (b=0) (K (.int k (a.tmod b)))
 | .and | .or | .xor | .andNot=>K (.int k (Kt op k a b))
 | .shl | .shr=>False
 | .eql=>K (.bool (a==b))
 | .neq=>K (.bool (a != b))
 | .lss=>K (.bool (decide (a<b)))
 | .leq=>K (.bool (decide (a≤b)))
 | .gtr=>K (.bool (decide (a>b)))
 | .geq=>K (.bool (decide (a≥b)))
theorem NM {P:Program} {op:BinOp} {k:IntKind} {a b:Int} {K:Value→Prop} {t:TypeId} (w:World) (h:VL op k a b K):∃ v,xQ P (binOp op t (.int k a) (.int k b)) w v∧K v:=by
 unfold VL at h
 cases op <;> simp only at h
 case quo =>
  obtain ⟨hb,h⟩:=zn.1 h
  exact ⟨_,fun d=>by simp [binOp,Op.intDiv,hb],h⟩
 case rem =>
  obtain ⟨hb,h⟩:=zn.1 h
  exact ⟨_,fun d=>by simp [binOp,Op.intDiv,hb],h⟩
 all_goals first
  | exact h.elim
  | exact ⟨_,fun d=>by simp [binOp,Op.intArith,Op.intBits,Op.intCmp,Kt],h⟩
def shN (op:BinOp) (k:IntKind) (a b:Int) (K:Value→Prop):Prop :=
 Su (b<0) (match op with
 | .shl=>K (.int k (k.wrap (a*2 ^ (min b.toNat k.bits))))
 | .shr=>K (.int k (a.fdiv (2 ^ (min b.toNat k.bits))))
 | _=>False)
theorem Iy {P:Program} {op:BinOp} {k k2:IntKind} {a b:Int} {K:Value→Prop} {t:TypeId} (w:World) (h:shN op k a b K):∃ v,xQ P (binOp op t (.int k a) (.int k2 b)) w v∧K v:=by
 unfold shN at h
 obtain ⟨hb,h⟩:=zn.1 h
 cases op <;> simp only at h
 all_goals first
  | exact h.elim
  | exact ⟨_,fun d=>by simp [binOp,Op.shift,hb],h⟩
def UW (op:BinOp) (k:FloatKind) (a b:Nat) (K:Value→Prop):Prop :=
 match op with
 | .eql=>K (.bool (k.format.order a b==some .eq))
 | .neq=>K (.bool (k.format.order a b != some .eq))
 | .lss=>K (.bool (k.format.order a b==some .lt))
 | .leq=>K (.bool (k.format.order a b==some .lt||k.format.order a b==some .eq))
 | .gtr=>K (.bool (k.format.order a b==some .gt))
 | .geq=>K (.bool (k.format.order a b==some .gt||k.format.order a b==some .eq))
 | _=>False
theorem Nq {P:Program} {op:BinOp} {k:FloatKind} {a b:Nat} {K:Value→Prop} {t:TypeId} (w:World) (h:UW op k a b K):∃ v,xQ P (binOp op t (.float k a) (.float k b)) w v∧K v:=by
 unfold UW at h
 cases op <;> simp only at h
 all_goals first
  | exact h.elim
  | exact ⟨_,fun d=>by simp [binOp,Op.floatCmp],h⟩
def UT (op:BinOp) (a b:ByteArray) (K:Value→Prop):Prop :=
 match op with
 | .eql=>K (.bool (a.toList==b.toList))
 | .neq=>K (.bool !(a.toList==b.toList))
 | _=>False
theorem MN {P:Program} {op:BinOp} {a b:ByteArray} {K:Value→Prop} {t:TypeId} (w:World) (h:UT op a b K):∃ v,xQ P (binOp op t (.string a) (.string b)) w v∧K v:=by
 unfold UT at h
 cases op <;> simp only at h
 all_goals first
  | exact h.elim
  | exact ⟨_,fun d=>by simp [binOp,Op.stringOp],h⟩
def eqN (P:Program) (t:TypeId) (x y:Value) (K:Bool→Prop):Prop :=
 match P.underlying t,x,y with
 | some .bool,.bool a,.bool b=>K (a==b)
 | some (.slice _),.slice a _ _,.slice none _ _=>K a.isNone
 | some (.pointer _),.pointer a,.pointer none=>K a.isNone
 | some (.map _ _),.map a,.map none=>K a.isNone
 | some (.struct _),.agg xs,.agg ys=>if P.eqGuardType P.depth t=true then False else ∃ b,(∀ w,(Op.equal t (.agg xs) (.agg ys)).run P w = .ok b w)∧K b
 | some (.array _ _),.agg xs,.agg ys=>if P.eqGuardType P.depth t=true then False else ∃ b,(∀ w,(Op.equal t (.agg xs) (.agg ys)).run P w = .ok b w)∧K b
 | _,_,_=>False
theorem Iu {P:Program} {t:TypeId} (n:Nat) (h:P.underlying t=some .bool) (a b:Bool) (w:World):(Op.equalIn (n+1) t (.bool a) (.bool b)).run P w = .ok (a==b) w:=by
 unfold Op.equalIn
 rw [run_bind' P _ _ _ _ _ (cZ h w)]; rfl
theorem Ho {P:Program} {t e:TypeId} (n:Nat) (h:P.underlying t=some (.slice e)) (a:Option Addr) (l c l' c':Nat) (w:World):(Op.equalIn (n+1) t (.slice a l c) (.slice none l' c')).run P w = .ok a.isNone w:=by
 unfold Op.equalIn
 rw [run_bind' P _ _ _ _ _ (cZ h w)]; cases a <;> rfl
theorem AA {P:Program} {t e:TypeId} (n:Nat) (h:P.underlying t=some (.pointer e)) (a:Option Addr) (w:World):(Op.equalIn (n+1) t (.pointer a) (.pointer none)).run P w = .ok a.isNone w:=by
 unfold Op.equalIn
 rw [run_bind' P _ _ _ _ _ (cZ h w)]; cases a <;> rfl
theorem O1 {P:Program} {t e f:TypeId} (n:Nat) (h:P.underlying t=some (.map e f)) (a:Option Nat) (w:World):(Op.equalIn (n+1) t (.map a) (.map none)).run P w = .ok a.isNone w:=by
 unfold Op.equalIn
 rw [run_bind' P _ _ _ _ _ (cZ h w)]; cases a <;> rfl
theorem yl {P:Program} {op:BinOp} {t:TypeId} {x y:Value} {xo yo:Operand} {w:World} {b:Bool} (hop:op = .eql∨op = .neq)
  (hb1:binOp .eql t x y=(do pure (.bool (← Op.equal t x y)))) (hb2:binOp .neq t x y=(do pure (.bool (!(← Op.equal t x y)))))
  (hg:∀ (o:BinOp) (d:Kp w),(o = .eql∨o = .neq)→(eqGuard o t xo yo x y).run P d.out = .ok () d.out) (he:∀ d:Kp w,(Op.equal t x y).run P d.out = .ok b d.out) :
  xQ P (do eqGuard op t xo yo x y; binOp op t x y) w (.bool (if op = .eql then b else !b)):=fun d=>by
 rw [run_bind' P _ _ _ _ _ (hg op d hop)]
 rcases hop with rfl | rfl
 ·rw [hb1,run_bind' P _ _ _ _ _ (he d)]; rfl
 ·rw [hb2,run_bind' P _ _ _ _ _ (he d)]; rfl
theorem BM {P:Program} {t:TypeId} {xs ys:Array Value} {xo yo:Operand} {o:BinOp} (hg:P.eqGuardType P.depth t=false) (w:World) (ho:o = .eql∨o = .neq) :
  (eqGuard o t xo yo (.agg xs) (.agg ys)).run P w = .ok () w:=by
 rcases ho with rfl | rfl <;> simp [eqGuard,program,Sem.run,hg]
theorem JU {P:Program} {op:BinOp} {t:TypeId} {x y:Value} {xo yo:Operand} {K:Bool→Prop} (w:World) (h:eqN P t x y K) (hop:op = .eql∨op = .neq) :
  ∃ b,xQ P (do eqGuard op t xo yo x y; binOp op t x y) w (.bool (if op = .eql then b else !b))∧K b:=by
 unfold eqN at h
 split at h
 ·rename_i hu
  exact ⟨_,yl hop rfl rfl (fun o d ho=>by rcases ho with rfl | rfl <;> rfl) (fun d=>Iu 9999 hu _ _ _),h⟩
 ·rename_i hu
  exact ⟨_,yl hop rfl rfl (fun o d ho=>by rcases ho with rfl | rfl <;> rfl) (fun d=>Ho 9999 hu _ _ _ _ _ _),h⟩
 ·rename_i hu
  exact ⟨_,yl hop rfl rfl (fun o d ho=>by rcases ho with rfl | rfl <;> rfl) (fun d=>AA 9999 hu _ _),h⟩
 ·rename_i hu
  exact ⟨_,yl hop rfl rfl (fun o d ho=>by rcases ho with rfl | rfl <;> rfl) (fun d=>O1 9999 hu _ _),h⟩
 ·split at h
  ·exact h.elim
  ·rename_i hg
   obtain ⟨b,hb,hK⟩:=h
   exact ⟨b,yl hop rfl rfl (fun o d ho=>BM (by simpa using hg) _ ho) (fun d=>hb _),hK⟩
 ·split at h
  ·exact h.elim
  ·rename_i hg
   obtain ⟨b,hb,hK⟩:=h
   exact ⟨b,yl hop rfl rfl (fun o d ho=>BM (by simpa using hg) _ ho) (fun d=>hb _),hK⟩
 ·exact h.elim
def UZ (P:Program) (op:BinOp) (t:TypeId) (x y:Value) (K:Value→Prop):Prop :=
 match op,x,y with
 | .shl,.int k a,.int _ b=>shN .shl k a b K
 | .shr,.int k a,.int _ b=>shN .shr k a b K
 | op,.int k a,.int k' b=>if k=k' then VL op k a b K else False
 | op,.float k a,.float k' b=>if k=k' then UW op k a b K else False
 | op,.string a,.string b=>UT op a b K
 | .eql,x,y=>eqN P t x y fun b=>K (.bool b)
 | .neq,x,y=>eqN P t x y fun b=>K (.bool !b)
 | _,_,_=>False
theorem NP {P:Program} {op:BinOp} {t:TypeId} {x y:Value} {xo yo:Operand} {K:Value→Prop} (w:World) (h:UZ P op t x y K) :
  ∃ v,xQ P (do eqGuard op t xo yo x y; binOp op t x y) w v∧K v:=by
 have g:∀ {v:Value},(∀ d:Kp w,(eqGuard op t xo yo x y).run P d.out = .ok () d.out)→xQ P (binOp op t x y) w v→xQ P (do eqGuard op t xo yo x y; binOp op t x y) w v:=by
  intro v hg hr d
  rw [run_bind' P _ _ _ _ _ (hg d)]; exact hr d
 unfold UZ at h
 split at h
 ·obtain ⟨v,hr,hK⟩:=Iy (P:=P) (t:=t) w h; exact ⟨v,g (fun d=>rfl) hr,hK⟩
 ·obtain ⟨v,hr,hK⟩:=Iy (P:=P) (t:=t) w h; exact ⟨v,g (fun d=>rfl) hr,hK⟩
 ·split at h
  ·rename_i hk; subst hk
   obtain ⟨v,hr,hK⟩:=NM (P:=P) (t:=t) w h; exact ⟨v,g (fun d=>by cases op <;> rfl) hr,hK⟩
  ·exact h.elim
 ·split at h
  ·rename_i hk; subst hk
   obtain ⟨v,hr,hK⟩:=Nq (P:=P) (t:=t) w h; exact ⟨v,g (fun d=>by cases op <;> rfl) hr,hK⟩
  ·exact h.elim
 ·obtain ⟨v,hr,hK⟩:=MN (P:=P) (t:=t) w h; exact ⟨v,g (fun d=>by cases op <;> rfl) hr,hK⟩
 ·obtain ⟨b,hr,hK⟩:=JU (op := .eql) (xo:=xo) (yo:=yo) w h (.inl rfl); exact ⟨_,hr,hK⟩
 ·obtain ⟨b,hr,hK⟩:=JU (op := .neq) (xo:=xo) (yo:=yo) w h (.inr rfl); exact ⟨_,hr,hK⟩
 ·exact h.elim
def bK {α:Type} (o:Option α) (K:α→Prop):Prop:=match o with
 | some a=>K a
 | none=>False
theorem fD {α:Type} {o:Option α} {K:α→Prop} (h:bK o K):∃ a,o=some a∧K a:=by
 cases o with
 | none=>exact h.elim
 | some a=>exact ⟨a,rfl,h⟩
def Ha (v:Value) (K:Addr→Prop):Prop:=match v with
 | .pointer o=>bK o K
 | _=>False
theorem nO {v:Value} {K:Addr→Prop} (h:Ha v K):∃ a,v = .pointer (some a)∧K a:=by
 unfold Ha at h
 split at h
 ·obtain ⟨a,rfl,h⟩:=fD h; exact ⟨a,rfl,h⟩
 ·exact h.elim
def pk (b p q:Bool):Bool:=match b with
 | true=>p
 | false=>q
def QU (b:Bool) (x y:Value) (K:Value→Prop):Prop:=match x,y with
 | .bool p,.bool q=>K (.bool (pk b p q))
 | x,y=>af b (K x) (K y)
theorem G9 {b:Bool} {x y:Value} {K:Value→Prop} (h:QU b x y K):K (if b then x else y):=by
 unfold QU at h
 split at h
 ·cases b <;> exact h
 ·cases b <;> exact h
def PQ (c x y:Value) (K:Value→Prop):Prop:=match c with
 | .bool b=>QU b x y K
 | _=>False
theorem Gp {c x y:Value} {K:Value→Prop} (h:PQ c x y K):∃ b,c = .bool b∧K (if b then x else y):=by
 unfold PQ at h
 split at h
 ·exact ⟨_,rfl,G9 h⟩
 ·exact h.elim
def zC (P:Program) (s:TypeId) (i:Nat):Option Field:=match P.underlying s with
 | some (.struct fs)=>fs[i]?
 | _=>none
def LM (P:Program) (t:TypeId):Option Nat:=(P.info? t).map (·.size)
def rV (P:Program) (s:TypeId) (x:Value) (i:Nat) (K:Value→Prop):Prop :=
 match zC P s i with
 | none=>False
 | some f=>match LM P f.type with
  | some (_+1)=>Ha x fun a=>K (.pointer (some (a.add f.offset)))
  | _=>False
theorem wF {P:Program} {s:TypeId} {i:Nat} {f:Field} (h:zC P s i=some f):∃ fs,P.underlying s=some (.struct fs)∧fs[i]?=some f:=by
 unfold zC at h
 split at h
 ·exact ⟨_,by assumption,h⟩
 ·cases h
theorem xq {P:Program} {s:TypeId} {x:Value} {i:Nat} {K:Value→Prop} (w:World) (h:rV P s x i K) :
  ∃ v,xQ P (Instr.fieldAt s x i) w v∧K v:=by
 unfold rV at h
 split at h
 ·exact h.elim
 rename_i f hf
 split at h
 ·rename_i n hn
  obtain ⟨a,rfl,hK⟩:=nO h
  obtain ⟨fs,hu,hi⟩:=wF hf
  refine ⟨_,fun d=>?_,hK⟩
  unfold Instr.fieldAt
  rw [run_bind' P _ _ _ _ _ (cZ hu _)]
  simp only [hi]
  rw [run_bind' P _ _ _ _ a rfl,run_bind' P _ _ _ d.out (a.add f.offset)]
  ·rfl
  ·unfold fieldPlace
   rw [run_bind' P _ _ _ _ _ (jU hn _),if_neg (Nat.succ_ne_zero n)]
   rfl
 ·exact h.elim
def Py (P:Program) (t:TypeId) (cs:Array Value) (off:Nat) (K:Value→Prop):Prop :=
 match P.underlying t with
 | none=>False
 | some x=>match O3 x with
  | true=>match LM P t with
   | some n=>K (.agg (cs.extract off (off+n)))
   | none=>False
  | false=>bK cs[off]? K
theorem Jn {P:Program} {t:TypeId} {cs:Array Value} {off:Nat} {K:Value→Prop} (w:World) (h:Py P t cs off K) :
  ∃ v,xQ P (part t cs off) w v∧K v:=by
 unfold Py at h
 split at h
 ·exact h.elim
 rename_i x hu
 split at h
 ·rename_i hb
  split at h
  ·rename_i n hn
   refine ⟨_,fun d=>?_,h⟩
   unfold part
   rw [run_bind' P _ _ _ _ _ (nV hu _),hb]
   simp only [if_true]
   rw [run_bind' P _ _ _ _ _ (jU hn _)]
   rfl
  ·exact h.elim
 ·rename_i hb
  obtain ⟨v,hv,hK⟩:=fD h
  refine ⟨v,fun d=>?_,hK⟩
  unfold part
  rw [run_bind' P _ _ _ _ _ (nV hu _),hb]
  simp only [Bool.false_eq_true,if_false,hv]
  rfl
def fieldN (P:Program) (s:TypeId) (x:Value) (i:Nat) (K:Value→Prop):Prop :=
 match zC P s i,x with
 | some f,.agg cs=>Py P f.type cs f.offset K
 | _,_=>False
theorem FW {P:Program} {s:TypeId} {x:Value} {i:Nat} {K:Value→Prop} (w:World) (h:fieldN P s x i K) :
  ∃ v,xQ P (Instr.field s x i) w v∧K v:=by
 unfold fieldN at h
 split at h
 ·rename_i f cs hf
  obtain ⟨fs,hu,hi⟩:=wF hf
  obtain ⟨v,hr,hK⟩:=Jn w h
  refine ⟨v,fun d=>?_,hK⟩
  unfold Instr.field
  rw [run_bind' P _ _ _ _ _ (cZ hu _)]
  simp only [hi]
  rw [run_bind' P _ _ _ _ cs rfl]
  exact hr d
 ·exact h.elim
def sV (P:Program) (t:TypeId) (x ix:Value) (K:Value→Prop):Prop :=
 match ix with
 | .int _ i=>match P.underlying t,x with
  | some (.array len e),x=>match LM P e with
   | some sz=>Ha x fun a=>chk (0≤i∧i<(len:Int)) (K (.pointer (some (a.add (i.toNat*sz)))))
   | none=>False
  | some (.slice e),.slice base n _=>match LM P e with
   | some sz=>bK base fun a=>chk (0≤i∧i<(n:Int)) (K (.pointer (some (a.add (i.toNat*sz)))))
   | none=>False
  | _,_=>False
 | _=>False
theorem xB {P:Program} {t:TypeId} {x ix:Value} {K:Value→Prop} (w:World) (h:sV P t x ix K) :
  ∃ v,xQ P (Instr.indexAt t x ix) w v∧K v:=by
 unfold sV at h
 split at h
 case h_2=>exact h.elim
 rename_i k i
 split at h
 ·rename_i len e hu
  split at h
  ·rename_i sz hs
   obtain ⟨a,rfl,h⟩:=nO h
   obtain ⟨hb,h⟩:=nK.1 h
   ·refine ⟨_,fun d=>?_,h⟩
    unfold Instr.indexAt
    rw [run_bind' P _ _ _ _ (k,i) rfl]
    simp only
    rw [run_bind' P _ _ _ _ _ (cZ hu _)]
    simp only
    rw [run_bind' P _ _ _ _ a rfl,run_bind' P _ _ _ _ (some a,len,e) rfl,run_bind' P _ _ _ _ _ (cZ hu _)]
    simp only
    rw [if_pos hb,run_bind' P _ _ _ _ _ (jU hs _)]
    rfl
  ·exact h.elim
 ·rename_i e base n c hu
  split at h
  ·rename_i sz hs
   obtain ⟨a,rfl,h⟩:=fD h
   obtain ⟨hb,h⟩:=nK.1 h
   ·refine ⟨_,fun d=>?_,h⟩
    unfold Instr.indexAt
    rw [run_bind' P _ _ _ _ (k,i) rfl]
    simp only
    rw [run_bind' P _ _ _ _ _ (cZ hu _)]
    simp only
    rw [run_bind' P _ _ _ _ (some a,n,e) rfl,run_bind' P _ _ _ _ _ (cZ hu _)]
    simp only
    rw [if_pos hb,run_bind' P _ _ _ _ _ (jU hs _)]
    rfl
  ·exact h.elim
 ·exact h.elim
def Jw (P:Program) (t:TypeId) (x ix:Value) (K:Value→Prop):Prop :=
 match ix with
 | .int _ i=>match P.underlying t,x with
  | some (.array len e),.agg cs=>match LM P e with
   | some sz=>chk (0≤i∧i<(len:Int)) (match P.underlying e with
    | none=>False
    | some d=>match O3 d with
     | true=>False
     | false=>match lvs P 8 e with
      | [l]=>l.ex fun v=>cs[i.toNat*sz]?=some v∧K v
      | _=>False)
   | none=>False
  | some .string,.string s=>chk (0≤i) (∃ b:UInt8,s[i.toNat]?=some b∧K (.int .u8 b.toNat))
  | _,_=>False
 | _=>False
theorem FU {P:Program} {t:TypeId} {x ix:Value} {K:Value→Prop} (w:World) (h:Jw P t x ix K) :
  ∃ v,xQ P (Instr.index t x ix) w v∧K v:=by
 unfold Jw at h
 split at h
 case h_2=>exact h.elim
 rename_i k i
 split at h
 ·rename_i len e cs hu
  split at h
  ·rename_i sz hs
   obtain ⟨hb,h⟩:=nK.1 h
   ·split at h
    ·exact h.elim
    rename_i x he
    split at h
    ·exact h.elim
    rename_i hag
    split at h
    ·obtain ⟨v,hc,hK⟩:=Lf.sQ h
     refine ⟨v,fun d=>?_,hK⟩
     unfold Instr.index
     rw [run_bind' P _ _ _ _ (k,i) rfl]
     simp only
     rw [run_bind' P _ _ _ _ _ (cZ hu _)]
     simp only
     rw [if_pos hb,run_bind' P _ _ _ _ _ (jU hs _)]
     unfold part
     rw [run_bind' P _ _ _ _ _ (nV he _)]
     simp only [hag,Bool.false_eq_true,if_false,hc]
     rfl
    ·exact h.elim
  ·exact h.elim
 ·rename_i s hu
  obtain ⟨hb,h⟩:=nK.1 h
  ·obtain ⟨b,hbs,hK⟩:=h
   refine ⟨_,fun d=>?_,hK⟩
   unfold Instr.index
   rw [run_bind' P _ _ _ _ (k,i) rfl]
   simp only
   rw [run_bind' P _ _ _ _ _ (cZ hu _)]
   simp only [if_pos hb,hbs]
   rfl
 ·exact h.elim
def Ag (x:Value) (i:Nat) (K:Value→Prop):Prop:=match x with
 | .tuple vs=>bK vs[i]? K
 | _=>False
theorem Bd {P:Program} {x:Value} {i:Nat} {K:Value→Prop} (w:World) (h:Ag x i K) :
  ∃ v,xQ P (Instr.extract x i) w v∧K v:=by
 unfold Ag at h
 split at h
 ·obtain ⟨v,hv,hK⟩:=fD h
  exact ⟨v,fun d=>by simp [Instr.extract,hv],hK⟩
 ·exact h.elim
def slA (a:Option Addr) (m l sz:Nat):Option Addr:=if m=l then a else a.map (·.add (l*sz))
def LX (v:Option Value) (y dflt:Nat) (K:Nat→Prop):Prop:=match v with
 | none=>K dflt
 | some (.int _ i)=>chk (0≤i∧i≤(y:Int)) (K i.toNat)
 | some _=>False
theorem jy {P:Program} {k:IntKind} {i:Int} {y:Nat} {c:BoundsCode} {w:World} (h:0≤i∧i≤(y:Int)):(Instr.sliceBound (.int k i) y c).run P w = .ok i.toNat w:=by
 unfold Instr.sliceBound
 rw [run_bind' P _ _ _ _ (k,i) rfl]
 simp only [if_pos h]
 rfl
def Ic (P:Program) (t:TypeId) (x:Value) (lo hi mx:Option Value) (K:Value→Prop):Prop :=
 match P.underlying t,x with
 | some (.slice e),.slice a n c=>match LM P e with
  | some sz=>match mx with
   | none=>LX hi c n fun h=>LX lo h 0 fun l=>K (.slice (slA a c l sz) (h - l) (c - l))
   | some mv=>match hi with
    | none=>False
    | some hv=>LX (some mv) c c fun m=>LX (some hv) m n fun h=>LX lo h 0 fun l=>K (.slice (slA a m l sz) (h - l) (m - l))
  | none=>False
 | some .string,.string s=>match mx with
  | none=>LX hi s.size s.size fun h=>LX lo h 0 fun l=>K (.string (s.extract l h))
  | some _=>False
 | _,_=>False
theorem kM {v:Option Value} {y dflt:Nat} {K:Nat→Prop} (h:LX v y dflt K) :
  (v=none∧K dflt)∨(∃ k i,v=some (.int k i)∧(0≤i∧i≤(y:Int))∧K i.toNat):=by
 unfold LX at h
 split at h
 ·exact .inl ⟨rfl,h⟩
 ·rename_i k i
  obtain ⟨hb,h⟩:=nK.1 h
  exact .inr ⟨k,i,rfl,hb,h⟩
 ·exact h.elim
theorem Gm {P:Program} {t:TypeId} {x:Value} {lo hi mx:Option Value} {K:Value→Prop} (w:World) (h:Ic P t x lo hi mx K) :
  ∃ v,xQ P (Instr.sliceAt t x lo hi mx) w v∧K v:=by
 unfold Ic at h
 split at h
 ·rename_i e a n c hu
  split at h
  case h_2=>exact h.elim
  rename_i sz hs
  have go:∀ (m hh l:Nat) (w':World),(Instr.sliceBounds true n c lo hi mx).run P w' = .ok (l,hh,m) w' →
    (Instr.sliceAt t (.slice a n c) lo hi mx).run P w' = .ok (.slice (slA a m l sz) (hh - l) (m - l)) w':=by
   intro m hh l w' hb
   unfold Instr.sliceAt
   rw [run_bind' P _ _ _ _ _ (cZ hu _)]
   simp only
   unfold Instr.slice
   rw [run_bind' P _ _ _ _ _ (cZ hu _)]
   simp only
   rw [run_bind' P _ _ _ _ _ hb]
   simp only
   rw [run_bind' P _ _ _ _ _ (jU hs _)]
   rfl
  split at h
  ·rcases kM h with ⟨hh,h3⟩ | ⟨k2,i2,hh,hb2,h3⟩ <;> subst hh <;>
    rcases kM h3 with ⟨hl,h4⟩ | ⟨k3,i3,hl,hb3,h4⟩ <;> subst hl
   ·exact ⟨_,fun d=>go _ _ _ _ rfl,h4⟩
   ·exact ⟨_,fun d=>go _ _ _ _ (by simp [Instr.sliceBounds,jy hb3]),h4⟩
   ·exact ⟨_,fun d=>go _ _ _ _ (by simp [Instr.sliceBounds,jy hb2]),h4⟩
   ·exact ⟨_,fun d=>go _ _ _ _ (by simp [Instr.sliceBounds,jy hb2,jy hb3]),h4⟩
  ·split at h
   ·exact h.elim
   rcases kM h with ⟨hm,h0⟩ | ⟨k,i,hm,hb,h0⟩
   ·cases hm
   cases hm
   clear h
   rcases kM h0 with ⟨hh,h3⟩ | ⟨k2,i2,hh,hb2,h3⟩
   ·cases hh
   cases hh
   rcases kM h3 with ⟨hl,h4⟩ | ⟨k3,i3,hl,hb3,h4⟩ <;> subst hl
   ·exact ⟨_,fun d=>go _ _ _ _ (by simp [Instr.sliceBounds,jy hb,jy hb2]),h4⟩
   ·exact ⟨_,fun d=>go _ _ _ _ (by simp [Instr.sliceBounds,jy hb,jy hb2,jy hb3]),h4⟩
 ·rename_i s hu
  split at h
  case h_2=>exact h.elim
  have go:∀ (m hh l:Nat) (w':World),(Instr.sliceBounds false s.size s.size lo hi none).run P w' = .ok (l,hh,m) w' →
     (Instr.sliceAt t (.string s) lo hi none).run P w' = .ok (.string (s.extract l hh)) w':=by
   intro m hh l w' hb
   unfold Instr.sliceAt
   rw [run_bind' P _ _ _ _ _ (cZ hu _)]
   simp only
   unfold Instr.slice
   rw [run_bind' P _ _ _ _ _ (cZ hu _)]
   simp only [Option.isSome_none,Bool.false_eq_true,if_false]
   rw [run_bind' P _ _ _ _ _ hb]
   rfl
  rcases kM h with ⟨hh,h3⟩ | ⟨k2,i2,hh,hb2,h3⟩ <;> subst hh <;>
   rcases kM h3 with ⟨hl,h4⟩ | ⟨k3,i3,hl,hb3,h4⟩ <;> subst hl
  ·exact ⟨_,fun d=>go s.size _ _ _ rfl,h4⟩
  ·exact ⟨_,fun d=>go s.size _ _ _ (by simp [Instr.sliceBounds,jy hb3]),h4⟩
  ·exact ⟨_,fun d=>go s.size _ _ _ (by simp [Instr.sliceBounds,jy hb2]),h4⟩
  ·exact ⟨_,fun d=>go s.size _ _ _ (by simp [Instr.sliceBounds,jy hb2,jy hb3]),h4⟩
 ·exact h.elim
def cvN (P:Program) (s t:TypeId) (x:Value) (K:Value→Prop):Prop :=
 match P.underlying s,P.underlying t,x with
 | some (.int _),some (.int k),.int _ n=>K (.int k (k.wrap n))
 | some (.int _),some (.float k),.int _ n=>K (.float k (k.nearest n))
 | some .string,some .string,.string b=>K (.string b)
 | _,_,_=>False
theorem PX {P:Program} {s t:TypeId} {x:Value} {K:Value→Prop} (w:World) (h:cvN P s t x K):∃ v,xQ P (convert s t x) w v∧K v:=by
 unfold cvN at h
 split at h
 ·rename_i h1 h2
  refine ⟨_,fun d=>?_,h⟩
  unfold convert
  rw [run_bind' P _ _ _ _ _ (cZ h1 _),run_bind' P _ _ _ _ _ (cZ h2 _)]; rfl
 ·rename_i h1 h2
  refine ⟨_,fun d=>?_,h⟩
  unfold convert
  rw [run_bind' P _ _ _ _ _ (cZ h1 _),run_bind' P _ _ _ _ _ (cZ h2 _)]; rfl
 ·rename_i h1 h2
  refine ⟨_,fun d=>?_,h⟩
  unfold convert
  rw [run_bind' P _ _ _ _ _ (cZ h1 _),run_bind' P _ _ _ _ _ (cZ h2 _)]; rfl
 ·exact h.elim
def lenV:Option TypeDesc→Value→Option Value
 | some .string,.string s=>some (goInt s.size)
 | some (.slice _),.slice _ n _=>some (goInt n)
 | some (.array n _),_=>some (goInt n)
 | _,_=>none
def Vf (P:Program) (b:Builtin) (ts:Array TypeId) (xs:List Value) (K:Value→Prop):Prop :=
 match b,xs with
 | .len,[x]=>match ts[0]? with
  | none=>False
  | some t=>bK (lenV (P.underlying t) x) K
 | .min,[.int k x,.int _ y]=>K (.int k (if y<x then y else x))
 | .max,[.int k x,.int _ y]=>K (.int k (if x<y then y else x))
 | _,_=>False
theorem Og {P:Program} {b:Builtin} {ts:Array TypeId} {ty:TypeId} {cs:Array Bool} {xs:List Value} {K:Value→Prop} (w:World) (h:Vf P b ts xs K) :
  ∃ v,pV P (builtin b ts ty cs xs.toArray) w v∧K v:=by
 unfold Vf at h
 split at h
 ·rename_i x
  split at h
  ·exact h.elim
  rename_i t ht
  obtain ⟨v,hv,hK⟩:=fD h
  refine ⟨v,fun d=>?_,hK⟩
  unfold builtin
  simp only
  refine run_bind' P _ _ _ d.out v ?_
  unfold Builtin.len_
  simp only [ht,List.getElem?_toArray,List.getElem?_cons_zero]
  cases hu:P.underlying t with
  | none=>rw [hu] at hv; cases hv
  | some u =>
   rw [run_bind' P _ _ _ _ _ (cZ hu _)]
   rw [hu] at hv
   cases u <;> cases x <;> simp only [lenV,Option.some.injEq] at hv <;> first | (subst hv; rfl) | cases hv
 ·exact ⟨_,fun d=>rfl,h⟩
 ·exact ⟨_,fun d=>rfl,h⟩
 ·exact h.elim
def ckN (x:Value) (K:Value→Prop):Prop:=match x with
 | .pointer o=>bK o fun a=>K (.pointer (some a))
 | .func (.func f) fs cs=>K (.func (.func f) fs cs)
 | .iface t v=>K (.iface t v)
 | _=>False
def V3 (P:Program) (t:TypeId) (x:Value) (K:Value→Prop):Prop:=match P.underlying t with
 | none=>False
 | some (.interface _)=>False
 | some _=>K (.iface t x)
theorem NU {P:Program} {t:TypeId} {x:Value} {K:Value→Prop} (w:World) (h:V3 P t x K):∃ v,xQ P (Instr.makeInterface t x) w v∧K v:=by
 unfold V3 at h
 split at h
 ·exact h.elim
 ·exact h.elim
 ·rename_i u hn hu
  refine ⟨_,fun d=>?_,h⟩
  unfold Instr.makeInterface
  rw [run_bind' P _ _ _ _ _ (cZ hu _)]
  cases u <;> first | rfl | exact (hn _ rfl).elim
def partsOf (ρ:Operand→Value) (parts:Array (Nat×Operand)):List (Nat×Value):=(parts.map fun (i,x)=>(i,ρ x)).toList
def Pv (P:Program) (f:FuncId):Bool:=match P.funcs[f]? with
 | some fn=>fn.body.isNone
 | none=>true
def VQ (P:Program) (f:FuncId):Lf:=match P.funcs[f]? with
 | some fn=>match fn.resultTypes[0]? with
  | some t=>(lvs P 8 t).headD .any
  | none => .any
 | none => .any
def Ee (P:Program) (ρ:Operand→Value) (c:Call) (w:World) (K:Value→Prop):Prop :=
 match c.callee with
 | .builtin b=>Vf P b c.argTypes (c.args.toList.map ρ) K
 | .value (.func f)=>if Pv P f=true then (VQ P f).ex fun v=>pV P (callFunc f (c.args.map ρ)) w v∧K v else False
 | _=>False
def Aq (P:Program) (ρ:Operand→Value) (o:Oper) (w:World) (K:Value→Prop):Prop :=
 match o.op with
 | .move x=>K (ρ x)
 | .assign x=>K (ρ x)
 | .pick c x y=>PQ (ρ c) (ρ x) (ρ y) K
 | .unOp op _ x=>unN op (ρ x) K
 | .binOp op t x y _=>UZ P op t (ρ x) (ρ y) K
 | .convert s t x=>cvN P s t (ρ x) K
 | .load t p=>Ha (ρ p) fun a=>ldT P t w a K
 | .fieldAddr s x i=>rV P s (ρ x) i K
 | .field s x i=>fieldN P s (ρ x) i K
 | .indexAddr t x i=>sV P t (ρ x) (ρ i) K
 | .index t x i=>Jw P t (ρ x) (ρ i) K
 | .extract x i=>Ag (ρ x) i K
 | .slice t x lo hi mx=>Ic P t (ρ x) (lo.map ρ) (hi.map ρ) (mx.map ρ) K
 | .makeFunc fn fs cs=>K (.func fn (fs.map ρ) (cs.map ρ))
 | .makeInterface t x=>V3 P t (ρ x) K
 | .build t parts=>bK (P.built t (partsOf ρ parts)) fun cs=>K (.agg cs)
 | .nilCheck x=>ckN (ρ x) K
 | .call c=>Ee P ρ c w K
 | _=>False
theorem ji {P:Program} {ρ:Operand→Value} {o:Oper} {w:World} {K:Value→Prop} (hρ:∀ f,ρ (.func f) = .func (.func f) #[] #[]) (h:Aq P ρ o w K) :
  ∃ v,pV P (execOp ρ o) w v∧K v:=by
 obtain ⟨dst,op,ty,pos,after,guard⟩:=o
 unfold Aq at h
 cases op <;> simp only at h <;> first | exact h.elim | skip
 case move x=>exact ⟨_,fun d=>rfl,h⟩
 case assign x=>exact ⟨_,fun d=>rfl,h⟩
 case pick c x y =>
  obtain ⟨b,hc,hK⟩:=Gp h
  refine ⟨_,fun d=>?_,hK⟩
  unfold execOp
  simp only [hc]
  rfl
 case unOp op t x=>obtain ⟨v,hr,hK⟩:=Rf (P:=P) w h; exact ⟨v,pV.of hr,hK⟩
 case binOp op t x y yt=>obtain ⟨v,hr,hK⟩:=NP (P:=P) (xo:=x) (yo:=y) w h; exact ⟨v,pV.of hr,hK⟩
 case convert s t x=>obtain ⟨v,hr,hK⟩:=PX (P:=P) w h; exact ⟨v,pV.of hr,hK⟩
 case load t p =>
  obtain ⟨a,ha,h⟩:=nO h
  obtain ⟨v,hr,hK⟩:=J5 h
  refine ⟨v,pV.of (fun d=>?_),hK⟩
  unfold Instr.loadAt
  rw [ha,run_bind' P _ _ _ _ a rfl]
  exact hr d
 case fieldAddr s x i=>obtain ⟨v,hr,hK⟩:=xq (P:=P) w h; exact ⟨v,pV.of hr,hK⟩
 case field s x i=>obtain ⟨v,hr,hK⟩:=FW (P:=P) w h; exact ⟨v,pV.of hr,hK⟩
 case indexAddr t x i=>obtain ⟨v,hr,hK⟩:=xB (P:=P) w h; exact ⟨v,pV.of hr,hK⟩
 case index t x i=>obtain ⟨v,hr,hK⟩:=FU (P:=P) w h; exact ⟨v,pV.of hr,hK⟩
 case extract x i=>obtain ⟨v,hr,hK⟩:=Bd (P:=P) w h; exact ⟨v,pV.of hr,hK⟩
 case slice t x lo hi mx=>obtain ⟨v,hr,hK⟩:=Gm (P:=P) w h; exact ⟨v,pV.of hr,hK⟩
 case makeFunc fn fs cs=>exact ⟨_,pV.of (fun d=>rfl),h⟩
 case makeInterface t x=>obtain ⟨v,hr,hK⟩:=NU (P:=P) w h; exact ⟨v,pV.of hr,hK⟩
 case build t parts =>
  obtain ⟨cs,hc,hK⟩:=fD h
  exact ⟨_,pV.of (fun d=>run_build d.out t _ cs hc),hK⟩
 case nilCheck x =>
  unfold ckN at h
  unfold execOp pV
  simp only
  split at h
  ·rename_i o ho
   obtain ⟨a,rfl,hK⟩:=fD h
   rw [ho]
   exact ⟨_,fun d=>rfl,hK⟩
  ·rename_i f fs cs ho
   rw [ho]
   exact ⟨_,fun d=>rfl,h⟩
  ·rename_i t v ho
   rw [ho]
   exact ⟨_,fun d=>rfl,h⟩
  ·exact h.elim
 case call c =>
  unfold Ee at h
  obtain ⟨callee,args,ats⟩:=c
  simp only at h
  split at h
  ·rename_i b
   obtain ⟨v,hr,hK⟩:=Og (P:=P) (ty:=ty) (cs:=args.map fun | .const _=>true | _=>false) w h
   refine ⟨v,fun d=>?_,hK⟩
   unfold execOp resolve
   simp only
   rw [run_bind' P _ _ _ _ _ rfl]
   have:=hr d
   rw [show (args.toList.map ρ).toArray=args.map ρ from by rw [← Array.toList_map]] at this
   exact this
  ·rename_i f
   split at h
   ·obtain ⟨v,⟨hr,hK⟩⟩:=Lf.sQ h
    refine ⟨v,fun d=>?_,hK⟩
    have:=hr d
    unfold execOp resolve
    simp only [hρ,Deferred.ofValue]
    rw [run_bind' P _ _ _ _ _ rfl]
    simpa [invoke] using this
   ·exact h.elim
  ·exact h.elim
end Go.E
namespace Go.E
open Go
def dm (P:Program) (s:Sem Value) (w:World) (K:Value→World→Prop):Prop :=
 ∀ d,∃ v u d',s.run P (dr w d) = .ok v (dr u d')∧K v u
theorem dm.mono {P:Program} {s:Sem Value} {w:World} {K K':Value→World→Prop} (h:dm P s w K) (hk:∀ v u,K v u→K' v u):dm P s w K' :=
 fun d=>let ⟨v,u,d',hr,hK⟩:=h d; ⟨v,u,d',hr,hk _ _ hK⟩
theorem dm.of {P:Program} {s:Sem Value} {w:World} {v:Value} {u:World} {K:Value→World→Prop} (h:∀ d,s.run P (dr w d) = .ok v (dr u d)) (hk:K v u):dm P s w K :=
 fun d=>⟨v,u,d,h d,hk⟩
def OpD (P:Program) (s:Sem Next) (w:World) (K:Value→World→Prop):Prop :=
 (∀ d,∃ v u d',s.run P (dr w d) = .ok (.value v) (dr u d')∧K v u) ∨
 (∀ d,∃ u d',s.run P (dr w d) = .ok .skip (dr u d')∧K undef u) ∨
 (∃ f args,(∀ d,s.run P (dr w d) = .ok (.enter f args) (dr w d))∧CallsD P f args w K)
theorem OpD.lQ {P:Program} {s:Sem Value} {w:World} {K:Value→World→Prop} (h:dm P s w K):OpD P (do pure (.value (← s))) w K :=
 .inl fun d=>let ⟨v,u,d',hr,hK⟩:=h d; ⟨v,u,d',by rw [run_bind' P _ _ _ _ _ hr]; rfl,hK⟩
def exs:List Lf→(List Value→Prop)→Prop
 | [],K=>K []
 | l::ls,K=>l.ex fun v=>exs ls fun vs=>K (v::vs)
def shapes (P:Program):List TypeId→(List Value→Prop)→Prop
 | [],K=>K []
 | t::ts,K=>match P.underlying t with
  | none=>False
  | some u=>match O3 u with
   | true=>exs (lvs P 8 t) fun vs=>shapes P ts fun ws=>K (.agg vs.toArray::ws)
   | false=>match lvs P 8 t with
    | [l]=>l.ex fun v=>shapes P ts fun ws=>K (v::ws)
    | _=>False
def fU (P:Program) (t:TypeId) (K:Value→Prop):Prop :=
 match P.underlying t with
 | none=>False
 | some (.tuple ts)=>shapes P ts.toList fun vs=>K (.tuple vs.toArray)
 | some _=>shapes P [t] fun vs=>match vs with
  | [v]=>K v
  | _=>False
theorem FB:∀ (ls:List Lf) (K:List Value→Prop),exs ls K→∃ vs,K vs
 | [],_,h=>⟨_,h⟩
 | _::ls,_,h=>let ⟨_,h2⟩:=Lf.sQ h; let ⟨_,h3⟩:=FB ls _ h2; ⟨_,h3⟩
theorem mF (P:Program):∀ (ts:List TypeId) (K:List Value→Prop),shapes P ts K→∃ vs,K vs
 | [],_,h=>⟨_,h⟩
 | t::ts,K,h=>by
  unfold shapes at h
  split at h
  ·exact h.elim
  split at h
  ·obtain ⟨vs,h2⟩:=FB _ _ h
   obtain ⟨ws,h3⟩:=mF P ts _ h2
   exact ⟨_,h3⟩
  ·split at h
   ·obtain ⟨v,h2⟩:=Lf.sQ h
    obtain ⟨ws,h3⟩:=mF P ts _ h2
    exact ⟨_,h3⟩
   ·exact h.elim
theorem iM {P:Program} {t:TypeId} {K:Value→Prop} (h:fU P t K):∃ v,K v:=by
 unfold fU at h
 split at h
 ·exact h.elim
 ·obtain ⟨vs,h2⟩:=mF P _ _ h; exact ⟨_,h2⟩
 ·obtain ⟨vs,h2⟩:=mF P _ _ h
  split at h2
  ·exact ⟨_,h2⟩
  ·exact h2.elim
def nD (w:World) (a:Addr):Prop:=(∃ u,w.cell? a=some u)∧w.frozen? a=false
def stN (a:Addr):Nat→List Value→(World→Prop)→World→Prop
 | _,[],K,w=>K w
 | i,u::us,K,w=>match u with
  | .agg _=>False
  | .tuple _=>False
  | u=>nD w (a.add i)∧stN a (i+1) us K (w.setCell (a.add i) u)
theorem KP (P:Program) (a:Addr):∀ (us:List Value) (i:Nat) (K:World→Prop) (w:World),stN a i us K w →
  ∃ u,(∀ d,(storeCells a us i).run P (dr w d) = .ok () (dr u d))∧K u
 | [],_,_,w,h=>⟨w,fun _=>rfl,h⟩
 | u::us,i,K,w,h=>by
  unfold stN at h
  split at h
  ·exact h.elim
  ·exact h.elim
  ·rename_i hn1 hn2
   obtain ⟨⟨⟨x,hx⟩,hf⟩,h2⟩:=h
   obtain ⟨w2,hr,hK⟩:=KP P a us (i+1) K _ h2
   refine ⟨w2,fun d=>?_,hK⟩
   have h1:(store (a.add i) u).run P (dr w d) = .ok () (dr (w.setCell (a.add i) u) d):=by
    have hx':(dr w d).cell? (a.add i)=some x:=hx
    have hf':(dr w d).frozen? (a.add i)=false:=hf
    unfold store
    cases u <;> first | exact (hn1 _ rfl).elim | exact (hn2 _ rfl).elim | (simp only [Sem.run,hx',hf']; rfl)
   unfold storeCells
   rw [run_bind' P _ _ _ _ _ h1]
   exact hr d
def KA (P:Program) (t:TypeId) (p v:Value) (K:World→Prop) (w:World):Prop :=
 Ha p fun a=>if LM P t=some v.cells.size then stN a 0 v.cells.toList K w else False
theorem GU {P:Program} {t:TypeId} {p v:Value} {K:World→Prop} {w:World} (h:KA P t p v K w) :
  ∃ u,(∀ d,(Instr.storeAt t p v).run P (dr w d) = .ok () (dr u d))∧K u:=by
 unfold KA at h
 obtain ⟨a,rfl,h⟩:=nO h
 split at h
 ·rename_i hs
  obtain ⟨u,hr,hK⟩:=KP P a _ _ _ _ h
  refine ⟨u,fun d=>?_,hK⟩
  unfold Instr.storeAt
  rw [run_bind' P _ _ _ _ a rfl]
  unfold storeVar
  rw [run_bind' P _ _ _ _ _ (jU hs _)]
  simp only [ne_eq,not_true_eq_false,if_false]
  exact hr d
 ·exact h.elim
theorem zg {P:Program} {t:TypeId} {z:Value} (h:(P.info? t).bind (·.zero)=some z) (w:World):(zeroValue t).run P w = .ok z w:=by
 cases hi:P.info? t with
 | none=>rw [hi] at h; cases h
 | some i =>
  rw [hi] at h
  unfold zeroValue
  rw [run_bind' P _ _ _ _ _ (run_typeInfo hi _)]
  simp only [Option.bind_some] at h
  rw [h]
  rfl
def Tu (P:Program) (t:TypeId) (len:Nat) (parts:List (Nat×Value)):Option (TypeId×Array Value) :=
 match P.underlying t with
 | some (.slice e)=>match P.info? e with
  | some i=>match i.zero with
   | some z=>if len*i.size≤16777216 then (Instr.fill (fun j=>some (j*i.size,i.size)) (if len*i.size=0 then #[] else madeCells z.cells (len*i.size)) parts).map fun cs=>(e,cs) else none
   | none=>none
  | none=>none
 | _=>none
theorem yU {P:Program} {t:TypeId} {len:Nat} {parts:Array (Nat×Value)} {e:TypeId} {cs:Array Value} (h:Tu P t len parts.toList=some (e,cs)) (w:World) (d:Nat) :
  (Instr.buildSlice t len parts).run P (dr w d) = .ok (.slice (some ⟨w.heap.size,0,none⟩) len len) (dr (w.alloc (.cells cs e)) d):=by
 unfold Tu at h
 split at h
 ·rename_i e' hu
  split at h
  ·rename_i i hi
   split at h
   ·rename_i z hz
    split at h
    ·rename_i hle
     have hs:LM P e'=some i.size:=by unfold LM; rw [hi]; rfl
     cases hf:Instr.fill (fun j=>some (j*i.size,i.size)) (if len*i.size=0 then #[] else madeCells z.cells (len*i.size)) parts.toList with
     | none=>rw [hf] at h; cases h
     | some c =>
      rw [hf] at h
      simp only [Option.map_some,Option.some.injEq,Prod.mk.injEq] at h
      obtain ⟨rfl,rfl⟩:=h
      unfold Instr.buildSlice
      rw [run_bind' P _ _ _ _ _ (cZ hu _)]
      simp only
      rw [run_bind' P _ _ _ _ _ (jU hs _)]
      have hn:¬ len*i.size>2 ^ 24:=by omega
      simp only [hn,if_false]
      have hf':∀ z':Array Value,(len*i.size=0→z' = #[])→(¬ len*i.size=0→z'=z.cells)→Instr.fill (fun j=>some (j*i.size,i.size)) ((Array.range (len*i.size)).map (z'[· % z'.size]!)) parts.toList=some c:=by
       intro z' h0 h1
       by_cases hz0:len*i.size=0
       ·rw [if_pos hz0] at hf
        rw [hz0]
        simpa [Array.range_zero'] using hf
       ·rw [if_neg hz0] at hf
        rw [h1 hz0]
        exact hf
      by_cases hz0:len*i.size=0
      ·rw [if_pos hz0,run_bind' P _ _ _ _ #[] rfl,hf' #[] (fun _=>rfl) (fun hh=>absurd hz0 hh)]
       simp only
       rfl
      ·rw [if_neg hz0,run_bind' P _ _ _ _ _ (zg (by rw [hi]; exact hz) _),run_bind' P _ _ _ _ z.cells rfl,hf' z.cells (fun hh=>absurd hh hz0) (fun _=>rfl)]
       simp only
       rfl
    ·cases h
   ·cases h
  ·cases h
 ·cases h
def Me (P:Program) (t:TypeId):Option (Array Value):=((P.info? t).bind (·.zero)).map (·.cells)
def Js (P:Program) (t:TypeId) (K:Value→World→Prop) (w:World):Prop :=
 bK (Me P t) fun cs=>K (.pointer (some ⟨w.heap.size,0,none⟩)) (w.alloc (.cells cs t))
theorem Hm {P:Program} {t:TypeId} {K:Value→World→Prop} {w:World} (h:Js P t K w):dm P (Instr.alloc t true (.tuple #[])) w K:=by
 unfold Js Me at h
 obtain ⟨cs,hc,hK⟩:=fD h
 cases hz:(P.info? t).bind (·.zero) with
 | none=>rw [hz] at hc; cases hc
 | some z =>
  rw [hz] at hc
  simp only [Option.map_some,Option.some.injEq] at hc
  subst hc
  refine dm.of (fun d=>?_) hK
  unfold Instr.alloc
  rw [run_bind' P _ _ _ _ _ (zg hz _)]
  rfl
def Rq (P:Program) (t:TypeId) (l c:Value) (K:Value→World→Prop) (w:World):Prop :=
 match P.underlying t,l,c with
 | some (.slice e),.int _ l,.int _ c=>match P.info? e with
  | some i=>match i.zero with
   | some z=>chk (0≤l∧l≤c∧(i.bytes:Int)*c≤281474976710656∧c≤9223372036854775807)
     (K (.slice (some ⟨w.heap.size,0,none⟩) l.toNat c.toNat) (w.alloc (.cells (madeCells z.cells (c.toNat*i.size)) e)))
   | none=>False
  | none=>False
 | _,_,_=>False
theorem Jl {P:Program} {t:TypeId} {l c:Value} {K:Value→World→Prop} {w:World} (h:Rq P t l c K w):dm P (Instr.makeSlice t l c) w K:=by
 unfold Rq at h
 split at h
 ·rename_i e kl l kc c hu
  split at h
  ·rename_i i hi
   split at h
   ·rename_i z hz
    obtain ⟨hb,h⟩:=nK.1 h
    exact dm.of (fun d=>run_make (dr w d) t e i z hu hi hz kl kc l c hb.1 hb.2.1 hb.2.2.1 hb.2.2.2) h
   ·exact h.elim
  ·exact h.elim
 ·exact h.elim
def rQ (P:Program) (t:TypeId) (name:String):Option FuncId :=
 match P.info? t with
 | none=>none
 | some i=>match i.methods.find? (·.name==name) with
  | some m=>if m.path.isEmpty=true then (match m.func,P.underlying t with
   | some (_,_),some (.pointer _)=>none
   | some (f,false),some _=>some f
   | _,_=>none) else none
  | none=>none
def jT (P:Program) (f:FuncId):Bool:=match P.funcs[f]? with
 | some fn => fn.body.isSome && !(fn.name == "runtime.NumGoroutine")
 | none=>false
def xA (P:Program) (ty:TypeId) (K:Value→World→Prop):Value→World→Prop:=fun v u=>fU P ty fun v'=>v=v'∧K v' u
def VK (K:Value→World→Prop):Value→World→Prop:=fun v u=>(v = .tuple #[.bool false]∧K (.tuple #[.bool false]) u)∨∃ k x:Value,v = .tuple #[.bool true,k,x]∧K (.tuple #[.bool true,k,x]) u
def RV (K:Value→World→Prop):Value→World→Prop:=fun v u=>∃ p:Addr,v = .pointer (some p)∧K (.pointer (some p)) u
def TN (K:Value→World→Prop):Value→World→Prop:=fun v u=>∃ k x:Value,v = .tuple #[k,x]∧K (.tuple #[k,x]) u
def Iq (P:Program) (ρ:Operand→Value) (ty:TypeId) (c:Call) (K:Value→World→Prop) (w:World):Prop :=
 match c.callee with
 | .value fo=>match ρ fo with
  | .func (.func f) first captured=>if jT P f=true then CallsD P f (first++c.args.map ρ++captured) w (xA P ty K) else False
  | _=>False
 | .invoke r name=>match ρ r with
  | .iface t v=>bK (rQ P t name) fun f=>if jT P f=true then CallsD P f (#[v]++c.args.map ρ) w (xA P ty K) else False
  | _=>False
 | .builtin .append=>dm P (Builtin.append_ c.argTypes ty (c.args.map ρ)) w (xA P ty K)
 | .builtin .copy=>dm P (Builtin.copy_ c.argTypes ty (c.args.map ρ)) w (xA P ty K)
 | _=>False
theorem jg {P:Program} {ty:TypeId} {K:Value→World→Prop} {v:Value} {u:World} (h:xA P ty K v u):K v u:=by
 obtain ⟨v',rfl,hK⟩:=iM h
 exact hK
theorem iP {P:Program} {f:FuncId} (h:jT P f=true) (args:Array Value) (w:World):(callFunc f args).run P w = .ok (.enter f args) w:=by
 unfold jT at h
 split at h
 ·rename_i fn hf
  simp only [Bool.and_eq_true,Bool.not_eq_true'] at h
  have hn : (fn.name == "runtime.NumGoroutine") = false := h.2
  unfold callFunc
  rw [run_bind' P _ _ _ _ _ (oW P w),hf]
  simp only [hn,Bool.false_eq_true,if_false]
  cases hb:fn.body with
  | none=>rw [hb] at h; cases h.1
  | some c=>simp
 ·cases h
theorem rZ {P:Program} {t:TypeId} {name:String} {f:FuncId} (h:rQ P t name=some f) (n:Nat) (v:Value) (w:World):(method (n+1) t v name).run P w = .ok (f,v) w:=by
 unfold rQ at h
 split at h
 ·cases h
 rename_i i hi
 split at h
 ·rename_i m hm
  split at h
  ·rename_i hp
   unfold method
   rw [run_bind' P _ _ _ _ _ (run_typeInfo hi _)]
   simp only [hm]
   have hpl:m.path.toList=[]:=by simpa using hp
   rw [hpl,run_bind' P _ _ _ _ (t,Place.val v) rfl]
   simp only
   split at h
   ·cases h
   ·rename_i f0 u hn hf hu
    simp only [Option.some.injEq] at h
    subst h
    rw [hf]
    simp only
    unfold receiverAt
    rw [run_bind' P _ _ _ w v (by
     rw [run_bind' P _ _ _ _ _ (cZ hu _)]
     cases u <;> first | rfl | exact (hn _ _ rfl).elim | exact (hn _ rfl).elim | exact (hn _ _ hf rfl).elim)]
    rfl
   ·cases h
  ·cases h
 ·cases h
def Gu (P:Program) (ρ:Operand→Value) (o:Oper) (K:Value→World→Prop) (w:World):Prop :=
 match o.op with
 | .store t p x=>KA P t (ρ p) (ρ x) (K undef) w
 | .alloc t=>Js P t K w
 | .box t x=>K (.pointer (some ⟨w.heap.size,0,none⟩)) (w.alloc (.cells (ρ x).cells t))
 | .makeSlice t l c=>Rq P t (ρ l) (ρ c) K w
 | .buildSlice t len parts=>bK (Tu P t len (partsOf ρ parts)) fun ec=>K (.slice (some ⟨w.heap.size,0,none⟩) len len) (w.alloc (.cells ec.2 ec.1))
 | .call c=>Iq P ρ o.type c K w
 | .convert s t x=>dm P (convert s t (ρ x)) w (xA P o.type K)
 | .makeMap t none=>K (.map (some w.heap.size)) (w.alloc (.map #[] 0))
 | .lookup t m k ok=>dm P (Instr.lookup t (ρ m) (ρ k) ok) w (xA P o.type K)
 | .mapEntry t m k=>dm P (Instr.mapEntry t (ρ m) (ρ k)) w (xA P o.type K)
 | .range t x=>dm P (Instr.range t (ρ x)) w (RV K)
 | .next it s=>dm P (Instr.next (ρ it) s o.type) w (VK K)
 | .entry it=>dm P (Instr.entry (ρ it)) w (TN K)
 | .mapUpdate t m k x=>dm P (do Instr.mapUpdate t (ρ m) (ρ k) (ρ x); pure undef) w fun _ u=>K undef u
 | .entryStore t m s x=>dm P (do Instr.entryStore t (ρ m) (ρ s) (ρ x); pure undef) w fun _ u=>K undef u
 | _=>False
theorem OpD.Jb {P:Program} {s:Sem Unit} {w:World} {K:Value→World→Prop} (h:dm P (do s; pure undef) w fun _ u=>K undef u):OpD P (do s; pure .skip) w K :=
 .inr (.inl fun d=>by
  obtain ⟨v,u,d',hr,hK⟩:=h d
  rw [Sem.run_bind] at hr
  cases hs:s.run P (dr w d) with
  | halt hh w'=>rw [hs] at hr; cases hr
  | ok x w' =>
   rw [hs] at hr
   simp only [Result.andThen_ok,Sem.run_pure,Result.ok.injEq] at hr
   exact ⟨u,d',by rw [run_bind' P _ _ _ _ _ hs,hr.2]; rfl,hK⟩)
theorem oK {P:Program} {ρ:Operand→Value} {o:Oper} {K:Value→World→Prop} {w:World} (hd:P.types.size+Made.depth≠0) (h:Gu P ρ o K w):OpD P (execOp ρ o) w K:=by
 obtain ⟨dst,op,ty,pos,after,guard⟩:=o
 unfold Gu at h
 cases op <;> simp only at h <;> first | exact h.elim | skip
 case store t p x =>
  obtain ⟨u,hr,hK⟩:=GU h
  exact .inr (.inl fun d=>⟨u,d,by unfold execOp; simp only; rw [run_bind' P _ _ _ _ _ (hr d)]; rfl,hK⟩)
 case alloc t=>exact OpD.lQ (Hm h)
 case box t x=>exact OpD.lQ (dm.of (fun d=>rfl) h)
 case makeSlice t l c=>exact OpD.lQ (Jl h)
 case buildSlice t len parts =>
  obtain ⟨⟨e,cs⟩,hc,hK⟩:=fD h
  exact OpD.lQ (dm.of (fun d=>yU hc w d) hK)
 case convert s t x=>exact OpD.lQ (h.mono fun v u hk=>jg hk)
 case lookup t m k ok=>exact OpD.lQ (h.mono fun v u hk=>jg hk)
 case mapEntry t m k=>exact OpD.lQ (h.mono fun v u hk=>jg hk)
 case range t x=>exact OpD.lQ (h.mono fun v u ⟨p,h1,h2⟩=>h1 ▸ h2)
 case next it s=>exact OpD.lQ (h.mono fun v u hk=>hk.elim (fun h=>h.1 ▸ h.2) fun ⟨k,x,h1,h2⟩=>h1 ▸ h2)
 case entry it=>exact OpD.lQ (h.mono fun v u ⟨k,x,h1,h2⟩=>h1 ▸ h2)
 case mapUpdate t m k x=>exact OpD.Jb h
 case entryStore t m s x=>exact OpD.Jb h
 case makeMap t r =>
  cases r with
  | some r=>exact h.elim
  | none=>exact OpD.lQ (dm.of (fun d=>rfl) h)
 case call c =>
  obtain ⟨callee,args,ats⟩:=c
  unfold Iq at h
  cases callee with
  | value fo =>
   simp only at h
   split at h
   ·rename_i f first captured hf
    split at h
    ·rename_i hb
     refine .inr (.inr ⟨f,first++args.map ρ++captured,fun d=>?_,h.mono fun v u hk=>jg hk⟩)
     unfold execOp resolve
     simp only [hf,Deferred.ofValue]
     rw [run_bind' P _ _ _ _ _ rfl]
     exact iP hb _ _
    ·exact h.elim
   ·exact h.elim
  | invoke r name =>
   simp only at h
   split at h
   ·rename_i t v hv
    obtain ⟨f,hf,h⟩:=fD h
    split at h
    ·rename_i hb
     refine .inr (.inr ⟨f,#[v]++args.map ρ,fun d=>?_,h.mono fun v u hk=>jg hk⟩)
     obtain ⟨n,hn⟩:∃ n,P.types.size+Made.depth=n+1:=⟨P.types.size+Made.depth - 1,by omega⟩
     unfold execOp resolve
     simp only [hv]
     rw [run_bind' P _ _ _ _ _ rfl]
     unfold invoke
     obtain ⟨xs,hxs⟩:∃ xs:List Value,args.map ρ=xs.toArray:=⟨(args.map ρ).toList,rfl⟩
     rw [hxs]
     have e0:(#[Value.iface t v]++xs.toArray)[0]?=some (.iface t v):=by simp
     have e1:(#[Value.iface t v]++xs.toArray).extract 1 (#[Value.iface t v]++xs.toArray).size=xs.toArray:=by simp
     simp only [e0,e1]
     unfold callMethod
     simp only
     rw [run_bind' P _ _ _ _ _ (oW P _),hn,run_bind' P _ _ _ _ _ (rZ hf n v _)]
     exact iP hb _ _
    ·exact h.elim
   ·exact h.elim
  | builtin b =>
   cases b <;> simp only at h <;> first | exact h.elim | skip
   ·have:execOp ρ ⟨dst,.call ⟨.builtin .append,args,ats⟩,ty,pos,after,guard⟩=(do pure (.value (← Builtin.append_ ats ty (args.map ρ)))):=rfl
    rw [this]
    exact OpD.lQ (h.mono fun v u hk=>jg hk)
   ·have:execOp ρ ⟨dst,.call ⟨.builtin .copy,args,ats⟩,ty,pos,after,guard⟩=(do pure (.value (← Builtin.copy_ ats ty (args.map ρ)))):=rfl
    rw [this]
    exact OpD.lQ (h.mono fun v u hk=>jg hk)
end Go.E
namespace Go.E
open Go Go.RowKit
abbrev jP:=Nat→Option Value
def up (vals:jP) (i:Nat) (v:Value):jP:=fun k=>match Nat.beq k i with
 | true=>some v
 | false=>vals k
theorem l7 (vals:jP) (i:Nat) (v:Value):up vals i v i=some v:=by unfold up; rw [show Nat.beq i i=true from Nat.beq_refl i]
theorem sK {vals:jP} {i k:Nat} {v:Value} (h:k≠i):up vals i v k=vals k:=by
 unfold up
 cases hb:Nat.beq k i with
 | true=>exact absurd (Nat.eq_of_beq_eq_true hb) h
 | false=>rfl
theorem KH {vals:jP} {i j:Nat} {v u:Value} (h:i≠j):up (up vals i v) j u=up (up vals j u) i v:=by
 funext k
 by_cases hi:k=i
 ·subst hi; rw [sK h,l7,l7]
 ·by_cases hj:k=j
  ·subst hj; rw [l7,sK hi,l7]
  ·rw [sK hj,sK hi,sK hi,sK hj]
inductive Anc (ops:Array Oper) (md:Region.Mode):Nat→Nat→Prop where
 | base {j:Nat} {o:Oper} {e:Edge}:ops[j]?=some o→e∈o.after→Region.binds md e=true→Anc ops md e.on j
 | step {j k:Nat} {o:Oper} {e:Edge}:ops[j]?=some o→e∈o.after→Region.binds md e=true→Anc ops md k e.on→Anc ops md k j
def Dn (ops:Array Oper) (md:Region.Mode) (listed:Array Bool):Prop :=
 ∀ k o,ops[k]?=some o→listed.getD k false=true→∀ e∈o.after,Region.binds md e=true→listed.getD e.on false=true
theorem oL {ops:Array Oper} {md:Region.Mode} {listed:Array Bool} (hd:Dn ops md listed) {k j:Nat} (h:Anc ops md k j) :
  (∀ o,ops[j]?=some o→∀ e∈o.after,Region.binds md e=true→listed.getD e.on false=true)→listed.getD k false=true:=by
 induction h with
 | base ho he hb=>intro hj; exact hj _ ho _ he hb
 | step ho he hb h ih=>intro hj; exact ih fun o' ho'=>hd _ _ ho' (hj _ ho _ he hb)
theorem xR {ops:Array Oper} {md:Region.Mode} {listed:Array Bool} {i:Nat} (hd:Dn ops md listed) (hi:i∈Region.ready md ops listed):Dn ops md (listed.setIfInBounds i true):=by
 intro k o ho hl e he hb
 refine getD_set_true ?_
 by_cases hki:k=i
 ·subst hki
  obtain ⟨_,o',ho',hall⟩:=mem_ready.1 hi
  rw [ho] at ho'
  cases ho'
  exact hall e he hb
 ·rw [getD_set_ne false (Ne.symm hki)] at hl
  exact hd k o ho hl e he hb
section
variable {P:Program} {ops:Array Oper} {md:Region.Mode} {C:World→Prop} {Le:World→World→Prop} {Φ:Nat→Value→World→Prop} {isV:Oper→Bool}
def Facts (Φ:Nat→Value→World→Prop) (vals:jP) (u:World):Prop:=∀ j v,vals j=some v→Φ j v u
def vY (P:Program) (Le:World→World→Prop) (Φ:Nat→Value→World→Prop) (i:Nat) (u:World):Result Next→Prop
 | .ok (.value v) u'=>Φ i v u'∧Le u u'
 | .ok .skip u'=>Φ i undef u'∧Le u u'
 | .ok (.enter f args) u'=>Calls P f args u' (fun e u''=>∃ v,e = .returned v∧Φ i v u''∧Le u u'')
 | _=>False
def GG (P:Program) (ops:Array Oper) (md:Region.Mode) (C:World→Prop) (Le:World→World→Prop) (Φ:Nat→Value→World→Prop) (o:Oper) (i:Nat) (vals:jP) (a:Act):Prop :=
 ∀ u,C u→(∀ j,Anc ops md j i→∀ v,vals j=some v→Φ j v u)→vY P Le Φ i u ((execOp a.eval o).run P u)
def CG (P:Program) (ops:Array Oper) (md:Region.Mode) (C:World→Prop) (Le:World→World→Prop) (Φ:Nat→Value→World→Prop) (isV:Oper→Bool) (o:Oper) (i:Nat) (K:jP→Act→Prop) (vals:jP) (a:Act):Prop :=
 match isV o with
 | true=>∃ v,(∀ u,C u→(execOp a.eval o).run P u = .ok (.value v) u)∧K vals (a.put o.dst v)
 | false=>GG P ops md C Le Φ o i vals a∧∀ v,(∃ u,C u∧Facts Φ (up vals i v) u)→K (up vals i v) (a.put o.dst v)
def rOp (P:Program) (ops:Array Oper) (md:Region.Mode) (C:World→Prop) (Le:World→World→Prop) (Φ:Nat→Value→World→Prop) (isV:Oper→Bool) (i:Nat) (K:jP→Act→Prop) (vals:jP) (a:Act):Prop :=
 match ops[i]? with
 | none=>K vals a
 | some o=>if Region.wanted o (yielded ops a.tmps) then CG P ops md C Le Φ isV o i K vals a else K vals (a.put o.dst undef)
def yM (P:Program) (ops:Array Oper) (md:Region.Mode) (C:World→Prop) (Le:World→World→Prop) (Φ:Nat→Value→World→Prop) (isV:Oper→Bool) (Q:Act→World→Prop):Nat→Array Bool→jP→Act→Prop
 | 0,listed,vals,a=>Region.ready md ops listed=[]∧∀ u,C u→Facts Φ vals u→Q a u
 | fuel+1,listed,vals,a=>(Region.ready md ops listed=[]→∀ u,C u→Facts Φ vals u→Q a u) ∧
  ∀ i∈Region.ready md ops listed,rOp P ops md C Le Φ isV i (yM P ops md C Le Φ isV Q fuel (listed.setIfInBounds i true)) vals a
structure iO (C:World→Prop) (Le:World→World→Prop) (Φ:Nat→Value→World→Prop):Prop where
 cls:∀ u u',C u→Le u u'→C u'
 stable:∀ i v u u',C u→Φ i v u→Le u u'→Φ i v u'
theorem mG {vals:jP} {i:Nat} {v:Value} {u u':World} (L:iO C Le Φ) (hC:C u) (hF:Facts Φ vals u) (hv:Φ i v u') (hL:Le u u'):Facts Φ (up vals i v) u':=by
 intro j x hj
 by_cases hji:j=i
 ·subst hji; rw [l7] at hj; cases hj; exact hv
 ·rw [sK hji] at hj; exact L.stable _ _ _ _ hC (hF j x hj) hL
theorem Gx {i:Nat} {u:World} {r:Result Next} (h:vY P Le Φ i u r):∃ v u',Φ i v u'∧Le u u':=by
 unfold vY at h
 split at h
 ·exact ⟨_,_,h⟩
 ·exact ⟨_,_,h⟩
 ·obtain ⟨e,w',fr,⟨v,_,h1,h2⟩,_⟩:=h []
  exact ⟨v,w',h1,h2⟩
 ·exact h.elim
theorem yV {o:Oper} {i:Nat} {vals:jP} {a:Act} (L:iO C Le Φ) (hn:∃ u,C u∧Facts Φ vals u) (h:GG P ops md C Le Φ o i vals a):∃ v,∃ u,C u∧Facts Φ (up vals i v) u:=by
 obtain ⟨u,hC,hF⟩:=hn
 obtain ⟨v,u',h1,h2⟩:=Gx (h u hC fun j _ x hx=>hF j x hx)
 exact ⟨v,u',L.cls _ _ hC h2,mG L hC hF h1 h2⟩
theorem jD {o:Oper} {i:Nat} {vals vals':jP} {a a':Act} (he:execOp a'.eval o=execOp a.eval o) (hv:∀ j,Anc ops md j i→vals' j=vals j) (h:GG P ops md C Le Φ o i vals a):GG P ops md C Le Φ o i vals' a':=by
 intro u hC hF
 rw [he]
 exact h u hC fun j hj x hx=>hF j hj x (by rw [hv j hj]; exact hx)
theorem oM {i:Nat} {K K':jP→Act→Prop} {vals:jP} {a:Act} (hn:∃ u,C u∧Facts Φ vals u)
  (hk:∀ vals' a',(∃ u,C u∧Facts Φ vals' u)→(∀ k,k≠i→vals' k=vals k)→K vals' a'→K' vals' a') (h:rOp P ops md C Le Φ isV i K vals a):rOp P ops md C Le Φ isV i K' vals a:=by
 unfold rOp at *
 split
 ·rename_i ho; rw [ho] at h; exact hk _ _ hn (fun _ _=>rfl) h
 ·rename_i o ho
  rw [ho] at h
  simp only at h
  split
  ·rename_i hw
   rw [if_pos hw] at h
   unfold CG at *
   split
   ·rename_i hv; rw [hv] at h; obtain ⟨v,h1,h2⟩:=h; exact ⟨v,h1,hk _ _ hn (fun _ _=>rfl) h2⟩
   ·rename_i hv; rw [hv] at h; exact ⟨h.1,fun v hp=>hk _ _ hp (fun k hk=>sK hk) (h.2 v hp)⟩
  ·rename_i hw
   rw [if_neg hw] at h
   exact hk _ _ hn (fun _ _=>rfl) h
theorem OG {i:Nat} {K:jP→Act→Prop} {vals:jP} {a:Act} (L:iO C Le Φ) (hn:∃ u,C u∧Facts Φ vals u) (h:rOp P ops md C Le Φ isV i K vals a):∃ vals' a',K vals' a':=by
 unfold rOp at h
 split at h
 ·exact ⟨_,_,h⟩
 ·split at h
  ·unfold CG at h
   split at h
   ·obtain ⟨v,_,h2⟩:=h; exact ⟨_,_,h2⟩
   ·obtain ⟨v,hp⟩:=yV L hn h.1; exact ⟨_,_,h.2 v hp⟩
  ·exact ⟨_,_,h⟩
theorem G7 {vals:jP} {i j:Nat} {v x:Value} {u:World} (hij:i≠j) (hj:vals j=none) (h:Facts Φ (up (up vals j x) i v) u):Facts Φ (up vals i v) u:=by
 intro k y hk
 by_cases hki:k=i
 ·subst hki; rw [l7] at hk; exact h k y (by rw [l7]; exact hk)
 ·rw [sK hki] at hk
  refine h k y ?_
  rw [sK hki]
  by_cases hkj:k=j
  ·subst hkj; rw [hj] at hk; cases hk
  ·rw [sK hkj]; exact hk
theorem EU {i j:Nat} {oi oj:Oper} {W:jP→Act→Prop} {vals:jP} {a:Act} (L:iO C Le Φ) (hi:ops[i]?=some oi) (hj:ops[j]?=some oj) (hij:i≠j)
  (hap:oi.apart ops oj=true) (hsi:∀ cs b,oi.op ≠ .select cs b) (hsj:∀ cs b,oj.op ≠ .select cs b) (hvi:vals i=none) (hvj:vals j=none)
  (hai:¬ Anc ops md i j) (haj:¬ Anc ops md j i) (hn:∃ u,C u∧Facts Φ vals u)
  (H:rOp P ops md C Le Φ isV i (rOp P ops md C Le Φ isV j W) vals a):rOp P ops md C Le Φ isV j (rOp P ops md C Le Φ isV i W) vals a:=by
 obtain ⟨h1,h2,h3⟩:=Oper.apart_spec hap
 have ej:∀ (a:Act) v,execOp (a.put oi.dst v).eval oj=execOp a.eval oj:=fun a v=>execOp_put oj hsj a oi.dst v h1
 have ei:∀ (a:Act) v,execOp (a.put oj.dst v).eval oi=execOp a.eval oi:=fun a v=>execOp_put oi hsi a oj.dst v h3
 have wj:∀ (a:Act) v,Region.wanted oj (yielded ops (a.put oi.dst v).tmps)=Region.wanted oj (yielded ops a.tmps):=fun a v=>wanted_put oj a oi.dst v h1
 have wi:∀ (a:Act) v,Region.wanted oi (yielded ops (a.put oj.dst v).tmps)=Region.wanted oi (yielded ops a.tmps):=fun a v=>wanted_put oi a oj.dst v h3
 have pc:∀ (a:Act) v u,(a.put oi.dst v).put oj.dst u=(a.put oj.dst u).put oi.dst v:=fun a v u=>Act.put_comm a v u h2
 obtain ⟨u0,hC0,hF0⟩:=hn
 have ancj:∀ v k,Anc ops md k j→up vals i v k=vals k:=fun v k hk=>sK fun h=>hai (h ▸ hk)
 have anci:∀ v k,Anc ops md k i→up vals j v k=vals k:=fun v k hk=>sK fun h=>haj (h ▸ hk)
 unfold rOp at H ⊢
 simp only [hi,hj,wi,wj] at H ⊢
 unfold CG at H ⊢
 simp only [ei,ej,wi,wj] at H ⊢
 by_cases hwi:Region.wanted oi (yielded ops a.tmps)=true <;> by_cases hwj:Region.wanted oj (yielded ops a.tmps)=true <;> simp only [hwi,hwj,if_true,if_false] at H ⊢
 ·cases hti:isV oi <;> cases htj:isV oj <;> simp only [hti,htj] at H ⊢
  ·obtain ⟨ci,H⟩:=H
   obtain ⟨v0,hp0⟩:=yV L ⟨u0,hC0,hF0⟩ ci
   obtain ⟨cj,_⟩:=H v0 hp0
   refine ⟨jD (a:=a.put oi.dst v0) (ej a v0).symm (fun k hk=>(ancj v0 k hk).symm) cj,fun vj hpj=>⟨jD (ei a vj) (fun k hk=>anci vj k hk) ci,fun vi hpi=>?_⟩⟩
   obtain ⟨u,hC,hF⟩:=hpi
   have:=(H vi ⟨u,hC,G7 hij hvj hF⟩).2 vj ⟨u,hC,by rw [KH hij]; exact hF⟩
   rwa [KH hij,pc] at this
  ·obtain ⟨ci,H⟩:=H
   obtain ⟨v0,hp0⟩:=yV L ⟨u0,hC0,hF0⟩ ci
   obtain ⟨vj,ejv,_⟩:=H v0 hp0
   refine ⟨vj,ejv,jD (ei a vj) (fun _ _=>rfl) ci,fun vi hpi=>?_⟩
   obtain ⟨vj',ejv',hW⟩:=H vi hpi
   have:vj'=vj:=by
    have e1:=ejv u0 hC0
    have e2:=ejv' u0 hC0
    rw [e1] at e2
    simpa using e2.symm
   subst this
   rwa [pc] at hW
  ·obtain ⟨vi,eiv,cj,H⟩:=H
   refine ⟨jD (a:=a.put oi.dst vi) (ej a vi).symm (fun _ _=>rfl) cj,fun vj hpj=>⟨vi,eiv,?_⟩⟩
   have:=H vj hpj
   rwa [pc] at this
  ·obtain ⟨vi,eiv,vj,ejv,H⟩:=H
   exact ⟨vj,ejv,vi,eiv,by rwa [pc] at H⟩
 ·cases hti:isV oi <;> simp only [hti] at H ⊢
  ·obtain ⟨ci,H⟩:=H
   exact ⟨jD (ei a undef) (fun _ _=>rfl) ci,fun vi hpi=>by have:=H vi hpi; simp only [Bool.false_eq_true,if_false] at this; rwa [pc] at this⟩
  ·obtain ⟨vi,eiv,H⟩:=H
   simp only [Bool.false_eq_true,if_false] at H
   exact ⟨vi,eiv,by rwa [pc] at H⟩
 ·cases htj:isV oj <;> simp only [htj,Bool.false_eq_true,if_false] at H ⊢
  ·obtain ⟨cj,H⟩:=H
   refine ⟨jD (a:=a.put oi.dst undef) (ej a undef).symm (fun _ _=>rfl) cj,fun vj hpj=>?_⟩
   have:=H vj hpj
   rwa [pc] at this
  ·obtain ⟨vj,ejv,H⟩:=H
   exact ⟨vj,ejv,by rwa [pc] at H⟩
 ·simp only [Bool.false_eq_true,if_false] at H ⊢
  rwa [pc] at H
theorem Cc {Q:Act→World→Prop} {i:Nat} {oi:Oper} (L:iO C Le Φ) (hi:ops[i]?=some oi) (hsel:∀ (j:Nat) (o:Oper) cs b,ops[j]?=some o→o.op ≠ .select cs b) :
  ∀ (fuel:Nat) (listed:Array Bool) (vals:jP) (a:Act),
   (∀ j oj,ops[j]?=some oj→j≠i→listed.getD j true=false→(∀ e∈oj.after,Region.binds md e=true→e.on≠i)→oi.apart ops oj=true) →
   i∈Region.ready md ops listed→Dn ops md listed→(∀ k,listed.getD k true=false→vals k=none)→(∃ u,C u∧Facts Φ vals u) →
   rOp P ops md C Le Φ isV i (yM P ops md C Le Φ isV Q fuel (listed.setIfInBounds i true)) vals a→yM P ops md C Le Φ isV Q (fuel+1) listed vals a:=by
 intro fuel
 induction fuel with
 | zero =>
  intro listed vals a _ hr _ _ hn H
  refine ⟨fun h=>(by rw [h] at hr; cases hr),fun j hj=>?_⟩
  by_cases hji:j=i
  ·subst hji; exact H
  ·obtain ⟨_,_,h0⟩:=OG L hn H
   have:=ready_mono hj hji
   rw [h0.1] at this
   cases this
 | succ fuel ih =>
  intro listed vals a hfree hr hdn hnone hn H
  refine ⟨fun h=>(by rw [h] at hr; cases hr),fun j hj=>?_⟩
  by_cases hji:j=i
  ·subst hji; exact H
  ·obtain ⟨hjun,oj,hoj,hall⟩:=mem_ready.1 hj
   obtain ⟨hiun,oi',hoi',halli⟩:=mem_ready.1 hr
   rw [hi] at hoi'
   cases hoi'
   have flip:∀ k,listed.getD k true=false→listed.getD k false=true→False:=by
    intro k h0 h1
    rcases Nat.lt_or_ge k listed.size with h' | h'
    ·simp [h'] at h0 h1; rw [h0] at h1; cases h1
    ·simp [Array.getElem?_eq_none h'] at h1
   have hnot:∀ e∈oj.after,Region.binds md e=true→e.on≠i:=fun e he hb heq=>flip i hiun (by have:=hall e he hb; rwa [heq] at this)
   have hai:¬ Anc ops md i j:=fun h=>flip i hiun (oL hdn h fun o ho=>by rw [hoj] at ho; cases ho; exact hall)
   have haj:¬ Anc ops md j i:=fun h=>flip j hjun (oL hdn h fun o ho=>by rw [hi] at ho; cases ho; exact halli)
   have H2:rOp P ops md C Le Φ isV i (rOp P ops md C Le Φ isV j (yM P ops md C Le Φ isV Q fuel ((listed.setIfInBounds i true).setIfInBounds j true))) vals a :=
    oM hn (fun vals' a' _ _ h=>h.2 j (ready_mono hj hji)) H
   have H3:=EU L hi hoj (Ne.symm hji) (hfree j oj hoj hji hjun hnot) (fun cs b=>hsel i oi cs b hi) (fun cs b=>hsel j oj cs b hoj) (hnone i hiun) (hnone j hjun) hai haj hn H2
   refine oM hn (fun vals' a' hn' hv' h=>?_) H3
   have hfree':∀ k ok,ops[k]?=some ok→k≠i→(listed.setIfInBounds j true).getD k true=false →
     (∀ e∈ok.after,Region.binds md e=true→e.on≠i)→oi.apart ops ok=true:=fun k ok hk hki hun hno=>by
    refine hfree k ok hk hki ?_ hno
    by_cases hjk:j=k
    ·subst hjk; exact hjun
    ·rw [getD_set_ne true hjk] at hun; exact hun
   refine ih (listed.setIfInBounds j true) vals' a' hfree' (ready_mono hr (Ne.symm hji)) (xR hdn hj) (fun k hk=>?_) hn' ?_
   ·by_cases hjk:j=k
    ·subst hjk
     exfalso
     rcases Nat.lt_or_ge j listed.size with h' | h'
     ·rw [Array.getD_eq_getD_getElem?,Array.getElem?_setIfInBounds_self_of_lt h'] at hk
      cases hk
     ·rw [Array.getD_eq_getD_getElem?,Array.getElem?_eq_none (by simpa using h')] at hk
      cases hk
    ·rw [getD_set_ne true hjk] at hk
     rw [hv' k (Ne.symm hjk)]
     exact hnone k hk
   ·rw [Array.setIfInBounds_comm _ _ hji]
    exact h
def OL (P:Program) (ops:Array Oper) (md:Region.Mode) (C:World→Prop) (Le:World→World→Prop) (Φ:Nat→Value→World→Prop) (isV:Oper→Bool) (Q:Act→World→Prop):List Oper→Nat→jP→Act→Prop
 | [],_,vals,a=>∀ u,C u→Facts Φ vals u→Q a u
 | o::l,k,vals,a=>if Region.wanted o (yielded ops a.tmps) then CG P ops md C Le Φ isV o k (OL P ops md C Le Φ isV Q l (k+1)) vals a else OL P ops md C Le Φ isV Q l (k+1) vals (a.put o.dst undef)
theorem yG {Q:Act→World→Prop} (L:iO C Le Φ) (hs:Region.noSelect ops=true):∀ (l:List Oper) (k:Nat) (listed:Array Bool) (vals:jP) (a:Act),(∀ j,l[j]?=ops[k+j]?) →
  Region.lexFrom md ops l.length k listed=true→Dn ops md listed→(∀ k,listed.getD k true=false→vals k=none)→(∃ u,C u∧Facts Φ vals u) →
  OL P ops md C Le Φ isV Q l k vals a→yM P ops md C Le Φ isV Q l.length listed vals a
 | [],_,_,_,_,_,hB,_,_,_,h=>⟨by simpa [Region.lexFrom] using hB,h⟩
 | o::l,k,listed,vals,a,hl,hB,hdn,hnone,hn,h=>by
  have h0:ops[k]?=some o:=by simpa using (hl 0).symm
  simp only [List.length_cons,Region.lexFrom,Bool.and_eq_true] at hB
  obtain ⟨⟨hr,hf⟩,hB'⟩:=hB
  have hr':k∈Region.ready md ops listed:=by simpa using hr
  have hst:rOp P ops md C Le Φ isV k (OL P ops md C Le Φ isV Q l (k+1)) vals a:=by unfold rOp; simp only [h0]; exact h
  refine Cc L h0 (Region.noSelect_spec hs) l.length listed vals a (Region.free_spec h0 hf) hr' hdn hnone hn (oM hn (fun vals' a' hn' hv' h'=>?_) hst)
  refine yG L hs l (k+1) _ _ _ (fun j=>by have:=hl (j+1); simpa [Nat.add_assoc,Nat.add_comm 1 j] using this) hB' (xR hdn hr') (fun j hj=>?_) hn' h'
  by_cases hjk:k=j
  ·subst hjk
   exfalso
   rcases Nat.lt_or_ge k listed.size with h' | h'
   ·rw [Array.getD_eq_getD_getElem?,Array.getElem?_setIfInBounds_self_of_lt h'] at hj
    cases hj
   ·rw [Array.getD_eq_getD_getElem?,Array.getElem?_eq_none (by simpa using h')] at hj
    cases hj
  ·rw [getD_set_ne true hjk] at hj
   rw [hv' j (Ne.symm hjk)]
   exact hnone j hj
theorem yI {o:Oper} {i:Nat} {K:jP→Act→Prop} {vals:jP} {a:Act} {u:World} {K':Act→World→Prop} {Q':Exit→Act→World→Prop} (L:iO C Le Φ) (hC:C u) (hF:Facts Φ vals u)
  (hk:∀ vals' a' u',C u'→Facts Φ vals' u'→K vals' a'→K' a' u') (h:CG P ops md C Le Φ isV o i K vals a):o.wp P a u K' Q':=by
 unfold CG at h
 unfold Oper.wp
 split at h
 ·obtain ⟨v,hr,hK⟩:=h
  rw [hr u hC]
  exact hk _ _ _ hC hF hK
 ·obtain ⟨hc,hK⟩:=h
  have hc:=hc u hC fun j _ x hx=>hF j x hx
  generalize (execOp a.eval o).run P u=r at *
  cases r with
  | ok n u' =>
   cases n <;> simp only [vY] at hc <;> simp only [Oper.upon]
   case value v=>exact hk _ _ _ (L.cls _ _ hC hc.2) (mG L hC hF hc.1 hc.2) (hK v ⟨u',L.cls _ _ hC hc.2,mG L hC hF hc.1 hc.2⟩)
   case skip=>exact hk _ _ _ (L.cls _ _ hC hc.2) (mG L hC hF hc.1 hc.2) (hK undef ⟨u',L.cls _ _ hC hc.2,mG L hC hF hc.1 hc.2⟩)
   case enter f args =>
    refine hc.mono fun e u'' ⟨v,he,h1,h2⟩=>?_
    subst he
    exact hk _ _ _ (L.cls _ _ hC h2) (mG L hC hF h1 h2) (hK v ⟨u'',L.cls _ _ hC h2,mG L hC hF h1 h2⟩)
  | halt x u'=>simp only [vY] at hc
theorem kT {Q:Act→World→Prop} {Q':Exit→Act→World→Prop} (L:iO C Le Φ) (hQ:∀ a u,C u→Q a u→Q' .normal a u):∀ (fuel:Nat) (listed:Array Bool) (vals:jP) (a:Act) (u:World),C u→Facts Φ vals u →
  yM P ops md C Le Φ isV Q fuel listed vals a→wpAny P md ops Q' fuel listed a u
 | 0,_,_,_,_,hC,hF,h=>⟨h.1,hQ _ _ hC (h.2 _ hC hF)⟩
 | fuel+1,listed,vals,a,u,hC,hF,h=>⟨fun h0=>hQ _ _ hC (h.1 h0 _ hC hF),fun i hi=>by
  have h:=h.2 i hi
  unfold rOp at h
  unfold wpOp
  split at h
  ·rename_i ho; rw [ho]; exact kT L hQ fuel _ _ _ _ hC hF h
  ·rename_i o ho
   rw [ho]
   simp only
   split at h
   ·rename_i hw
    rw [if_pos hw]
    exact .inl (yI L hC hF (fun vals' a' u' hC' hF' hK=>kT L hQ fuel _ _ _ _ hC' hF' hK) h)
   ·rename_i hw
    rw [if_neg hw]
    exact kT L hQ fuel _ _ _ _ hC hF h⟩
theorem zX {id:Nat} {Q:Act→World→Prop} {Q':Exit→Act→World→Prop} {a:Act} {w:World} (L:iO C Le Φ) (hm:P.follows .mixedOrders=true) (hB:Region.lexB .any ops=true) (hC:C { w with drawn:=w.drawn+1 })
  (hQ:∀ a u,C u→Q a u→Q' .normal a u) (h:OL P ops .any C Le Φ isV Q ops.toList 0 (fun _=>none) a):(Code.region id ops true).wp P Q' a w:=by
 simp only [Region.lexB,Bool.and_eq_true] at hB
 refine wp_region_any hm (kT (isV:=isV) (vals:=fun _=>none) L hQ _ _ _ _ hC (fun j v hj=>by cases hj) ?_)
 have:=yG (P:=P) (md := .any) (isV:=isV) (Q:=Q) L hB.1 ops.toList 0 (Array.replicate ops.size false) (fun _=>none) a (by simp) (by simpa using hB.2)
  (fun k o ho hl=>by rw [getD_replicate_false] at hl; cases hl) (fun _ _=>rfl) ⟨_,hC,fun j v hj=>by cases hj⟩ h
 simpa using this
end
end Go.E
namespace Go.E
open Go Go.RowKit
section
variable {P:Program} {ops:Array Oper} {md:Region.Mode} {C:World→Prop} {Le:World→World→Prop} {Φ:Nat→Value→World→Prop} {isV:Oper→Bool}
def xW (P:Program) (ops:Array Oper) (md:Region.Mode) (C:World→Prop) (Le:World→World→Prop) (Φ:Nat→Value→World→Prop) (isV:Oper→Bool) (n:Nat) (L:Array Bool→jP→Act→Prop):Nat→Array Bool→jP→Act→Prop
 | 0,listed,vals,a=>L listed vals a
 | f+1,listed,vals,a=>Region.ready md ops listed≠[]∧∀ i∈Region.ready md ops listed,i<n∧rOp P ops md C Le Φ isV i (xW P ops md C Le Φ isV n L f (listed.setIfInBounds i true)) vals a
theorem jV {n g:Nat} {L:Array Bool→jP→Act→Prop} {Q':Exit→Act→World→Prop} (W:iO C Le Φ) (hL:∀ listed vals a u,L listed vals a→C u→Facts Φ vals u→wpAny P md ops Q' g listed a u) :
  ∀ (f:Nat) (listed:Array Bool) (vals:jP) (a:Act) (u:World),C u→Facts Φ vals u→xW P ops md C Le Φ isV n L f listed vals a→wpAny P md ops Q' (f+g) listed a u
 | 0,listed,vals,a,u,hC,hF,h=>by rw [Nat.zero_add]; exact hL _ _ _ _ h hC hF
 | f+1,listed,vals,a,u,hC,hF,h=>by
  rw [show f+1+g=(f+g)+1 by omega]
  refine ⟨fun h0=>absurd h0 h.1,fun i hi=>?_⟩
  have h:=(h.2 i hi).2
  unfold rOp at h
  unfold wpOp
  split at h
  ·rename_i ho; rw [ho]; exact jV W hL f _ _ _ _ hC hF h
  ·rename_i o ho
   rw [ho]
   simp only
   split at h
   ·rename_i hw
    rw [if_pos hw]
    exact .inl (yI W hC hF (fun vals' a' u' hC' hF' hK=>jV W hL f _ _ _ _ hC' hF' hK) h)
   ·rename_i hw
    rw [if_neg hw]
    exact jV W hL f _ _ _ _ hC hF h
theorem AQ {n i:Nat} {oi:Oper} {L:Array Bool→jP→Act→Prop} (W:iO C Le Φ) (hi:ops[i]?=some oi) (hsel:∀ (j:Nat) (o:Oper) cs b,ops[j]?=some o→o.op ≠ .select cs b)
  (hs:Region.sinkB md ops n=true) (hc:Region.chainB md ops n=true) (hn:n<ops.size) (hin:i<n)
  (hdone:∀ listed vals a,L listed vals a→∀ j∈Region.ready md ops listed,n≤j) :
  ∀ (fuel:Nat) (listed:Array Bool) (vals:jP) (a:Act),HeadInv md ops n listed →
   (∀ j oj,ops[j]?=some oj→j≠i→listed.getD j true=false→(∀ e∈oj.after,Region.binds md e=true→e.on≠i)→oi.apart ops oj=true) →
   i∈Region.ready md ops listed→Dn ops md listed→(∀ k,listed.getD k true=false→vals k=none)→(∃ u,C u∧Facts Φ vals u) →
   rOp P ops md C Le Φ isV i (xW P ops md C Le Φ isV n L fuel (listed.setIfInBounds i true)) vals a→xW P ops md C Le Φ isV n L (fuel+1) listed vals a:=by
 intro fuel
 induction fuel with
 | zero =>
  intro listed vals a inv _ hr hdn hnone hne H
  have hun:=(mem_ready.1 hr).1
  refine ⟨fun h=>(by rw [h] at hr; cases hr),fun j hj=>?_⟩
  have hjn:j<n:=by
   rcases Nat.lt_or_ge j n with h | h
   ·exact h
   ·exact absurd hj (tail_waits hs hc hn inv _ i rfl hin hun j h)
  refine ⟨hjn,?_⟩
  by_cases hji:j=i
  ·subst hji; exact H
  ·obtain ⟨vals',a',h0⟩:=OG W hne H
   have:=hdone _ _ _ h0 j (ready_mono hj hji)
   omega
 | succ fuel ih =>
  intro listed vals a inv hfree hr hdn hnone hne H
  have hun:=(mem_ready.1 hr).1
  refine ⟨fun h=>(by rw [h] at hr; cases hr),fun j hj=>?_⟩
  have hjn:j<n:=by
   rcases Nat.lt_or_ge j n with h | h
   ·exact h
   ·exact absurd hj (tail_waits hs hc hn inv _ i rfl hin hun j h)
  refine ⟨hjn,?_⟩
  by_cases hji:j=i
  ·subst hji; exact H
  ·obtain ⟨hjun,oj,hoj,hall⟩:=mem_ready.1 hj
   obtain ⟨hiun,oi',hoi',halli⟩:=mem_ready.1 hr
   rw [hi] at hoi'
   cases hoi'
   have flip:∀ k,listed.getD k true=false→listed.getD k false=true→False:=by
    intro k h0 h1
    rcases Nat.lt_or_ge k listed.size with h' | h'
    ·simp [h'] at h0 h1; rw [h0] at h1; cases h1
    ·simp [Array.getElem?_eq_none h'] at h1
   have hnot:∀ e∈oj.after,Region.binds md e=true→e.on≠i:=fun e he hb heq=>flip i hiun (by have:=hall e he hb; rwa [heq] at this)
   have hai:¬ Anc ops md i j:=fun h=>flip i hiun (oL hdn h fun o ho=>by rw [hoj] at ho; cases ho; exact hall)
   have haj:¬ Anc ops md j i:=fun h=>flip j hjun (oL hdn h fun o ho=>by rw [hi] at ho; cases ho; exact halli)
   have H2:rOp P ops md C Le Φ isV i (rOp P ops md C Le Φ isV j (xW P ops md C Le Φ isV n L fuel ((listed.setIfInBounds i true).setIfInBounds j true))) vals a :=
    oM hne (fun vals' a' _ _ h=>(h.2 j (ready_mono hj hji)).2) H
   have H3:=EU W hi hoj (Ne.symm hji) (hfree j oj hoj hji hjun hnot) (fun cs b=>hsel i oi cs b hi) (fun cs b=>hsel j oj cs b hoj) (hnone i hiun) (hnone j hjun) hai haj hne H2
   refine oM hne (fun vals' a' hn' hv' h=>?_) H3
   have hfree':∀ k ok,ops[k]?=some ok→k≠i→(listed.setIfInBounds j true).getD k true=false →
     (∀ e∈ok.after,Region.binds md e=true→e.on≠i)→oi.apart ops ok=true:=fun k ok hk hki hun hno=>by
    refine hfree k ok hk hki ?_ hno
    by_cases hjk:j=k
    ·subst hjk; exact hjun
    ·rw [getD_set_ne true hjk] at hun; exact hun
   refine ih (listed.setIfInBounds j true) vals' a' (inv.set hj hjn) hfree' (ready_mono hr (Ne.symm hji)) (xR hdn hj) (fun k hk=>?_) hn' ?_
   ·by_cases hjk:j=k
    ·subst hjk
     exfalso
     rcases Nat.lt_or_ge j listed.size with h' | h'
     ·rw [Array.getD_eq_getD_getElem?,Array.getElem?_setIfInBounds_self_of_lt h'] at hk
      cases hk
     ·rw [Array.getD_eq_getD_getElem?,Array.getElem?_eq_none (by simpa using h')] at hk
      cases hk
    ·rw [getD_set_ne true hjk] at hk
     rw [hv' k (Ne.symm hjk)]
     exact hnone k hk
   ·rw [Array.setIfInBounds_comm _ _ hji]
    exact h
def Au (P:Program) (ops:Array Oper) (md:Region.Mode) (C:World→Prop) (Le:World→World→Prop) (Φ:Nat→Value→World→Prop) (isV:Oper→Bool) (G:jP→Act→Prop):List Oper→Nat→jP→Act→Prop
 | [],_,vals,a=>G vals a
 | o::l,k,vals,a=>if Region.wanted o (yielded ops a.tmps) then CG P ops md C Le Φ isV o k (Au P ops md C Le Φ isV G l (k+1)) vals a else Au P ops md C Le Φ isV G l (k+1) vals (a.put o.dst undef)
theorem yw {n g:Nat} {G:jP→Act→Prop} (W:iO C Le Φ) (hsel:Region.noSelect ops=true) (hs:Region.sinkB md ops n=true) (hc:Region.chainB md ops n=true) (hn:n<ops.size) :
  ∀ (l:List Oper) (k:Nat) (listed:Array Bool) (vals:jP) (a:Act),(∀ j,j<l.length→l[j]?=ops[k+j]?)→k+l.length=n→HeadInv md ops n listed →
  Region.lexHead md ops g l.length k listed=true→Dn ops md listed→(∀ k,listed.getD k true=false→vals k=none)→(∃ u,C u∧Facts Φ vals u)→Au P ops md C Le Φ isV G l k vals a →
  xW P ops md C Le Φ isV n (fun listed' vals' a'=>Region.seqB md ops g n listed'=true∧G vals' a') l.length listed vals a
 | [],k,listed,vals,a,_,hk,_,hB,_,_,_,h=>by
  have:k=n:=by simpa using hk
  subst this
  exact ⟨by simpa [Region.lexHead] using hB,h⟩
 | o::l,k,listed,vals,a,hl,hk,inv,hB,hdn,hnone,hne,h=>by
  have h0:ops[k]?=some o:=by simpa using (hl 0 (by simp)).symm
  simp only [List.length_cons,Region.lexHead,Bool.and_eq_true] at hB
  obtain ⟨⟨hr,hf⟩,hB'⟩:=hB
  have hkn:k<n:=by simp only [List.length_cons] at hk; omega
  have hr':k∈Region.ready md ops listed:=by simpa using hr
  have hst:rOp P ops md C Le Φ isV k (Au P ops md C Le Φ isV G l (k+1)) vals a:=by unfold rOp; simp only [h0]; exact h
  refine AQ W h0 (Region.noSelect_spec hsel) hs hc hn hkn (fun listed' vals' a' hL=>seqB_ready hL.1) l.length listed vals a inv (Region.free_spec h0 hf) hr' hdn hnone hne (oM hne (fun vals' a' hn' hv' h'=>?_) hst)
  refine yw W hsel hs hc hn l (k+1) _ _ _ (fun j hj=>by have:=hl (j+1) (by simp; omega); simpa [Nat.add_assoc,Nat.add_comm 1 j] using this) (by simp only [List.length_cons] at hk; omega) (inv.set hr' hkn) hB' (xR hdn hr') (fun j hj=>?_) hn' h'
  by_cases hjk:k=j
  ·subst hjk
   exfalso
   rcases Nat.lt_or_ge k listed.size with h' | h'
   ·rw [Array.getD_eq_getD_getElem?,Array.getElem?_setIfInBounds_self_of_lt h'] at hj
    cases hj
   ·rw [Array.getD_eq_getD_getElem?,Array.getElem?_eq_none (by simpa using h')] at hj
    cases hj
  ·rw [getD_set_ne true hjk] at hj
   rw [hv' j (Ne.symm hjk)]
   exact hnone j hj
theorem nJ {Q':Exit→Act→World→Prop} {a:Act} {w:World} (n:Nat) (W:iO C Le Φ) (hB:Region.lexTailB .any ops n=true) (hC:C { w with drawn:=w.drawn+1 })
  (h:Au P ops .any C Le Φ isV (fun vals a'=>∀ u,C u→Facts Φ vals u→wpList P ops Q' (ops.toList.drop n) a' u) (ops.toList.take n) 0 (fun _=>none) a):wpAny P .any ops Q' ops.size (Array.replicate ops.size false) a { w with drawn:=w.drawn+1 }:=by
 simp only [Region.lexTailB,Bool.and_eq_true,decide_eq_true_eq] at hB
 obtain ⟨⟨⟨⟨hsel,hn⟩,hs⟩,hc⟩,hlex⟩:=hB
 have htl:(ops.toList.take n).length=n:=by simp; omega
 have hdl:(ops.toList.drop n).length=ops.size - n:=by simp
 have inv0:HeadInv .any ops n (Array.replicate ops.size false) :=
  ⟨by simp,fun j oj _ hl=>(by rw [getD_replicate_false] at hl; cases hl),fun t _ ht=>getD_in (by simpa using ht) (getD_replicate_false _ _)⟩
 have H:=yw (md := .any) (g:=ops.size - n) W hsel hs hc hn (ops.toList.take n) 0 (Array.replicate ops.size false) (fun _=>none) a (fun j hj=>by
  have hj':j<n:=by rw [htl] at hj; exact hj
  rw [List.getElem?_take,if_pos hj']; simp) (by simpa using htl) inv0 (by rw [htl]; exact hlex) (fun k o ho hl=>by rw [getD_replicate_false] at hl; cases hl) (fun _ _=>rfl) ⟨_,hC,fun j v hj=>by cases hj⟩ h
 have:=jV (P:=P) (Q':=Q') (g:=ops.size - n) W (fun listed vals a' u hL hCu hF=>by
  have:=wpAny_of_seq (md := .any) (Q':=Q') (ops:=ops) (ops.toList.drop n) n listed a' u (fun j=>by simp [List.getElem?_drop]) (by rw [hdl]; exact hL.1) (hL.2 u hCu hF)
  rwa [hdl] at this) _ _ _ _ _ hC (fun j v hj=>by cases hj) H
 rw [htl,show n+(ops.size - n)=ops.size by omega] at this
 exact this
theorem xE {id:Nat} {Q':Exit→Act→World→Prop} {a:Act} {w:World} (n:Nat) (W:iO C Le Φ) (hm:P.follows .mixedOrders=true) (hB:Region.lexTailB .any ops n=true) (hC:C { w with drawn:=w.drawn+1 })
  (h:Au P ops .any C Le Φ isV (fun vals a'=>∀ u,C u→Facts Φ vals u→wpList P ops Q' (ops.toList.drop n) a' u) (ops.toList.take n) 0 (fun _=>none) a):(Code.region id ops true).wp P Q' a w :=
 wp_region_any hm (nJ n W hB hC h)
end
end Go.E
namespace Go.E
open Go Go.RowKit
def Xe (P:Program) (s t:TypeId):Bool:=match P.underlying s,P.underlying t with
 | some (.int _),some (.int _)=>true
 | some (.int _),some (.float _)=>true
 | some .string,some .string=>true
 | _,_=>false
def isVal (P:Program) (o:Oper):Bool:=match o.op with
 | .store .. | .alloc _ | .box .. | .makeSlice .. | .buildSlice .. | .makeMap .. | .lookup .. | .mapEntry .. | .range .. | .next .. | .entry .. | .mapUpdate .. | .entryStore .. | .insert .. => false
 | .convert s t _=>Xe P s t
 | .call c=>match c.callee with
  | .builtin .len | .builtin .min | .builtin .max=>true
  | .value (.func f)=>Pv P f
  | _=>false
 | _=>true
def opN (P:Program) (ρ:Operand→Value) (o:Oper) (K:Value→World→Prop) (w:World):Prop :=
 match isVal P o with
 | true=>Aq P ρ o w fun v=>K v w
 | false=>Gu P ρ o K w
def gd (b:Bool) (F:Bool→Prop):Prop:=match b with
 | true=>F true
 | false=>F false
theorem Rt {b:Bool} {F:Bool→Prop} (h:gd b F):F b:=by cases b <;> exact h
def uq (ops:Array Oper) (a:Act) (j:Nat) (want:Bool) (yes no:Act→Prop):Prop :=
 match (ops[j]?).bind (·.dst) with
 | none=>False
 | some s=>match a.tmps[s]? with
  | some (.bool b)=>gd b fun b'=>match b'==want with
   | true=>yes { a with tmps:=a.tmps.setIfInBounds s (.bool b') }
   | false=>no { a with tmps:=a.tmps.setIfInBounds s (.bool b') }
  | some (.tuple _)=>no a
  | _=>False
theorem Ez {xs:Array Value} {s:Nat} {v:Value} (h:xs[s]?=some v):xs.setIfInBounds s v=xs:=by
 obtain ⟨h1,rfl⟩:=Array.getElem?_eq_some_iff.1 h
 simp [Array.setIfInBounds,h1]
theorem iD {ops:Array Oper} {a:Act} {j:Nat} {want:Bool} {yes no:Act→Prop} (h:uq ops a j want yes no) :
  ∃ r:Bool,(∀ o:Oper,o.guard=some (j,want)→Region.wanted o (yielded ops a.tmps)=r)∧(if r=true then yes a else no a):=by
 unfold uq at h
 split at h
 ·exact h.elim
 rename_i s hs
 split at h
 ·rename_i b hb
  have h:=Rt h
  rw [Ez hb] at h
  have hy:yielded ops a.tmps j=some b:=by
   unfold yielded
   rw [hs]
   simp [hb]
  refine ⟨b==want,fun o hg=>by unfold Region.wanted; rw [hg]; simp [hy],?_⟩
  cases hbw:(b==want) with
  | true=>rw [hbw] at h; exact h
  | false=>rw [hbw] at h; exact h
 ·rename_i t hb
  have hy:yielded ops a.tmps j=none:=by
   unfold yielded
   rw [hs]
   simp [hb]
  exact ⟨false,fun o hg=>by unfold Region.wanted; rw [hg]; simp [hy],h⟩
 ·exact h.elim
def CB (P:Program) (ops:Array Oper) (Q:Act→World→Prop):List Oper→Act→World→Prop
 | [],a,w=>Q a w
 | o::rest,a,w=>match o.guard with
  | none=>opN P a.eval o (fun v u=>CB P ops Q rest (a.put o.dst v) u) w
  | some (j,want)=>uq ops a j want (fun a=>opN P a.eval o (fun v u=>CB P ops Q rest (a.put o.dst v) u) w) (fun a=>CB P ops Q rest (a.put o.dst undef) w)
theorem OD {P:Program} {o:Oper} {a:Act} {K:Value→World→Prop} {K':Act→World→Prop} {Q:Exit→Act→World→Prop} {w:World} (hd:P.types.size+Made.depth≠0) (h:opN P a.eval o K w)
  (hk:∀ v u d',K v u→K' (a.put o.dst v) (dr u d')) (d:Nat):o.wp P a (dr w d) K' Q:=by
 unfold opN at h
 unfold Oper.wp
 split at h
 ·obtain ⟨v,hr,hK⟩:=ji (fun _=>rfl) h
  rw [show (execOp a.eval o).run P (dr w d)=_ from hr (Kp.dr w d)]
  exact hk _ _ _ hK
 ·rcases oK hd h with h | h | ⟨f,args,hr,hc⟩
  ·obtain ⟨v,u,d',hr,hK⟩:=h d
   rw [hr]
   exact hk _ _ _ hK
  ·obtain ⟨u,d',hr,hK⟩:=h d
   rw [hr]
   exact hk _ _ _ hK
  ·rw [hr d]
   refine (hc d).mono fun e w' ⟨v,u,d',he,hw,hK⟩=>?_
   subst he hw
   exact hk _ _ _ hK
theorem kP {P:Program} {ops:Array Oper} {Q:Act→World→Prop} {Q':Exit→Act→World→Prop} (hd:P.types.size+Made.depth≠0) (hq:∀ a u d,Q a u→Q' .normal a (dr u d)) :
  ∀ (l:List Oper) (a:Act) (w:World),CB P ops Q l a w→∀ d,wpList P ops Q' l a (dr w d)
 | [],a,w,h,d=>hq _ _ _ h
 | o::rest,a,w,h,d=>by
  unfold CB at h
  unfold wpList
  split at h
  ·rename_i hg
   have hw:Region.wanted o (yielded ops a.tmps)=true:=by unfold Region.wanted; rw [hg]
   rw [if_pos hw]
   exact .inl (OD hd h (fun v u d' hK=>kP hd hq rest _ _ hK d') d)
  ·rename_i j want hg
   obtain ⟨r,hr,h⟩:=iD h
   have hw:=hr o hg
   rw [hw]
   split at h
   ·rename_i hb
    rw [if_pos (by simpa using hb)]
    exact .inl (OD hd h (fun v u d' hK=>kP hd hq rest _ _ hK d') d)
   ·rename_i hb
    rw [if_neg (by simpa using hb)]
    exact kP hd hq rest _ _ h d
theorem rH {P:Program} {ops:Array Oper} {Q:Act→World→Prop} (w:World) {Q2:Act→Prop} (hq:∀ a',Q a' w→Q2 a'):∀ (l:List Oper) (a:Act),l.all (isVal P)=true→CB P ops Q l a w →
  wpQuiet P ops (fun w'=>∃ d,w'=dr w d) Q2 l a
 | [],a,_,h=>hq _ h
 | o::rest,a,hv,h=>by
  simp only [List.all_cons,Bool.and_eq_true] at hv
  have one:∀ a:Act,opN P a.eval o (fun v u=>CB P ops Q rest (a.put o.dst v) u) w→o.quiet P a (fun w'=>∃ d,w'=dr w d) (wpQuiet P ops (fun w'=>∃ d,w'=dr w d) Q2 rest):=by
   intro a h
   unfold opN at h
   rw [hv.1] at h
   obtain ⟨v,hr,hK⟩:=ji (fun _=>rfl) h
   refine ⟨v,?_,rH w hq rest _ hv.2 hK⟩
   rintro w' ⟨d,rfl⟩
   unfold Oper.quietAt
   rw [show (execOp a.eval o).run P (dr w d)=_ from hr (Kp.dr w d)]
   exact ⟨rfl,rfl⟩
  unfold CB at h
  unfold wpQuiet
  split at h
  ·rename_i hg
   have hw:Region.wanted o (yielded ops a.tmps)=true:=by unfold Region.wanted; rw [hg]
   rw [if_pos hw]
   exact one a h
  ·rename_i j want hg
   obtain ⟨r,hr,h⟩:=iD h
   have hw:=hr o hg
   rw [hw]
   split at h
   ·rename_i hb
    rw [if_pos (by simpa using hb)]
    exact one a h
   ·rename_i hb
    rw [if_neg (by simpa using hb)]
    exact rH w hq rest _ hv.2 h
theorem sU {P:Program} {ops:Array Oper} {Q:Act→World→Prop} (w:World) (d:Nat) (l2:List Oper) {Q2:Act→Prop} (hq:∀ a',CB P ops Q l2 a' w→Q2 a'):∀ (l:List Oper) (a:Act),l.all (isVal P)=true→CB P ops Q (l++l2) a w →
  wpStill P ops (dr w d) Q2 l a
 | [],a,_,h=>hq _ h
 | o::rest,a,hv,h=>by
  simp only [List.all_cons,Bool.and_eq_true] at hv
  have one:∀ a:Act,opN P a.eval o (fun v u=>CB P ops Q (rest++l2) (a.put o.dst v) u) w→o.still P a (dr w d) (wpStill P ops (dr w d) Q2 rest):=by
   intro a h
   unfold opN at h
   rw [hv.1] at h
   obtain ⟨v,hr,hK⟩:=ji (fun _=>rfl) h
   unfold Oper.still
   rw [show (execOp a.eval o).run P (dr w d)=_ from hr (Kp.dr w d)]
   exact ⟨rfl,sU w d l2 hq rest _ hv.2 hK⟩
  simp only [List.cons_append] at h
  unfold CB at h
  unfold wpStill
  split at h
  ·rename_i hg
   have hw:Region.wanted o (yielded ops a.tmps)=true:=by unfold Region.wanted; rw [hg]
   rw [if_pos hw]
   exact one a h
  ·rename_i j want hg
   obtain ⟨r,hr,h⟩:=iD h
   have hw:=hr o hg
   rw [hw]
   split at h
   ·rename_i hb
    rw [if_pos (by simpa using hb)]
    exact one a h
   ·rename_i hb
    rw [if_neg (by simpa using hb)]
    exact sU w d l2 hq rest _ hv.2 h
def Bj (P:Program):List Oper→Nat
 | []=>0
 | o::l=>match isVal P o with
  | true=>Bj P l+1
  | false=>0
theorem yH (P:Program):∀ l:List Oper,(l.take (Bj P l)).all (isVal P)=true
 | []=>rfl
 | o::l=>by
  unfold Bj
  split
  ·rename_i h
   have:=yH P l
   simp only [List.take_succ_cons,List.all_cons,h,this,Bool.and_self]
  ·rfl
def PH (P:Program) (ops:Array Oper) (draw:Bool):Bool:=match draw with
 | false=>true
 | true=>match ops.toList.all (isVal P) with
  | true=>Region.lexB .any ops
  | false=>Region.lexTailB .any ops (Bj P ops.toList)
theorem QN {P:Program} {id:Nat} {ops:Array Oper} {draw:Bool} {Q:Act→World→Prop} {Q':Exit→Act→World→Prop} {a:Act} {w:World} (hm:P.follows .mixedOrders=true) (hd:P.types.size+Made.depth≠0)
  (hok:PH P ops draw=true) (hq:∀ a u d,Q a u→Q' .normal a (dr u d)) (h:CB P ops Q ops.toList a w) (d:Nat):(Code.region id ops draw).wp P Q' a (dr w d):=by
 unfold PH at hok
 cases draw with
 | false=>exact wp_region_list (kP hd hq _ _ _ h d)
 | true =>
  simp only at hok
  split at hok
  ·rename_i hv
   refine wp_region_quiet (C:=fun w'=>∃ d,w'=dr w d) hm hok ⟨d+1,rfl⟩ ?_
   exact rH w (fun a' hQ w' ⟨d',hw'⟩=>by subst hw'; exact hq _ _ _ hQ) _ _ hv h
  ·obtain ⟨l⟩:=ops
   refine wp_region_still_tail _ hm hok ?_
   refine sU (Q:=Q) w (d+1) (l.drop (Bj P l)) (fun a' h'=>?_) _ _ (yH P l) (by rw [List.take_append_drop]; exact h)
   exact kP hd hq _ _ _ h' (d+1)
def Kp.below {w u:World} (h:Below w.heap.size w u):Kp w:=⟨u,fun a v hc=>by rw [h.cell (block_lt_of_cell hc)]; exact hc⟩
def qfN (P:Program) (fv:Value) (args:Array Value) (ty:TypeId) (w0:World) (K:Value→Prop):Prop:=match fv with
 | .func (.func f) first captured=>if jT P f=true then fU P ty fun v =>
   (∀ u,Below w0.heap.size w0 u→E.CallsD P f (first++args++captured) u fun v' u'=>v'=v∧Below w0.heap.size w0 u')∧K v else False
 | _=>False
def qcN (P:Program) (ρ:Operand→Value) (o:Oper) (w0:World) (K:Value→Prop):Prop :=
 match o.op with
 | .call c=>match c.callee with
  | .value fo=>qfN P (ρ fo) (c.args.map ρ) o.type w0 K
  | .invoke r name=>match ρ r with
   | .iface t x=>bK (rQ P t name) fun f=>if jT P f=true then fU P o.type fun v =>
     (∀ u,Below w0.heap.size w0 u→E.CallsD P f (#[x]++c.args.map ρ) u fun v' u'=>v'=v∧Below w0.heap.size w0 u')∧K v else False
   | _=>False
  | _=>False
 | _=>False
def qN (P:Program) (ρ:Operand→Value) (o:Oper) (w0:World) (K:Value→Prop):Prop:=match isVal P o with
 | true=>Aq P ρ o w0 K
 | false=>qcN P ρ o w0 K
def Om (P:Program) (ops:Array Oper) (w0:World) (Q:Act→World→Prop):List Oper→Act→Prop
 | [],a=>∀ u,Below w0.heap.size w0 u→Q a u
 | o::rest,a=>match o.guard with
  | none=>qN P a.eval o w0 (fun v=>Om P ops w0 Q rest (a.put o.dst v))
  | some (j,want)=>uq ops a j want (fun a=>qN P a.eval o w0 (fun v=>Om P ops w0 Q rest (a.put o.dst v))) (fun a=>Om P ops w0 Q rest (a.put o.dst undef))
theorem qc {P:Program} {f:FuncId} {args:Array Value} {w0 u:World} {v:Value} (h:E.CallsD P f args u fun v' u'=>v'=v∧Below w0.heap.size w0 u') :
  Calls P f args u fun e w''=>e = .returned v∧Below w0.heap.size w0 w'':=by
 have:=h u.drawn
 rw [jk] at this
 refine this.mono fun e w' ⟨v',u',d',he,hw,hv,hb⟩=>?_
 subst he hw hv
 exact ⟨rfl,⟨hb.os,hb.tape,hb.output,hb.size,hb.block⟩⟩
theorem Fh {P:Program} {o:Oper} {a:Act} {w0:World} {K:Value→Prop} {K':Act→Prop} (hd:P.types.size+Made.depth≠0) (h:qN P a.eval o w0 K) (hk:∀ v,K v→K' (a.put o.dst v)) :
  o.quiet P a (fun u=>Below w0.heap.size w0 u) K':=by
 unfold qN at h
 split at h
 ·obtain ⟨v,hr,hK⟩:=ji (fun _=>rfl) h
  refine ⟨v,fun u hu=>?_,hk _ hK⟩
  unfold Oper.quietAt
  rw [show (execOp a.eval o).run P u=_ from hr (Kp.below hu)]
  exact ⟨rfl,rfl⟩
 ·unfold qcN at h
  split at h
  case h_2=>exact h.elim
  rename_i c ho
  obtain ⟨dst,op,ty,pos,after,guard⟩:=o
  simp only at ho h
  subst ho
  obtain ⟨callee,args,ats⟩:=c
  cases callee with
  | builtin b=>exact h.elim
  | value fo =>
   simp only at h
   unfold qfN at h
   split at h
   ·rename_i f first captured hf
    split at h
    ·rename_i hb
     obtain ⟨v,hc,hK⟩:=iM h
     refine ⟨v,fun u hu=>?_,hk _ hK⟩
     unfold Oper.quietAt execOp resolve
     simp only [hf,Deferred.ofValue]
     rw [run_bind' P _ _ _ _ _ rfl]
     have hrc:=iP hb (first++args.map a.eval++captured) u
     simp only [invoke,hrc]
     exact ⟨rfl,qc (hc u hu)⟩
    ·exact h.elim
   ·exact h.elim
  | invoke r name =>
   simp only at h
   split at h
   ·rename_i t x hv
    obtain ⟨f,hf,h⟩:=fD h
    split at h
    ·rename_i hb
     obtain ⟨v,hc,hK⟩:=iM h
     refine ⟨v,fun u hu=>?_,hk _ hK⟩
     obtain ⟨n,hn⟩:∃ n,P.types.size+Made.depth=n+1:=⟨P.types.size+Made.depth - 1,by omega⟩
     have hrun:(execOp a.eval ⟨dst,.call ⟨.invoke r name,args,ats⟩,ty,pos,after,guard⟩).run P u = .ok (.enter f (#[x]++args.map a.eval)) u:=by
      unfold execOp resolve
      simp only [hv]
      rw [run_bind' P _ _ _ _ _ rfl]
      unfold invoke
      obtain ⟨xs,hxs⟩:∃ xs:List Value,args.map a.eval=xs.toArray:=⟨(args.map a.eval).toList,rfl⟩
      rw [hxs]
      have e0:(#[Value.iface t x]++xs.toArray)[0]?=some (.iface t x):=by simp
      have e1:(#[Value.iface t x]++xs.toArray).extract 1 (#[Value.iface t x]++xs.toArray).size=xs.toArray:=by simp
      simp only [e0,e1]
      unfold callMethod
      simp only
      rw [run_bind' P _ _ _ _ _ (oW P _),hn,run_bind' P _ _ _ _ _ (rZ hf n x _)]
      exact iP hb _ _
     unfold Oper.quietAt
     rw [hrun]
     exact ⟨rfl,qc (hc u hu)⟩
    ·exact h.elim
   ·exact h.elim
theorem lJ {P:Program} {ops:Array Oper} {Q:Act→World→Prop} {w0:World} {Q2:Act→Prop} (hd:P.types.size+Made.depth≠0) (hq:∀ a',(∀ u,Below w0.heap.size w0 u→Q a' u)→Q2 a'):∀ (l:List Oper) (a:Act),Om P ops w0 Q l a →
  wpQuiet P ops (fun u=>Below w0.heap.size w0 u) Q2 l a
 | [],a,h=>hq _ h
 | o::rest,a,h=>by
  unfold Om at h
  unfold wpQuiet
  split at h
  ·rename_i hg
   have hw:Region.wanted o (yielded ops a.tmps)=true:=by unfold Region.wanted; rw [hg]
   rw [if_pos hw]
   exact Fh hd h fun v hK=>lJ hd hq rest _ hK
  ·rename_i j want hg
   obtain ⟨r,hr,h⟩:=iD h
   have hw:=hr o hg
   rw [hw]
   split at h
   ·rename_i hb
    rw [if_pos (by simpa using hb)]
    exact Fh hd h fun v hK=>lJ hd hq rest _ hK
   ·rename_i hb
    rw [if_neg (by simpa using hb)]
    exact lJ hd hq rest _ h
theorem Qi {P:Program} {id:Nat} {ops:Array Oper} {Q:Act→World→Prop} {Q':Exit→Act→World→Prop} {a:Act} {w:World} (hm:P.follows .mixedOrders=true) (hd:P.types.size+Made.depth≠0)
  (hok:Region.lexB .any ops=true) (hq:∀ a u d,Q a u→Q' .normal a (dr u d)) (h:Om P ops w Q ops.toList a) (d:Nat):(Code.region id ops true).wp P Q' a (dr w d):=by
 refine wp_region_quiet (C:=fun u=>Below w.heap.size w u) hm hok ⟨rfl,rfl,rfl,Nat.le_refl _,fun _ _=>rfl⟩ ?_
 refine lJ hd (fun a' hQ w' hw'=>?_) _ _ h
 have:=hq _ _ w'.drawn (hQ w' hw')
 rwa [jk] at this
def Lf.all:Lf→(Value→Prop)→Prop
 | .bool,K=>∀ b,K (.bool b)
 | .int k,K=>∀ n,K (.int k n)
 | .float k,K=>∀ n,K (.float k n)
 | .string,K=>∀ s,K (.string s)
 | .slice,K=>∀ a n c,K (.slice a n c)
 | .pointer,K=>∀ a,K (.pointer a)
 | .map,K=>∀ r,K (.map r)
 | .any,K=>∀ v,K v
def VS:List Lf→(List Value→Prop)→Prop
 | [],K=>K []
 | l::ls,K=>l.all fun v=>VS ls fun vs=>K (v::vs)
def qh (P:Program):List TypeId→(List Value→Prop)→Prop
 | [],K=>K []
 | t::ts,K=>match P.underlying t with
  | none=>True
  | some u=>match O3 u with
   | true=>VS (lvs P 8 t) fun vs=>qh P ts fun ws=>K (.agg vs.toArray::ws)
   | false=>match lvs P 8 t with
    | [l]=>l.all fun v=>qh P ts fun ws=>K (v::ws)
    | _=>True
def I7 (P:Program) (t:TypeId) (K:Value→Prop):Prop :=
 match P.underlying t with
 | none=>True
 | some (.tuple ts)=>qh P ts.toList fun vs=>K (.tuple vs.toArray)
 | some _=>qh P [t] fun vs=>match vs with
  | [v]=>K v
  | _=>True
theorem Lf.Eo {l:Lf} {K J:Value→Prop} (h:l.ex J) (hk:l.all K):∃ v,J v∧K v:=by
 cases l <;> simp only [Lf.ex,Lf.all] at h hk
 all_goals first
  | (obtain ⟨a,n,c,h⟩:=h; exact ⟨_,h,hk _ _ _⟩)
  | (obtain ⟨a,h⟩:=h; exact ⟨_,h,hk _⟩)
theorem BA:∀ (ls:List Lf) (K J:List Value→Prop),exs ls J→VS ls K→∃ vs,J vs∧K vs
 | [],_,_,h,hk=>⟨_,h,hk⟩
 | _::ls,_,_,h,hk=>let ⟨_,h2,hk2⟩:=Lf.Eo h hk; let ⟨_,h3,hk3⟩:=BA ls _ _ h2 hk2; ⟨_,h3,hk3⟩
theorem kY (P:Program):∀ (ts:List TypeId) (K J:List Value→Prop),shapes P ts J→qh P ts K→∃ vs,J vs∧K vs
 | [],_,_,h,hk=>⟨_,h,hk⟩
 | t::ts,K,J,h,hk=>by
  unfold shapes at h
  unfold qh at hk
  split at h
  ·exact h.elim
  rename_i u hu
  rw [hu] at hk
  simp only at hk
  split at h
  ·rename_i hb
   rw [hb] at hk
   obtain ⟨vs,h2,hk2⟩:=BA _ _ _ h hk
   obtain ⟨ws,h3,hk3⟩:=kY P ts _ _ h2 hk2
   exact ⟨_,h3,hk3⟩
  ·rename_i hb
   rw [hb] at hk
   simp only at hk
   split at h
   ·rename_i l hl
    rw [hl] at hk
    obtain ⟨v,h2,hk2⟩:=Lf.Eo h hk
    obtain ⟨ws,h3,hk3⟩:=kY P ts _ _ h2 hk2
    exact ⟨_,h3,hk3⟩
   ·exact h.elim
theorem qR {P:Program} {t:TypeId} {K J:Value→Prop} (h:fU P t J) (hk:I7 P t K):∃ v,J v∧K v:=by
 unfold fU at h
 unfold I7 at hk
 split at h
 ·exact h.elim
 ·rename_i ts hu
  rw [hu] at hk
  obtain ⟨vs,h2,hk2⟩:=kY P _ _ _ h hk; exact ⟨_,h2,hk2⟩
 ·rename_i u hn hu
  rw [hu] at hk
  have hk:qh P [t] fun vs=>match vs with
    | [v]=>K v
    | _=>True:=by
   cases u <;> first | exact hk | exact (hn _ rfl).elim
  obtain ⟨vs,h2,hk2⟩:=kY P _ _ _ h hk
  split at h2
  ·exact ⟨_,h2,hk2⟩
  ·exact h2.elim
def ins (x:Nat):List Nat→List Nat
 | []=>[x]
 | y::l=>match Nat.beq x y with
  | true=>y::l
  | false=>y::ins x l
def IW:List Nat→List Nat→List Nat
 | [],l=>l
 | x::xs,l=>IW xs (ins x l)
theorem vg {x j:Nat}:∀ {l:List Nat},j∈ins x l→j=x∨j∈l
 | [],h=>by simpa [ins] using h
 | y::l,h=>by
  unfold ins at h
  split at h
  ·exact .inr h
  ·rcases List.mem_cons.1 h with h | h
   ·exact .inr (by simp [h])
   ·rcases vg h with h | h
    ·exact .inl h
    ·exact .inr (by simp [h])
theorem yz {j:Nat}:∀ {xs l:List Nat},j∈IW xs l→j∈xs∨j∈l
 | [],_,h => .inr h
 | x::xs,l,h=>by
  rcases yz (xs:=xs) h with h | h
  ·exact .inl (by simp [h])
  ·rcases vg h with h | h
   ·exact .inl (by simp [h])
   ·exact .inr h
def Uf (T:List (List Nat)):List Edge→List Nat→List Nat
 | [],l=>l
 | e::es,l=>match Region.binds .any e with
  | true=>Uf T es (IW (T.getD e.on []) l)
  | false=>Uf T es l
def jK (T:List (List Nat)) (o:Oper):List Nat:=Uf T o.after.toList []
theorem qZ {T:List (List Nat)} {j:Nat}:∀ {es:List Edge} {l:List Nat},j∈Uf T es l→(∃ e∈es,Region.binds .any e=true∧j∈T.getD e.on [])∨j∈l
 | [],_,h => .inr h
 | e::es,l,h=>by
  unfold Uf at h
  split at h
  ·rename_i hb
   rcases qZ h with ⟨e',he,h1⟩ | h
   ·exact .inl ⟨e',by simp [he],h1⟩
   ·rcases yz h with h | h
    ·exact .inl ⟨e,by simp,hb,h⟩
    ·exact .inr h
  ·rcases qZ h with ⟨e',he,h1⟩ | h
   ·exact .inl ⟨e',by simp [he],h1⟩
   ·exact .inr h
def Cb (P:Program) (k:Nat) (o:Oper) (anc:List Nat):List Nat:=match isVal P o with
 | true=>anc
 | false=>ins k anc
def Vm:List Oper→Nat→Option Op
 | [],_=>none
 | o::l,d=>match o.dst with
  | some e=>match Nat.beq e d with
   | true=>some o.op
   | false=>Vm l d
  | none=>Vm l d
def P9 (ops:List Oper):Nat→Operand→Bool
 | k+1,.tmp d=>match Vm ops d with
  | some (.fieldAddr _ x _)=>P9 ops k x
  | some (.indexAddr _ x _)=>P9 ops k x
  | some (.field _ x _)=>P9 ops k x
  | some (.extract x _)=>P9 ops k x
  | some (.nilCheck x)=>P9 ops k x
  | some (.move x)=>P9 ops k x
  | some (.load _ x)=>P9 ops k x
  | some (.call c)=>match c.callee with
   | .value _=>true
   | _=>false
  | _=>false
 | _,_=>false
def EW (P:Program) (ops:Array Oper) (o:Oper):Bool:=match o.op with
 | .load _ p=>match P9 ops.toList ops.size p with
  | true=>false
  | false=>true
 | _=>isVal P o
def rJ (P:Program) (ops:Array Oper) (k:Nat) (o:Oper) (anc:List Nat):List Nat:=match EW P ops o with
 | true=>anc
 | false=>ins k anc
def hyps (Φ:Nat→Value→World→Prop) (vals:jP) (u:World):List Nat→Prop→Prop
 | [],K=>K
 | j::js,K=>match vals j with
  | some v=>Φ j v u→hyps Φ vals u js K
  | none=>hyps Φ vals u js K
theorem jI {Φ:Nat→Value→World→Prop} {vals:jP} {u:World} {K:Prop}:∀ {l:List Nat},hyps Φ vals u l K→(∀ j∈l,∀ v,vals j=some v→Φ j v u)→K
 | [],h,_=>h
 | j::js,h,hf=>by
  unfold hyps at h
  split at h
  ·rename_i v hv
   exact jI (h (hf j (by simp) v hv)) fun k hk=>hf k (by simp [hk])
  ·exact jI h fun k hk=>hf k (by simp [hk])
def erN (P:Program) (ρ:Operand→Value) (o:Oper) (w0:World) (hy:World→Prop→Prop) (Φk:Value→World→Prop) (K:Value→Prop):Prop :=
 match o.op with
 | .call c=>match c.callee with
  | .value fo=>match ρ fo with
   | .func (.func f) first captured=>if jT P f=true then
     (∀ u,Below w0.heap.size w0 u→hy u (E.CallsD P f (first++c.args.map ρ++captured) u fun v u'=>fU P o.type fun v'=>v=v'∧Φk v' u'∧Below u.heap.size u u')) ∧
     I7 P o.type fun v=>(∃ u,Below w0.heap.size w0 u∧Φk v u)→K v else False
   | _=>False
  | .invoke r name=>match ρ r with
   | .iface t x=>bK (rQ P t name) fun f=>if jT P f=true then
     (∀ u,Below w0.heap.size w0 u→hy u (E.CallsD P f (#[x]++c.args.map ρ) u fun v u'=>fU P o.type fun v'=>v=v'∧Φk v' u'∧Below u.heap.size u u')) ∧
     I7 P o.type fun v=>(∃ u,Below w0.heap.size w0 u∧Φk v u)→K v else False
   | _=>False
  | .builtin .append =>
    (∀ u,Below w0.heap.size w0 u→hy u (dm P (Builtin.append_ c.argTypes o.type (c.args.map ρ)) u fun v u'=>fU P o.type fun v'=>v=v'∧Φk v' u'∧Below u.heap.size u u')) ∧
    I7 P o.type fun v=>(∃ u,Below w0.heap.size w0 u∧Φk v u)→K v
  | _=>False
 | .load t p=>match P.underlying t with
  | some (.tuple _)=>False
  | _=>(∀ u,Below w0.heap.size w0 u→hy u (Ha (ρ p) fun a=>ldT P t u a fun v=>Φk v u)) ∧
   I7 P t fun v=>(∃ u,Below w0.heap.size w0 u∧Φk v u)→K v
 | .lookup t m k ok =>
   (∀ u,Below w0.heap.size w0 u→hy u (dm P (Instr.lookup t (ρ m) (ρ k) ok) u fun v u'=>fU P o.type fun v'=>v=v'∧Φk v' u'∧Below u.heap.size u u')) ∧
   I7 P o.type fun v=>(∃ u,Below w0.heap.size w0 u∧Φk v u)→K v
 | .buildSlice t len parts=>bK (Tu P t len (partsOf ρ parts)) fun ec =>
   (∀ u,Below w0.heap.size w0 u→hy u (Φk (.slice (some ⟨u.heap.size,0,none⟩) len len) (u.alloc (.cells ec.2 ec.1)))) ∧
   ∀ p:Addr,(∃ u,Below w0.heap.size w0 u∧Φk (.slice (some p) len len) u)→K (.slice (some p) len len)
 | .makeSlice t l c=>match P.underlying t,ρ l,ρ c with
  | some (.slice e),.int _ l,.int _ c=>match P.info? e with
   | some i=>match i.zero with
    | some z=>chk (0≤l∧l≤c∧(i.bytes:Int)*c≤281474976710656∧c≤9223372036854775807)
      ((∀ u,Below w0.heap.size w0 u→hy u (Φk (.slice (some ⟨u.heap.size,0,none⟩) l.toNat c.toNat) (u.alloc (.cells (madeCells z.cells (c.toNat*i.size)) e)))) ∧
       ∀ (p:Addr) (x y:Nat),(∃ u,Below w0.heap.size w0 u∧Φk (.slice (some p) x y) u)→K (.slice (some p) x y))
    | none=>False
   | none=>False
  | _,_,_=>False
 | .alloc t=>bK (Me P t) fun cs =>
   (∀ u,Below w0.heap.size w0 u→hy u (Φk (.pointer (some ⟨u.heap.size,0,none⟩)) (u.alloc (.cells cs t)))) ∧
   ∀ p:Addr,(∃ u,Below w0.heap.size w0 u∧Φk (.pointer (some p)) u)→K (.pointer (some p))
 | .box t x =>
   (∀ u,Below w0.heap.size w0 u→hy u (Φk (.pointer (some ⟨u.heap.size,0,none⟩)) (u.alloc (.cells (ρ x).cells t)))) ∧
   ∀ p:Addr,(∃ u,Below w0.heap.size w0 u∧Φk (.pointer (some p)) u)→K (.pointer (some p))
 | _=>False
theorem G5 {l:Lf} {J J':Value→Prop} (hj:∀ v,J v→J' v) (hl:l.ex J):l.ex J':=by
 cases l <;> simp only [Lf.ex] at hl ⊢
 all_goals first
  | (obtain ⟨a,n,c,h⟩:=hl; exact ⟨_,_,_,hj _ h⟩)
  | (obtain ⟨a,h⟩:=hl; exact ⟨_,hj _ h⟩)
theorem IY {l:Lf} {J:Value→Prop} (hl:l.ex J):l.ex fun v=>J v∧l.ex fun v'=>v=v':=by
 cases l <;> simp only [Lf.ex] at hl ⊢
 all_goals first
  | (obtain ⟨a,n,c,h⟩:=hl; exact ⟨_,_,_,h,_,_,_,rfl⟩)
  | (obtain ⟨a,h⟩:=hl; exact ⟨_,h,_,rfl⟩)
theorem II:∀ {ls:List Lf} {J J':List Value→Prop},(∀ v,J v→J' v)→exs ls J→exs ls J'
 | [],J,J',hj,h=>hj _ h
 | l::ls,J,J',hj,h=>by
  unfold exs at h ⊢
  exact G5 (fun v hv=>II (fun vs=>hj _) hv) h
theorem Fv {w:World} {a:Addr}:∀ {ls:List Lf} {i:Nat} {K K':List Value→Prop},(∀ vs,K vs→K' vs)→ldN w a i ls K→ldN w a i ls K'
 | [],i,K,K',hk,h=>hk _ h
 | l::ls,i,K,K',hk,h=>by
  unfold ldN at h ⊢
  exact G5 (fun v hv=>⟨hv.1,Fv (fun vs=>hk _) hv.2⟩) h
theorem wL {w:World} {a:Addr}:∀ {ls:List Lf} {i:Nat} {K:List Value→Prop},ldN w a i ls K→ldN w a i ls fun vs=>(exs ls fun vs'=>vs=vs')∧K vs
 | [],i,K,h=>⟨rfl,h⟩
 | l::ls,i,K,h=>by
  unfold ldN at h ⊢
  refine G5 (fun v hv=>⟨hv.1.1,Fv (fun vs hvs=>⟨?_,hvs.2⟩) (wL hv.1.2)⟩) (IY h)
  unfold exs
  exact G5 (fun v' hv'=>II (fun vs' hvs'=>by rw [hv',hvs']) hvs.1) hv.2
theorem L8 {P:Program} {t:TypeId} {w:World} {a:Addr} {K:Value→Prop} (ht:∀ ts,P.underlying t≠some (.tuple ts)) (h:ldT P t w a K):ldT P t w a fun v=>(fU P t fun v'=>v=v')∧K v:=by
 unfold ldT at h ⊢
 cases hu:P.underlying t with
 | none=>rw [hu] at h; exact h
 | some u =>
  have sN:∀ K:Value→Prop,fU P t K=shapes P [t] fun vs=>match vs with | [v]=>K v | _=>False:=fun K=>by
   unfold fU
   rw [hu]
   cases u <;> first | rfl | exact absurd hu (ht _)
  rw [hu] at h
  have agg:O3 u=true→∀ vs:List Value,(exs (lvs P 8 t) fun vs'=>vs=vs')→fU P t fun v'=>Value.agg vs.toArray=v':=fun hb vs hvs=>by
   rw [sN]
   unfold shapes
   rw [hu]
   simp only [hb]
   exact II (fun vs' e=>by unfold shapes; rw [e]) hvs
  have one:O3 u=false→∀ (l:Lf),lvs P 8 t=[l]→∀ v:Value,(l.ex fun v'=>v=v')→fU P t fun v'=>v=v':=fun hb l hl v hv=>by
   rw [sN]
   unfold shapes
   rw [hu]
   simp only [hb,hl]
   exact G5 (fun v' e=>by unfold shapes; exact e) hv
  cases u <;> simp only at h ⊢
  case struct =>
   split at h
   ·rename_i hsz
    rw [if_pos hsz]
    exact Fv (fun vs hvs=>⟨agg rfl vs hvs.1,hvs.2⟩) (wL h)
   ·exact h.elim
  case array =>
   split at h
   ·rename_i hsz
    rw [if_pos hsz]
    exact Fv (fun vs hvs=>⟨agg rfl vs hvs.1,hvs.2⟩) (wL h)
   ·exact h.elim
  all_goals
   split at h
   ·rename_i l hl
    exact G5 (fun v hv=>⟨hv.1.1,one rfl l hl v hv.2,hv.1.2⟩) (IY h)
   ·exact h.elim
def CJ (P:Program) (ops:Array Oper) (i:Nat) (v:Value):Prop:=match ops[i]? with
 | none=>False
 | some o=>match o.op with
  | .call _=>fU P o.type fun v'=>v=v'
  | .lookup .. => fU P o.type fun v'=>v=v'
  | .load t _=>fU P t fun v'=>v=v'
  | .buildSlice _ len _=>∃ p,v = .slice (some p) len len
  | .makeSlice .. => ∃ p x y,v = .slice (some p) x y
  | .alloc _=>∃ p,v = .pointer (some p)
  | .box .. => ∃ p,v = .pointer (some p)
  | _=>False
def GV (P:Program) (ops:Array Oper) (w0:World) (Φ:Nat→Value→World→Prop) (Q:Act→World→Prop):List Oper→Nat→List (List Nat)→List Nat→jP→Act→Prop
 | [],_,_,done,vals,a=>∀ u,Below w0.heap.size w0 u→hyps Φ vals u done (Q a u)
 | o::rest,k,T,done,vals,a =>
  (fun (run:Act→Prop)=>match o.guard with
   | none=>run a
   | some (j,want)=>uq ops a j want run (fun a=>GV P ops w0 Φ Q rest (k+1) (T++[rJ P ops k o (jK T o)]) done vals (a.put o.dst undef)))
  (fun a=>match EW P ops o with
   | true=>Aq P a.eval o w0 fun v=>GV P ops w0 Φ Q rest (k+1) (T++[rJ P ops k o (jK T o)]) done vals (a.put o.dst v)
   | false=>erN P a.eval o w0 (fun u=>hyps Φ vals u (jK T o)) (Φ k) fun v=>GV P ops w0 Φ Q rest (k+1) (T++[rJ P ops k o (jK T o)]) (done++[k]) (up vals k v) (a.put o.dst v))
def CW (w0:World) (u:World):Prop:=Below w0.heap.size w0 u
def LeW (u u':World):Prop:=Below u.heap.size u u'
def Ba (P:Program) (ops:Array Oper) (Φ:Nat→Value→World→Prop) (i:Nat) (v:Value) (u:World):Prop:=CJ P ops i v∧Φ i v u
theorem kJ {P:Program} {t:TypeId} {J J':Value→Prop} (h:fU P t J) (hj:∀ v,J v→J' v):fU P t J':=by
 have l1:∀ {l:Lf} {J J':Value→Prop},l.ex J→(∀ v,J v→J' v)→l.ex J':=by
  intro l J J' h hj
  cases l <;> simp only [Lf.ex] at h ⊢
  all_goals first
   | (obtain ⟨a,n,c,h⟩:=h; exact ⟨_,_,_,hj _ h⟩)
   | (obtain ⟨a,h⟩:=h; exact ⟨_,hj _ h⟩)
 have l2:∀ (ls:List Lf) (J J':List Value→Prop),exs ls J→(∀ v,J v→J' v)→exs ls J':=by
  intro ls
  induction ls with
  | nil=>intro J J' h hj; exact hj _ h
  | cons l ls ih=>intro J J' h hj; exact l1 h fun v hv=>ih _ _ hv fun vs=>hj _
 have l3:∀ (ts:List TypeId) (J J':List Value→Prop),shapes P ts J→(∀ v,J v→J' v)→shapes P ts J':=by
  intro ts
  induction ts with
  | nil=>intro J J' h hj; exact hj _ h
  | cons t ts ih =>
   intro J J' h hj
   unfold shapes at h ⊢
   split at h
   ·exact h.elim
   split at h
   ·exact l2 _ _ _ h fun vs hv=>ih _ _ hv fun ws=>hj _
   ·split at h
    ·exact l1 h fun vs hv=>ih _ _ hv fun ws=>hj _
    ·exact h.elim
 unfold fU at h ⊢
 split at h
 ·exact h.elim
 ·exact l3 _ _ _ h fun vs=>hj _
 ·refine l3 _ _ _ h fun vs hv=>?_
  split at hv
  ·exact hj _ hv
  ·exact hv.elim
theorem lZ {w u:World} {n d:Nat} (h:Below n w u):Below n w (dr u d):=⟨h.os,h.tape,h.output,h.size,h.block⟩
theorem BF {P:Program} {ops:Array Oper} {k:Nat} {o:Oper} {c:Call} {Φ:Nat→Value→World→Prop} {f:FuncId} {args:Array Value} {u:World} (ho:ops[k]?=some o) (hc:o.op = .call c)
  (hst:∀ v u d,Φ k v u→Φ k v (dr u d))
  (h:E.CallsD P f args u fun v u'=>fU P o.type fun v'=>v=v'∧Φ k v' u'∧Below u.heap.size u u') :
  Calls P f args u fun e u'=>∃ v,e = .returned v∧Ba P ops Φ k v u'∧LeW u u':=by
 have:=h u.drawn
 rw [jk] at this
 refine this.mono fun e w' ⟨v,u',d',he,hw,hs⟩=>?_
 subst he hw
 obtain ⟨v',rfl,hP,hB⟩:=iM hs
 refine ⟨v,rfl,⟨?_,hst _ _ _ hP⟩,lZ hB⟩
 unfold CJ
 rw [ho]
 simp only [hc]
 exact kJ hs fun v' h=>h.1
theorem DX {P:Program} {ops:Array Oper} {k:Nat} {o:Oper} {Φ:Nat→Value→World→Prop} {w0:World} {a:Act} {hy:World→Prop→Prop} {K:Value→Prop} {vals:jP} (hd:P.types.size+Made.depth≠0)
  (ho:ops[k]?=some o) (hst:∀ v u d,Φ k v u→Φ k v (dr u d)) (hhy:∀ u,(∀ j,Anc ops .any j k→∀ v,vals j=some v→Ba P ops Φ j v u)→∀ K,hy u K→K) (h:erN P a.eval o w0 hy (Φ k) K) :
  GG P ops .any (CW w0) LeW (Ba P ops Φ) o k vals a∧∀ v,(∃ u,CW w0 u∧Ba P ops Φ k v u)→K v:=by
 have fresh:∀ (u:World) (ob:Obj),LeW u (u.alloc ob):=fun u ob=>(Below.refl _ _).alloc (Nat.le_refl _) ob
 obtain ⟨dst,op,ty,pos,after,guard⟩:=o
 unfold erN at h
 cases op <;> simp only at h <;> first | exact h.elim | skip
 case call c =>
  obtain ⟨callee,args,ats⟩:=c
  have hall:∀ {K:Value→Prop},(I7 P ty fun v=>(∃ u,Below w0.heap.size w0 u∧Φ k v u)→K v)→∀ v,(∃ u,CW w0 u∧Ba P ops Φ k v u)→K v:=by
   intro K h v ⟨u,hC,hs,hP⟩
   unfold CJ at hs
   rw [ho] at hs
   simp only at hs
   obtain ⟨v',rfl,hK⟩:=qR hs h
   exact hK ⟨u,hC,hP⟩
  cases callee with
  | value fo =>
   simp only at h
   split at h
   ·rename_i f first captured hf
    split at h
    ·rename_i hb
     refine ⟨fun u hC hF=>?_,hall h.2⟩
     have hcall:=hhy u hF _ (h.1 u hC)
     have hrun:(execOp a.eval ⟨dst,.call ⟨.value fo,args,ats⟩,ty,pos,after,guard⟩).run P u = .ok (.enter f (first++args.map a.eval++captured)) u:=by
      have hrc:=iP hb (first++args.map a.eval++captured) u
      unfold execOp resolve
      simp only [hf,Deferred.ofValue]
      rw [run_bind' P _ _ _ _ _ rfl]
      simp only [invoke,hrc]
     rw [hrun]
     exact BF ho rfl hst hcall
    ·exact h.elim
   ·exact h.elim
  | invoke r name =>
   simp only at h
   split at h
   ·rename_i t x hv
    obtain ⟨f,hf,h⟩:=fD h
    split at h
    ·rename_i hb
     refine ⟨fun u hC hF=>?_,hall h.2⟩
     have hcall:=hhy u hF _ (h.1 u hC)
     obtain ⟨n,hn⟩:∃ n,P.types.size+Made.depth=n+1:=⟨P.types.size+Made.depth - 1,by omega⟩
     have hrun:(execOp a.eval ⟨dst,.call ⟨.invoke r name,args,ats⟩,ty,pos,after,guard⟩).run P u = .ok (.enter f (#[x]++args.map a.eval)) u:=by
      unfold execOp resolve
      simp only [hv]
      rw [run_bind' P _ _ _ _ _ rfl]
      unfold invoke
      obtain ⟨xs,hxs⟩:∃ xs:List Value,args.map a.eval=xs.toArray:=⟨(args.map a.eval).toList,rfl⟩
      rw [hxs]
      have e0:(#[Value.iface t x]++xs.toArray)[0]?=some (.iface t x):=by simp
      have e1:(#[Value.iface t x]++xs.toArray).extract 1 (#[Value.iface t x]++xs.toArray).size=xs.toArray:=by simp
      simp only [e0,e1]
      unfold callMethod
      simp only
      rw [run_bind' P _ _ _ _ _ (oW P _),hn,run_bind' P _ _ _ _ _ (rZ hf n x _)]
      exact iP hb _ _
     rw [hrun]
     exact BF ho rfl hst hcall
    ·exact h.elim
   ·exact h.elim
  | builtin b =>
   cases b <;> simp only at h <;> first | exact h.elim | skip
   refine ⟨fun u hC hF=>?_,hall h.2⟩
   obtain ⟨v,u',d',hr,hs⟩:=hhy u hF _ (h.1 u hC) u.drawn
   rw [jk] at hr
   have hrun:(execOp a.eval ⟨dst,.call ⟨.builtin .append,args,ats⟩,ty,pos,after,guard⟩).run P u = .ok (.value v) (dr u' d'):=by
    rw [show execOp a.eval ⟨dst,.call ⟨.builtin .append,args,ats⟩,ty,pos,after,guard⟩=(do pure (.value (← Builtin.append_ ats ty (args.map a.eval)))) from rfl,run_bind' P _ _ _ _ _ hr]
    rfl
   rw [hrun]
   obtain ⟨v',rfl,hP,hB⟩:=iM hs
   refine ⟨⟨?_,hst _ _ _ hP⟩,lZ hB⟩
   unfold CJ
   rw [ho]
   exact kJ hs fun v' h=>h.1
 case load t p =>
  have hnt:∀ ts,P.underlying t≠some (.tuple ts):=fun ts e=>by rw [e] at h; exact h
  have h':(∀ u,Below w0.heap.size w0 u→hy u (Ha (a.eval p) fun a=>ldT P t u a fun v=>Φ k v u))∧I7 P t fun v=>(∃ u,Below w0.heap.size w0 u∧Φ k v u)→K v:=by
   cases hu:P.underlying t with
   | none=>rw [hu] at h; exact h
   | some x=>rw [hu] at h; cases x <;> first | exact h | exact (hnt _ hu).elim
  refine ⟨fun u hC hF=>?_,fun v ⟨u,hC,hs,hP⟩=>?_⟩
  ·have hl:=hhy u hF _ (h'.1 u hC)
   have hl2:Aq P a.eval ⟨dst,.load t p,ty,pos,after,guard⟩ u fun v=>(fU P t fun v'=>v=v')∧Φ k v u:=by
    show Ha (a.eval p) _
    unfold Ha at hl ⊢
    split at hl
    ·obtain ⟨q,rfl,hq⟩:=fD hl
     exact L8 hnt hq
    ·exact hl.elim
   obtain ⟨v,hr,hs,hP⟩:=ji (fun _=>rfl) hl2
   have hr':=hr (Kp.below (Below.refl _ _))
   rw [show (execOp a.eval ⟨dst,.load t p,ty,pos,after,guard⟩).run P u = .ok (.value v) u from hr']
   refine ⟨⟨?_,hP⟩,Below.refl _ _⟩
   unfold CJ
   rw [ho]
   exact hs
  ·unfold CJ at hs
   rw [ho] at hs
   simp only at hs
   obtain ⟨v',rfl,hK⟩:=qR hs h'.2
   exact hK ⟨u,hC,hP⟩
 case lookup t m ko ok =>
  refine ⟨fun u hC hF=>?_,fun v ⟨u,hC,hs,hP⟩=>?_⟩
  ·obtain ⟨v,u',d',hr,hs⟩:=hhy u hF _ (h.1 u hC) u.drawn
   rw [jk] at hr
   have hrun:(execOp a.eval ⟨dst,.lookup t m ko ok,ty,pos,after,guard⟩).run P u = .ok (.value v) (dr u' d'):=by
    rw [show execOp a.eval ⟨dst,.lookup t m ko ok,ty,pos,after,guard⟩=(do pure (.value (← Instr.lookup t (a.eval m) (a.eval ko) ok))) from rfl,run_bind' P _ _ _ _ _ hr]
    rfl
   rw [hrun]
   obtain ⟨v',rfl,hP,hB⟩:=iM hs
   refine ⟨⟨?_,hst _ _ _ hP⟩,lZ hB⟩
   unfold CJ
   rw [ho]
   exact kJ hs fun v' h=>h.1
  ·unfold CJ at hs
   rw [ho] at hs
   simp only at hs
   obtain ⟨v',rfl,hK⟩:=qR hs h.2
   exact hK ⟨u,hC,hP⟩
 case buildSlice t len parts =>
  obtain ⟨⟨e,cs⟩,hc,h1,h2⟩:=fD h
  refine ⟨fun u hC hF=>?_,fun v ⟨u,hC,hs,hP⟩=>?_⟩
  ·have hfact:=hhy u hF _ (h1 u hC)
   have hrun:(execOp a.eval ⟨dst,.buildSlice t len parts,ty,pos,after,guard⟩).run P u = .ok (.value (.slice (some ⟨u.heap.size,0,none⟩) len len)) (u.alloc (.cells cs e)):=by
    have:=yU hc u u.drawn
    rw [jk] at this
    show ((do pure (.value (← Instr.buildSlice t len (parts.map fun (i,x)=>(i,a.eval x)))):Sem Next)).run P u=_
    rw [run_bind' P _ _ _ _ _ this]
    rfl
   rw [hrun]
   exact ⟨⟨by unfold CJ; rw [ho]; exact ⟨_,rfl⟩,hfact⟩,fresh _ _⟩
  ·unfold CJ at hs
   rw [ho] at hs
   obtain ⟨p,rfl⟩:=hs
   exact h2 p ⟨u,hC,hP⟩
 case makeSlice t lo co =>
  split at h
  case h_2=>exact h.elim
  rename_i e kl l kc c hu hl hc
  split at h
  case h_2=>exact h.elim
  rename_i i hi
  split at h
  case h_2=>exact h.elim
  rename_i z hz
  obtain ⟨hb,h1,h2⟩:=nK.1 h
  refine ⟨fun u hC hF=>?_,fun v ⟨u,hC,hs,hP⟩=>?_⟩
  ·have hfact:=hhy u hF _ (h1 u hC)
   have hrun:(execOp a.eval ⟨dst,.makeSlice t lo co,ty,pos,after,guard⟩).run P u = .ok (.value (.slice (some ⟨u.heap.size,0,none⟩) l.toNat c.toNat)) (u.alloc (.cells (madeCells z.cells (c.toNat*i.size)) e)):=by
    show ((do pure (.value (← Instr.makeSlice t (a.eval lo) (a.eval co))):Sem Next)).run P u=_
    rw [hl,hc,run_bind' P _ _ _ _ _ (run_make u t e i z hu hi hz kl kc l c hb.1 hb.2.1 hb.2.2.1 hb.2.2.2)]
    rfl
   rw [hrun]
   exact ⟨⟨by unfold CJ; rw [ho]; exact ⟨_,_,_,rfl⟩,hfact⟩,fresh _ _⟩
  ·unfold CJ at hs
   rw [ho] at hs
   obtain ⟨p,x,y,rfl⟩:=hs
   exact h2 p x y ⟨u,hC,hP⟩
 case alloc t =>
  unfold Me at h
  obtain ⟨cs,hc,h1,h2⟩:=fD h
  refine ⟨fun u hC hF=>?_,fun v ⟨u,hC,hs,hP⟩=>?_⟩
  ·have hfact:=hhy u hF _ (h1 u hC)
   cases hz:(P.info? t).bind (·.zero) with
   | none=>rw [hz] at hc; cases hc
   | some z =>
    rw [hz] at hc
    simp only [Option.map_some,Option.some.injEq] at hc
    subst hc
    have hrun:(execOp a.eval ⟨dst,.alloc t,ty,pos,after,guard⟩).run P u = .ok (.value (.pointer (some ⟨u.heap.size,0,none⟩))) (u.alloc (.cells z.cells t)):=by
     show ((do pure (.value (← Instr.alloc t true (.tuple #[]))):Sem Next)).run P u=_
     unfold Instr.alloc
     rw [run_bind' P _ _ _ _ _ (by rw [run_bind' P _ _ _ _ _ (zg hz _)]; rfl)]
     rfl
    rw [hrun]
    exact ⟨⟨by unfold CJ; rw [ho]; exact ⟨_,rfl⟩,hfact⟩,fresh _ _⟩
  ·unfold CJ at hs
   rw [ho] at hs
   obtain ⟨p,rfl⟩:=hs
   exact h2 p ⟨u,hC,hP⟩
 case box t x =>
  refine ⟨fun u hC hF=>?_,fun v ⟨u,hC,hs,hP⟩=>?_⟩
  ·have hfact:=hhy u hF _ (h.1 u hC)
   have hrun:(execOp a.eval ⟨dst,.box t x,ty,pos,after,guard⟩).run P u = .ok (.value (.pointer (some ⟨u.heap.size,0,none⟩))) (u.alloc (.cells (a.eval x).cells t)):=rfl
   rw [hrun]
   exact ⟨⟨by unfold CJ; rw [ho]; exact ⟨_,rfl⟩,hfact⟩,fresh _ _⟩
  ·unfold CJ at hs
   rw [ho] at hs
   obtain ⟨p,rfl⟩:=hs
   exact h.2 p ⟨u,hC,hP⟩
theorem uN {P:Program} {ops:Array Oper} {w0:World} {Φ:Nat→Value→World→Prop} {Q:Act→World→Prop} (hd:P.types.size+Made.depth≠0) (hst:∀ i v u d,Φ i v u→Φ i v (dr u d)) :
  ∀ (l:List Oper) (k:Nat) (T:List (List Nat)) (done:List Nat) (vals:jP) (a:Act),(∀ j,l[j]?=ops[k+j]?)→T.length=k→(∀ p j,j∈T.getD p []→j=p∨Anc ops .any j p) →
  GV P ops w0 Φ Q l k T done vals a→OL P ops .any (CW w0) LeW (Ba P ops Φ) (EW P ops) Q l k vals a
 | [],_,_,done,vals,a,_,_,_,h=>fun u hC hF=>jI (h u hC) fun j _ v hv=>(hF j v hv).2
 | o::rest,k,T,done,vals,a,hl,hT,hA,h=>by
  have h0:ops[k]?=some o:=by simpa using (hl 0).symm
  have hl':∀ j,rest[j]?=ops[k+1+j]?:=fun j=>by have:=hl (j+1); simpa [Nat.add_assoc,Nat.add_comm 1 j] using this
  have hanc:∀ j,j∈jK T o→Anc ops .any j k:=by
   intro j hj
   rcases qZ hj with ⟨e,he,hb,hm⟩ | hj
   ·rcases hA _ _ hm with h | h
    ·subst h; exact .base h0 (by simpa using he) hb
    ·exact .step h0 (by simpa using he) hb h
   ·cases hj
  have hT':(T++[rJ P ops k o (jK T o)]).length=k+1:=by simp [hT]
  have hA':∀ p j,j∈(T++[rJ P ops k o (jK T o)]).getD p []→j=p∨Anc ops .any j p:=by
   intro p j hj
   by_cases hp:p<T.length
   ·rw [List.getD_eq_getElem?_getD,List.getElem?_append_left hp,← List.getD_eq_getElem?_getD] at hj
    exact hA p j hj
   ·rw [List.getD_eq_getElem?_getD,List.getElem?_append_right (by omega)] at hj
    by_cases hpk:p=k
    ·subst hpk
     rw [hT,Nat.sub_self] at hj
     simp only [List.getElem?_cons_zero,Option.getD_some] at hj
     unfold rJ at hj
     split at hj
     ·exact .inr (hanc j hj)
     ·rcases vg hj with h | h
      ·exact .inl h
      ·exact .inr (hanc j h)
    ·rw [List.getElem?_eq_none (by simp; omega)] at hj
     cases hj
  have run:∀ a:Act,(match EW P ops o with
    | true=>Aq P a.eval o w0 fun v=>GV P ops w0 Φ Q rest (k+1) (T++[rJ P ops k o (jK T o)]) done vals (a.put o.dst v)
    | false=>erN P a.eval o w0 (fun u=>hyps Φ vals u (jK T o)) (Φ k) fun v=>GV P ops w0 Φ Q rest (k+1) (T++[rJ P ops k o (jK T o)]) (done++[k]) (up vals k v) (a.put o.dst v)) →
    CG P ops .any (CW w0) LeW (Ba P ops Φ) (EW P ops) o k (OL P ops .any (CW w0) LeW (Ba P ops Φ) (EW P ops) Q rest (k+1)) vals a:=by
   intro a h
   unfold CG
   split
   ·rename_i hv
    rw [hv] at h
    obtain ⟨v,hr,hK⟩:=ji (fun _=>rfl) h
    exact ⟨v,fun u hC=>hr (Kp.below hC),uN hd hst rest (k+1) _ _ _ _ hl' hT' hA' hK⟩
   ·rename_i hv
    rw [hv] at h
    obtain ⟨h1,h2⟩:=DX (ops:=ops) (vals:=vals) hd h0 (hst k) (fun u hF K hh=>jI hh fun j hj v hv=>(hF j (hanc j hj) v hv).2) h
    exact ⟨h1,fun v ⟨u,hC,hF⟩=>uN hd hst rest (k+1) _ _ _ _ hl' hT' hA' (h2 v ⟨u,hC,hF k v (l7 _ _ _)⟩)⟩
  unfold GV at h
  unfold OL
  simp only at h
  split at h
  ·rename_i hg
   have hw:Region.wanted o (yielded ops a.tmps)=true:=by unfold Region.wanted; rw [hg]
   rw [if_pos hw]
   exact run a h
  ·rename_i j want hg
   obtain ⟨r,hr,h⟩:=iD h
   have hw:=hr o hg
   rw [hw]
   split at h
   ·rename_i hb
    rw [if_pos (by simpa using hb)]
    exact run a h
   ·rename_i hb
    rw [if_neg (by simpa using hb)]
    exact uN hd hst rest (k+1) _ _ _ _ hl' hT' hA' h
theorem qF {P:Program} {ops:Array Oper} {w0:World} {Φ:Nat→Value→World→Prop} {Q:Act→World→Prop} (hd:P.types.size+Made.depth≠0) (hst:∀ i v u d,Φ i v u→Φ i v (dr u d)) :
  ∀ (l:List Oper) (k:Nat) (T:List (List Nat)) (done:List Nat) (vals:jP) (a:Act),(∀ j,j<l.length→l[j]?=ops[k+j]?)→T.length=k→(∀ p j,j∈T.getD p []→j=p∨Anc ops .any j p) →
  GV P ops w0 Φ Q l k T done vals a→Au P ops .any (CW w0) LeW (Ba P ops Φ) (EW P ops) (fun vals a=>∀ u,CW w0 u→Facts (Ba P ops Φ) vals u→Q a u) l k vals a
 | [],_,_,done,vals,a,_,_,_,h=>fun u hC hF=>jI (h u hC) fun j _ v hv=>(hF j v hv).2
 | o::rest,k,T,done,vals,a,hl,hT,hA,h=>by
  have h0:ops[k]?=some o:=by simpa using (hl 0 (by simp)).symm
  have hl':∀ j,j<rest.length→rest[j]?=ops[k+1+j]?:=fun j hj=>by have:=hl (j+1) (by simp; omega); simpa [Nat.add_assoc,Nat.add_comm 1 j] using this
  have hanc:∀ j,j∈jK T o→Anc ops .any j k:=by
   intro j hj
   rcases qZ hj with ⟨e,he,hb,hm⟩ | hj
   ·rcases hA _ _ hm with h | h
    ·subst h; exact .base h0 (by simpa using he) hb
    ·exact .step h0 (by simpa using he) hb h
   ·cases hj
  have hT':(T++[rJ P ops k o (jK T o)]).length=k+1:=by simp [hT]
  have hA':∀ p j,j∈(T++[rJ P ops k o (jK T o)]).getD p []→j=p∨Anc ops .any j p:=by
   intro p j hj
   by_cases hp:p<T.length
   ·rw [List.getD_eq_getElem?_getD,List.getElem?_append_left hp,← List.getD_eq_getElem?_getD] at hj
    exact hA p j hj
   ·rw [List.getD_eq_getElem?_getD,List.getElem?_append_right (by omega)] at hj
    by_cases hpk:p=k
    ·subst hpk
     rw [hT,Nat.sub_self] at hj
     simp only [List.getElem?_cons_zero,Option.getD_some] at hj
     unfold rJ at hj
     split at hj
     ·exact .inr (hanc j hj)
     ·rcases vg hj with h | h
      ·exact .inl h
      ·exact .inr (hanc j h)
    ·rw [List.getElem?_eq_none (by simp; omega)] at hj
     cases hj
  have run:∀ a:Act,(match EW P ops o with
    | true=>Aq P a.eval o w0 fun v=>GV P ops w0 Φ Q rest (k+1) (T++[rJ P ops k o (jK T o)]) done vals (a.put o.dst v)
    | false=>erN P a.eval o w0 (fun u=>hyps Φ vals u (jK T o)) (Φ k) fun v=>GV P ops w0 Φ Q rest (k+1) (T++[rJ P ops k o (jK T o)]) (done++[k]) (up vals k v) (a.put o.dst v)) →
    CG P ops .any (CW w0) LeW (Ba P ops Φ) (EW P ops) o k (Au P ops .any (CW w0) LeW (Ba P ops Φ) (EW P ops) (fun vals a=>∀ u,CW w0 u→Facts (Ba P ops Φ) vals u→Q a u) rest (k+1)) vals a:=by
   intro a h
   unfold CG
   split
   ·rename_i hv
    rw [hv] at h
    obtain ⟨v,hr,hK⟩:=ji (fun _=>rfl) h
    exact ⟨v,fun u hC=>hr (Kp.below hC),qF hd hst rest (k+1) _ _ _ _ hl' hT' hA' hK⟩
   ·rename_i hv
    rw [hv] at h
    obtain ⟨h1,h2⟩:=DX (ops:=ops) (vals:=vals) hd h0 (hst k) (fun u hF K hh=>jI hh fun j hj v hv=>(hF j (hanc j hj) v hv).2) h
    exact ⟨h1,fun v ⟨u,hC,hF⟩=>qF hd hst rest (k+1) _ _ _ _ hl' hT' hA' (h2 v ⟨u,hC,hF k v (l7 _ _ _)⟩)⟩
  unfold GV at h
  unfold Au
  simp only at h
  split at h
  ·rename_i hg
   have hw:Region.wanted o (yielded ops a.tmps)=true:=by unfold Region.wanted; rw [hg]
   rw [if_pos hw]
   exact run a h
  ·rename_i j want hg
   obtain ⟨r,hr,h⟩:=iD h
   have hw:=hr o hg
   rw [hw]
   split at h
   ·rename_i hb
    rw [if_pos (by simpa using hb)]
    exact run a h
   ·rename_i hb
    rw [if_neg (by simpa using hb)]
    exact qF hd hst rest (k+1) _ _ _ _ hl' hT' hA' h
def vM:List Oper→Nat
 | []=>0
 | o::l=>match o.op with
  | .store .. => 0
  | .mapEntry .. => 0
  | .mapUpdate .. => 0
  | .entryStore .. => 0
  | .call c=>match c.callee with
   | .builtin .append=>0
   | _=>vM l+1
  | _=>vM l+1
def Sz (P:Program) (ops:Array Oper) (Q:Act→World→Prop) (a:Act) (w0:World):Prop :=
 ∃ Φ:Nat→Value→World→Prop,(∀ i v u u',Φ i v u→Below u.heap.size u u'→Φ i v u') ∧
  GV P ops w0 Φ (fun a u=>CB P ops Q (ops.toList.drop (vM ops.toList)) a u) (ops.toList.take (vM ops.toList)) 0 [] [] (fun _=>none) a
theorem FH {P:Program} {ops:Array Oper} {Q:Act→World→Prop} {Q':Exit→Act→World→Prop} {a:Act} {w:World} (hd:P.types.size+Made.depth≠0)
  (hok:Region.lexTailB .any ops (vM ops.toList)=true) (hq:∀ a u d,Q a u→Q' .normal a (dr u d)) (h:Sz P ops Q a w) (d:Nat):wpAny P .any ops Q' ops.size (Array.replicate ops.size false) a { dr w d with drawn:=(dr w d).drawn+1 }:=by
 obtain ⟨Φ,hs,h⟩:=h
 have L:iO (CW w) LeW (Ba P ops Φ):=⟨fun u u' hC hL=>hC.trans (hL.mono hC.size),fun i v u u' _ hP hL=>⟨hP.1,hs _ _ _ _ hP.2 hL⟩⟩
 refine nJ (isV:=EW P ops) (vM ops.toList) L hok ⟨rfl,rfl,rfl,Nat.le_refl _,fun _ _=>rfl⟩ ?_
 have h2:=qF (ops:=ops) hd (fun i v u d hP=>hs _ _ _ _ hP (lZ (Below.refl _ _))) (ops.toList.take (vM ops.toList)) 0 [] [] (fun _=>none) a (fun j hj=>by
  rw [List.getElem?_take,if_pos (by simp at hj; omega)]; simp) rfl (fun p j hj=>by simp at hj) h
 have mono:∀ (l:List Oper) (k:Nat) (vals:jP) (a:Act) {G G':jP→Act→Prop},(∀ vals a,G vals a→G' vals a)→Au P ops .any (CW w) LeW (Ba P ops Φ) (EW P ops) G l k vals a→Au P ops .any (CW w) LeW (Ba P ops Φ) (EW P ops) G' l k vals a:=by
  intro l
  induction l with
  | nil=>intro k vals a G G' hG hh; exact hG _ _ hh
  | cons o l ih =>
   intro k vals a G G' hG hh
   unfold Au at hh ⊢
   split
   ·rename_i hw
    rw [if_pos hw] at hh
    unfold CG at hh ⊢
    split
    ·rename_i hv; rw [hv] at hh; obtain ⟨v,h1,h2⟩:=hh; exact ⟨v,h1,ih _ _ _ hG h2⟩
    ·rename_i hv; rw [hv] at hh; exact ⟨hh.1,fun v hp=>ih _ _ _ hG (hh.2 v hp)⟩
   ·rename_i hw
    rw [if_neg hw] at hh
    exact ih _ _ _ hG hh
 refine mono _ _ _ _ (fun vals a hG u hC hF=>?_) h2
 have:=kP hd hq _ _ _ (hG u hC hF) u.drawn
 rwa [jk] at this
theorem Rh {P:Program} {id:Nat} {ops:Array Oper} {Q:Act→World→Prop} {Q':Exit→Act→World→Prop} {a:Act} {w:World} (hm:P.follows .mixedOrders=true) (hd:P.types.size+Made.depth≠0)
  (hok:Region.lexTailB .any ops (vM ops.toList)=true) (hq:∀ a u d,Q a u→Q' .normal a (dr u d)) (h:Sz P ops Q a w) (d:Nat):(Code.region id ops true).wp P Q' a (dr w d) :=
 wp_region_any hm (FH hd hok hq h d)
def WG (P:Program) (ops:Array Oper) (Q:Act→World→Prop) (a:Act) (w0:World):Prop :=
 ∃ Φ:Nat→Value→World→Prop,(∀ i v u u',Φ i v u→Below u.heap.size u u'→Φ i v u')∧GV P ops w0 Φ Q ops.toList 0 [] [] (fun _=>none) a
theorem QO {P:Program} {id:Nat} {ops:Array Oper} {Q:Act→World→Prop} {Q':Exit→Act→World→Prop} {a:Act} {w:World} (hm:P.follows .mixedOrders=true) (hd:P.types.size+Made.depth≠0)
  (hok:Region.lexB .any ops=true) (hq:∀ a u d,Q a u→Q' .normal a (dr u d)) (h:WG P ops Q a w) (d:Nat):(Code.region id ops true).wp P Q' a (dr w d):=by
 obtain ⟨Φ,hs,h⟩:=h
 have L:iO (CW w) LeW (Ba P ops Φ):=⟨fun u u' hC hL=>hC.trans (hL.mono hC.size),fun i v u u' _ hP hL=>⟨hP.1,hs _ _ _ _ hP.2 hL⟩⟩
 refine zX (isV:=EW P ops) (Q:=Q) L hm hok ⟨rfl,rfl,rfl,Nat.le_refl _,fun _ _=>rfl⟩ (fun a u _ hQ=>?_) (uN hd (fun i v u d hP=>hs _ _ _ _ hP (lZ (Below.refl _ _))) _ _ _ _ _ _ (by simp) rfl (fun p j hj=>by simp at hj) h)
 have:=hq _ _ u.drawn hQ
 rwa [jk] at this
def Lf.Xo:Lf→Bool
 | .bool=>true
 | .int _=>true
 | .float _=>true
 | .string=>true
 | _=>false
def QH (P:Program):List Oper→Bool
 | []=>true
 | o::l=>match isVal P o with
  | true=>QH P l
  | false=>match o.op with
   | .call c=>match c.callee with
    | .builtin _=>false
    | _=>match (lvs P 8 o.type).all Lf.Xo with
     | true=>QH P l
     | false=>false
   | _=>false
end Go.E
namespace Go.E
open Go Go.RowKit
def CK (wm u:World):Prop:=∀ a v,wm.cell? a=some v→u.cell? a=some v
def qm (o:Oper) (k:Nat):Bool:=o.after.toList.any fun e=>Region.binds .any e&&Nat.beq e.on k
def GL (P:Program):List Oper→Nat→Bool
 | [],_=>false
 | o::l,k=>match isVal P o with
  | true=>GL P l k
  | false=>match qm o k with
   | true=>GL P l k
   | false=>true
def CS:List Oper→Nat→Bool
 | [],_=>true
 | o::l,k=>match qm o k with
  | true=>CS l k
  | false=>false
def Eb (ops:Array Oper) (j:Nat):List Nat:=match ops[j]? with
 | some o=>(o.after.toList.filter fun e=>Region.binds .any e).map fun e=>e.on
 | none=>[]
def RJ (ops:Array Oper):Nat→List Nat→List Nat
 | 0,m=>m
 | j+1,m=>match m.any (Nat.beq j) with
  | true=>RJ ops j (Eb ops j++m)
  | false=>RJ ops j m
def allIn (m:List Nat):Nat→Bool
 | 0=>true
 | j+1=>m.any (Nat.beq j)&&allIn m j
def Az (ops:Array Oper) (k:Nat):Bool:=allIn (RJ ops (k+1) [k]) k
def Vu (ops:Array Oper):List Oper→Nat→Bool
 | [],k=>Az ops k
 | _::_,_=>false
def G8 (P:Program) (ops:Array Oper) (wm:World) (Q:Act→World→Prop):List Oper→Nat→Act→World→Prop
 | [],_,a,w=>Q a w
 | o::rest,k,a,w =>
  (fun (run:Act→Prop)=>match o.guard with
   | none=>run a
   | some (j,want)=>uq ops a j want run (fun a=>G8 P ops wm Q rest (k+1) (a.put o.dst undef) w))
  (fun a=>match isVal P o with
   | true=>match GL P rest k with
    | false=>Aq P a.eval o w fun v=>G8 P ops wm Q rest (k+1) (a.put o.dst v) w
    | true=>Aq P a.eval o wm fun v=>G8 P ops wm Q rest (k+1) (a.put o.dst v) w
   | false=>match Vu ops rest k with
    | true=>Gu P a.eval o (fun v u=>G8 P ops wm Q rest (k+1) (a.put o.dst v) u) w
    | false=>match CS rest k with
    | true=>Gu P a.eval o (fun v u=>CK wm u∧G8 P ops wm Q rest (k+1) (a.put o.dst v) u) w
    | false=>False)
def Wu (P:Program) (ops:Array Oper) (Q:Act→World→Prop) (a:Act) (w:World):Prop :=
 ∃ wm,CK wm w∧G8 P ops wm Q ops.toList 0 a w
section
variable {P:Program} {ops:Array Oper} {wm:World}
def Nw (P:Program) (s:Sem Next) (w:World) (K:Value→World→Prop):Prop :=
 (∃ v u,s.run P w = .ok (.value v) u∧K v u)∨(∃ u,s.run P w = .ok .skip u∧K undef u) ∨
 (∃ f args,s.run P w = .ok (.enter f args) w∧Calls P f args w fun e u=>∃ v,e = .returned v∧K v u)
theorem Nw.mono {s:Sem Next} {w:World} {K K':Value→World→Prop} (h:Nw P s w K) (hk:∀ v u,K v u→K' v u):Nw P s w K':=by
 rcases h with ⟨v,u,h1,h2⟩ | ⟨u,h1,h2⟩ | ⟨f,args,h1,h2⟩
 ·exact .inl ⟨v,u,h1,hk _ _ h2⟩
 ·exact .inr (.inl ⟨u,h1,hk _ _ h2⟩)
 ·exact .inr (.inr ⟨f,args,h1,h2.mono fun e u ⟨v,he,hK⟩=>⟨v,he,hk _ _ hK⟩⟩)
theorem Nw.wp {o:Oper} {a:Act} {w:World} {K:Act→World→Prop} {Q:Exit→Act→World→Prop} (h:Nw P (execOp a.eval o) w fun v u=>K (a.put o.dst v) u):o.wp P a w K Q:=by
 unfold Oper.wp
 rcases h with ⟨v,u,h1,h2⟩ | ⟨u,h1,h2⟩ | ⟨f,args,h1,h2⟩
 ·rw [h1]; exact h2
 ·rw [h1]; exact h2
 ·rw [h1]
  exact h2.mono fun e u ⟨v,he,hK⟩=>by subst he; exact hK
theorem Nw.of {s:Sem Next} {w:World} {K:Value→World→Prop} (h:OpD P s w K) (d:Nat):Nw P s (dr w d) fun v u=>∃ u' d',u=dr u' d'∧K v u':=by
 rcases h with h | h | ⟨f,args,hr,hc⟩
 ·obtain ⟨v,u,d',hr,hK⟩:=h d; exact .inl ⟨v,_,hr,u,d',rfl,hK⟩
 ·obtain ⟨u,d',hr,hK⟩:=h d; exact .inr (.inl ⟨_,hr,u,d',rfl,hK⟩)
 ·exact .inr (.inr ⟨f,args,hr d,(hc d).mono fun e w' ⟨v,u,d',he,hw,hK⟩=>⟨v,he,u,d',hw,hK⟩⟩)
def Rx (P:Program) (ops:Array Oper) (i:Nat) (K:Act→World→Prop) (a:Act) (w:World):Prop:=match ops[i]? with
 | none=>K a w
 | some o=>if Region.wanted o (yielded ops a.tmps) then
   (if isVal P o=true then ∃ v,(execOp a.eval o).run P w = .ok (.value v) w∧K (a.put o.dst v) w else Nw P (execOp a.eval o) w fun v u=>K (a.put o.dst v) u)
  else K (a.put o.dst undef) w
def NC (K:Option Nat) (listed:Array Bool):Prop:=∀ k,K=some k→listed.getD k true=false
def Gs (P:Program) (ops:Array Oper) (wm:World) (K:Option Nat) (Q:Act→World→Prop):Nat→Array Bool→Act→World→Prop
 | 0,listed,a,w=>(NC K listed→CK wm w)∧Region.ready .any ops listed=[]∧Q a w
 | f+1,listed,a,w=>(NC K listed→CK wm w)∧(Region.ready .any ops listed=[]→Q a w)∧∀ i∈Region.ready .any ops listed,Rx P ops i (Gs P ops wm K Q f (listed.setIfInBounds i true)) a w
variable {K:Option Nat}
theorem Gs.ck {Q:Act→World→Prop} {f:Nat} {listed:Array Bool} {a:Act} {w:World} (h:Gs P ops wm K Q f listed a w):NC K listed→CK wm w:=by
 cases f with
 | zero=>exact h.1
 | succ f=>exact h.1
theorem kG {Q:Act→World→Prop} {Q':Exit→Act→World→Prop} (hq:∀ a w,Q a w→Q' .normal a w):∀ (f:Nat) (listed:Array Bool) (a:Act) (w:World),Gs P ops wm K Q f listed a w→wpAny P .any ops Q' f listed a w
 | 0,_,_,_,h=>⟨h.2.1,hq _ _ h.2.2⟩
 | f+1,listed,a,w,h=>by
  refine ⟨fun h0=>hq _ _ (h.2.1 h0),fun i hi=>?_⟩
  have hh:=h.2.2 i hi
  unfold Rx at hh
  unfold wpOp
  split
  ·rename_i ho; rw [ho] at hh; exact kG hq f _ _ _ hh
  ·rename_i o ho
   rw [ho] at hh
   simp only at hh
   split
   ·rename_i hw
    rw [if_pos hw] at hh
    refine .inl ?_
    split at hh
    ·obtain ⟨v,hr,hK⟩:=hh
     unfold Oper.wp
     rw [hr]
     exact kG hq f _ _ _ hK
    ·exact (hh.mono fun v u hK=>kG hq f _ _ _ hK).wp
   ·rename_i hw
    rw [if_neg hw] at hh
    exact kG hq f _ _ _ hh
def YD (P:Program) (ops:Array Oper) (o:Oper) (v:Value) (a:Act) (D:World→Prop):Prop :=
 (isVal P o=true∧Region.wanted o (yielded ops a.tmps)=true∧∀ u,D u→(execOp a.eval o).run P u = .ok (.value v) u) ∨
 (Region.wanted o (yielded ops a.tmps)=false∧v=undef)
theorem YD.op {i:Nat} {o:Oper} {v:Value} {a:Act} {D:World→Prop} {K:Act→World→Prop} {w:World} (hi:ops[i]?=some o) (hy:YD P ops o v a D) (hD:D w) (h:K (a.put o.dst v) w):Rx P ops i K a w:=by
 unfold Rx
 rw [hi]
 simp only
 rcases hy with ⟨h1,h2,h3⟩ | ⟨h2,rfl⟩
 ·rw [if_pos h2,if_pos h1]; exact ⟨v,h3 _ hD,h⟩
 ·rw [h2]; exact h
theorem YD.of_same {o:Oper} {v:Value} {a a':Act} {D:World→Prop} (hy:YD P ops o v a D) (he:execOp a'.eval o=execOp a.eval o) (hw:Region.wanted o (yielded ops a'.tmps)=Region.wanted o (yielded ops a.tmps)):YD P ops o v a' D:=by
 unfold YD at *
 rw [he,hw]
 exact hy
theorem Hf {Q:Act→World→Prop} {i:Nat} {oi:Oper} {v:Value} (hi:ops[i]?=some oi) (hsel:∀ (j:Nat) (o:Oper) cs b,ops[j]?=some o→o.op ≠ .select cs b) {D:World→Prop} {late:Bool} (hlate:late=true→D=CK wm) (hK:∀ k,K=some k→i≠k∧∀ listed,Dn ops .any listed→k∈Region.ready .any ops listed→listed.getD i true=true) :
  ∀ (fuel:Nat) (listed:Array Bool) (a:Act) (w:World),
   (∀ j oj,ops[j]?=some oj→j≠i→listed.getD j true=false→(∀ e∈oj.after,Region.binds .any e=true→e.on≠i)→oi.apart ops oj=true∧(late=false→isVal P oj=true)) →
   Dn ops .any listed→NC K listed→i∈Region.ready .any ops listed→D w→YD P ops oi v a D →
   Gs P ops wm K Q fuel (listed.setIfInBounds i true) (a.put oi.dst v) w→Gs P ops wm K Q (fuel+1) listed a w:=by
 intro fuel
 induction fuel with
 | zero =>
  intro listed a w _ hdn hnc hr hD hy H
  have nci:NC K (listed.setIfInBounds i true):=fun k hk=>by rw [getD_set_ne true (hK k hk).1]; exact hnc k hk
  refine ⟨fun _=>H.ck nci,fun h=>(by rw [h] at hr; cases hr),fun j hj=>?_⟩
  by_cases hji:j=i
  ·subst hji; exact hy.op hi hD H
  ·have:=ready_mono hj hji
   rw [H.2.1] at this
   cases this
 | succ fuel ih =>
  intro listed a w hfree hdn hnc hr hD hy H
  have nci:NC K (listed.setIfInBounds i true):=fun k hk=>by rw [getD_set_ne true (hK k hk).1]; exact hnc k hk
  refine ⟨fun _=>H.ck nci,fun h=>(by rw [h] at hr; cases hr),fun j hj=>?_⟩
  by_cases hji:j=i
  ·subst hji; exact hy.op hi hD H
  ·have h1:=H.2.2 j (ready_mono hj hji)
   obtain ⟨hjun,oj,hoj,hall⟩:=mem_ready.1 hj
   have hnot:∀ e∈oj.after,Region.binds .any e=true→e.on≠i:=fun e he hb heq=>by
    have h1:=hall e he hb
    have h0:=(mem_ready.1 hr).1
    rw [heq] at h1
    rcases Nat.lt_or_ge i listed.size with h' | h'
    ·simp [h'] at h0 h1; rw [h0] at h1; cases h1
    ·simp [Array.getElem?_eq_none h'] at h1
   obtain ⟨hap,hjv⟩:=hfree j oj hoj hji hjun hnot
   obtain ⟨g1,g2,g3⟩:=Oper.apart_spec hap
   have keep:∀ u,YD P ops oi v (a.put oj.dst u) D:=fun u=>hy.of_same (execOp_put oi (fun cs b=>hsel i oi cs b hi) a oj.dst u g3) (wanted_put oi a oj.dst u g3)
   have hfree':∀ k ok,ops[k]?=some ok→k≠i→(listed.setIfInBounds j true).getD k true=false →
     (∀ e∈ok.after,Region.binds .any e=true→e.on≠i)→oi.apart ops ok=true∧(late=false→isVal P ok=true):=fun k ok hk hki hun hno=>by
    refine hfree k ok hk hki ?_ hno
    by_cases hjk:j=k
    ·subst hjk; exact hjun
    ·rw [getD_set_ne true hjk] at hun; exact hun
   have hjk:∀ k,K=some k→j≠k:=fun k hk hjk=>by
    subst hjk
    have h1:=(hK j hk).2 listed hdn (hj)
    have h0:=(mem_ready.1 hr).1
    rw [h1] at h0
    cases h0
   have hnc1:NC K (listed.setIfInBounds j true):=fun k hk=>by rw [getD_set_ne true (hjk k hk)]; exact hnc k hk
   have hnc2:NC K ((listed.setIfInBounds i true).setIfInBounds j true):=fun k hk=>by rw [getD_set_ne true (hjk k hk),getD_set_ne true (hK k hk).1]; exact hnc k hk
   have hdn1:=xR hdn (hj)
   have go:∀ u w',D w'→Gs P ops wm K Q fuel ((listed.setIfInBounds i true).setIfInBounds j true) ((a.put oi.dst v).put oj.dst u) w'→Gs P ops wm K Q (fuel+1) (listed.setIfInBounds j true) (a.put oj.dst u) w':=by
    intro u w' hD' h3
    refine ih (listed.setIfInBounds j true) _ _ hfree' hdn1 hnc1 (ready_mono hr (Ne.symm hji)) hD' (keep u) ?_
    rw [Array.setIfInBounds_comm _ _ hji,← Act.put_comm a v u g2]
    exact h3
   unfold Rx at h1 ⊢
   rw [hoj] at h1 ⊢
   simp only at h1 ⊢
   rw [wanted_put oj a oi.dst v g1,execOp_put oj (fun cs b=>hsel j oj cs b hoj) a oi.dst v g1] at h1
   split
   ·rename_i hw
    rw [if_pos hw] at h1
    split
    ·rename_i hv
     rw [if_pos hv] at h1
     obtain ⟨u,hu,hn⟩:=h1
     exact ⟨u,hu,go u w hD hn⟩
    ·rename_i hv
     rw [if_neg hv] at h1
     have hl:late=true:=by
      cases hl:late with
      | true=>rfl
      | false=>exact absurd (hjv hl) hv
     exact h1.mono fun u w' hn=>go u w' (by rw [hlate hl]; exact hn.ck hnc2) hn
   ·rename_i hw
    rw [if_neg hw] at h1
    exact go _ w hD h1
theorem uh {o:Oper} {k:Nat} (h:qm o k=true):∃ e∈o.after,Region.binds .any e=true∧e.on=k:=by
 unfold qm at h
 obtain ⟨e,he,hb⟩:=List.any_eq_true.1 h
 rw [Bool.and_eq_true] at hb
 exact ⟨e,by simpa using he,hb.1,Nat.eq_of_beq_eq_true hb.2⟩
theorem rU:∀ {l:List Oper} {k:Nat},GL P l k=false→∀ o∈l,isVal P o=true∨qm o k=true
 | [],_,_,o,ho=>by cases ho
 | x::l,k,h,o,ho=>by
  unfold GL at h
  rcases List.mem_cons.1 ho with e | ho
  ·subst e
   split at h
   ·rename_i hv; exact .inl hv
   ·split at h
    ·rename_i hw; exact .inr hw
    ·cases h
  ·split at h
   ·exact rU h o ho
   ·split at h
    ·exact rU h o ho
    ·cases h
theorem yu:∀ {l:List Oper} {k:Nat},CS l k=true→∀ o∈l,qm o k=true
 | [],_,_,o,ho=>by cases ho
 | x::l,k,h,o,ho=>by
  unfold CS at h
  split at h
  ·rename_i hw
   rcases List.mem_cons.1 ho with e | ho
   ·subst e; exact hw
   ·exact yu h o ho
  ·cases h
theorem KI {m:List Nat} {i:Nat}:m.any (Nat.beq i)=true↔i∈m:=by
 rw [List.any_eq_true]
 exact ⟨fun ⟨x,hx,h⟩=>by rw [Nat.eq_of_beq_eq_true h]; exact hx,fun h=>⟨i,h,Nat.beq_refl i⟩⟩
theorem wQ {S:Nat→Prop} (hc:∀ j i,S j→i∈Eb ops j→S i):∀ (n:Nat) (m:List Nat),(∀ i∈m,S i)→∀ i∈RJ ops n m,S i
 | 0,m,hm,i,hi=>hm i hi
 | n+1,m,hm,i,hi=>by
  unfold RJ at hi
  split at hi
  ·rename_i h
   refine wQ hc n _ (fun x hx=>?_) i hi
   rcases List.mem_append.1 hx with h' | h'
   ·exact hc n x (hm n (KI.1 h)) h'
   ·exact hm x h'
  ·exact wQ hc n m hm i hi
theorem yE {m:List Nat}:∀ {k:Nat},allIn m k=true→∀ i,i<k→i∈m
 | 0,_,i,hi=>absurd hi (Nat.not_lt_zero _)
 | k+1,h,i,hi=>by
  unfold allIn at h
  rw [Bool.and_eq_true] at h
  by_cases hik:i=k
  ·subst hik; exact KI.1 h.1
  ·exact yE h.2 i (by omega)
theorem Dc {j i:Nat} (h:i∈Eb ops j):∃ o,ops[j]?=some o∧∃ e∈o.after,Region.binds .any e=true∧e.on=i:=by
 unfold Eb at h
 split at h
 ·rename_i o ho
  obtain ⟨e,he,rfl⟩:=List.mem_map.1 h
  obtain ⟨h1,h2⟩:=List.mem_filter.1 he
  exact ⟨o,ho,e,by simpa using h1,h2,rfl⟩
 ·cases h
theorem Dp {k:Nat} (h:Az ops k=true) {i:Nat} (hi:i<k) {listed:Array Bool} (hd:Dn ops .any listed) (hr:k∈Region.ready .any ops listed):listed.getD i true=true:=by
 obtain ⟨_,o,ho,hall⟩:=mem_ready.1 hr
 have key:∀ x∈RJ ops (k+1) [k],x=k∨listed.getD x false=true:=by
  refine wQ (S:=fun x=>x=k∨listed.getD x false=true) (fun j x hj hx=>?_) (k+1) [k] (fun x hx => .inl (by simpa using hx))
  obtain ⟨o',ho',e,he,hb,rfl⟩:=Dc hx
  rcases hj with rfl | hj
  ·rw [ho] at ho'
   cases ho'
   exact .inr (hall e he hb)
  ·exact .inr (hd j o' ho' hj e he hb)
 rcases key i (yE h i hi) with h' | h'
 ·omega
 ·rcases Nat.lt_or_ge i listed.size with h2 | h2
  ·simp [h2] at h' ⊢; exact h'
  ·simp [Array.getElem?_eq_none h2] at h'
def kOf (ops:Array Oper):Option Nat:=match ops.size with
 | 0=>none
 | n+1=>match Az ops n with
  | true=>some n
  | false=>none
theorem FC {k:Nat} (h:kOf ops=some k):ops.size=k+1∧Az ops k=true:=by
 unfold kOf at h
 split at h
 ·cases h
 ·rename_i n hn
  split at h
  ·rename_i ha
   cases h
   exact ⟨hn,ha⟩
  ·cases h
theorem uJ {Q:Act→World→Prop} {Q2:Act→World→Prop} (hd:P.types.size+Made.depth≠0) (hsel:Region.noSelect ops=true) (hq:∀ a u d,Q a u→Q2 a (dr u d)) :
  ∀ (l:List Oper) (k:Nat) (listed:Array Bool) (a:Act) (w:World),(∀ j,l[j]?=ops[k+j]?)→(∀ j,listed.getD j true=false→k≤j)→(∀ j,k≤j→j<ops.size→listed.getD j true=false)→Dn ops .any listed→Region.lexFrom .any ops l.length k listed=true→(NC (kOf ops) listed→CK wm w)→G8 P ops wm Q l k a w →
  ∀ d,Gs P ops wm (kOf ops) Q2 l.length listed a (dr w d)
 | [],_,_,_,_,_,_,_,_,hB,hC,h,d=>⟨hC,by simpa [Region.lexFrom] using hB,hq _ _ _ h⟩
 | o::l,k,listed,a,w,hl,hlist,hun',hdn,hB,hC,h,d=>by
  have h0:ops[k]?=some o:=by simpa using (hl 0).symm
  have hl':∀ j,l[j]?=ops[k+1+j]?:=fun j=>by have:=hl (j+1); simpa [Nat.add_assoc,Nat.add_comm 1 j] using this
  have hsz:ops.size=k+1+l.length:=by
   have h1:=hl' l.length
   rw [List.getElem?_eq_none (Nat.le_refl _)] at h1
   have h2:ops.size≤k+1+l.length:=Array.getElem?_eq_none_iff.1 h1.symm
   have hk:=(Array.getElem?_eq_some_iff.1 h0).1
   rcases Nat.eq_zero_or_pos l.length with h3 | h3
   ·omega
   ·have h4:=hl' (l.length - 1)
    rw [List.getElem?_eq_getElem (by omega)] at h4
    have:=(Array.getElem?_eq_some_iff.1 h4.symm).1
    omega
  simp only [List.length_cons,Region.lexFrom,Bool.and_eq_true] at hB
  obtain ⟨⟨hr,hf⟩,hB'⟩:=hB
  have hr':k∈Region.ready .any ops listed:=by simpa using hr
  have hks:k<listed.size:=by
   have:=(mem_ready.1 hr').1
   rcases Nat.lt_or_ge k listed.size with h' | h'
   ·exact h'
   ·simp [Array.getElem?_eq_none h'] at this
  have hnc:NC (kOf ops) listed:=fun q hq=>by
   obtain ⟨q1,_⟩:=FC hq
   exact hun' q (by omega) (by omega)
  have hCk:=hC hnc
  have hlist':∀ j,(listed.setIfInBounds k true).getD j true=false→k+1≤j:=by
   intro j hj
   by_cases hjk:k=j
   ·subst hjk
    rw [Array.getD_eq_getD_getElem?,Array.getElem?_setIfInBounds_self_of_lt hks] at hj
    cases hj
   ·rw [getD_set_ne true hjk] at hj
    have:=hlist j hj
    omega
  have hun'':∀ j,k+1≤j→j<ops.size→(listed.setIfInBounds k true).getD j true=false:=fun j h1 h2=>by
   rw [getD_set_ne true (by omega)]
   exact hun' j (by omega) h2
  have hdn':=xR hdn hr'
  have behind:∀ (j:Nat) (oj:Oper),ops[j]?=some oj→j≠k→listed.getD j true=false→oj∈l:=by
   intro j oj hj hne hun
   have:=hlist j hun
   have e:=hl' (j - (k+1))
   rw [show k+1+(j - (k+1))=j by omega,hj] at e
   exact List.mem_of_getElem? e
  have skip:∀ (late:Bool) (D:World→Prop) (v:Value) (a:Act),(late=true→D=CK wm)→(late=false→∀ oj∈l,isVal P oj=true∨qm oj k=true)→D (dr w d)→YD P ops o v a D→G8 P ops wm Q l (k+1) (a.put o.dst v) w →
    Gs P ops wm (kOf ops) Q2 (l.length+1) listed a (dr w d):=by
   intro late D v a h1 h2 h3 h4 h5
   have rest:=uJ hd hsel hq l (k+1) _ _ _ hl' hlist' hun'' hdn' hB' (fun _=>hCk) h5 d
   cases hle:l with
   | nil =>
    rw [hle] at rest
    refine ⟨hC,fun hh=>(by rw [hh] at hr'; cases hr'),fun i hi=>?_⟩
    obtain ⟨hui,oi,hoi,_⟩:=mem_ready.1 hi
    have h6:=hlist i hui
    have h7:=(Array.getElem?_eq_some_iff.1 hoi).1
    rw [hle] at hsz
    simp only [List.length_nil] at hsz
    obtain rfl:i=k:=by omega
    exact h4.op h0 h3 rest
   | cons o2 l2 =>
    rw [← hle]
    refine Hf h0 (Region.noSelect_spec hsel) h1 (fun q hq=>?_) l.length listed a (dr w d) (fun j oj hj hne hun hno=>⟨Region.free_spec h0 hf j oj hj hne hun hno,fun hlt=>?_⟩) hdn hnc hr' h3 h4 rest
    ·obtain ⟨q1,q2⟩:=FC hq
     rw [hle] at hsz
     simp only [List.length_cons] at hsz
     exact ⟨by omega,fun L hL hqL=>Dp q2 (by omega) hL hqL⟩
    ·rcases h2 hlt oj (behind j oj hj hne hun) with h | h
     ·exact h
     ·obtain ⟨e,he,hb,hon⟩:=uh h
      exact absurd hon (hno e he hb)
  have eff:∀ (a:Act) (K:Value→World→Prop),isVal P o=false→Region.wanted o (yielded ops a.tmps)=true→CS l k=true→Gu P a.eval o K w→(∀ v u',K v u'→∀ d',Gs P ops wm (kOf ops) Q2 l.length (listed.setIfInBounds k true) (a.put o.dst v) (dr u' d'))→Gs P ops wm (kOf ops) Q2 (l.length+1) listed a (dr w d):=by
   intro a K hv hw hs heff hK
   refine ⟨hC,fun h0=>(by rw [h0] at hr'; cases hr'),fun i hi=>?_⟩
   have hik:i=k:=by
    by_cases hne:i=k
    ·exact hne
    ·exfalso
     obtain ⟨hun,oi,hoi,hall⟩:=mem_ready.1 hi
     obtain ⟨e,he,hb,hon⟩:=uh (yu hs oi (behind i oi hoi hne hun))
     have h1:=hall e he hb
     rw [hon] at h1
     have h2:=(mem_ready.1 hr').1
     simp [hks] at h1 h2
     rw [h1] at h2
     cases h2
   subst hik
   unfold Rx
   rw [h0]
   simp only
   rw [if_pos hw,if_neg (by rw [hv]; simp)]
   refine (Nw.of (oK hd heff) d).mono ?_
   rintro v u ⟨u',d',rfl,hh⟩
   exact hK v u' hh d'
  have run:∀ a:Act,Region.wanted o (yielded ops a.tmps)=true→(match isVal P o with
   | true=>match GL P l k with
    | false=>Aq P a.eval o w fun v=>G8 P ops wm Q l (k+1) (a.put o.dst v) w
    | true=>Aq P a.eval o wm fun v=>G8 P ops wm Q l (k+1) (a.put o.dst v) w
   | false=>match Vu ops l k with
    | true=>Gu P a.eval o (fun v u=>G8 P ops wm Q l (k+1) (a.put o.dst v) u) w
    | false=>match CS l k with
    | true=>Gu P a.eval o (fun v u=>CK wm u∧G8 P ops wm Q l (k+1) (a.put o.dst v) u) w
    | false=>False)→Gs P ops wm (kOf ops) Q2 (l.length+1) listed a (dr w d):=by
   intro a hw h
   split at h
   ·rename_i hv
    split at h
    ·rename_i hlt
     obtain ⟨v,hr,hK⟩:=ji (fun _=>rfl) h
     exact skip false (fun u=>∃ d,u=dr w d) v a (fun e=>by cases e) (fun _ oj hoj=>rU hlt oj hoj) ⟨d,rfl⟩ (.inl ⟨hv,hw,fun u ⟨d',hu⟩=>by subst hu; exact hr (Kp.dr w d')⟩) hK
    ·obtain ⟨v,hr,hK⟩:=ji (fun _=>rfl) h
     exact skip true (CK wm) v a (fun _=>rfl) (fun e=>by cases e) hCk (.inl ⟨hv,hw,fun u hu=>hr ⟨u,hu⟩⟩) hK
   ·rename_i hv
    split at h
    ·rename_i he
     have hle:l=[]∧Az ops k=true:=by
      cases l with
      | nil=>exact ⟨rfl,he⟩
      | cons x y=>cases he
     refine eff a _ hv hw (by rw [hle.1]; rfl) h fun v u' hK d'=>uJ hd hsel hq l (k+1) _ _ _ hl' hlist' hun'' hdn' hB' (fun hn=>?_) hK d'
     exfalso
     have hkk:kOf ops=some k:=by
      unfold kOf
      rw [hsz,hle.1]
      simp only [List.length_nil,Nat.add_zero]
      rw [hle.2]
     have:=hn k hkk
     rw [Array.getD_eq_getD_getElem?,Array.getElem?_setIfInBounds_self_of_lt hks] at this
     cases this
    split at h
    ·rename_i hs
     exact eff a _ hv hw hs h fun v u' hK d'=>uJ hd hsel hq l (k+1) _ _ _ hl' hlist' hun'' hdn' hB' (fun _=>hK.1) hK.2 d'
    ·exact h.elim
  unfold G8 at h
  simp only at h
  split at h
  ·rename_i hg
   exact run a (by unfold Region.wanted; rw [hg]) h
  ·rename_i j want hg
   obtain ⟨r,hr,h⟩:=iD h
   have hw:=hr o hg
   split at h
   ·rename_i hb
    exact run a (by rw [hw]; exact hb) h
   ·rename_i hb
    exact skip true (CK wm) undef a (fun _=>rfl) (fun e=>by cases e) hCk (.inr ⟨by rw [hw]; simpa using hb,rfl⟩) h
theorem Q8 {id:Nat} {Q:Act→World→Prop} {Q':Exit→Act→World→Prop} {a:Act} {w:World} (hm:P.follows .mixedOrders=true) (hd:P.types.size+Made.depth≠0)
  (hok:Region.lexB .any ops=true) (hq:∀ a u d,Q a u→Q' .normal a (dr u d)) (h:Wu P ops Q a w) (d:Nat):(Code.region id ops true).wp P Q' a (dr w d):=by
 obtain ⟨wm,hC,h⟩:=h
 simp only [Region.lexB,Bool.and_eq_true] at hok
 have hfalse:∀ (j:Nat) (b:Bool),(Array.replicate ops.size false).getD j b=if j<ops.size then false else b:=fun j b=>by
  rw [Array.getD_eq_getD_getElem?,Array.getElem?_replicate]
  split <;> rfl
 have:=uJ (Q2:=fun a u=>Q' .normal a u) hd hok.1 hq ops.toList 0 (Array.replicate ops.size false) a w (by simp) (fun _ _=>Nat.zero_le _) (fun j _ hj=>by rw [hfalse,if_pos hj]) (fun k o _ hl=>by rw [hfalse] at hl; split at hl <;> cases hl) (by simpa using hok.2) (fun _=>hC) h (d+1)
 refine wp_region_any hm (kG (wm:=wm) (K:=kOf ops) (fun _ _ h=>h) _ _ _ _ ?_)
 have e:ops.toList.length=ops.size:=by simp
 rw [e] at this
 exact this
end
def Ul:List Oper→Bool
 | []=>false
 | o::l=>match o.op with
  | .store .. => true
  | _=>Ul l
end Go.E
namespace Go.E
open Go Go.RowKit
abbrev rF (ro:Option Nat):Fence:={ Fence.wide with round:=ro }
structure Mod (S:Nat→Prop) (w u:World):Prop where
 os:u.os=w.os
 tape:u.tape=w.tape
 output:u.output=w.output
 size:w.heap.size≤u.heap.size
 block:∀ k,k<w.heap.size→¬ S k→u.heap[k]?=w.heap[k]?
theorem Mod.refl {S:Nat→Prop} (w:World):Mod S w w:=⟨rfl,rfl,rfl,Nat.le_refl _,fun _ _ _=>rfl⟩
theorem Mod.trans {S T U:Nat→Prop} {w u x:World} (h:Mod S w u) (k:Mod T u x) (hS:∀ k,k<w.heap.size→S k→U k) (hT:∀ k,k<w.heap.size→T k→U k):Mod U w x :=
 ⟨k.os.trans h.os,k.tape.trans h.tape,k.output.trans h.output,Nat.le_trans h.size k.size,fun b hb hn =>
  (k.block b (Nat.lt_of_lt_of_le hb h.size) (fun ht=>hn (hT b hb ht))).trans (h.block b hb (fun hs=>hn (hS b hb hs)))⟩
theorem Mod.weak {S U:Nat→Prop} {w u:World} (h:Mod S w u) (hS:∀ k,k<w.heap.size→S k→U k):Mod U w u:=h.trans (Mod.refl (S:=fun _=>False) u) hS (fun _ _ h=>h.elim)
theorem Mod.put {S:Nat→Prop} (w:World) {l:Nat} (o:Obj) (hS:S l):Mod S w (w.putObj l o) :=
 ⟨rfl,rfl,rfl,by simp,fun _ _ hn=>World.putObj_heap_other (fun e=>hn (e ▸ hS))⟩
theorem Mod.new {S:Nat→Prop} (w:World) (o:Obj):Mod S w (w.alloc o) :=
 ⟨rfl,rfl,rfl,by simp,fun k hk _=>by
  show (w.heap.push o)[k]?=w.heap[k]?
  rw [Array.getElem?_push,if_neg (by omega)]⟩
def tZ (P:Program) (l:Nat) (args:Array Value) (w:World) (R:Value→World→Prop):Prop :=
 ∀ d m,YieldAt Fence.wide m P l args (dr w d) fun e w'=>∃ v u d',e = .returned v∧w'=dr u d'∧R v u
theorem tZ.mono {P:Program} {l:Nat} {args:Array Value} {w:World} {R R':Value→World→Prop} (h:tZ P l args w R) (hr:∀ v u,R v u→R' v u):tZ P l args w R' :=
 fun d m=>let ⟨fn,t,a,b,hy,hR⟩:=h d m; ⟨fn,t,a,b,hy,hR.mono fun _ _ ⟨v,u,d',e1,e2,r⟩=>⟨v,u,d',e1,e2,hr _ _ r⟩⟩
def WU (P:Program) (v:Value) (name:String) (K:FuncId→Value→Prop):Prop:=match v with
 | .iface t x=>bK (rQ P t name) fun f=>if jT P f=true then K f x else False
 | _=>False
def uV (P:Program) (v:Value) (args:Array Value) (w:World) (K:Value→World→Prop):Prop:=match v with
 | .func (.func f) first captured=>if jT P f=true then CallsD P f (first++args++captured) w K else False
 | .func (.yield l) first _=>tZ P l (first++args) w K
 | _=>False
def O4 (P:Program) (ρ:Operand→Value) (ty:TypeId) (c:Call) (K:Value→World→Prop) (w:World):Prop :=
 match c.callee with
 | .value fo=>uV P (ρ fo) (c.args.map ρ) w (xA P ty K)
 | .invoke r name=>WU P (ρ r) name fun f x=>CallsD P f (#[x]++c.args.map ρ) w (xA P ty K)
 | _=>Iq P ρ ty c K w
def PT (P:Program) (ρ:Operand→Value) (o:Oper) (K:Value→World→Prop) (w:World):Prop :=
 match o.op with
 | .call c=>O4 P ρ o.type c K w
 | _=>Gu P ρ o K w
def opI (P:Program) (ρ:Operand→Value) (o:Oper) (K:Value→World→Prop) (w:World):Prop :=
 match isVal P o with
 | true=>Aq P ρ o w fun v=>K v w
 | false=>PT P ρ o K w
def Qr (P:Program) (ops:Array Oper) (Q:Act→World→Prop):List Oper→Act→World→Prop
 | [],a,w=>Q a w
 | o::rest,a,w=>match o.guard with
  | none=>opI P a.eval o (fun v u=>Qr P ops Q rest (a.put o.dst v) u) w
  | some (j,want)=>uq ops a j want (fun a=>opI P a.eval o (fun v u=>Qr P ops Q rest (a.put o.dst v) u) w) (fun a=>Qr P ops Q rest (a.put o.dst undef) w)
theorem Gi {P:Program} {ρ:Operand→Value} {o:Oper} {K:Value→World→Prop} {w:World} (hd:P.types.size+Made.depth≠0) (h:PT P ρ o K w) :
  OpD P (execOp ρ o) w K∨∃ l args,(∀ u,(execOp ρ o).run P u=(Instr.yield l args).run P u)∧tZ P l args w K:=by
 obtain ⟨dst,op,ty,pos,after,guard⟩:=o
 by_cases hc:∃ c,op = .call c
 ·obtain ⟨c,rfl⟩:=hc
  obtain ⟨callee,args,ats⟩:=c
  cases callee with
  | value fo =>
   unfold PT O4 uV at h
   simp only at h
   split at h
   ·rename_i f first captured hf
    refine .inl (oK hd (o:=⟨dst,.call ⟨.value fo,args,ats⟩,ty,pos,after,guard⟩) ?_)
    unfold Gu Iq
    simp only [hf]
    exact h
   ·rename_i l first captured hf
    refine .inr ⟨l,first++args.map ρ,fun u=>?_,h.mono fun v u hk=>jg hk⟩
    unfold execOp resolve
    simp only [hf,Deferred.ofValue]
    rw [run_bind' P _ _ _ _ _ rfl]
    rfl
   ·exact h.elim
  | invoke r name =>
   unfold PT O4 WU at h
   simp only at h
   split at h
   ·rename_i t x hv
    refine .inl (oK hd (o:=⟨dst,.call ⟨.invoke r name,args,ats⟩,ty,pos,after,guard⟩) ?_)
    unfold Gu Iq
    simp only [hv]
    exact h
   ·exact h.elim
  | builtin b=>exact .inl (oK hd (by unfold PT O4 at h; unfold Gu; exact h))
 ·refine .inl (oK hd ?_)
  unfold PT at h
  split at h
  ·rename_i c ho; exact (hc ⟨c,ho⟩).elim
  ·exact h
theorem H9 {P:Program} {ρ:Operand→Value} {o:Oper} {w:World} {K:Value→Prop} (h:Aq P ρ o w K):∀ c,o.op ≠ .defer c:=by
 intro c hc
 unfold Aq at h
 rw [hc] at h
 exact h
theorem Ie {P:Program} {ρ:Operand→Value} {o:Oper} {w:World} {K:Value→World→Prop} (h:opI P ρ o K w):∀ c,o.op ≠ .defer c:=by
 unfold opI at h
 split at h
 ·exact H9 h
 ·intro c hc
  unfold PT at h
  rw [hc] at h
  simp only at h
  unfold Gu at h
  rw [hc] at h
  exact h
theorem yC {P:Program} {ro:Option Nat} {n:Nat} {f:FuncId} {args:Array Value} {w:World} {R:Ending→World→Prop} (h:CallsIn Fence.wide n P f args w R):CallsIn (rF ro) n P f args w R:=h
theorem G6 {P:Program} {ro:Option Nat} {n l:Nat} {f:FuncId} {tmps:Array Value} {assign body:Code} {w:World} {R:Ending→World→Prop} (h:RoundIn Fence.wide n P l f tmps assign body w R):RoundIn (rF ro) n P l f tmps assign body w R:=h
theorem Fp {P:Program} {ro:Option Nat} {n:Nat} {o:Oper} {a:Act} {K:Value→World→Prop} {K':Act→World→Prop} {Q:Exit→Act→World→Prop} {w:World} (hd:P.types.size+Made.depth≠0) (h:opI P a.eval o K w)
  (hk:∀ v u d',K v u→K' (a.put o.dst v) (dr u d')) (d:Nat):o.wpIn (rF ro) n P a (dr w d) K' Q:=by
 have hs:=Oper.semAt_eq (rF ro).round a.eval o (Ie h)
 unfold opI at h
 unfold Oper.wpIn
 refine ⟨fun _ _=>trivial,?_⟩
 rw [hs]
 split at h
 ·obtain ⟨v,hr,hK⟩:=ji (fun _=>rfl) h
  rw [show (execOp a.eval o).run P (dr w d)=_ from hr (Kp.dr w d)]
  exact hk _ _ _ hK
 ·rcases Gi hd h with (h | h | ⟨f,args,hr,hc⟩) | ⟨l,args,hr,hy⟩
  ·obtain ⟨v,u,d',hr,hK⟩:=h d
   rw [hr]
   exact hk _ _ _ hK
  ·obtain ⟨u,d',hr,hK⟩:=h d
   rw [hr]
   exact hk _ _ _ hK
  ·rw [hr d,Oper.uponIn_enter]
   refine ⟨fun e=>(nomatch (show false=true from e)),?_⟩
   refine yC (callsIn_wide.2 ((hc d).mono fun e w' ⟨v,u,d',he,hw,hK⟩=>?_))
   subst he hw
   exact hk _ _ _ hK
  ·obtain ⟨fn,t,asg,body,hyr,hR⟩:=hy d (n - 1)
   rw [hr,hyr,Oper.uponIn_round]
   refine ⟨fun e=>(nomatch (show false=true from e)),?_⟩
   refine G6 (hR.mono fun e w' ⟨v,u,d',he,hw,hK⟩=>?_)
   subst he hw
   exact hk _ _ _ hK
theorem oh {P:Program} {ro:Option Nat} {n:Nat} {ops:Array Oper} {Q:Act→World→Prop} {Q':Exit→Act→World→Prop} (hd:P.types.size+Made.depth≠0) (hq:∀ a u d,Q a u→Q' .normal a (dr u d)) :
  ∀ (l:List Oper) (a:Act) (w:World),Qr P ops Q l a w→∀ d,wpListIn (rF ro) n P ops Q' l a (dr w d)
 | [],a,w,h,d=>hq _ _ _ h
 | o::rest,a,w,h,d=>by
  unfold Qr at h
  unfold wpListIn
  split at h
  ·rename_i hg
   have hw:Region.wanted o (yielded ops a.tmps)=true:=by unfold Region.wanted; rw [hg]
   rw [if_pos hw]
   exact Fp hd h (fun v u d' hK=>oh hd hq rest _ _ hK d') d
  ·rename_i j want hg
   obtain ⟨r,hr,h⟩:=iD h
   have hw:=hr o hg
   rw [hw]
   split at h
   ·rename_i hb
    rw [if_pos (by simpa using hb)]
    exact Fp hd h (fun v u d' hK=>oh hd hq rest _ _ hK d') d
   ·rename_i hb
    rw [if_neg (by simpa using hb)]
    exact ⟨fun _ _=>trivial,oh hd hq rest _ _ h d⟩
def IZ (o:Oper):Bool:=match o.op with
 | .defer _=>false
 | _=>true
section
variable {P:Program} {ro:Option Nat} {n:Nat} {ops:Array Oper} {C:World→Prop}
theorem GM {o:Oper} {a:Act} {K K':Act→Prop} (h:o.quiet P a C K) (hk:∀ a,K a→K' a):o.quietIn (rF ro) n P a C K':=by
 obtain ⟨v,h1,h2⟩:=h
 refine ⟨v,fun w hw=>?_,hk _ h2⟩
 have h3:=h1 w hw
 unfold Oper.quietAt at h3
 unfold Oper.quietAtIn
 generalize (execOp a.eval o).run P w=r at *
 cases r with
 | halt x w'=>exact h3
 | ok x w' =>
  cases x <;> first | exact h3 | skip
  exact ⟨h3.1,fun e=>(nomatch (show false=true from e)),yC (callsIn_wide.2 h3.2)⟩
theorem nP {Q:Act→Prop}:∀ (l:List Oper) (a:Act),wpQuiet P ops C Q l a→wpQuietIn (rF ro) n P ops C Q l a
 | [],_,h=>h
 | o::rest,a,h=>by
  unfold wpQuiet at h
  unfold wpQuietIn
  refine ⟨fun _ _ _ _=>trivial,?_⟩
  split
  ·rename_i hw
   rw [if_pos hw] at h
   exact GM h fun a'=>nP rest a'
  ·rename_i hw
   rw [if_neg hw] at h
   exact nP rest _ h
theorem A7 {o:Oper} {a:Act} {K:Act→Prop} {K':Act→World→Prop} {Q':Exit→Act→World→Prop} {w:World} (hn:IZ o=true) (hw:C w) (h:∀ a w',C w'→K a→K' a w')
  (hh:o.quietIn (rF ro) n P a C K):o.wpIn (rF ro) n P a w K' Q':=by
 obtain ⟨v,h1,h2⟩:=hh
 have h3:=h1 w hw
 refine ⟨fun _ _=>trivial,?_⟩
 rw [Oper.semAt_eq (rF ro).round a.eval o (fun c hc=>by unfold IZ at hn; rw [hc] at hn; cases hn)]
 unfold Oper.quietAtIn at h3
 generalize (execOp a.eval o).run P w=r at *
 cases r with
 | halt x w'=>exact h3.elim
 | ok x w' =>
  cases x <;> first | exact h3.elim | skip
  ·obtain ⟨rfl,rfl⟩:=h3; exact h _ _ hw h2
  ·obtain ⟨rfl,rfl⟩:=h3; exact h _ _ hw h2
  ·obtain ⟨rfl,hd,hc⟩:=h3
   exact ⟨hd,hc.mono fun e w'' ⟨he,hw''⟩=>by subst he; exact h _ _ hw'' h2⟩
theorem jF {Q:Act→Prop} {Q':Exit→Act→World→Prop} (hn:∀ (i:Nat) o,ops[i]?=some o→IZ o=true) (hQ:∀ a w,C w→Q a→Q' .normal a w):∀ (fuel:Nat) (listed:Array Bool) (a:Act) (w:World),C w →
  wpAnyQIn (rF ro) n P .any ops C Q fuel listed a→wpAnyIn (rF ro) n P .any ops Q' fuel listed a w
 | 0,_,_,_,hw,h=>⟨h.1,hQ _ _ hw h.2⟩
 | fuel+1,listed,a,w,hw,h=>by
  refine ⟨fun h0=>hQ _ _ hw (h.1 h0),fun i hi=>?_⟩
  have hh:=h.2 i hi
  unfold qOpIn at hh
  unfold wpOpIn
  split
  ·rename_i ho
   rw [ho] at hh
   exact jF hn hQ fuel _ _ _ hw hh
  ·rename_i o ho
   rw [ho] at hh
   obtain ⟨ha,hh⟩:=hh
   split
   ·rename_i hw'
    rw [if_pos hw'] at hh
    exact A7 (hn i o ho) hw (fun a' w' hw'' hk=>jF hn hQ fuel _ _ _ hw'' hk) hh
   ·rename_i hw'
    rw [if_neg hw'] at hh
    exact ⟨fun _ _=>trivial,jF hn hQ fuel _ _ _ hw hh⟩
theorem J9 {id:Nat} {Q:Act→World→Prop} {Q':Exit→Act→World→Prop} {a:Act} {w:World} (hm:P.follows .mixedOrders=true) (hd:P.types.size+Made.depth≠0)
  (hok:Region.lexB .any ops=true) (hn:ops.toList.all IZ=true) (hq:∀ a u d,Q a u→Q' .normal a (dr u d)) (h:Om P ops w Q ops.toList a) (d:Nat):(Code.region id ops true).wpIn (rF ro) n P Q' a (dr w d):=by
 have hq1:=nP (ro:=ro) (n:=n) (C:=fun u=>Below w.heap.size w u) _ _ (lJ hd (Q2:=fun a'=>∀ u,Below w.heap.size w u→Q a' u) (fun a' hQ=>hQ) _ _ h)
 simp only [Region.lexB,Bool.and_eq_true] at hok
 have hl:=wpAnyQIn_lex (F:=rF ro) (n:=n) (C:=fun u=>Below w.heap.size w u) (md := .any) hok.1 ops.toList 0 (Array.replicate ops.size false) a (by simp) (by simpa using hok.2) hq1
 have hl':wpAnyQIn (rF ro) n P .any ops (fun u=>Below w.heap.size w u) (fun a'=>∀ u,Below w.heap.size w u→Q a' u) ops.size (Array.replicate ops.size false) a:=by simpa using hl
 refine wpIn_region_any hm (jF (fun i o ho=>List.all_eq_true.1 hn o (by
  have:ops.toList[i]?=some o:=by simpa using ho
  exact List.mem_of_getElem? this)) (fun a' u hu hQ=>?_) _ _ _ _ ?_ hl')
 ·have:=hq _ _ u.drawn (hQ u hu)
  rwa [jk] at this
 ·exact ⟨rfl,rfl,rfl,Nat.le_refl _,fun _ _=>rfl⟩
end
def pU (P:Program):Code→(Exit→Act→World→Prop)→Act→World→Prop
 | .skip,Q,a,w=>Q .normal a w
 | .region _ ops draw,Q,a,w=>match draw with
  | false=>Qr P ops (Q .normal) ops.toList a w
  | true=>match Region.lexB .any ops&&ops.toList.all IZ with
   | true=>Om P ops w (Q .normal) ops.toList a
   | false=>False
 | .seq x y,Q,a,w=>pU P x (Exit.then (pU P y Q) Q) a w
 | .cond c x y,Q,a,w=>match a.eval c with
  | .bool b=>af b (pU P x Q a w) (pU P y Q a w)
  | _=>False
 | .block id c,Q,a,w=>pU P c (Exit.inBlock id Q) a w
 | .exit id,Q,a,w=>Q (.exit id) a w
 | _,_,_,_=>False
def upD (Q:Exit→Act→World→Prop):Exit→Act→World→Prop:=fun e a w=>∃ u d,w=dr u d∧Q e a u
theorem lL {P:Program} {ro:Option Nat} {n:Nat} (hm:P.follows .mixedOrders=true) (hd:P.types.size+Made.depth≠0):∀ (c:Code) (Q:Exit→Act→World→Prop) (a:Act) (w:World),pU P c Q a w→∀ d,c.wpIn (rF ro) n P (upD Q) a (dr w d)
 | .skip,Q,a,w,h,d=>wpIn_skip ⟨w,d,rfl,h⟩
 | .region id ops draw,Q,a,w,h,d=>by
  unfold pU at h
  cases draw with
  | false=>exact wpIn_region_list (oh hd (fun a u d hq=>⟨u,d,rfl,hq⟩) _ _ _ h d)
  | true =>
   simp only at h
   split at h
   ·rename_i hok
    rw [Bool.and_eq_true] at hok
    exact J9 hm hd hok.1 hok.2 (fun a u d hq=>⟨u,d,rfl,hq⟩) h d
   ·exact h.elim
 | .seq x y,Q,a,w,h,d=>by
  refine wpIn_seq (wpIn_mono (lL hm hd x _ a w h d) ?_)
  rintro e a' w' ⟨u,d',rfl,hq⟩
  cases e with
  | normal=>exact lL hm hd y Q a' u hq d'
  | exit id=>exact ⟨u,d',rfl,hq⟩
  | goto l=>exact ⟨u,d',rfl,hq⟩
  | ret=>exact ⟨u,d',rfl,hq⟩
  | panic ch=>exact ⟨u,d',rfl,hq⟩
  | outgrown=>exact ⟨u,d',rfl,hq⟩
 | .cond c x y,Q,a,w,h,d=>by
  unfold pU at h
  split at h
  ·rename_i b hb
   rw [aH] at h
   exact wpIn_cond_split hb (fun ht=>lL hm hd x Q a w (h.1 ht) d) (fun hf=>lL hm hd y Q a w (h.2 hf) d)
  ·exact h.elim
 | .block id c,Q,a,w,h,d=>by
  refine wpIn_block (wpIn_mono (lL hm hd c _ a w h d) ?_)
  rintro e a' w' ⟨u,d',rfl,hq⟩
  cases e with
  | exit id' =>
   simp only [Exit.inBlock] at hq ⊢
   split
   ·rename_i hid; rw [if_pos hid] at hq; exact ⟨u,d',rfl,hq⟩
   ·rename_i hid; rw [if_neg hid] at hq; exact ⟨u,d',rfl,hq⟩
  | normal=>exact ⟨u,d',rfl,hq⟩
  | goto l=>exact ⟨u,d',rfl,hq⟩
  | ret=>exact ⟨u,d',rfl,hq⟩
  | panic ch=>exact ⟨u,d',rfl,hq⟩
  | outgrown=>exact ⟨u,d',rfl,hq⟩
 | .exit id,Q,a,w,h,d=>wpIn_exit ⟨w,d,rfl,h⟩
 | .loop _,_,_,_,h,_=>h.elim
 | .ret,_,_,_,h,_=>h.elim
 | .scope _,_,_,_,h,_=>h.elim
 | .label _,_,_,_,h,_=>h.elim
 | .goto _,_,_,_,h,_=>h.elim
 | .rangeFunc ..,_,_,_,h,_=>h.elim
 | .refuse _,_,_,_,h,_=>h.elim
def TB:List Oper→Act→Option Act
 | [],a=>some a
 | o::l,a=>match o.guard with
  | none=>match o.op with
   | .assign x=>TB l (a.put o.dst (a.eval x))
   | .move x=>TB l (a.put o.dst (a.eval x))
   | _=>none
  | some _=>none
def UK:Code→Act→Option Act
 | .skip,a=>some a
 | .region _ ops false,a=>TB ops.toList a
 | _,_=>none
theorem CV {P:Program} {ro:Option Nat} {n:Nat} {ops:Array Oper} {Q:Exit→Act→World→Prop} {w:World} {b:Act}:∀ (l:List Oper) (a:Act),TB l a=some b→Q .normal b w→wpListIn (rF ro) n P ops Q l a w
 | [],a,h,hq=>by cases h; exact hq
 | o::l,a,h,hq=>by
  unfold TB at h
  unfold wpListIn
  split at h
  ·rename_i hg
   have hw:Region.wanted o (yielded ops a.tmps)=true:=by unfold Region.wanted; rw [hg]
   rw [if_pos hw]
   refine ⟨fun _ _=>trivial,?_⟩
   obtain ⟨dst,op,ty,pos,after,guard⟩:=o
   simp only at h
   split at h
   ·rename_i x hx
    rw [Oper.semAt_eq _ _ _ (by intro c hc; cases hc)]
    exact CV l _ h hq
   ·rename_i x hx
    rw [Oper.semAt_eq _ _ _ (by intro c hc; cases hc)]
    exact CV l _ h hq
   ·cases h
  ·cases h
theorem PS {P:Program} {ro:Option Nat} {n:Nat} {Q:Exit→Act→World→Prop} {w:World} {a b:Act} {c:Code} (h:UK c a=some b) (hq:Q .normal b w):c.wpIn (rF ro) n P Q a w:=by
 unfold UK at h
 split at h
 ·cases h; exact wpIn_skip hq
 ·exact wpIn_region_list (CV _ _ h hq)
 ·cases h
def Stable (B:Nat) (J:Nat→Nat→World→Prop):Prop:=∀ k g w u,J k g w→Mod (fun b=>B≤b∧b+1≠g) w u→J k g u
def TC (P:Program) (gf:FuncId) (lb:Array Value) (X:List (Int×Int)) (V:Nat→Prop) (w:World):Prop :=
 ∀ (l:Nat) (J:Nat→Nat→World→Prop) (W:World),Below w.heap.size w W→w.heap.size≤l→l<W.heap.size→Stable W.heap.size J→(∀ k g u,J k g u→(g=0∨W.heap.size<g)∧g≤u.heap.size∧W.heap.size≤u.heap.size) →
  (∀ k g x u,X[k]?=some x→J k g u→tZ P l #[.int .i64 x.1,.int .i64 x.2] u fun v u'=>v = .bool true∧∃ g',J (k+1) g' u'∧(g'=g∨u.heap.size<g')∧Mod (fun b=>V b∨b=l∨b+1=g) u u') →
  J 0 0 W→CallsD P gf (#[.func (.yield l) #[] #[]]++lb) W fun _ u=>∃ g,J X.length g u
def JJ (P:Program) (v:Value) (w:World) (Rd:Int→Int→World→(World→Prop)→Prop) (Fin:Nat→World→Prop):Prop :=
 ∃ (gf:FuncId) (lb:Array Value) (X:List (Int×Int)) (V:Nat→Prop) (J:Nat→Nat→World→Prop),
  v = .func (.func gf) #[] lb∧jT P gf=true∧(∀ b,V b→b<w.heap.size)∧TC P gf lb X V w∧Stable w.heap.size J∧(∀ k g u,J k g u→(g=0∨w.heap.size<g)∧g≤u.heap.size∧w.heap.size≤u.heap.size)∧J 0 0 w ∧
  (∀ k g x u,X[k]?=some x→J k g u→Rd x.1 x.2 u fun u'=>∃ g',J (k+1) g' u'∧(g'=g∨u.heap.size<g')∧Mod (fun b=>V b∨b+1=g) u u') ∧
  (∀ g D u,J X.length g u→w.heap.size≤D→D<u.heap.size→D+1≠g→u.heap[D]?=some (.deferred (some []))→Fin D u)
def Wn (K:World→Prop):Exit→Act→World→Prop:=fun e _ u=>match e with
 | .normal=>K u
 | _=>False
theorem JF {P:Program} {g:Operand} {ps:Array Tmp} {asg body:Code} {Q:Exit→Act→World→Prop} {a:Act} {w:World} {Rd:Int→Int→World→(World→Prop)→Prop} {Fin:Nat→World→Prop}
  (hm:P.follows .mixedOrders=true) (hd:P.types.size+Made.depth≠0) (hps:ps.size=2)
  (hR:∀ x y u K,Rd x y u K→∃ a1,UK asg { tmps:=(ps.zip #[.int .i64 x,.int .i64 y]).foldl (fun t (p,v)=>t.setIfInBounds p v) a.tmps,defers:=[] }=some a1∧pU P body (Wn K) a1 u)
  (hF:∀ D u,Fin D u→Q .normal { a with defers:={ target := .collected D,args := #[] }::a.defers } u)
  (h:JJ P (a.eval g) w Rd Fin) (d:Nat):(Code.rangeFunc g ps asg body).wp P (upD Q) a (dr w d):=by
 obtain ⟨gf,lb,X,V,J,hv,hb,hV,hI,hst,hg,h0,hrd,hfin⟩:=h
 refine (wpIn_wide (n:=1)).1 (wpIn_rangeFunc fun fn _=>?_)
 obtain ⟨rec,hrec⟩:∃ rec:LoopState→Loop,rec=fun st=>{ state:=st,pending:=none,fn,tmps:=a.tmps,params:=ps,assign:=asg,body,defers:=w.heap.size }:=⟨_,rfl⟩
 obtain ⟨W1,hW1⟩:∃ W1,(w.alloc (.deferred (some []))).alloc (.loop (rec .ready))=W1:=⟨_,rfl⟩
 have hsz:W1.heap.size=w.heap.size+2:=by rw [← hW1]; simp
 have hm1:∀ S,Mod S w W1:=fun S=>by
  rw [← hW1]
  exact (Mod.new (S:=S) w _).trans (Mod.new (S:=S) _ _) (fun _ _ h=>h) (fun _ _ h=>h)
 have hL1:W1.heap[w.heap.size+1]?=some (.loop (rec .ready)):=by
  rw [← hW1]; have:=World.alloc_heap_new (w.alloc (.deferred (some []))) (.loop (rec .ready)); rwa [World.size_alloc] at this
 have hD1:W1.heap[w.heap.size]?=some (.deferred (some [])):=by
  rw [← hW1]
  have h1:=World.alloc_heap_new w (.deferred (some []))
  have h2:=(Mod.new (S:=fun _=>False) (w.alloc (.deferred (some []))) (.loop (rec .ready))).block w.heap.size (by simp) (fun h=>h)
  exact h2.trans h1
 obtain ⟨J',hJ'⟩:∃ J':Nat→Nat→World→Prop,J'=fun k g u=>J k g u∧u.heap[w.heap.size+1]?=some (.loop (rec .ready))∧u.heap[w.heap.size]?=some (.deferred (some []))∧(g=0∨W1.heap.size<g)∧W1.heap.size≤u.heap.size:=⟨_,rfl⟩
 have lt:∀ {u:World} {k:Nat} {o:Obj},u.heap[k]?=some o→k<u.heap.size:=fun h=>(Array.getElem?_eq_some_iff.1 h).1
 -- the iterator's contract
 have hcall:=hI (w.heap.size+1) J' W1 ⟨(hm1 (fun _=>False)).os,(hm1 (fun _=>False)).tape,(hm1 (fun _=>False)).output,(hm1 (fun _=>False)).size,fun k hk=>(hm1 (fun _=>False)).block k hk (fun h=>h)⟩ (by omega) (by omega)
  (by
   intro k g u u' h hmod
   rw [hJ'] at h ⊢
   obtain ⟨h1,h2,h3,h4,h5⟩:=h
   have e2:=lt h2
   have e3:=lt h3
   exact ⟨hst _ _ _ _ h1 (hmod.weak fun b _ hb=>⟨by omega,hb.2⟩),(hmod.block _ e2 (fun hb=>by omega)).trans h2,(hmod.block _ e3 (fun hb=>by omega)).trans h3,h4,Nat.le_trans h5 hmod.size⟩)
  (by
   intro k g u h
   rw [hJ'] at h
   exact ⟨h.2.2.2.1,(hg _ _ _ h.1).2.1,h.2.2.2.2⟩)
  (by
   intro k g x u hx hj
   rw [hJ'] at hj
   obtain ⟨h1,h2,h3,h4,h5⟩:=hj
   have e2:=lt h2
   intro d m
   have hy:=run_yield (P:=P) (args := #[.int .i64 x.1,.int .i64 x.2]) (show (dr u d).heap[w.heap.size+1]?=_ from h2) (by rw [hrec]; simp [hps])
   rw [hrec] at hy
   refine ⟨fn,_,asg,body,hy,roundIn_of_wpIn trivial ?_⟩
   obtain ⟨u2,hu2⟩:∃ u2,u.putObj (w.heap.size+1) (.loop (rec .busy))=u2:=⟨_,rfl⟩
   have m2:Mod (fun b=>b=w.heap.size+1) u u2:=by rw [← hu2]; exact Mod.put u _ rfl
   have hl2:u2.heap[w.heap.size+1]?=some (.loop (rec .busy)):=by rw [← hu2]; exact World.putObj_heap_same e2
   have hD2:u2.heap[w.heap.size]?=some (.deferred (some [])):=(m2.block _ (lt h3) (by omega)).trans h3
   have hj2:J k g u2:=hst _ _ _ _ h1 (m2.weak fun b _ hb=>⟨by omega,by omega⟩)
   obtain ⟨a1,ha1,hbody⟩:=hR _ _ _ _ (hrd k g x u2 hx hj2)
   refine PS (ro:=some (w.heap.size+1)) ha1 ?_
   refine ⟨dr u2 d,?_,?_⟩
   ·have:=run_beginRound (P:=P) (show (dr u d).heap[w.heap.size+1]?=_ from h2) (by rw [hrec])
    rw [this,← hu2,hrec]
    rfl
   ·refine wpIn_mono (lL (ro:=some (w.heap.size+1)) hm hd _ _ _ _ hbody d) ?_
    rintro e a3 w3 ⟨u3,d3,rfl,hq⟩
    cases e with
    | normal =>
     obtain ⟨g',hj3,hgg,hm3⟩:=hq
     have hs2:u2.heap.size=u.heap.size:=by rw [← hu2]; simp
     have hl3:u3.heap[w.heap.size+1]?=some (.loop (rec .busy)):=(hm3.block _ (lt hl2) (fun hb=>hb.elim (fun h=>by have:=hV _ h; omega) (fun h=>by omega))).trans hl2
     have hD3:u3.heap[w.heap.size]?=some (.deferred (some [])):=(hm3.block _ (lt hD2) (fun hb=>hb.elim (fun h=>by have:=hV _ h; omega) (fun h=>by omega))).trans hD2
     have he:=run_endRound (P:=P) none (show (dr u3 d3).heap[w.heap.size+1]?=_ from hl3)
     have e4:(dr u3 d3).putObj (w.heap.size+1) (.loop (rec .ready))=dr (u3.putObj (w.heap.size+1) (.loop (rec .ready))) d3:=rfl
     refine ⟨.bool true,dr (u3.putObj (w.heap.size+1) (.loop (rec .ready))) d3,?_,_,_,_,rfl,rfl,rfl,g',?_,?_,?_⟩
     ·rw [he,← e4,hrec]
      rfl
     ·rw [hJ']
      have m4:Mod (fun b=>b=w.heap.size+1) u3 (u3.putObj (w.heap.size+1) (.loop (rec .ready))):=Mod.put u3 _ rfl
      refine ⟨hst _ _ _ _ hj3 (m4.weak fun b _ hb=>⟨by omega,by omega⟩),World.putObj_heap_same (lt hl3),(m4.block _ (lt hD3) (by omega)).trans hD3,by omega,?_⟩
      have:=hm3.size
      have:=m4.size
      omega
     ·rw [← hs2]; exact hgg
     ·have m4:Mod (fun b=>b=w.heap.size+1) u3 (u3.putObj (w.heap.size+1) (.loop (rec .ready))):=Mod.put u3 _ rfl
      refine (m2.trans hm3 (U:=fun b=>V b∨b=w.heap.size+1∨b+1=g) (fun _ _ h => .inr (.inl h)) (fun _ _ h=>h.elim .inl (fun h => .inr (.inr h)))).trans m4 (fun _ _ h=>h) (fun _ _ h => .inr (.inl h))
    | exit id=>exact hq.elim
    | goto l=>exact hq.elim
    | ret=>exact hq.elim
    | panic ch=>exact hq.elim
    | outgrown=>exact hq.elim)
  (by
   rw [hJ']
   exact ⟨hst _ _ _ _ h0 (hm1 _),hL1,hD1,.inl rfl,Nat.le_refl _⟩)
 refine ⟨w.heap.size+1,[{ target := .collected w.heap.size,args := #[] }],dr W1 d,{ target := .fn (.func gf) lb,args := #[.func (.yield (w.heap.size+1)) #[] #[]] },dr W1 d,gf,
  #[.func (.yield (w.heap.size+1)) #[] #[]]++lb,dr W1 d,?_,?_,fun _ _=>trivial,?_,fun e=>(nomatch (show false=true from e)),?_⟩
 ·have:=run_enterLoop_outer (P:=P) (w:=dr w d) fn a.tmps ps asg body
  rw [show (Fence.wide).round=none from rfl,this,← hW1,hrec]
  rfl
 ·simp only [resolve,hv]
  simp [go_sem]
 ·exact iP hb _ _
 ·refine callsIn_wide.2 ((hcall d).mono ?_)
  rintro e w3 ⟨v,u,d',rfl,rfl,g',hj⟩
  rw [hJ'] at hj
  obtain ⟨h1,h2,h3,h4,h5⟩:=hj
  have he:=run_endLoop (P:=P) (show (dr u d').heap[w.heap.size+1]?=_ from h2) (by rw [hrec]; simp)
  rw [hrec] at he
  refine ⟨none,_,he,u.putObj (w.heap.size+1) (.loop { rec .ready with state := .exhausted }),d',by rw [hrec]; rfl,?_⟩
  have m4:Mod (fun b=>b=w.heap.size+1) u (u.putObj (w.heap.size+1) (.loop { rec .ready with state := .exhausted })):=Mod.put u _ rfl
  refine hF _ _ (hfin g' w.heap.size _ (hst _ _ _ _ h1 (m4.weak fun b _ hb=>⟨by omega,by omega⟩)) (Nat.le_refl _) ?_ (by omega) ((m4.block _ (lt h3) (by omega)).trans h3))
  have:=m4.size
  omega
end Go.E
namespace Go.E
open Go Go.RowKit
def mvB (o:Oper):Bool:=match o.op with
 | .move _=>match o.guard with
  | none=>o.after.toList.all fun e => !Region.binds .any e
  | some _=>false
 | _=>false
def gU:List Oper→Nat→List Nat
 | [],_=>[]
 | o::l,k=>match mvB o with
  | true=>k::gU l (k+1)
  | false=>gU l (k+1)
def more (I:List Nat) (k:Nat) (o:Oper):Oper:=match mvB o with
 | true=>o
 | false=>{ o with after:=(o.after.toList++(I.filter fun j=>Nat.blt j k).map fun j=>(⟨j,.data⟩:Edge)).toArray }
def uf (I:List Nat):List Oper→Nat→List Oper
 | [],_=>[]
 | o::l,k=>more I k o::uf I l (k+1)
def hoist (ops:Array Oper):Array Oper:=(uf (gU ops.toList 0) ops.toList 0).toArray
def IG (ops:Array Oper):Bool:=Region.noSelect ops&&(gU ops.toList 0).all fun i=>Region.free .any ops (Array.replicate ops.size false) i
def EZ (P:Program) (ops:Array Oper):List Oper→Nat→Bool
 | [],_=>true
 | o::l,k=>match isVal P o with
  | true=>EZ P ops l (k+1)
  | false=>match Vu ops l k with
   | true=>EZ P ops l (k+1)
   | false=>match CS l k with
    | true=>EZ P ops l (k+1)
    | false=>false
theorem AP (I:List Nat) (k:Nat) (o:Oper):(more I k o).dst=o.dst∧(more I k o).op=o.op∧(more I k o).type=o.type∧(more I k o).guard=o.guard∧(∀ ρ,execOp ρ (more I k o)=execOp ρ o):=by
 unfold more
 split
 ·exact ⟨rfl,rfl,rfl,rfl,fun _=>rfl⟩
 ·exact ⟨rfl,rfl,rfl,rfl,fun _=>rfl⟩
theorem yO (I:List Nat):∀ (l:List Oper) (k i:Nat),(uf I l k)[i]?=(l[i]?).map (more I (k+i))
 | [],k,i=>by simp [uf]
 | o::l,k,0=>by simp [uf]
 | o::l,k,i+1=>by
  simp only [uf,List.getElem?_cons_succ]
  rw [yO I l (k+1) i,show k+1+i=k+(i+1) by omega]
theorem qG (ops:Array Oper) (i:Nat):(hoist ops)[i]?=(ops[i]?).map (more (gU ops.toList 0) i):=by
 unfold hoist
 rw [List.getElem?_toArray,yO,Nat.zero_add,Array.getElem?_toList]
theorem xN (I:List Nat):∀ (l:List Oper) (k:Nat),(uf I l k).length=l.length
 | [],_=>rfl
 | o::l,k=>by simp [uf,xN I l]
theorem yN (ops:Array Oper):(hoist ops).size=ops.size:=by simp [hoist,xN]
theorem lG:∀ {l:List Oper} {k i:Nat},i∈gU l k→k≤i∧∃ o,l[i - k]?=some o∧mvB o=true
 | [],_,_,h=>by cases h
 | o::l,k,i,h=>by
  unfold gU at h
  have tl:i∈gU l (k+1)→k≤i∧∃ o',(o::l)[i - k]?=some o'∧mvB o'=true:=fun h=>by
   obtain ⟨h1,o',h2,h3⟩:=lG h
   refine ⟨by omega,o',?_,h3⟩
   rw [show i - k=(i - (k+1))+1 by omega,List.getElem?_cons_succ]
   exact h2
  split at h
  ·rename_i hm
   rcases List.mem_cons.1 h with e | h
   ·subst e; exact ⟨Nat.le_refl _,o,by simp,hm⟩
   ·exact tl h
  ·exact tl h
theorem kZ:∀ (l:List Oper) (k:Nat),(gU l k).Nodup
 | [],_=>List.nodup_nil
 | o::l,k=>by
  unfold gU
  split
  ·refine List.nodup_cons.2 ⟨fun h=>?_,kZ l (k+1)⟩
   have:=(lG h).1
   omega
  ·exact kZ l (k+1)
section
variable {P:Program} {ops:Array Oper} {Q:Exit→Act→World→Prop}
theorem zD (ops:Array Oper) (t:Array Value):yielded (hoist ops) t=yielded ops t:=by
 funext j
 unfold yielded
 have:((hoist ops)[j]?).bind (·.dst)=(ops[j]?).bind (·.dst):=by
  rw [qG]
  cases ops[j]? with
  | none=>rfl
  | some o=>simp [(AP (gU ops.toList 0) j o).1]
 rw [this]
theorem xK {i:Nat} {K:Act→World→Prop} {a:Act} {w:World}:wpOp P (hoist ops) Q i K a w=wpOp P ops Q i K a w:=by
 unfold wpOp
 rw [qG,zD]
 cases ops[i]? with
 | none=>rfl
 | some o =>
  obtain ⟨h1,h2,h3,h4,h5⟩:=AP (gU ops.toList 0) i o
  simp only [Option.map_some]
  have e1:Region.wanted (more (gU ops.toList 0) i o) (yielded ops a.tmps)=Region.wanted o (yielded ops a.tmps):=by unfold Region.wanted; rw [h4]
  have e2:(more (gU ops.toList 0) i o).wp P a w K Q=o.wp P a w K Q:=by
   unfold Oper.wp
   rw [h5]
   unfold Oper.upon
   rw [h1]
  have e3:(more (gU ops.toList 0) i o).asks P a w=o.asks P a w:=by unfold Oper.asks; rw [h5]
  rw [e1,e2,e3,h1]
theorem vO {listed:Array Bool} (h:∀ i∈gU ops.toList 0,listed.getD i false=true):Region.ready .any (hoist ops) listed=Region.ready .any ops listed:=by
 unfold Region.ready
 rw [yN]
 refine List.filter_congr fun i _=>?_
 rw [qG]
 cases ops[i]? with
 | none=>rfl
 | some o =>
  simp only [Option.map_some,Option.getD_some]
  congr 1
  unfold more
  split
  ·rfl
  ·simp only [← Array.all_toList,List.all_append]
   rw [show (((gU ops.toList 0).filter fun j=>Nat.blt j i).map fun j=>(⟨j,.data⟩:Edge)).all (fun e => !Region.binds .any e||listed.getD e.on false)=true from by
    rw [List.all_eq_true]
    intro e he
    obtain ⟨j,hj,rfl⟩:=List.mem_map.1 he
    have:=h j (List.mem_filter.1 hj).1
    simp only [this,Bool.or_true]]
   simp
theorem xO:∀ (fuel:Nat) (listed:Array Bool) (a:Act) (w:World),(∀ i∈gU ops.toList 0,listed.getD i false=true)→wpAny P .any (hoist ops) Q fuel listed a w→wpAny P .any ops Q fuel listed a w
 | 0,listed,a,w,hI,h=>by
  unfold wpAny at h ⊢
  rw [vO hI] at h
  exact h
 | fuel+1,listed,a,w,hI,h=>by
  unfold wpAny at h ⊢
  rw [vO hI] at h
  refine ⟨h.1,fun i hi=>?_⟩
  have h2:=h.2 i hi
  rw [xK] at h2
  exact wpOp_mono (fun a w hK=>xO fuel _ a w (fun j hj=>getD_set_true (hI j hj)) hK) h2
theorem JW {i:Nat} {oi:Oper} {l0:Array Bool} (hi:ops[i]?=some oi) (h:Region.free .any ops (Array.replicate ops.size false) i=true):Region.free .any ops l0 i=true:=by
 unfold Region.free at h ⊢
 rw [hi] at h ⊢
 simp only [List.all_eq_true,List.mem_range] at h ⊢
 intro j hj
 have:=h j hj
 rw [Array.getD_eq_getD_getElem?,Array.getElem?_replicate,if_pos hj] at this
 simp only [Option.getD_some,Bool.or_false] at this
 cases hl:l0.getD j true with
 | true=>simp
 | false=>simpa using this
theorem BR (hs:Region.noSelect ops=true) (hf:∀ i∈gU ops.toList 0,Region.free .any ops (Array.replicate ops.size false) i=true) (hQ:∀ e a w,Q e a w→e = .normal) :
  ∀ (J:List Nat) (f:Nat) (listed:Array Bool) (a:Act) (w:World),(∀ i∈J,i∈gU ops.toList 0)→J.Nodup→listed.size=ops.size→(∀ i∈J,listed.getD i true=false) →
   (∀ i∈gU ops.toList 0,i∉J→listed.getD i false=true)→wpAny P .any (hoist ops) Q (f+J.length) listed a w→wpAny P .any ops Q (f+J.length) listed a w
 | [],f,listed,a,w,_,_,_,_,hd,h=>xO _ _ _ _ (fun i hi=>hd i hi (by simp)) h
 | i::J,f,listed,a,w,hJ,hnd,hsz,hun,hd,h=>by
  rw [show f+(i::J).length=(f+J.length)+1 by simp; omega] at h ⊢
  obtain ⟨_,o,ho,hm⟩:=lG (hJ i (by simp))
  simp only [Nat.sub_zero,Array.getElem?_toList] at ho
  have hop:∃ x,o.op = .move x∧o.guard=none∧∀ e∈o.after,Region.binds .any e=false:=by
   unfold mvB at hm
   split at hm
   ·rename_i x hx
    split at hm
    ·rename_i hg
     refine ⟨x,hx,hg,fun e he=>?_⟩
     have:=List.all_eq_true.1 hm e (by simpa using he)
     simpa using this
    ·cases hm
   ·cases hm
  obtain ⟨x,hx,hg,hedge⟩:=hop
  have hwant:∀ y,Region.wanted o y=true:=fun y=>by unfold Region.wanted; rw [hg]
  have hrun:∀ w,(execOp a.eval o).run P w = .ok (.value (a.eval x)) w:=fun w=>by unfold execOp; simp only [hx]; rfl
  have hready:i∈Region.ready .any ops listed:=mem_ready.2 ⟨hun i (by simp),o,ho,fun e he hb=>by rw [hedge e he] at hb; cases hb⟩
  have hmore:more (gU ops.toList 0) i o=o:=by unfold more; rw [hm]
  have hready':i∈Region.ready .any (hoist ops) listed:=mem_ready.2 ⟨hun i (by simp),o,by rw [qG,ho]; simp [hmore],fun e he hb=>by rw [hedge e he] at hb; cases hb⟩
  have hnlo:¬ LetsOut Q:=fun ⟨a,w,h⟩=>by have:=hQ _ _ _ h; cases this
  unfold wpAny at h
  have h2:=h.2 i hready'
  rw [xK] at h2
  unfold wpOp at h2
  rw [ho] at h2
  simp only [hwant,if_true] at h2
  have h3:wpAny P .any (hoist ops) Q (f+J.length) (listed.setIfInBounds i true) (a.put o.dst (a.eval x)) w:=by
   rcases h2 with h2 | h2
   ·unfold Oper.wp at h2
    rw [hrun] at h2
    exact h2
   ·exact absurd h2.2 hnlo
  have hil:i<listed.size:=by rw [hsz]; exact (Array.getElem?_eq_some_iff.1 ho).1
  have h4:=BR hs hf hQ J f (listed.setIfInBounds i true) _ w (fun j hj=>hJ j (by simp [hj])) (List.nodup_cons.1 hnd).2 (by simpa using hsz) (fun j hj=>by
    have hij:i≠j:=fun e=>(List.nodup_cons.1 hnd).1 (e ▸ hj)
    rw [getD_set_ne true hij]
    exact hun j (by simp [hj]))
   (fun j hj hnj=>by
    by_cases hij:i=j
    ·subst hij
     rw [Array.getD_eq_getD_getElem?,Array.getElem?_setIfInBounds_self_of_lt hil]
     rfl
    ·exact getD_set_true (hd j hj (by simp [hnj,Ne.symm hij]))) h3
  exact wpAny_take ho hs (JW ho (hf i (hJ i (by simp)))) (by simpa using hready) (fun c a w h=>by have:=hQ _ _ _ h; cases this) (.inl ⟨hwant _,hrun⟩) h4
end
theorem wz {P:Program} {ops:Array Oper} {Q':Exit→Act→World→Prop}:∀ (fuel:Nat) (listed:Array Bool) (a:Act) (w:World),wpAny P .any ops (fun e a w=>e = .normal∧Q' .normal a w) fuel listed a w→wpAny P .any ops Q' fuel listed a w
 | 0,_,_,_,h=>⟨h.1,h.2.2⟩
 | fuel+1,listed,a,w,h=>by
  refine ⟨fun h0=>(h.1 h0).2,fun i hi=>?_⟩
  have h2:=wpOp_mono (fun a w hK=>wz fuel _ a w hK) (h.2 i hi)
  have no:¬ LetsOut fun e a w=>e = .normal∧Q' .normal a w:=fun ⟨a,w,h,_⟩=>by cases h
  unfold wpOp at h2 ⊢
  split
  ·rename_i ho; rw [ho] at h2; exact h2
  ·rename_i o ho
   rw [ho] at h2
   simp only at h2
   split
   ·rename_i hw
    rw [if_pos hw] at h2
    rcases h2 with h2 | h2
    ·left
     unfold Oper.wp at h2 ⊢
     generalize (execOp a.eval o).run P w=r at *
     cases r with
     | ok n w' =>
      cases n <;> simp only [Oper.upon] at h2 ⊢ <;> first
       | exact h2
       | exact Calls.mono h2 (fun e w'' he=>by cases e <;> first | exact he | exact absurd he no | (exact absurd he.1 (by simp)))
     | halt x w'=>cases x <;> simp only [Oper.upon] at h2 ⊢ <;> first | exact h2 | exact absurd h2.1 (by simp)
    ·exact absurd h2.2 no
   ·rename_i hw
    rw [if_neg hw] at h2
    exact h2
theorem QY {P:Program} {id:Nat} {ops:Array Oper} {Q:Act→World→Prop} {Q':Exit→Act→World→Prop} {a:Act} {w:World} (hm:P.follows .mixedOrders=true) (hd:P.types.size+Made.depth≠0)
  (hh:IG ops=true) (hok:Region.lexTailB .any (hoist ops) (vM (hoist ops).toList)=true) (hq:∀ a u d,Q a u→Q' .normal a (dr u d)) (h:Sz P (hoist ops) Q a w) (d:Nat):(Code.region id ops true).wp P Q' a (dr w d):=by
 unfold IG at hh
 rw [Bool.and_eq_true,List.all_eq_true] at hh
 have h1:=FH (Q':=fun e a w=>e = .normal∧Q' .normal a w) hd hok (fun a u d hh=>⟨rfl,hq a u d hh⟩) h d
 refine wp_region_any hm ?_
 rw [yN] at h1
 have hlen:(gU ops.toList 0).length≤ops.size:=by
  have:(gU ops.toList 0) ⊆ List.range ops.size:=fun i hi=>by
   obtain ⟨_,o,ho,_⟩:=lG hi
   simp only [Nat.sub_zero,Array.getElem?_toList] at ho
   exact List.mem_range.2 (Array.getElem?_eq_some_iff.1 ho).1
  have:=(kZ ops.toList 0).length_le_of_subset this
  simpa using this
 have hfalse:∀ (i:Nat) (b:Bool),i∈gU ops.toList 0→(Array.replicate ops.size false).getD i b=false:=fun i b hi=>by
  obtain ⟨_,o,ho,_⟩:=lG hi
  simp only [Nat.sub_zero,Array.getElem?_toList] at ho
  rw [Array.getD_eq_getD_getElem?,Array.getElem?_replicate,if_pos (Array.getElem?_eq_some_iff.1 ho).1]
  rfl
 obtain ⟨f,hf⟩:∃ f,ops.size=f+(gU ops.toList 0).length:=⟨ops.size - (gU ops.toList 0).length,by omega⟩
 have h2:=BR (ops:=ops) (P:=P) (Q:=fun e a w=>e = .normal∧Q' .normal a w) hh.1 hh.2 (fun e a w hq=>hq.1) (gU ops.toList 0) f (Array.replicate ops.size false) a _ (fun i hi=>hi) (kZ _ _) (by simp) (fun i hi=>hfalse i true hi) (fun i hi hn=>absurd hi hn) (by rw [← hf]; exact h1)
 rw [← hf] at h2
 exact wz _ _ _ _ h2
end Go.E
namespace Go.E
open Go Go.RowKit
structure D9 (wm w0:World) (C:World→Prop) (Le:World→World→Prop) (Φ:Nat→Value→World→Prop):Prop where
 ck:∀ u,C u→CK wm u
 start:C w0
 dr:∀ u d,Le u (dr u d)
 tr:∀ u u' u'',Le u u'→Le u' u''→Le u u''
 cls:∀ u u',C u→Le u u'→C u'
 st:∀ i v u u',C u→Φ i v u→Le u u'→Φ i v u'
def erG (P:Program) (ρ:Operand→Value) (o:Oper) (C:World→Prop) (Le:World→World→Prop) (hy:World→Prop→Prop) (Φk:Value→World→Prop) (K:Value→Prop):Prop :=
 match o.op with
 | .call c=>match c.callee with
  | .builtin .append =>
    (∀ u,C u→hy u (dm P (Builtin.append_ c.argTypes o.type (c.args.map ρ)) u fun v u'=>fU P o.type fun v'=>v=v'∧Φk v' u'∧Le u u')) ∧
    I7 P o.type fun v=>(∃ u,C u∧Φk v u)→K v
  | _=>False
 | .lookup t m k ok =>
   (∀ u,C u→hy u (dm P (Instr.lookup t (ρ m) (ρ k) ok) u fun v u'=>fU P o.type fun v'=>v=v'∧Φk v' u'∧Le u u')) ∧
   I7 P o.type fun v=>(∃ u,C u∧Φk v u)→K v
 | .mapEntry t m k =>
   (∀ u,C u→hy u (dm P (Instr.mapEntry t (ρ m) (ρ k)) u fun v u'=>∃ (x:Value) (s:Int),v = .tuple #[x,.int .i64 s]∧Φk (.tuple #[x,.int .i64 s]) u'∧Le u u')) ∧
   ∀ (x:Value) (s:Int),(∃ u,C u∧Φk (.tuple #[x,.int .i64 s]) u)→K (.tuple #[x,.int .i64 s])
 | .buildSlice t len parts=>bK (Tu P t len (partsOf ρ parts)) fun ec =>
   (∀ u,C u→hy u (Φk (.slice (some ⟨u.heap.size,0,none⟩) len len) (u.alloc (.cells ec.2 ec.1))∧Le u (u.alloc (.cells ec.2 ec.1)))) ∧
   ∀ p:Addr,(∃ u,C u∧Φk (.slice (some p) len len) u)→K (.slice (some p) len len)
 | _=>False
def xw (P:Program) (ops:Array Oper) (i:Nat) (v:Value):Prop:=match ops[i]? with
 | none=>False
 | some o=>match o.op with
  | .call _=>fU P o.type fun v'=>v=v'
  | .lookup .. => fU P o.type fun v'=>v=v'
  | .mapEntry .. => ∃ (x:Value) (s:Int),v = .tuple #[x,.int .i64 s]
  | .buildSlice _ len _=>∃ p,v = .slice (some p) len len
  | _=>False
def OY (P:Program) (ops:Array Oper) (wm:World) (C:World→Prop) (Le:World→World→Prop) (Φ:Nat→Value→World→Prop) (Q:Act→World→Prop):List Oper→Nat→List (List Nat)→List Nat→jP→Act→Prop
 | [],_,_,done,vals,a=>∀ u,C u→hyps Φ vals u done (Q a u)
 | o::rest,k,T,done,vals,a =>
  (fun (run:Act→Prop)=>match o.guard with
   | none=>run a
   | some (j,want)=>uq ops a j want run (fun a=>OY P ops wm C Le Φ Q rest (k+1) (T++[Cb P k o (jK T o)]) done vals (a.put o.dst undef)))
  (fun a=>match isVal P o with
   | true=>Aq P a.eval o wm fun v=>OY P ops wm C Le Φ Q rest (k+1) (T++[Cb P k o (jK T o)]) done vals (a.put o.dst v)
   | false=>erG P a.eval o C Le (fun u=>hyps Φ vals u (jK T o)) (Φ k) fun v=>OY P ops wm C Le Φ Q rest (k+1) (T++[Cb P k o (jK T o)]) (done++[k]) (up vals k v) (a.put o.dst v))
def I9 (P:Program) (ops:Array Oper) (Φ:Nat→Value→World→Prop) (i:Nat) (v:Value) (u:World):Prop:=xw P ops i v∧Φ i v u
theorem NV {P:Program} {ops:Array Oper} {k:Nat} {o:Oper} {wm w0:World} {C:World→Prop} {Le:World→World→Prop} {Φ:Nat→Value→World→Prop} {a:Act} {hy:World→Prop→Prop} {K:Value→Prop} {vals:jP} (L:D9 wm w0 C Le Φ)
  (ho:ops[k]?=some o) (hhy:∀ u,(∀ j,Anc ops .any j k→∀ v,vals j=some v→I9 P ops Φ j v u)→∀ K,hy u K→K) (h:erG P a.eval o C Le hy (Φ k) K) :
  GG P ops .any C Le (I9 P ops Φ) o k vals a∧∀ v,(∃ u,C u∧I9 P ops Φ k v u)→K v:=by
 have st':∀ v u u' d,C u→Le u u'→Φ k v u'→Φ k v (dr u' d):=fun v u u' d hC hL hP=>L.st _ _ _ _ (L.cls _ _ hC hL) hP (L.dr _ _)
 obtain ⟨dst,op,ty,pos,after,guard⟩:=o
 have hall:(∀ w:Value,xw P ops k w=fU P ty fun v'=>w=v')→∀ {K:Value→Prop},(I7 P ty fun v=>(∃ u,C u∧Φ k v u)→K v)→∀ v,(∃ u,C u∧I9 P ops Φ k v u)→K v:=by
  intro hsh K h v ⟨u,hC,hs,hP⟩
  rw [hsh] at hs
  obtain ⟨v',rfl,hK⟩:=qR hs h
  exact hK ⟨u,hC,hP⟩
 unfold erG at h
 cases op <;> simp only at h <;> first | exact h.elim | skip
 case call c =>
  obtain ⟨callee,args,ats⟩:=c
  have hsh:∀ w:Value,xw P ops k w=fU P ty fun v'=>w=v':=fun w=>by unfold xw; rw [ho]
  cases callee with
  | value fo=>exact h.elim
  | invoke r name=>exact h.elim
  | builtin b =>
   cases b <;> simp only at h <;> first | exact h.elim | skip
   refine ⟨fun u hC hF=>?_,hall hsh h.2⟩
   obtain ⟨v,u',d',hr,hs⟩:=hhy u hF _ (h.1 u hC) u.drawn
   rw [jk] at hr
   have hrun:(execOp a.eval ⟨dst,.call ⟨.builtin .append,args,ats⟩,ty,pos,after,guard⟩).run P u = .ok (.value v) (dr u' d'):=by
    rw [show execOp a.eval ⟨dst,.call ⟨.builtin .append,args,ats⟩,ty,pos,after,guard⟩=(do pure (.value (← Builtin.append_ ats ty (args.map a.eval)))) from rfl,run_bind' P _ _ _ _ _ hr]
    rfl
   rw [hrun]
   obtain ⟨v',rfl,hP,hB⟩:=iM hs
   exact ⟨⟨(hsh v).symm ▸ kJ hs fun v' h=>h.1,st' _ _ _ _ hC hB hP⟩,L.tr _ _ _ hB (L.dr _ _)⟩
 case lookup t m ko ok =>
  have hsh:∀ w:Value,xw P ops k w=fU P ty fun v'=>w=v':=fun w=>by unfold xw; rw [ho]
  refine ⟨fun u hC hF=>?_,hall hsh h.2⟩
  obtain ⟨v,u',d',hr,hs⟩:=hhy u hF _ (h.1 u hC) u.drawn
  rw [jk] at hr
  have hrun:(execOp a.eval ⟨dst,.lookup t m ko ok,ty,pos,after,guard⟩).run P u = .ok (.value v) (dr u' d'):=by
   rw [show execOp a.eval ⟨dst,.lookup t m ko ok,ty,pos,after,guard⟩=(do pure (.value (← Instr.lookup t (a.eval m) (a.eval ko) ok))) from rfl,run_bind' P _ _ _ _ _ hr]
   rfl
  rw [hrun]
  obtain ⟨v',rfl,hP,hB⟩:=iM hs
  exact ⟨⟨(hsh v).symm ▸ kJ hs fun v' h=>h.1,st' _ _ _ _ hC hB hP⟩,L.tr _ _ _ hB (L.dr _ _)⟩
 case mapEntry t m ko =>
  refine ⟨fun u hC hF=>?_,fun v ⟨u,hC,hs,hP⟩=>?_⟩
  ·obtain ⟨v,u',d',hr,x,s,rfl,hP,hB⟩:=hhy u hF _ (h.1 u hC) u.drawn
   rw [jk] at hr
   have hrun:(execOp a.eval ⟨dst,.mapEntry t m ko,ty,pos,after,guard⟩).run P u = .ok (.value (.tuple #[x,.int .i64 s])) (dr u' d'):=by
    rw [show execOp a.eval ⟨dst,.mapEntry t m ko,ty,pos,after,guard⟩=(do pure (.value (← Instr.mapEntry t (a.eval m) (a.eval ko)))) from rfl,run_bind' P _ _ _ _ _ hr]
    rfl
   rw [hrun]
   exact ⟨⟨by unfold xw; rw [ho]; exact ⟨_,_,rfl⟩,st' _ _ _ _ hC hB hP⟩,L.tr _ _ _ hB (L.dr _ _)⟩
  ·unfold xw at hs
   rw [ho] at hs
   obtain ⟨x,s,rfl⟩:=hs
   exact h.2 x s ⟨u,hC,hP⟩
 case buildSlice t len parts =>
  obtain ⟨⟨e,cs⟩,hc,h1,h2⟩:=fD h
  refine ⟨fun u hC hF=>?_,fun v ⟨u,hC,hs,hP⟩=>?_⟩
  ·have hfact:=hhy u hF _ (h1 u hC)
   have hrun:(execOp a.eval ⟨dst,.buildSlice t len parts,ty,pos,after,guard⟩).run P u = .ok (.value (.slice (some ⟨u.heap.size,0,none⟩) len len)) (u.alloc (.cells cs e)):=by
    have:=yU hc u u.drawn
    rw [jk] at this
    show ((do pure (.value (← Instr.buildSlice t len (parts.map fun (i,x)=>(i,a.eval x)))):Sem Next)).run P u=_
    rw [run_bind' P _ _ _ _ _ this]
    rfl
   rw [hrun]
   exact ⟨⟨by unfold xw; rw [ho]; exact ⟨_,rfl⟩,hfact.1⟩,hfact.2⟩
  ·unfold xw at hs
   rw [ho] at hs
   obtain ⟨p,rfl⟩:=hs
   exact h2 p ⟨u,hC,hP⟩
theorem qO {P:Program} {ops:Array Oper} {wm w0:World} {C:World→Prop} {Le:World→World→Prop} {Φ:Nat→Value→World→Prop} {Q:Act→World→Prop} (L:D9 wm w0 C Le Φ) :
  ∀ (l:List Oper) (k:Nat) (T:List (List Nat)) (done:List Nat) (vals:jP) (a:Act),(∀ j,j<l.length→l[j]?=ops[k+j]?)→T.length=k→(∀ p j,j∈T.getD p []→j=p∨Anc ops .any j p) →
  OY P ops wm C Le Φ Q l k T done vals a→Au P ops .any C Le (I9 P ops Φ) (isVal P) (fun vals a=>∀ u,C u→Facts (I9 P ops Φ) vals u→Q a u) l k vals a
 | [],_,_,done,vals,a,_,_,_,h=>fun u hC hF=>jI (h u hC) fun j _ v hv=>(hF j v hv).2
 | o::rest,k,T,done,vals,a,hl,hT,hA,h=>by
  have h0:ops[k]?=some o:=by simpa using (hl 0 (by simp)).symm
  have hl':∀ j,j<rest.length→rest[j]?=ops[k+1+j]?:=fun j hj=>by have:=hl (j+1) (by simp; omega); simpa [Nat.add_assoc,Nat.add_comm 1 j] using this
  have hanc:∀ j,j∈jK T o→Anc ops .any j k:=by
   intro j hj
   rcases qZ hj with ⟨e,he,hb,hm⟩ | hj
   ·rcases hA _ _ hm with h | h
    ·subst h; exact .base h0 (by simpa using he) hb
    ·exact .step h0 (by simpa using he) hb h
   ·cases hj
  have hT':(T++[Cb P k o (jK T o)]).length=k+1:=by simp [hT]
  have hA':∀ p j,j∈(T++[Cb P k o (jK T o)]).getD p []→j=p∨Anc ops .any j p:=by
   intro p j hj
   by_cases hp:p<T.length
   ·rw [List.getD_eq_getElem?_getD,List.getElem?_append_left hp,← List.getD_eq_getElem?_getD] at hj
    exact hA p j hj
   ·rw [List.getD_eq_getElem?_getD,List.getElem?_append_right (by omega)] at hj
    by_cases hpk:p=k
    ·subst hpk
     rw [hT,Nat.sub_self] at hj
     simp only [List.getElem?_cons_zero,Option.getD_some] at hj
     unfold Cb at hj
     split at hj
     ·exact .inr (hanc j hj)
     ·rcases vg hj with h | h
      ·exact .inl h
      ·exact .inr (hanc j h)
    ·rw [List.getElem?_eq_none (by simp; omega)] at hj
     cases hj
  have run:∀ a:Act,(match isVal P o with
    | true=>Aq P a.eval o wm fun v=>OY P ops wm C Le Φ Q rest (k+1) (T++[Cb P k o (jK T o)]) done vals (a.put o.dst v)
    | false=>erG P a.eval o C Le (fun u=>hyps Φ vals u (jK T o)) (Φ k) fun v=>OY P ops wm C Le Φ Q rest (k+1) (T++[Cb P k o (jK T o)]) (done++[k]) (up vals k v) (a.put o.dst v)) →
    CG P ops .any C Le (I9 P ops Φ) (isVal P) o k (Au P ops .any C Le (I9 P ops Φ) (isVal P) (fun vals a=>∀ u,C u→Facts (I9 P ops Φ) vals u→Q a u) rest (k+1)) vals a:=by
   intro a h
   unfold CG
   split
   ·rename_i hv
    rw [hv] at h
    obtain ⟨v,hr,hK⟩:=ji (fun _=>rfl) h
    exact ⟨v,fun u hC=>hr ⟨u,L.ck _ hC⟩,qO L rest (k+1) _ _ _ _ hl' hT' hA' hK⟩
   ·rename_i hv
    rw [hv] at h
    obtain ⟨h1,h2⟩:=NV (ops:=ops) (vals:=vals) L h0 (fun u hF K hh=>jI hh fun j hj v hv=>(hF j (hanc j hj) v hv).2) h
    exact ⟨h1,fun v ⟨u,hC,hF⟩=>qO L rest (k+1) _ _ _ _ hl' hT' hA' (h2 v ⟨u,hC,hF k v (l7 _ _ _)⟩)⟩
  unfold OY at h
  unfold Au
  simp only at h
  split at h
  ·rename_i hg
   have hw:Region.wanted o (yielded ops a.tmps)=true:=by unfold Region.wanted; rw [hg]
   rw [if_pos hw]
   exact run a h
  ·rename_i j want hg
   obtain ⟨r,hr,h⟩:=iD h
   have hw:=hr o hg
   rw [hw]
   split at h
   ·rename_i hb
    rw [if_pos (by simpa using hb)]
    exact run a h
   ·rename_i hb
    rw [if_neg (by simpa using hb)]
    exact qO L rest (k+1) _ _ _ _ hl' hT' hA' h
def DC:List Oper→Nat
 | []=>0
 | o::l=>match o.op with
  | .store .. => 0
  | .mapUpdate .. => 0
  | .entryStore .. => 0
  | _=>DC l+1
def Tj:List Oper→Bool
 | []=>false
 | o::l=>match o.op with
  | .mapUpdate .. => true
  | .entryStore .. => true
  | _=>Tj l
def Ws (P:Program) (ops:Array Oper) (Q:Act→World→Prop) (a:Act) (w0:World):Prop :=
 ∃ (wm:World) (C:World→Prop) (Le:World→World→Prop) (Φ:Nat→Value→World→Prop),D9 wm w0 C Le Φ ∧
  OY P ops wm C Le Φ (fun a u=>CB P ops Q (ops.toList.drop (DC ops.toList)) a u) (ops.toList.take (DC ops.toList)) 0 [] [] (fun _=>none) a
theorem Qh {P:Program} {id:Nat} {ops:Array Oper} {Q:Act→World→Prop} {Q':Exit→Act→World→Prop} {a:Act} {w:World} (hm:P.follows .mixedOrders=true) (hd:P.types.size+Made.depth≠0)
  (hok:Region.lexTailB .any ops (DC ops.toList)=true) (hq:∀ a u d,Q a u→Q' .normal a (dr u d)) (h:Ws P ops Q a w) (d:Nat):(Code.region id ops true).wp P Q' a (dr w d):=by
 obtain ⟨wm,C,Le,Φ,L,h⟩:=h
 have W:iO C Le (I9 P ops Φ):=⟨L.cls,fun i v u u' hC hP hL=>⟨hP.1,L.st _ _ _ _ hC hP.2 hL⟩⟩
 refine xE (isV:=isVal P) (DC ops.toList) W hm hok (L.cls _ _ L.start (L.dr _ _)) ?_
 have h2:=qO (ops:=ops) L (ops.toList.take (DC ops.toList)) 0 [] [] (fun _=>none) a (fun j hj=>by
  rw [List.getElem?_take,if_pos (by simp at hj; omega)]; simp) rfl (fun p j hj=>by simp at hj) h
 have mono:∀ (l:List Oper) (k:Nat) (vals:jP) (a:Act) {G G':jP→Act→Prop},(∀ vals a,G vals a→G' vals a)→Au P ops .any C Le (I9 P ops Φ) (isVal P) G l k vals a→Au P ops .any C Le (I9 P ops Φ) (isVal P) G' l k vals a:=by
  intro l
  induction l with
  | nil=>intro k vals a G G' hG hh; exact hG _ _ hh
  | cons o l ih =>
   intro k vals a G G' hG hh
   unfold Au at hh ⊢
   split
   ·rename_i hw
    rw [if_pos hw] at hh
    unfold CG at hh ⊢
    split
    ·rename_i hv; rw [hv] at hh; obtain ⟨v,h1,h2⟩:=hh; exact ⟨v,h1,ih _ _ _ hG h2⟩
    ·rename_i hv; rw [hv] at hh; exact ⟨hh.1,fun v hp=>ih _ _ _ hG (hh.2 v hp)⟩
   ·rename_i hw
    rw [if_neg hw] at hh
    exact ih _ _ _ hG hh
 refine mono _ _ _ _ (fun vals a hG u hC hF=>?_) h2
 have:=kP hd hq _ _ _ (hG u hC hF) u.drawn
 rwa [jk] at this
end Go.E
namespace Go.E
open Go Go.RowKit
inductive An where
 | nil
 | mk (keep:Option (List Nat)) (x y:An)
def An.fst:An→An
 | .nil => .nil
 | .mk _ x _=>x
def An.snd:An→An
 | .nil => .nil
 | .mk _ _ y=>y
def An.keep:An→Option (List Nat)
 | .nil=>none
 | .mk k _ _=>k
def GZ (g:Nat→Value):List Nat→Nat→List Value→List Value
 | _,_,[]=>[]
 | [],i,_::vs=>g i::GZ g [] (i+1) vs
 | l::ls,i,v::vs=>match Nat.beq i l with
  | true=>v::GZ g ls (i+1) vs
  | false=>g i::GZ g (l::ls) (i+1) vs
def mix (L:List Nat) (g:Nat→Value) (a:Act):Act:=⟨(GZ g L 0 a.tmps.toList).toArray,a.defers⟩
def clr (L:List Nat) (a:Act):Act:=mix L (fun _=>undef) a
theorem kC {g h:Nat→Value}:∀ (vs:List Value) (L:List Nat) (i:Nat),(∀ j,i≤j→g j=h j)→GZ g L i vs=GZ h L i vs
 | [],L,i,_=>by cases L <;> rfl
 | v::vs,[],i,hg=>by
  simp only [GZ]
  rw [hg i (Nat.le_refl _),kC vs [] (i+1) (fun j hj=>hg j (by omega))]
 | v::vs,l::ls,i,hg=>by
  simp only [GZ]
  rw [hg i (Nat.le_refl _),kC vs ls (i+1) (fun j hj=>hg j (by omega)),kC vs (l::ls) (i+1) (fun j hj=>hg j (by omega))]
theorem qM (h:Nat→Value):∀ (vs:List Value) (L:List Nat) (i:Nat),GZ (fun j=>vs.getD (j - i) undef) L i (GZ h L i vs)=vs
 | [],L,i=>by cases L <;> rfl
 | v::vs,L,i=>by
  have hc:∀ j,i+1≤j→(v::vs).getD (j - i) undef=vs.getD (j - (i+1)) undef:=by
   intro j hj
   rw [show j - i=(j - (i+1))+1 by omega]
   rfl
  cases L with
  | nil =>
   simp only [GZ,Nat.sub_self,List.getD_cons_zero,List.cons.injEq,true_and]
   rw [kC _ _ _ hc]
   exact qM h vs [] (i+1)
  | cons l ls =>
   cases hb:Nat.beq i l with
   | true =>
    simp only [GZ,hb]
    rw [kC _ _ _ hc,qM h vs ls (i+1)]
   | false =>
    simp only [GZ,hb,Nat.sub_self,List.getD_cons_zero]
    rw [kC _ _ _ hc,qM h vs (l::ls) (i+1)]
theorem EE (L:List Nat) (a:Act):∃ g,mix L g (clr L a)=a:=by
 obtain ⟨⟨tm⟩,df⟩:=a
 exact ⟨_,by
  unfold mix clr mix
  simp only
  congr 1
  exact congrArg List.toArray (qM (fun _=>undef) tm L 0)⟩
def jS (o:Option (List Nat)) (F:Act→World→Prop) (a:Act) (w:World):Prop:=match o with
 | none=>F a w
 | some L=>(fun a0=>∀ g:Nat→Value,F (mix L g a0) w) (clr L a)
theorem CQ {o:Option (List Nat)} {F:Act→World→Prop} {a:Act} {w:World} (h:jS o F a w):F a w:=by
 cases o with
 | none=>exact h
 | some L =>
  obtain ⟨g,hg⟩:=EE L a
  have:=h g
  rwa [hg] at this
def aZ (L:List Nat) (body:(Exit→Act→World→Prop)→Act→World→Prop) (Q:Exit→Act→World→Prop):Nat→Act→World→Prop
 | 0,_,_=>False
 | k+1,a,w=>∀ g:Nat→Value,body (Exit.then (fun a w=>aZ L body Q k (clr L a) w) Q) (mix L g a) w
def rq (P:Program):Code→An→(Exit→Act→World→Prop)→Act→World→Prop
  | .skip,_,Q,a,w=>Q .normal a w
  | .region _ ops false,_,Q,a,w=>Qr P ops (Q .normal) ops.toList a w
  | .region _ ops true,_,Q,a,w=>match PH P ops true with
    | true=>CB P ops (Q .normal) ops.toList a w
    | false=>match Region.lexTailB .any ops (vM ops.toList) with
     | true=>Sz P ops (Q .normal) a w
     | false=>match Region.lexB .any ops with
      | true=>match Ul ops.toList with
       | true=>match EZ P ops ops.toList 0 with
        | true=>Wu P ops (Q .normal) a w
        | false=>match IG ops&&Region.lexTailB .any (hoist ops) (vM (hoist ops).toList) with
         | true=>Sz P (hoist ops) (Q .normal) a w
         | false=>False
       | false=>match Tj ops.toList&&Region.lexTailB .any ops (DC ops.toList) with
        | true=>Ws P ops (Q .normal) a w
        | false=>match QH P ops.toList with
         | true=>Om P ops w (Q .normal) ops.toList a
         | false=>WG P ops (Q .normal) a w
      | false=>False
  | .seq x y,n,Q,a,w=>rq P x n.fst (Exit.then (jS n.keep (rq P y n.snd Q)) Q) a w
  | .cond c x y,n,Q,a,w=>match a.eval c with
    | .bool b=>af b (rq P x n.fst Q a w) (rq P y n.snd Q a w)
    | _=>False
  | .block id c,n,Q,a,w=>rq P c n.fst (Exit.inBlock id Q) a w
  | .loop c,n,Q,a,w=>∃ k,aZ (n.keep.getD []) (rq P c n.fst) Q k (clr (n.keep.getD []) a) w
  | .exit id,_,Q,a,w=>Q (.exit id) a w
  | .ret,_,Q,a,w=>Q .ret a w
  | .rangeFunc g ps asg body,_,Q,a,w=>match Nat.beq ps.size 2 with
    | true=>JJ P (a.eval g) w (fun x y u K=>match UK asg { tmps:=(ps.zip #[.int .i64 x,.int .i64 y]).foldl (fun t (p,v)=>t.setIfInBounds p v) a.tmps,defers:=[] } with
        | some a1=>pU P body (Wn K) a1 u
        | none=>False)
        (fun D u=>Q .normal { a with defers:={ target := .collected D,args := #[] }::a.defers } u)
    | false=>False
  | _,_,_,_,_=>False
theorem Code.uT {P:Program} {c:Code} {n:An} {L:List Nat} {Q:Exit→Act→World→Prop} (step:∀ (Q:Exit→Act→World→Prop) a w,rq P c n Q a w→∀ d,c.wp P (upD Q) a (dr w d)) :
  ∀ (k:Nat) (a:Act) (w:World),aZ L (rq P c n) Q k (clr L a) w→∀ d,∀ (b:Frame) (kk:List Item) (cs:List Frame),
   ∃ e a' w',upD Q e a' w'∧Arrives P (lone (b.at a (.code c :: .inLoop c::kk)) cs (dr w d)) b kk cs e a' w'
 | 0,_,_,h,_=>h.elim
 | k+1,a,w,h,d=>fun b kk cs=>by
  obtain ⟨g,hg⟩:=EE L a
  have h:=h g
  rw [hg] at h
  obtain ⟨e,a₁,w₁,⟨u,d',hw,hq⟩,harr⟩:=step _ a w h d b (.inLoop c::kk) cs
  subst hw
  cases e with
  | normal =>
   obtain ⟨e₂,a₂,w₂,hq₂,harr₂⟩:=Code.uT step k a₁ u hq d' b kk cs
   exact ⟨e₂,a₂,w₂,hq₂,.of_steps (Steps.trans harr (.one step_inLoop)) harr₂⟩
  | exit id=>exact ⟨_,a₁,_,⟨u,d',rfl,hq⟩,.pass (x := .inLoop c) rfl (fun _ _ => .inl (by simp)) harr⟩
  | goto l=>exact ⟨_,a₁,_,⟨u,d',rfl,hq⟩,.pass (x := .inLoop c) rfl (fun _ _ => .inl (by simp)) harr⟩
  | ret=>exact ⟨_,a₁,_,⟨u,d',rfl,hq⟩,.pass (x := .inLoop c) rfl (fun _ _ => .inl (by simp)) harr⟩
  | panic ch=>exact ⟨_,a₁,_,⟨u,d',rfl,hq⟩,.pass (x := .inLoop c) rfl (fun _ _ => .inl (by simp)) harr⟩
  | outgrown=>exact ⟨_,a₁,_,⟨u,d',rfl,hq⟩,.pass (x := .inLoop c) rfl (fun _ _ => .inl (by simp)) harr⟩
theorem mO {P:Program} (hm:P.follows .mixedOrders=true) (hd:P.types.size+Made.depth≠0):∀ (c:Code) (n:An) (Q:Exit→Act→World→Prop) (a:Act) (w:World),rq P c n Q a w→∀ d,c.wp P (upD Q) a (dr w d)
 | .skip,n,Q,a,w,h,d=>wp_skip ⟨w,d,rfl,h⟩
 | .region id ops false,n,Q,a,w,h,d=>(wpIn_wide (n:=0)).1 (wpIn_region_list (oh (ro:=none) hd (fun a u d hq=>⟨u,d,rfl,hq⟩) _ _ _ h d))
 | .region id ops true,n,Q,a,w,h,d=>by
  unfold rq at h
  split at h
  ·rename_i hok
   exact QN hm hd hok (fun a u d hq=>⟨u,d,rfl,hq⟩) h d
  ·rename_i hok
   ·split at h
    ·rename_i htail
     exact Rh hm hd htail (fun a u d hq=>⟨u,d,rfl,hq⟩) h d
    ·split at h
     ·rename_i hlex
      split at h
      ·split at h
       ·exact Q8 hm hd hlex (fun a u d hq=>⟨u,d,rfl,hq⟩) h d
       ·split at h
        ·rename_i hh
         rw [Bool.and_eq_true] at hh
         exact QY hm hd hh.1 hh.2 (fun a u d hq=>⟨u,d,rfl,hq⟩) h d
        ·exact h.elim
      split at h
      ·rename_i hh
       rw [Bool.and_eq_true] at hh
       exact Qh hm hd hh.2 (fun a u d hq=>⟨u,d,rfl,hq⟩) h d
      split at h
      ·exact Qi hm hd hlex (fun a u d hq=>⟨u,d,rfl,hq⟩) h d
      ·exact QO hm hd hlex (fun a u d hq=>⟨u,d,rfl,hq⟩) h d
     ·exact h.elim
 | .seq x y,n,Q,a,w,h,d=>by
  refine wp_seq (wp_mono (mO hm hd x n.fst _ a w h d) ?_)
  rintro e a' w' ⟨u,d',rfl,hq⟩
  cases e with
  | normal=>exact mO hm hd y n.snd Q a' u (CQ hq) d'
  | exit id=>exact ⟨u,d',rfl,hq⟩
  | goto l=>exact ⟨u,d',rfl,hq⟩
  | ret=>exact ⟨u,d',rfl,hq⟩
  | panic ch=>exact ⟨u,d',rfl,hq⟩
  | outgrown=>exact ⟨u,d',rfl,hq⟩
 | .cond c x y,n,Q,a,w,h,d=>by
  unfold rq at h
  split at h
  ·rename_i b hb
   rw [aH] at h
   refine wp_cond_split hb (fun ht=>mO hm hd x n.fst Q a w (h.1 ht) d) (fun hf=>mO hm hd y n.snd Q a w (h.2 hf) d)
  ·exact h.elim
 | .block id c,n,Q,a,w,h,d=>by
  refine wp_block (wp_mono (mO hm hd c n.fst _ a w h d) ?_)
  rintro e a' w' ⟨u,d',rfl,hq⟩
  cases e with
  | exit id' =>
   simp only [Exit.inBlock] at hq ⊢
   split
   ·rename_i hid; rw [if_pos hid] at hq; exact ⟨u,d',rfl,hq⟩
   ·rename_i hid; rw [if_neg hid] at hq; exact ⟨u,d',rfl,hq⟩
  | normal=>exact ⟨u,d',rfl,hq⟩
  | goto l=>exact ⟨u,d',rfl,hq⟩
  | ret=>exact ⟨u,d',rfl,hq⟩
  | panic ch=>exact ⟨u,d',rfl,hq⟩
  | outgrown=>exact ⟨u,d',rfl,hq⟩
 | .loop c,n,Q,a,w,h,d=>by
  obtain ⟨k,hk⟩:=h
  intro b kk cs
  obtain ⟨e,a',w',hq,harr⟩:=Code.uT (Q:=Q) (fun Q a w h d=>mO hm hd c n.fst Q a w h d) k a w hk d b kk cs
  exact ⟨e,a',w',hq,.of_steps (.one step_loop) harr⟩
 | .exit id,n,Q,a,w,h,d=>wp_exit ⟨w,d,rfl,h⟩
 | .ret,n,Q,a,w,h,d=>wp_ret ⟨w,d,rfl,h⟩
 | .scope _,_,_,_,_,h,_=>h.elim
 | .label _,_,_,_,_,h,_=>h.elim
 | .goto _,_,_,_,_,h,_=>h.elim
 | .rangeFunc g ps asg body,n,Q,a,w,h,d=>by
  unfold rq at h
  split at h
  ·rename_i hb
   refine JF hm hd (Nat.eq_of_beq_eq_true hb) (fun x y u K hr=>?_) (fun D u hf=>hf) h d
   split at hr
   ·rename_i a1 ha; exact ⟨a1,ha,hr⟩
   ·exact hr.elim
  ·exact h.elim
 | .refuse _,_,_,_,_,h,_=>h.elim
end Go.E
namespace Go.E
open Go Go.RowKit
def MJ (P:Program):List ResultVar→Array Value→World→(List Value→Prop)→Prop
 | [],_,_,K=>K []
 | .tmp t::rs,tm,w,K=>MJ P rs tm w fun vs=>K (tm.getD t undef::vs)
 | .cell a t::rs,tm,w,K=>Ha (tm.getD a undef) fun ad=>ldT P t w ad fun v=>MJ P rs tm w fun vs=>K (v::vs)
def resV:List Value→Value
 | [v]=>v
 | vs => .tuple vs.toArray
def nw (w:World) (K:World→Prop):Prop:=K w
def fin (P:Program) (fn:Func) (R:Value→World→Prop):Exit→Act→World→Prop
 | .normal,a,u | .ret,a,u=>match a.defers with
  | []=>MJ P fn.results.toList a.tmps u fun vs=>R (resV vs) u
  | [dd]=>match dd.target with
   | .collected D=>u.heap[D]?=some (.deferred (some []))∧nw (u.putObj D (.deferred none)) fun u'=>MJ P fn.results.toList a.tmps u' fun vs=>R (resV vs) u'
   | _=>False
  | _=>False
 | _,_,_=>False
def codeOf (fn:Func):Code:=match fn.body with
 | some c=>c
 | none => .refuse ""
def U5 (fn:Func) (args:Array Value):Act:=⟨args++Array.replicate (fn.ntmps - args.size) undef,[]⟩
def fnN (P:Program) (fn:Func) (n:An) (args:Array Value) (w:World) (R:Value→World→Prop):Prop :=
 rq P (codeOf fn) n (fin P fn R) (U5 fn args) w
def VA (tm:Array Value):ResultVar→Sem Value
 | .tmp t=>pure (tm.getD t undef)
 | .cell a t=>do loadVar t (← asAddr (tm.getD a undef))
theorem zo {P:Program} {w:World}:∀ (rs:List ResultVar) (tm:Array Value) (K:List Value→Prop),MJ P rs tm w K →
  ∃ vs,(∀ d,(rs.mapM (VA tm)).run P (dr w d) = .ok vs (dr w d))∧K vs
 | [],tm,K,h=>⟨[],fun _=>rfl,h⟩
 | .tmp t::rs,tm,K,h=>by
  obtain ⟨vs,hr,hK⟩:=zo rs tm _ h
  refine ⟨_,fun d=>?_,hK⟩
  rw [List.mapM_cons,run_bind' P _ _ _ _ (tm.getD t undef) rfl,run_bind' P _ _ _ _ _ (hr d)]
  rfl
 | .cell a t::rs,tm,K,h=>by
  unfold MJ at h
  obtain ⟨ad,ha,h⟩:=nO h
  obtain ⟨v,hv,h⟩:=J5 h
  obtain ⟨vs,hr,hK⟩:=zo rs tm _ h
  refine ⟨_,fun d=>?_,hK⟩
  rw [List.mapM_cons,run_bind' P _ _ _ (dr w d) v (by
   unfold VA
   simp only [ha]
   rw [run_bind' P _ _ _ _ ad rfl]
   exact hv (Kp.dr w d)),run_bind' P _ _ _ _ _ (hr d)]
  rfl
theorem KW {P:Program} {fn:Func} {tm:Array Value} {R:Value→World→Prop} {u:World} (h:MJ P fn.results.toList tm u fun vs=>R (resV vs) u) (d:Nat) :
  ∃ v,(results fn tm).run P (dr u d) = .ok v (dr u d)∧∃ v' u' d',Ending.returned v = .returned v'∧dr u d=dr u' d'∧R v' u':=by
 obtain ⟨vs,hr,hK⟩:=zo _ _ _ h
 refine ⟨resV vs,?_,_,_,_,rfl,rfl,hK⟩
 have e:results fn tm=(do
   let vs ← fn.results.mapM (VA tm)
   pure (if h:vs.size=1 then vs[0] else .tuple vs)):=by
  unfold results
  congr 1
 rw [e,Array.mapM_eq_mapM_toList]
 have:=hr d
 rw [Sem.run_bind,Sem.run_map,this]
 simp only [Result.andThen_ok,Sem.run_pure]
 congr 1
 match vs with
 | []=>rfl
 | [v]=>rfl
 | v::v2::vs=>rfl
theorem Ol {P:Program} {fn:Func} {R:Value→World→Prop} {e:Exit} {a:Act} {u:World} (h:fin P fn R e a u) (d n:Nat) :
  bodyPostM Fence.wide n P fn (fun e w'=>∃ v u d',e = .returned v∧w'=dr u d'∧R v u) e a (dr u d):=by
 have go:(match a.defers with
   | []=>MJ P fn.results.toList a.tmps u fun vs=>R (resV vs) u
   | [dd]=>match dd.target with
    | .collected D=>u.heap[D]?=some (.deferred (some []))∧nw (u.putObj D (.deferred none)) fun u'=>MJ P fn.results.toList a.tmps u' fun vs=>R (resV vs) u'
    | _=>False
   | _=>False) →
   LeavesInM Fence.wide n P fn a.tmps (fun e w'=>∃ v u d',e = .returned v∧w'=dr u d'∧R v u) a.defers .returning (dr u d):=by
  intro h
  split at h
  ·rename_i hdf
   rw [hdf]
   exact KW h d
  ·rename_i dd hdf
   rw [hdf]
   split at h
   ·rename_i D hD
    obtain ⟨hk,hr⟩:=h
    refine ⟨by simp,.inl ⟨D,_,hD,run_takeDeferred (P:=P) (show (dr u d).heap[D]?=_ from hk),?_⟩⟩
    exact KW (u:=u.putObj D (.deferred none)) hr d
   ·exact h.elim
  ·exact h.elim
 cases e with
 | normal=>exact go h
 | ret=>exact go h
 | exit id=>exact h.elim
 | goto l=>exact h.elim
 | panic c=>exact h.elim
 | outgrown=>exact h.elim
theorem JK {P:Program} {f:FuncId} {fn:Func} {n:An} {args:Array Value} {w:World} {R:Value→World→Prop} (hm:P.follows .mixedOrders=true) (hd:P.types.size+Made.depth≠0)
  (hf:P.funcs[f]?=some fn) (hb:fn.body.isSome=true) (h:fnN P fn n args w R):CallsD P f args w R:=by
 intro d
 obtain ⟨c,hc⟩:=Option.isSome_iff_exists.1 hb
 refine (callsIn_wide (n:=0)).1 (callsIn_of_wp_marks hf hc trivial ((wpIn_wide).2 (wp_mono (mO hm hd c n _ _ w (by unfold fnN codeOf at h; rw [hc] at h; exact h) d) ?_)) rfl)
 rintro e a w' ⟨u,d',rfl,hq⟩
 exact Ol hq d' 0
def sub:Code→List Nat→Code
 | c,[]=>c
 | .seq x _,0::p=>sub x p
 | .seq _ y,(_+1)::p=>sub y p
 | .cond _ x _,0::p=>sub x p
 | .cond _ _ y,(_+1)::p=>sub y p
 | .block _ x,_::p=>sub x p
 | .loop x,_::p=>sub x p
 | c,_=>c
def Vg:An→List Nat→An
 | n,[]=>n
 | .mk _ x _,0::p=>Vg x p
 | .mk _ _ y,(_+1)::p=>Vg y p
 | .nil,_ => .nil
def na (w:World):Addr:=⟨w.heap.size,0,none⟩
end Go.E
namespace Go.E
open Go Go.RowKit
abbrev OA:=Option Addr
abbrev VP:=Value→World→Prop
abbrev QT:=Exit→Act→World→Prop
def U:Nat→List Value→List Value
 | 0,l=>l
 | n+1,l=>undef::U n l
def cdN (P:Program) (f:Func) (n:An) (p:List Nat):QT→Act→World→Prop:=rq P (sub (codeOf f) p) (Vg n p)
abbrev cI (w:World) (a:Addr) (k:IntKind) (K:Int→Prop):Prop:=∃ x:Int,w.cell? a=some (.int k x)∧K x
abbrev cF (w:World) (a:Addr) (k:FloatKind) (K:Nat→Prop):Prop:=∃ x:Nat,w.cell? a=some (.float k x)∧K x
abbrev cB (w:World) (a:Addr) (K:Bool→Prop):Prop:=∃ x:Bool,w.cell? a=some (.bool x)∧K x
abbrev cS (w:World) (a:Addr) (K:ByteArray→Prop):Prop:=∃ x:ByteArray,w.cell? a=some (.string x)∧K x
abbrev cL (w:World) (a:Addr) (K:OA→Nat→Nat→Prop):Prop:=∃ (b:OA) (n c:Nat),w.cell? a=some (.slice b n c)∧K b n c
abbrev cM (w:World) (a:Addr) (K:Option Nat→Prop):Prop:=∃ x:Option Nat,w.cell? a=some (.map x)∧K x
abbrev cV (w:World) (a:Addr) (K:Value→Prop):Prop:=∃ x:Value,w.cell? a=some x∧K x
abbrev st (w:World) (a:Addr) (v:Value) (K:World→Prop):Prop:=nD w a∧nw (w.setCell a v) K
abbrev ix (a:OA) (n:Nat) (i:Int) (K:Addr→Prop):Prop:=bK a fun q=>chk ((0:Int)≤i∧i<(n:Int)) (K q)
abbrev inc (x:Int) (K:Int→Prop):Prop:=nv (IntKind.i64.wrap (x+1)) K
end Go.E
namespace Go.E
open Go Go.RowKit
def Ob (P:Program) (v:Value) (args:Array Value) (w:World) (K:Value→World→Prop):Prop:=match v with
 | .func (.func f) first captured=>if jT P f=true then CallsD P f (first++args++captured) w K else False
 | _=>False
end Go.E
namespace Go.E
open Go Go.RowKit
theorem ju {p q:Prop} (h:p=∀ _:Nat→Value,q):p=q:=h.trans (propext (forall_const _))
theorem IX {P:Program} (hm:P.follows .mixedOrders=true) (hd:P.types.size+Made.depth≠0) {f:FuncId} {fn:Func} {n:An} {args:Array Value} {w:World} {R:VP} {p:Prop} (hf:P.funcs[f]?=some fn) (hb:fn.body.isSome=true) (h:p) (e:fnN P fn n args w R=p):CallsD P f args w R :=
 JK (n:=n) hm hd hf hb (e.mpr h)
abbrev aR (x:An):An := .mk none .nil x
abbrev aL (x:An):An := .mk none x .nil
abbrev qS (o:Option (List Nat)) (c:QT→Act→World→Prop) (q:QT):QT:=Exit.then (jS o (c q)) q
abbrev qL (L:List Nat) (c:QT→Act→World→Prop) (q:QT) (k:Nat):QT:=Exit.then (fun a w=>aZ L c q k (clr L a) w) q
abbrev fr (l:List Value):Act:=⟨l.toArray,[]⟩
abbrev KpF (F:Nat→Value→World→Prop):Prop:=∀ i v u u',F i v u→Below u.heap.size u u'→F i v u'
end Go.E
