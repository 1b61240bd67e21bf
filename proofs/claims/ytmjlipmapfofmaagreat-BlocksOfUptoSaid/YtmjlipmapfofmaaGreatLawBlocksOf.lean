/- The law BlocksOf holds of every input of bulk at most 1048576: the statement BlocksOfUptoSaid, without further conditions. -/
import Derived.WalkKit
import Derived.ProofKit
import Derived.OpenShut
import Derived.JoinedCond
import Derived.Below
import Derived.Carry
import Derived.KernelRfl
import Derived.Test.YtmjlipmapfofmaaGreatRows
import Derived.Test.YtmjlipmapfofmaaGreatR34
import Derived.Test.YtmjlipmapfofmaaGreatR12
import Derived.Test.YtmjlipmapfofmaaGreatLBlocksOf
set_option linter.unusedVariables false
set_option linter.unusedSimpArgs false
set_option linter.unusedSectionVars false
namespace Go.Proofs.YtmjlipmapfofmaaGreat.blocksOfU
open Go.ChangeShapes Go.WideShapes Go.ChangeAt Go.RowKit
open Go.ChangeMaps (open_string shut_string)
theorem own:ownKnob Tryz.prog.godebug=none:=by kernel_rfl
theorem laidOut:laidOutB Tryz.prog=true:=by kernel_rfl
set_option maxRecDepth 100000 in
theorem contract (H:Type) (enc:TypeId×Value→H) (W:World) (base:Nat) (args:Array Value) (ds gs:List (DataW H)) (before:List MemPlace)
  (hval:∀ (j:Nat) t v,Tryz.f3.params[j]?=some t→args[j]?=some v→Value.okWide Tryz.prog W .any base t v)
  (hW:DataW.Whole enc Tryz.prog Tryz.f3.params.toList Rows.blocksOfSpec.vars false W args.toList ds gs before) (hk:Rows.uptoSmall H (ds++gs)=true) :
  Calls Tryz.prog 3 args W fun e W'=>∃ v,e = .returned v∧Rows.blocksOfSpec.post enc Tryz.prog Tryz.f3 false true false false W args v W':=by
 have hW':=hW
 obtain ⟨p,q,hA0,hV,rfl,hfz,hnd⟩:=hW
 have hA:DataW.TrodAll enc Tryz.prog W 0 (fun _=>true) true Tryz.f3.params.toList args.toList ds p:=hA0
 rw [Tryz.params3] at hA hval
 obtain ⟨v0,vs0,d0,ds0,p0,q0,hargs,rfl,rfl,h0,r0⟩:=trodAll_cons hA
 obtain ⟨v1,vs1,d1,ds1,p1,q1,rfl,rfl,rfl,h1,r1⟩:=trodAll_cons r0
 obtain ⟨v2,vs2,d2,ds2,p2,q2,rfl,rfl,rfl,h2,r2⟩:=trodAll_cons r1
 obtain ⟨rfl,rfl,rfl⟩:=trodAll_nil r2
 obtain rfl:args = #[v0,v1,v2]:=by cases args; simp_all
 obtain ⟨rfl,rfl⟩:=trodVars_none hV
 have lt0:∀ x∈p0,x.block<W.heap.size:=by obtain ⟨m,hm⟩:=h0; exact DataW.trod_lt m _ _ _ hm
 have lt1:∀ x∈p1,x.block<W.heap.size:=by obtain ⟨m,hm⟩:=h1; exact DataW.trod_lt m _ _ _ hm
 have lt2:∀ x∈p2,x.block<W.heap.size:=by obtain ⟨m,hm⟩:=h2; exact DataW.trod_lt m _ _ _ hm
 have law:Go.E.Pure Tryz.prog 3 #[v0,v1,v2] W (.bool true):=by
  obtain ⟨e,f,b,t,rfl,hf,hb,ht,hw⟩:=Go.Mir.U7 h0
  obtain ⟨a1,n1,c1,rs,rfl,hrs,hb1,_⟩:=Go.Mir.QP (T:=Go.E.tR) (G:=fun _ _=>True) (t:=27) (e:=61) (by kernel_rfl) (by kernel_rfl) (by decide) Go.Mir.Qk (hval 1 27 v1 rfl rfl) h1
  obtain ⟨k,rfl,_,_,_⟩:=open_int Go.Proofs.Tryz.underlying3 (hval 2 3 v2 rfl rfl) h2
  have hs:=Go.Mir.yL (d:=d0) hk (by simp)
  have hs1:=Go.Mir.yL (d:=d1) hk (by simp)
  exact Go.Mir.C9 (Go.Mir.Ou hf hb ht hw hs) (fun t ht' y hy=>((hw.trees t ht').2.2 y hy).2.thr) hrs (fun b hb=>hb) (by omega)
 clear hA0
 refine (Go.E.GR law).mono fun e W' ⟨he,bel⟩=>?_
 subst he
 exact ⟨_,rfl,_,_,_,[],_,[],hW',trodAll_mk1 (shut_bool Tryz.underlying4 _),(trodAll_cons_mk (Below.trod laidOut (by kernel_rfl) (of_decide_eq_true (by kernel_rfl)) h0 bel lt0) (trodAll_cons_mk (Below.trod laidOut (by kernel_rfl) (of_decide_eq_true (by kernel_rfl)) h1 bel lt1) (trodAll_cons_mk (Below.trod laidOut (by kernel_rfl) (of_decide_eq_true (by kernel_rfl)) h2 bel lt2) trodAll_mk0))),rfl,bel.frame _,fun h=>by cases h⟩
set_option maxRecDepth 100000 in
theorem lifted (os:Os) (started:os.Started) (H:Type) (enc:TypeId×Value→H) (F:Stop.Interp) :
  ReturnsInHanded {} Tryz.checked os 3 .any ((Rows.OpenSpec.upto Rows.blocksOfSpec).pre6 enc Tryz.prog Tryz.f3 Rows.blocksOfUptoRow.domain false) (((Rows.OpenSpec.upto Rows.blocksOfSpec).at F).post enc Tryz.prog Tryz.f3 false true false false):=by
 refine returnsInHanded_of_cond (C:=Tryz.checked) (s:=Rows.OpenSpec.upto Rows.blocksOfSpec) (k:=Rows.uptoSmall) rfl own started (by kernel_rfl) Tryz.func3
  (OpenSpec.witness (enc:=enc) (C:=Tryz.checked) (s:=Rows.OpenSpec.upto Rows.blocksOfSpec) (k:=Rows.uptoSmall) rfl false ⟨#[],#[.agg #[.string .empty,.slice none 0 0,.int .i64 0,.slice none 0 0,.slice none 0 0],.slice none 0 0,.int .i64 0],[]⟩ 8 (by kernel_rfl) (by kernel_rfl) (by kernel_rfl)
   (x:=([(.agg [(.lit (.string [])),.nil,(.lit (.int .i64 0)),.nil,.nil]),.nil,(.lit (.int .i64 0))],[],[])) (by kernel_rfl) rfl (by kernel_rfl)) ?_
 intro W base args ds gs before hval hW _ hk _
 exact contract H enc W base args ds gs before hval hW hk
theorem over:Rows.blocksOfUptoRow.holds Tryz.pinned (Rows.OpenSpec.upto Rows.blocksOfSpec) :=
 OpenClaim.holds_of_cond 3 Tryz.f3 rfl rfl rfl rfl rfl rfl rfl ⟨rfl,rfl,rfl,rfl,rfl⟩ rfl rfl rfl rfl rfl (by kernel_rfl) Tryz.func3 (by kernel_rfl)
  (of_decide_eq_true (by kernel_rfl)) (by unfold Func.isWrapper; first | (rw [if_pos (by decide +kernel)]; kernel_rfl) | (rw [if_neg (by decide +kernel)]; exact ⟨rfl,rfl⟩))
  (fun os started H enc _ F=>lifted os started H enc F)
theorem proved:Rows.BlocksOfUptoSaid:=over
end Go.Proofs.YtmjlipmapfofmaaGreat.blocksOfU
namespace Go.Proofs.YtmjlipmapfofmaaGreat
theorem blocksOfUpto_holds:Rows.BlocksOfUptoSaid:=blocksOfU.proved
end Go.Proofs.YtmjlipmapfofmaaGreat
