/- Part of a proof of laws of the seat YtmjlipmapfofmaaGreat: functions' weakest preconditions, each checked by the kernel, contracts out of them, plain lemmas; no conditions. -/
import Derived.Test.YtmjlipmapfofmaaGreatF64
set_option linter.unusedVariables false
set_option linter.unusedSimpArgs false
set_option linter.unusedSectionVars false
set_option maxRecDepth 100000
namespace Go.Mir
open Go Go.E Go.RowKit Go.Tr Go.Ss Go.ChangeShapes
def I8 (x:ND) (c:dF) (e:ed):ed :=
 let e1:=if x.kind=3 then { e with bH:=e.bH++[c] } else { e with numbers:=qE ltD e.numbers c }
 if x.missing=2 then { e1 with lost:=e1.lost++[c] } else e1
def uy (f:Int):List (ND×dF)→ed→ed
 | [],e=>e
 | p::A,e=>uy f A (if p.1.feature=f then I8 p.1 p.2 e else e)
def Nk (f:Int):List (ND×dF)→ed→ed
 | [],e=>e
 | p::A,e=>Nk f A (if p.1.feature=f then uo p.1 p.2 e else e)
def pG (A:List (ND×dF)) (f:Int):Bool:=A.any fun p=>p.1.feature==f
def jq (A:List (ND×dF)):Nat→List ed
 | 0=>[]
 | d+1=>jq A d++if pG A d then [uy d A ⟨d,[],[],[]⟩] else []
theorem Qx (x:ND) (c:dF) (e:ed):xH (uo x c e)=I8 x c (xH e):=by
 have h:∀ l:List dF,sorted ltD (l++[c])=qE ltD (sorted ltD l) c:=fun l=>by unfold sorted; rw [List.foldl_append]; rfl
 unfold uo I8 xH
 by_cases h1:x.kind=3 <;> by_cases h2:x.missing=2 <;> simp [h1,h2,h]
theorem IU (f:Int):∀ (A:List (ND×dF)) (e:ed),xH (Nk f A e)=uy f A (xH e)
 | [],e=>rfl
 | p::A,e=>by
  unfold Nk uy
  rw [IU f A]
  split
  ·rw [Qx]
  ·rfl
theorem Bi (x:ND) (c:dF) (e:ed):(I8 x c e).feature=e.feature:=by
 unfold I8
 by_cases h1:x.kind=3 <;> by_cases h2:x.missing=2 <;> simp [h1,h2]
theorem nU (f:Int):∀ (A:List (ND×dF)) (e:ed),(uy f A e).feature=e.feature
 | [],_=>rfl
 | p::A,e=>by
  unfold uy
  rw [nU f A]
  split
  ·exact Bi ..
  ·rfl
theorem AU (f:Int) (p:ND×dF):∀ (A:List (ND×dF)) (e:ed),uy f (A++[p]) e=if p.1.feature=f then I8 p.1 p.2 (uy f A e) else uy f A e
 | [],e=>rfl
 | q::A,e=>by
  rw [List.cons_append]
  unfold uy
  exact AU f p A _
theorem FP:∀ (A:List (ND×dF)) (L:List ed),∀ e∈A.foldl nI L,(∃ e0∈L,e0.feature=e.feature∧e=Nk e.feature A e0)∨((∀ e0∈L,e0.feature≠e.feature)∧e=Nk e.feature A ⟨e.feature,[],[],[]⟩)
 | [],L,e,h => .inl ⟨e,h,rfl,rfl⟩
 | p::A,L,e,h=>by
  rw [List.foldl_cons] at h
  rcases FP A (nI L p) e h with ⟨e1,h1,h2,h3⟩ | ⟨h1,h2⟩
  ·obtain ⟨e0,h4,h5⟩:=List.mem_map.1 (show e1∈(vK p.1.feature L).map _ from h1)
   have hf:e0.feature=e.feature:=by
    rw [← h2,← h5]
    split
    ·exact (jL ..).symm
    ·rfl
   have hstep:(if p.1.feature=e.feature then uo p.1 p.2 e0 else e0)=e1:=by
    rw [← h5,hf]
    by_cases hh:e.feature=p.1.feature
    ·rw [if_pos hh,if_pos hh.symm]
    ·rw [if_neg hh,if_neg (fun h=>hh h.symm)]
   unfold vK at h4
   split at h4
   ·refine .inl ⟨e0,h4,hf,?_⟩
    show e=Nk e.feature A (if p.1.feature=e.feature then uo p.1 p.2 e0 else e0)
    rw [hstep]
    exact h3
   ·rename_i hn
    rcases List.mem_append.1 h4 with h4 | h4
    ·refine .inl ⟨e0,h4,hf,?_⟩
     show e=Nk e.feature A (if p.1.feature=e.feature then uo p.1 p.2 e0 else e0)
     rw [hstep]
     exact h3
    ·obtain rfl:=List.mem_singleton.1 h4
     refine .inr ⟨fun e0 h0 he=>hn ?_,?_⟩
     ·have hf':p.1.feature=e.feature:=hf
      rw [hf',← he]
      exact List.mem_map_of_mem (f:=ed.feature) h0
     ·have hf':p.1.feature=e.feature:=hf
      show e=Nk e.feature A (if p.1.feature=e.feature then uo p.1 p.2 ⟨e.feature,[],[],[]⟩ else ⟨e.feature,[],[],[]⟩)
      rw [show (⟨e.feature,[],[],[]⟩:ed)=⟨p.1.feature,[],[],[]⟩ by rw [hf'],hstep]
      exact h3
  ·have hne:p.1.feature≠e.feature:=fun hh=>by
    obtain ⟨y,hy,hy2⟩:=List.mem_map.1 (EG p.1.feature L)
    refine h1 _ (List.mem_map_of_mem (f:=fun e=>if e.feature=p.1.feature then uo p.1 p.2 e else e) hy) ?_
    rw [if_pos hy2,jL,hy2,hh]
   refine .inr ⟨fun e0 h0 he=>?_,?_⟩
   ·have hm:e0∈vK p.1.feature L:=by
     unfold vK
     split
     ·exact h0
     ·exact List.mem_append_left _ h0
    refine h1 _ (List.mem_map_of_mem (f:=fun e=>if e.feature=p.1.feature then uo p.1 p.2 e else e) hm) ?_
    split
    ·rw [jL,he]
    ·exact he
   ·show e=Nk e.feature A (if p.1.feature=e.feature then uo p.1 p.2 ⟨e.feature,[],[],[]⟩ else ⟨e.feature,[],[],[]⟩)
    rw [if_neg hne]
    exact h2
theorem xh:∀ (A:List (ND×dF)) (L:List ed) (f:Int),f∈(A.foldl nI L).map ed.feature↔f∈L.map ed.feature∨∃ p∈A,p.1.feature=f
 | [],L,f=>by simp
 | p::A,L,f=>by
  rw [List.foldl_cons,xh A,wZ]
  unfold vK
  split
  ·rename_i hm
   constructor
   ·rintro (h | ⟨q,h1,h2⟩)
    ·exact .inl h
    ·exact .inr ⟨q,.tail _ h1,h2⟩
   ·rintro (h | ⟨q,h1,h2⟩)
    ·exact .inl h
    ·rcases List.mem_cons.1 h1 with rfl | h1
     ·exact .inl (h2 ▸ hm)
     ·exact .inr ⟨q,h1,h2⟩
  ·rw [List.map_append,List.mem_append]
   constructor
   ·rintro ((h | h) | ⟨q,h1,h2⟩)
    ·exact .inl h
    ·exact .inr ⟨p,.head _,(by simpa using h:f=p.1.feature).symm⟩
    ·exact .inr ⟨q,.tail _ h1,h2⟩
   ·rintro (h | ⟨q,h1,h2⟩)
    ·exact .inl (.inl h)
    ·rcases List.mem_cons.1 h1 with rfl | h1
     ·exact .inl (.inr (by simp [h2]))
     ·exact .inr ⟨q,h1,h2⟩
theorem lY {A:List (ND×dF)}:∀ {d:Nat} {e:ed},e∈jq A d↔∃ f:Nat,f<d∧pG A f=true∧e=uy f A ⟨f,[],[],[]⟩
 | 0,e=>by simp [jq]
 | d+1,e=>by
  unfold jq
  rw [List.mem_append,lY]
  constructor
  ·rintro (⟨f,h1,h2,h3⟩ | h)
   ·exact ⟨f,by omega,h2,h3⟩
   ·split at h
    ·rename_i hu
     exact ⟨d,by omega,hu,by simpa using h⟩
    ·cases h
  ·rintro ⟨f,h1,h2,h3⟩
   by_cases hf:f=d
   ·subst hf
    rw [if_pos h2]
    exact .inr (by simp [h3])
   ·exact .inl ⟨f,by omega,h2,h3⟩
theorem vU {A:List (ND×dF)}:∀ d:Nat,(jq A d).Pairwise fun a b=>ltF a b=true
 | 0 => .nil
 | d+1=>by
  unfold jq
  refine List.pairwise_append.2 ⟨vU d,?_,fun a ha b hb=>?_⟩
  ·split
   ·exact List.pairwise_singleton _ _
   ·exact .nil
  ·obtain ⟨f,h1,_,h3⟩:=lY.1 ha
   split at hb
   ·obtain rfl:=List.mem_singleton.1 hb
    unfold ltF
    rw [h3,nU,nU]
    simp; omega
   ·cases hb
theorem J3 {A:List (ND×dF)} {d:Nat} (hd:∀ p∈A,0≤p.1.feature∧p.1.feature<d):jq A d=sorted ltF ((A.foldl nI []).map xH):=by
 have hw:Wk ltF:=Em fun x:ed=>x.feature
 have hn:=yP A [] (List.nodup_nil)
 have one:∀ e∈A.foldl nI [],xH e=uy e.feature A ⟨e.feature,[],[],[]⟩:=fun e he=>by
  rcases FP A [] e he with ⟨e0,h0,_⟩ | ⟨_,h2⟩
  ·cases h0
  ·exact (congrArg xH h2).trans (IU ..)
 refine (Gz hw ?_ (vU d)).symm
 have n1:((A.foldl nI []).map xH).Nodup:=by
  have:(((A.foldl nI []).map xH).map ed.feature).Nodup:=by
   rw [List.map_map]
   exact hn
  exact List.Pairwise.of_map ed.feature (fun a b h e=>h (by rw [e])) this
 have n2:(jq A d).Nodup:=(vU d).imp fun {a b} h e=>by subst e; rw [hw.irrefl] at h; cases h
 refine (List.perm_ext_iff_of_nodup n1 n2).2 fun e=>?_
 constructor
 ·intro h
  obtain ⟨e0,h0,rfl⟩:=List.mem_map.1 h
  obtain ⟨p,hp,hpf⟩:=((xh A [] e0.feature).1 (List.mem_map_of_mem h0)).resolve_left (by simp)
  have:=hd p hp
  refine lY.2 ⟨e0.feature.toNat,by omega,?_,?_⟩
  ·unfold pG
   rw [List.any_eq_true]
   exact ⟨p,hp,by simp; omega⟩
  ·rw [one e0 h0,show ((e0.feature.toNat:Nat):Int)=e0.feature by omega]
 ·intro h
  obtain ⟨f,h1,h2,h3⟩:=lY.1 h
  unfold pG at h2
  rw [List.any_eq_true] at h2
  obtain ⟨p,hp,hpf⟩:=h2
  have hpf':p.1.feature=f:=by simpa using hpf
  obtain ⟨e0,h4,h5⟩:=List.mem_map.1 ((xh A [] f).2 (.inr ⟨p,hp,hpf'⟩))
  exact List.mem_map.2 ⟨e0,h4,by rw [one e0 h4,h5,h3]⟩
end Go.Mir
