/- Part of a proof of laws of the seat YtmjlipmapfofmaaGreat: functions' weakest preconditions, each checked by the kernel, contracts out of them, plain lemmas; no conditions. -/
import Derived.Test.YtmjlipmapfofmaaGreatF72
set_option linter.unusedVariables false
set_option linter.unusedSimpArgs false
set_option linter.unusedSectionVars false
set_option maxRecDepth 100000
namespace Go.Mir
open Go Go.E Go.RowKit Go.Tr Go.Ss Go.ChangeShapes
section
variable {w u w1:World} {a a1:OA} {n c n1 c1:Nat} {F F' S:Nat→Prop} {p q:Addr} {B pb:Nat} {first:Int} {ls os:List Int} {vd:List VD} {s1 s2 s3:SH} {g1 gv g3:Nat} {ts:List TD} {d:Int}
set_option maxHeartbeats 1000000 in
theorem H7 (hG:ng F w a n c ts d) (hT0:Qg ts):E.CallsD Go.Proofs.Tryz.prog 28 #[.slice a n c,.int .i64 first,.int .i64 d] w fun v u=>∃ s1 s2 s3 s4:SH,v=vB (eU ts first) s1 s2 s3 s4∧ku (fun b=>w.heap.size≤b∧b<u.heap.size) u (eU ts first) s1 s2 s3 s4∧Kept w u:=by
 obtain ⟨d,rfl⟩:∃ k:Nat,d=k:=⟨d.toNat,by have:=hG.d0; omega⟩
 refine aB.calls (R:=fun v u=>∃ s1 s2 s3 s4:SH,v=vB (eU ts first) s1 s2 s3 s4∧ku (fun b=>w.heap.size≤b∧b<u.heap.size) u (eU ts first) s1 s2 s3 s4∧Kept w u) ?_
 unfold aB aB.g0
 have hmx:=hG.max
 have hn:=hG.ls.len
 refine bU (bU ?_)
 have b6:Blk (w.alloc (.cells (oZ 0 none 0 0 none 0 0 none 0 0 none 0 0) 66)) w.heap.size #[.int .i64 0,.slice none 0 0,.slice none 0 0,.slice none 0 0,.slice none 0 0] tB':=Blk.new w _ _
 have k1:=Kept.new w (.cells (oZ 0 none 0 0 none 0 0 none 0 0 none 0 0) 66)
 have hz1:(w.alloc (.cells (oZ 0 none 0 0 none 0 0 none 0 0 none 0 0) 66)).heap.size=w.heap.size+1:=by simp
 generalize w.alloc (.cells (oZ 0 none 0 0 none 0 0 none 0 0 none 0 0) 66)=w1 at b6 k1 hz1
 have b7:Blk (w1.alloc (.cells (oZ 0 none 0 0 none 0 0 none 0 0 none 0 0) 66)) w1.heap.size #[.int .i64 0,.slice none 0 0,.slice none 0 0,.slice none 0 0,.slice none 0 0] tB':=Blk.new w1 _ _
 have k2:=Kept.new w1 (.cells (oZ 0 none 0 0 none 0 0 none 0 0 none 0 0) 66)
 generalize w1.alloc (.cells (oZ 0 none 0 0 none 0 0 none 0 0 none 0 0) 66)=w2 at b7 k2
 refine wrA (e:=tB') (vs:=[.int .i64 first,.slice none 0 0,.slice none 0 0,.slice none 0 0,.slice none 0 0]) b7 rfl fun w3 b7' ho3=>?_
 have b6':Blk w3 w.heap.size #[.int .i64 0,.slice none 0 0,.slice none 0 0,.slice none 0 0,.slice none 0 0] tB':=(b6.keep k2).mod ho3 fun hk=>by have hk':w.heap.size+1=w1.heap.size+1:=hk; omega
 have hf3:From w.heap.size w w3:=(Kept.mod (S:=fun k=>w.heap.size≤k) (Kept.trans k1 k2)).trans ho3 (fun _ _ h=>h) (fun k _ hk=>by have hk':k+1=w1.heap.size+1:=hk; show w.heap.size≤k; omega)
 have hB0:BK w.heap.size w3 w1.heap.size first [] [] [] ⟨none,0,0⟩ ⟨none,0,0⟩ ⟨none,0,0⟩ 0 0 0:=⟨b7',Arr.nil _ _ _,aO.nil _ _ _ _,(fun x hx=>by cases hx),Arr.nil _ _ _,by omega,.inl rfl,.inl rfl,.inl rfl,.inl rfl⟩
 refine ⟨n+1,?_⟩
 have key:∀ (k i:Nat) (v:World) (vd:List VD) (s1 s2 s3:SH) (g1 gv g3:Nat),i+k=n→BK w.heap.size v w1.heap.size first ((ts.take i).map fun t=>((dw t.nodes false).length:Int)) vd ((ts.take i).map TD.output) s1 s2 s3 g1 gv g3→vd.map (·.1)=(ts.take i).map gp →
   Blk v w.heap.size #[.int .i64 0,.slice none 0 0,.slice none 0 0,.slice none 0 0,.slice none 0 0] tB'→From w.heap.size w v →
   aB.l8 (fun v u=>∃ s1 s2 s3 s4:SH,v=vB (eU ts first) s1 s2 s3 s4∧ku (fun b=>w.heap.size≤b∧b<u.heap.size) u (eU ts first) s1 s2 s3 s4∧Kept w u) (k+1) a n c d (some (na w)) (some (na w1)) a n c n i v:=by
  intro k
  induction k with
  | zero =>
   intro i v vd s1 s2 s3 g1 gv g3 hi hbk hvd hb6 hf
   rw [aB.u8]; unfold aB.g8
   refine az (by omega) ?_
   obtain rfl:i=ts.length:=by omega
   rw [List.take_length] at hbk hvd
   refine E.CallsD.mono (H8 (hG.kept (From.kept hf)) hT0) fun r u1 ⟨a',n',c',hr,hls,hku⟩=>⟨_,_,_,hr,?_⟩
   have hb:=(hbk.kept hku)
   have hset:=hb.box.set 4 (.slice a' n' c')
   have hon:=Only.set u1 w1.heap.size 4 (.slice a' n' c')
   have hlt:=hb.box.lt
   have e4:(((na w1:Addr).add 4).add 0)=⟨w1.heap.size,4,none⟩:=by rw [fQ,addr_add,Nat.add_zero]
   refine bI ?_
   rw [e4]
   refine ⟨hb.box.ok (by simp),bU ?_⟩
   have hb6u:=(hb6.keep hku).mod hon (fun hk=>by have hk':w.heap.size+1=w1.heap.size+1:=hk; omega)
   have hl1:=hb.l.mod hon (fA hb.box hb.l (by decide))
   have hv1:=hb.v.mod hon (fA hb.box hb.v (by decide))
   have ho1:=hb.o.mod hon (fA hb.box hb.o (by decide))
   have hvo1:∀ y∈vd,VOK w.heap.size (u1.setCell ⟨w1.heap.size,4,none⟩ (.slice a' n' c')) y:=fun y hy=>(hb.vo y hy).mod hon fun k cur hbk' hk=>by
    have hk':k+1=w1.heap.size+1:=hk
    obtain rfl:k=w1.heap.size:=by omega
    exact absurd (hbk'.ne hb.box) (by decide)
   have hls1:Ls tL (fun b=>v.heap.size≤b∧b<u1.heap.size) (u1.setCell ⟨w1.heap.size,4,none⟩ (.slice a' n' c')) a' n' c' (jr ts):=hls.mod hon fun b hb' hk=>by
    have hk':b+1=w1.heap.size+1:=hk
    have:=hbk.box.lt
    have hb'':v.heap.size≤b:=hb'.1
    omega
   have hsv:w.heap.size≤v.heap.size:=hf.size
   have hfu:From w.heap.size w (u1.setCell ⟨w1.heap.size,4,none⟩ (.slice a' n' c')):=(hf.aF hku).trans hon (fun _ _ h=>h) (fun k _ hk=>by have hk':k+1=w1.heap.size+1:=hk; show w.heap.size≤k; omega)
   have hsz2:(u1.setCell ⟨w1.heap.size,4,none⟩ (.slice a' n' c')).heap.size=u1.heap.size:=fP _ _ _
   generalize u1.setCell ⟨w1.heap.size,4,none⟩ (.slice a' n' c')=u2 at hset hb6u hl1 hv1 ho1 hvo1 hls1 hfu hsz2 hon
   have hA:AtL u2 (na w1) [.int .i64 first,s1.v,s2.v,s3.v,.slice a' n' c']:=by simpa using AtL.blk (b:=w1) hset
   refine bI ⟨_,hA 0 _ rfl,_,_,_,hA 1 _ rfl,_,_,_,hA 2 _ rfl,_,_,_,hA 3 _ rfl,_,_,_,hA 4 _ rfl,bI ?_⟩
   refine wrA (e:=tB') (b:=w.heap.size) (vs:=[.int .i64 first,s1.v,s2.v,s3.v,.slice a' n' c']) hb6u rfl fun u3 hb3 ho3=>?_
   have hA3:AtL u3 (na w) [.int .i64 first,s1.v,s2.v,s3.v,.slice a' n' c']:=by simpa using AtL.blk (b:=w) hb3
   refine ⟨_,hA3 0 _ rfl,_,_,_,hA3 1 _ rfl,_,_,_,hA3 2 _ rfl,_,_,_,hA3 3 _ rfl,_,_,_,hA3 4 _ rfl,?_⟩
   refine ⟨s1,s2,s3,⟨a',n',c'⟩,rfl,⟨?_,?_,?_,?_⟩,From.kept (hfu.trans ho3 (fun _ _ h=>h) (fun k _ hk=>by have hk':k+1=w.heap.size+1:=hk; show w.heap.size≤k; omega))⟩
   ·have hx:=hl1.mod ho3 (fA hb6u hl1 (by decide))
    exact (Arr.ls (h1:=fun _=>rfl) hx).mono fun b hbb=>⟨by have:=hb.lB; omega,by have:=Row.le hx; omega⟩
   ·have h3:=hv1.mod ho3 (fA hb6u hv1 (by decide))
    have:=Tm (F:=fun b=>w.heap.size≤b∧b<u3.heap.size) h3 (fun y hy=>(hvo1 y hy).mod ho3 fun k cur hbk' hk=>by
     have hk':k+1=w.heap.size+1:=hk
     obtain rfl:k=w.heap.size:=by omega
     exact absurd (hbk'.ne hb6u) (by decide)) hb.vB (fun b h h2=>⟨h,h2⟩)
    rw [hvd] at this
    exact this
   ·have hx:=ho1.mod ho3 (fA hb6u ho1 (by decide))
    exact (Arr.ls (h1:=fun _=>rfl) hx).mono fun b hbb=>⟨by have:=hb.oB; omega,by have:=Row.le hx; omega⟩
   ·exact (hls1.mod ho3 fun b hb' hk=>by
     have hk':b+1=w.heap.size+1:=hk
     have:=hb6.lt
     have hb'':v.heap.size≤b:=hb'.1
     omega).mono fun b hb'=>⟨by have hb'':v.heap.size≤b:=hb'.1; omega,by have h2:=hb'.2; have h3:=hon.size; have h4:=ho3.size; have h5:u2.heap.size=u1.heap.size:=hsz2; omega⟩
  | succ k ih =>
   intro i v vd s1 s2 s3 g1 gv g3 hi hbk hvd hb6 hf
   rw [aB.u8]; unfold aB.g8
   refine aI (by omega) ?_
   have hGv:=hG.kept (From.kept hf)
   refine hGv.ls.rdT (by omega) (by omega) fun t a' n' c' ht hnodes=>?_
   rw [Int.toNat_natCast] at ht
   obtain ⟨o1,o2,o3,o4⟩:=hG.ok t (List.mem_of_getElem? ht)
   obtain ⟨hsh,hlv⟩:=jW o3
   have hnl:=hnodes.len
   have hGt:Good F v a' n' c' t.nodes:=⟨hnodes,hGv.old,by omega,o2⟩
   have hTr:=dY hsh
   refine uY fun v1 hbt hT hk1=>⟨_,hT.c0,_,_,_,hT.c1,?_⟩
   refine E.CallsD.mono (vk (o:=t.output) (hGt.kept hk1)) fun r u1 ⟨a2,n2,c2,hr,hnew⟩=>⟨_,_,_,_,hr,?_⟩
   have hkl:=hnew.kept
   have hn2:n2=(dw t.nodes false).length:=by have:=hnew.len; simpa [nH] using this
   have hk12:=Kept.trans hk1 hkl
   obtain ⟨gl,hal,_,_⟩:=hnew
   refine ⟨n2+1,?_⟩
   have inner:∀ (k2 j:Nat) (z:World) (ax:OA) (nx cx gx:Nat),j+k2=n2→From u1.heap.size u1 z→Arr eI t64 z ax nx cx ((gp t).take j) gx→(gx=0∨u1.heap.size<gx) →
     aB.l27 (fun v u=>∃ s1 s2 s3 s4:SH,v=vB (eU ts first) s1 s2 s3 s4∧ku (fun b=>w.heap.size≤b∧b<u.heap.size) u (eU ts first) s1 s2 s3 s4∧Kept w u) (aB.l8 (fun v u=>∃ s1 s2 s3 s4:SH,v=vB (eU ts first) s1 s2 s3 s4∧ku (fun b=>w.heap.size≤b∧b<u.heap.size) u (eU ts first) s1 s2 s3 s4∧Kept w u) (k+1)) (k2+1) a n c d (some (na w)) (some (na w1)) (some (na v)) a2 n2 c2 ax nx cx a n c n i a2 n2 c2 n2 j z:=by
    intro k2
    induction k2 with
    | zero =>
     intro j z ax nx cx gx hj hz hx hgx
     have hkz:=From.kept hz
     have hkk:=Kept.trans hk12 hkz
     unfold aB.l27 aB.g27
     refine az (by omega) ?_
     rw [List.take_of_length_le (by simp [gp]; omega)] at hx
     have hbz:=hbk.kept hkk
     have hsz:w.heap.size≤z.heap.size:=Nat.le_trans hf.size hkk.size
     have hsv:=hf.size
     have hlen1:((ts.take i).map fun t=>((dw t.nodes false).length:Int)).length≤65536:=by simp; omega
     have hlen3:((ts.take i).map TD.output).length≤65536:=by simp; omega
     have hlen2:vd.length≤65536:=by have:=congrArg List.length hvd; simp at this; omega
     have hb6z:=hb6.keep hkk
     have hpb:w1.heap.size<v.heap.size:=hbk.box.lt
     have hbtz:=hbt.keep (Kept.trans hkl hkz)
     have hvz:VOK w.heap.size z (gp t,⟨ax,nx,cx⟩):=⟨gx,hx,by have:=hk12.size; omega⟩
     refine hbz.leaf hsz hlen1 (x:=(n2:Int)) fun z1 s1' g1' hb1 hf1 ht1=>?_
     have hb6z1:=ht1 _ _ _ hb6z (by decide) (by omega)
     have hbt1:=ht1 _ _ _ hbtz (by decide) (by omega)
     have hvz1:VOK w.heap.size z1 (gp t,⟨ax,nx,cx⟩):=by
      obtain ⟨g,h1,h2⟩:=hvz
      refine ⟨g,⟨h1.1,?_⟩,h2⟩
      rcases h1.2 with h0 | ⟨b,cur,e0,ha,hb,h3⟩
      ·exact .inl h0
      ·exact .inr ⟨b,cur,e0,ha,ht1 _ _ _ hb (by decide) (fun e=>by subst e; exact absurd (hb.ne hbz.box) (by decide)),h3⟩
     refine hb1.val (Nat.le_trans hsz hf1.size) hlen2 hvz1 fun z2 s2' gv' hb2 hf2 ht2=>?_
     have hb6z2:=ht2 _ _ _ hb6z1 (by decide) (by omega)
     have hbt2:=ht2 _ _ _ hbt1 (by decide) (by omega)
     refine ⟨_,_,_,by rw [fQ,hb2.box.cell]; rfl,?_⟩
     refine ⟨_,by rw [fQ,hbt2.cell]; rfl,?_⟩
     refine hb2.out (Nat.le_trans (Nat.le_trans hsz hf1.size) hf2.size) hlen3 (x:=t.output) fun z3 s3' g3' hb3 hf3' ht3=>?_
     have hb6z3:=ht3 _ _ _ hb6z2 (by decide) (by omega)
     refine aA (by omega) (ih (i+1) z3 (vd++[(gp t,⟨ax,nx,cx⟩)]) s1' s2' s3' g1' gv' g3' (by omega) ?_ ?_ hb6z3 ?_)
     ·rw [take_snoc ht,List.map_append,List.map_append,List.map_cons,List.map_cons,List.map_nil,List.map_nil,← hn2]
      exact hb3
     ·rw [take_snoc ht,List.map_append,List.map_append,hvd]; rfl
     ·exact (((hf.aF hkk).trans hf1 (fun _ _ h=>h) (fun _ _ h=>h)).trans hf2 (fun _ _ h=>h) (fun _ _ h=>h)).trans hf3' (fun _ _ h=>h) (fun _ _ h=>h)
    | succ k2 ih2 =>
     intro j z ax nx cx gx hj hz hx hgx
     have hkz:=From.kept hz
     unfold aB.l27 aB.g27
     refine aI (by omega) ?_
     have hjl:j<(dw t.nodes false).length:=by omega
     refine ((hal.kept hkz).sl).rdI (k := .i64) (by omega) (by omega) fun y hy=>?_
     rw [Int.toNat_natCast] at hy
     have hyq:y=(((dw t.nodes false)[j]'hjl:Nat):Int):=by
      have:(nH (dw t.nodes false))[j]?=some (((dw t.nodes false)[j]'hjl:Nat):Int):=by simp [nH,hjl]
      rw [this] at hy
      cases hy; rfl
     obtain ⟨q,hq⟩:∃ q,q=(dw t.nodes false)[j]'hjl:=⟨_,rfl⟩
     rw [← hq] at hyq
     subst hyq
     have hqlt:q<t.nodes.length:=Ff hsh (by rw [hq]; exact List.getElem_mem _)
     have hT1:=hT.kept (Kept.trans hkl hkz)
     refine bI ⟨_,_,_,hT1.c1,?_⟩
     refine (hnodes.kept (Kept.trans hk12 hkz)).rdF (by omega) (by omega) fun p x a5 n5 c5 hxq hcs h8=>⟨_,h8.c1,?_⟩
     rw [Int.toNat_natCast] at hxq
     have hxl:=hx.len
     have hll:(gp t).length=n2:=by simp [gp]; omega
     rw [List.length_take] at hxl
     refine Arr.push (P:=Go.Proofs.Tryz.prog) VB hx (x:=x.value) rfl rfl (by simp only [maxLen]; omega) (by omega) fun a7 c7 g7 z2 hx2 hg7 _ ho7=>⟨_,_,_,rfl,aA (by omega) (ih2 (j+1) z2 a7 (nx+1) c7 g7 (by omega) (hz.trans ho7 (fun _ _ h=>h) (fun k _ hk=>by have hk':k+1=gx:=hk; show u1.heap.size≤k; omega)) ?_ (by have:=hz.size; omega))⟩
     have:(gp t)[j]?=some x.value:=by
      unfold gp
      rw [List.getElem?_map,List.getElem?_eq_getElem hjl,← hq]
      simp [hxq]
     rw [take_snoc this]
     exact hx2
   exact inner n2 0 u1 none 0 0 0 (by omega) (From.refl _ _) (Arr.nil _ _ _) (.inl rfl)
 exact key n 0 w3 [] _ _ _ 0 0 0 (by omega) hB0 rfl b6' hf3
end
end Go.Mir
