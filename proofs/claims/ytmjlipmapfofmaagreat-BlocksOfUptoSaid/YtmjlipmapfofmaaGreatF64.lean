/- Part of a proof of laws of the seat YtmjlipmapfofmaaGreat: functions' weakest preconditions, each checked by the kernel, contracts out of them, plain lemmas; no conditions. -/
import Derived.Test.YtmjlipmapfofmaaGreatF63
set_option linter.unusedVariables false
set_option linter.unusedSimpArgs false
set_option linter.unusedSectionVars false
set_option maxRecDepth 100000
namespace Go.Mir
open Go Go.E Go.RowKit Go.Tr Go.Ss Go.ChangeShapes
def vr (r:Nat):Nat:=if r<4503599627370496 then r else (4503599627370496+r % 4503599627370496)*2 ^ (r / 4503599627370496 - 1)
theorem IJ (r:Nat):vr r<vr (r+1):=by
 unfold vr
 by_cases h1:r+1<4503599627370496
 ·rw [if_pos (by omega),if_pos h1]; omega
 ·rw [if_neg h1]
  by_cases h2:r<4503599627370496
  ·rw [if_pos h2]
   have e:r=4503599627370495:=by omega
   subst e
   decide
  ·rw [if_neg h2]
   have hq:1≤r / 4503599627370496:=by omega
   have hp:0<2 ^ (r / 4503599627370496 - 1):=Nat.two_pow_pos _
   by_cases h3:r % 4503599627370496+1<4503599627370496
   ·have e1:(r+1) / 4503599627370496=r / 4503599627370496:=by omega
    have e2:(r+1) % 4503599627370496=r % 4503599627370496+1:=by omega
    rw [e1,e2]
    exact Nat.mul_lt_mul_of_lt_of_le (by omega) (Nat.le_refl _) hp
   ·have e1:(r+1) / 4503599627370496=r / 4503599627370496+1:=by omega
    have e2:(r+1) % 4503599627370496=0:=by omega
    rw [e1,e2,show r / 4503599627370496+1 - 1=(r / 4503599627370496 - 1)+1 by omega,Nat.pow_succ]
    generalize 2 ^ (r / 4503599627370496 - 1)=P at hp
    rw [Nat.mul_comm P 2,← Nat.mul_assoc]
    exact Nat.mul_lt_mul_of_lt_of_le (by omega) (Nat.le_refl _) hp
theorem SE {r s:Nat} (h:r<s):vr r<vr s:=by
 induction s with
 | zero=>omega
 | succ s ih =>
  by_cases e:r=s
  ·subst e; exact IJ r
  ·exact Nat.lt_trans (ih (by omega)) (IJ s)
theorem EO (r s:Nat):vr r<vr s↔r<s:=⟨fun h=>Nat.lt_of_not_le fun h2=>by
 rcases Nat.lt_or_eq_of_le h2 with h3 | h3
 ·exact Nat.lt_asymm h (SE h3)
 ·subst h3; exact Nat.lt_irrefl _ h,SE⟩
theorem QV:vr 0=0:=rfl
def srg (z:Nat):Int:=if z / 9223372036854775808 % 2=1 then -((z % 9223372036854775808:Nat):Int) else ((z % 9223372036854775808:Nat):Int)
theorem Aa (z:Nat) (h:z % 9223372036854775808<9218868437227405312):∃ (m:Nat) (a:Nat),FloatKind.f64.format.read z = .number (z / 9223372036854775808 % 2==1) m (FloatKind.f64.format.leastPlace+a)∧m*2 ^ a=vr (z % 9223372036854775808):=by
 have e:FloatKind.f64.format=Ieee.double:=rfl
 rw [e]
 unfold Ieee.Format.read
 have w:Ieee.double.signWeight=9223372036854775808:=by decide
 have b:Ieee.double.binade=4503599627370496:=by decide
 have i:Ieee.double.infRung=9218868437227405312:=by decide
 rw [w,b,i]
 simp only
 by_cases h1:z % 9223372036854775808<4503599627370496
 ·rw [if_pos h1]
  exact ⟨_,0,by rw [show (((0:Nat):Int))=0 from rfl,Int.add_zero],by unfold vr; rw [if_pos h1]; simp⟩
 ·rw [if_neg h1,if_pos h]
  exact ⟨_,_,rfl,by unfold vr; rw [if_neg h1]⟩
theorem uP (z:Nat) (h:z % 9223372036854775808=9218868437227405312):FloatKind.f64.format.read z = .infinity (z / 9223372036854775808 % 2==1):=by
 have e:FloatKind.f64.format=Ieee.double:=rfl
 rw [e]
 unfold Ieee.Format.read
 have w:Ieee.double.signWeight=9223372036854775808:=by decide
 have b:Ieee.double.binade=4503599627370496:=by decide
 have i:Ieee.double.infRung=9218868437227405312:=by decide
 rw [w,b,i]
 simp only
 rw [if_neg (by omega),if_neg (by omega),if_pos h]
theorem Oc (z:Nat) (h:9218868437227405312<z % 9223372036854775808):iG z=true:=by
 have e:FloatKind.f64.format=Ieee.double:=rfl
 unfold iG Ieee.Format.order
 rw [e]
 unfold Ieee.Format.read
 have w:Ieee.double.signWeight=9223372036854775808:=by decide
 have b:Ieee.double.binade=4503599627370496:=by decide
 have i:Ieee.double.infRung=9218868437227405312:=by decide
 rw [w,b,i]
 simp only
 rw [if_neg (by omega),if_neg (by omega),if_neg (by omega)]
 rfl
theorem zF {z:Nat} (h:iG z=false):z % 9223372036854775808≤9218868437227405312:=Nat.le_of_not_lt fun h2=>by rw [Oc z h2] at h; cases h
theorem SX (x y:Int):(some (compare x y)==some Ordering.gt)=decide (y<x):=by
 rcases Int.lt_trichotomy x y with h | h | h
 ·rw [show compare x y = .lt from Int.compare_eq_lt.2 h]; simp; omega
 ·subst h; rw [show compare x x = .eq from Int.compare_eq_eq.2 rfl]; simp
 ·rw [show compare x y = .gt from Int.compare_eq_gt.2 h]; simp; omega
theorem Np {m a c:Nat} (h:c≤a):m <<< (a - c)*2 ^ c=m*2 ^ a:=by
 rw [Nat.shiftLeft_eq,Nat.mul_assoc,← Nat.pow_add,Nat.sub_add_cancel h]
theorem He {p q k:Int} (hk:0<k):p*k<q*k↔p<q:=⟨fun h=>Int.lt_of_mul_lt_mul_right h (Int.le_of_lt hk),fun h=>Int.mul_lt_mul_of_pos_right h hk⟩
def sgn (s:Bool) (v:Nat):Int:=if s then -(v:Int) else v
theorem yg {s:Bool} {m a c:Nat} (h:c≤a):Ieee.signed s m (a - c)*((2 ^ c:Nat):Int)=sgn s (m*2 ^ a):=by
 unfold Ieee.signed sgn
 rw [← Np h]
 cases s <;> simp [Int.neg_mul]
theorem SA {s t:Bool} {x y:Nat}:sgn s (vr x)<sgn t (vr y)↔sgn s x<sgn t y:=by
 have h1:=EO x y
 have h2:=EO y x
 have h3:=EO 0 x
 have h4:=EO 0 y
 rw [QV] at h3 h4
 unfold sgn
 cases s <;> cases t <;> simp <;> omega
theorem MG {x y:Nat} (hx:iG x=false) (hy:iG y=false):(FloatKind.f64.format.order x y==some .gt)=decide (srg y<srg x):=by
 have rx:=zF hx
 have ry:=zF hy
 have sx:∀ z:Nat,srg z=sgn (z / 9223372036854775808 % 2==1) (z % 9223372036854775808):=fun z=>by unfold srg sgn; simp
 rw [sx,sx]
 unfold Ieee.Format.order
 rcases Nat.lt_or_eq_of_le rx with hx1 | hx1
 ·obtain ⟨m,a,hr,hv⟩:=Aa x hx1
  rcases Nat.lt_or_eq_of_le ry with hy1 | hy1
  ·obtain ⟨n,b,hr',hv'⟩:=Aa y hy1
   rw [hr,hr']
   generalize (x / 9223372036854775808 % 2==1)=s
   generalize (y / 9223372036854775808 % 2==1)=t
   show (some (compare _ _)==some Ordering.gt)=_
   rw [SX]
   have e1:(FloatKind.f64.format.leastPlace+(a:Int) - min (FloatKind.f64.format.leastPlace+(a:Int)) (FloatKind.f64.format.leastPlace+(b:Int))).toNat=a - min a b:=by omega
   have e2:(FloatKind.f64.format.leastPlace+(b:Int) - min (FloatKind.f64.format.leastPlace+(a:Int)) (FloatKind.f64.format.leastPlace+(b:Int))).toNat=b - min a b:=by omega
   simp only [e1,e2]
   congr 1
   refine propext ?_
   rw [← SA,← hv,← hv',← yg (c:=min a b) (Nat.min_le_left a b),← yg (c:=min a b) (Nat.min_le_right a b),He]
   exact Int.natCast_pos.2 (Nat.two_pow_pos _)
  ·rw [hr,uP y hy1,hy1]
   generalize (x / 9223372036854775808 % 2==1)=s
   generalize (y / 9223372036854775808 % 2==1)=t
   show (some (if t then Ordering.gt else .lt)==some Ordering.gt)=_
   unfold sgn
   cases s <;> cases t <;> simp <;> omega
 ·rcases Nat.lt_or_eq_of_le ry with hy1 | hy1
  ·obtain ⟨n,b,hr',hv'⟩:=Aa y hy1
   rw [hr',uP x hx1,hx1]
   generalize (x / 9223372036854775808 % 2==1)=s
   generalize (y / 9223372036854775808 % 2==1)=t
   show (some (if s then Ordering.lt else .gt)==some Ordering.gt)=_
   unfold sgn
   cases s <;> cases t <;> simp <;> omega
  ·rw [uP x hx1,uP y hy1,hx1,hy1]
   generalize (x / 9223372036854775808 % 2==1)=s
   generalize (y / 9223372036854775808 % 2==1)=t
   unfold sgn
   cases s <;> cases t <;> decide
theorem EY {z:Nat} (hz:iG z=false) (h64:z<18446744073709551616):CE z=9218868437227405312+srg z:=by
 have r:=zF hz
 unfold CE srg
 rw [if_neg (by rw [hz]; decide)]
 have e:(2:Int) ^ (min (63:Int).toNat 64)=9223372036854775808:=by decide
 rw [e,Int.fdiv_eq_ediv_of_nonneg _ (by decide)]
 by_cases h:z<9223372036854775808
 ·rw [if_pos (by omega),if_neg (by omega),Fg (by omega) (by omega)]
  omega
 ·rw [if_neg (by omega),if_pos (by omega)]
  have hb:Kt .andNot .u64 (z:Int) 9223372036854775808=((z % 9223372036854775808:Nat):Int):=by
   show IntKind.u64.wrap (((BitVec.ofInt 64 (z:Int)) &&& ~~~ (BitVec.ofInt 64 9223372036854775808)).toNat:Int)=_
   have e1:BitVec.ofInt 64 (z:Int)=BitVec.ofNat 64 z:=by
    apply BitVec.eq_of_toNat_eq
    rw [BitVec.toNat_ofInt,BitVec.toNat_ofNat]
    omega
   have e2:(~~~ BitVec.ofInt 64 9223372036854775808)=BitVec.ofNat 64 9223372036854775807:=by decide
   rw [e1,e2,BitVec.toNat_and,BitVec.toNat_ofNat,BitVec.toNat_ofNat,show (9223372036854775807:Nat) % 2 ^ 64=2 ^ 63 - 1 from by decide,Nat.and_two_pow_sub_one_eq_mod,Fg (by omega) (by omega)]
   omega
  rw [hb,Fg (by omega) (by omega)]
  omega
theorem Ky {x y:Nat} (hx:iG x=false) (hy:iG y=false) (bx:x<18446744073709551616) (by_:y<18446744073709551616):(FloatKind.f64.format.order x y==some .gt)=decide (CE y<CE x):=by
 rw [MG hx hy,EY hx bx,EY hy by_]
 congr 1
 refine propext ?_
 omega
end Go.Mir
