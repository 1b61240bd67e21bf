/- Part of a proof of laws of the seat YtmjlipmapfofmaaGreat: functions' weakest preconditions, each checked by the kernel, contracts out of them, plain lemmas; no conditions. -/
import Derived.Test.YtmjlipmapfofmaaGreatFF
set_option linter.unusedVariables false
set_option linter.unusedSimpArgs false
set_option linter.unusedSectionVars false
set_option maxRecDepth 100000
namespace Go.Mir
open Go Go.E Go.RowKit Go.Tr Go.Ss Go.ChangeShapes
section
variable {w w0 u w1 wB x:World} {a a0 a1 a4:OA} {n c n0 c0 n1 c1 n4 c4 g m:Nat} {F F' S:Nat→Prop} {p q:Addr} {B:Nat} {R:VP} {f:fV} {s t:SH}
theorem stB {pb j e:Nat} {cs:Array Value} {v:Value} {K:World→Prop} (hb:Blk w pb cs e) (hj:j<cs.size) (hk:∀ u,Blk u pb (cs.setIfInBounds j v) e→Only (pb+1) w u→K u):st w (((⟨pb,0,none⟩:Addr).add j).add 0) v K:=by
 rw [addr_add,addr_add,Nat.zero_add,Nat.add_zero]
 exact ⟨hb.ok hj,bU (hk _ (hb.set j v) (Only.set w pb j v))⟩
theorem atB {pb e:Nat} {cs:List Value} (hb:Blk w pb cs.toArray e):AtL w (⟨pb,0,none⟩:Addr) cs:=fun j v hj=>by rw [addr_add,Nat.zero_add,hb.cell]; simpa using hj
end
end Go.Mir
