/- Part of a proof; no conditions. -/
import Derived.Test.YtmjlipmapfofmaaGreatTD
set_option linter.unusedVariables false
set_option linter.unusedSimpArgs false
set_option linter.unusedSectionVars false
set_option maxRecDepth 100000
namespace Go.Mir
open Go Go.E Go.RowKit Go.Tr
section
end
noncomputable def dQ(t:TD):TD:=⟨t.output,lY t.nodes⟩
section
end
section
end
section
variable{nodes:List ND}
theorem iR(h:(dY iC nodes).1=0):dA nodes false=(gW nodes).leaves:=by
 unfold dA;rw[if_pos h,(bW h).is.leaves];unfold pick;apply List.filter_congr;intro i _;unfold jM
 cases (nodes[i]?.map ND.inner).getD false <;> rfl
theorem mZ(h:(dY iC nodes).1=0):dY iC (lY nodes)=(0,0):=by rw[nP h];exact(bW h).Hr
theorem oM(h:(dY iC nodes).1=0):gW (lY nodes)=(gW nodes).KO (gW nodes).pre.idxOf:=by
 have hTr:=bW h;have h2:=bW (nodes:=lY nodes) (by rw[mZ h]);have h3:=hTr.yC hTr.is;rw[<- nP h]at h3;exact Is.uniq h2.is h3 (by rw[h2.root,BT.uZ,hTr.root,hTr.DT])
end
end Go.Mir
