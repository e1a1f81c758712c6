/- Tables. -/
import Derived.Test.YtajdeapdgbnahaaGreatDoorCyGr44
import Derived.Test.YtajdeapdgbnahaaGreatDoorCyDoor
import Derived.Lib.LaidU8T
namespace Go.Proofs.YtajdeapdgbnahaaGreatDoor
set_option linter.unusedVariables false
set_option maxRecDepth 100000
open Go.RowKit
theorem Ff:U8Extra Tryz.prog Tryz.nU where
 n3:=by kernel_rfl
 n4:=by kernel_rfl
 y3:=by kernel_rfl
 y4:=by kernel_rfl
 c5:=by kernel_rfl
 c119:=by kernel_rfl
 c138:=by kernel_rfl
theorem tV{w:World}{g o:Nat}{v:Value}(h:w.cell? ⟨g,o,none⟩=some v):g<w.heap.size:=kS h
theorem Fl{W:World}(l:List (String×DataW Unit))(b:(l.all λx=>x.2.handleName?.isNone)=true)(h:laidMetH Tryz.prog l W)
 (m3 : ("unicode/utf8.first", Rows.laid_unicode_utf8_first) ∈ l) (m4 : ("unicode/utf8.acceptRanges", Rows.laid_unicode_utf8_acceptRanges) ∈ l) : mc W := by
 rw[MakeChecks.laidMetH_plain _ _ _ b]at h;have r3:=Lib.laidMet.reads h m3;have r4:=Lib.laidMet.reads h m4;have c:(Rows.laid_unicode_utf8_first:DataW Unit)=Lib.firstData:=by kernel_rfl
 have d:(Rows.laid_unicode_utf8_acceptRanges:DataW Unit)=Lib.acceptData:=by kernel_rfl
 rw[c]at r3;rw[d]at r4;have u:=utf8Tabs_of_readsT (U8Types.of196 Tryz.vL) Ff r3 r4;have a:Lib.Utf8Tabs 0 1 W:=u;exact⟨a,tV (a.1 0 (by decide)),tV (a.2 0 (by decide)).1⟩
end Go.Proofs.YtajdeapdgbnahaaGreatDoor
