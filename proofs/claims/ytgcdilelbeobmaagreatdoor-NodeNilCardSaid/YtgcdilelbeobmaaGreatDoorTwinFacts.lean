/- A row's closed facts, in parts that the kernel can bear. -/
import Derived.JoinedOf
namespace Go.Twin
open Go

theorem joined_of {P : Program} {f : FuncId} {fn : Func} {s : ChangeSpec} {c : OpenClaim}
    (a1 : c.wf (OpenSpec.ofChange s) = true) (a2 : laidOutB P = true) (a3 : mapsRowed P = true)
    (b1 : fn.params.all (P.readableRec ·) = true) (b2 : namedTie P c.named s.vars = true)
    (d1 : (c.stops == []) = true) (d2 : (P.stops == []) = true) (d3 : (c.knobs == []) = true) (d4 : (P.stopKnobs == []) = true)
    (e1 : (c.inPlace == P.inPlace f) = true) (e2 : (c.unfollowed == P.unfollowed f) = true) (e3 : (c.recurses == P.recurses f) = true) (e4 : (c.named == P.varsNamed f) = true)
    (g1 : (c.maps == (fn.params.toList ++ s.plain.varTypes P).any (P.mapsRec ·)) = true) (g2 : (c.ifaces == (fn.params.toList ++ s.plain.varTypes P).any (P.ifacesRec ·)) = true) (g3 : (c.mapsOut == P.mapsAmong fn.resultTypes.toList) = true)
    (h1 : (c.loops == (fn.params.toList ++ s.plain.varTypes P).any (P.loopsFrom ·)) = true) (h2 : (c.wideKeys == (fn.params.toList ++ s.plain.varTypes P ++ fn.resultTypes.toList).any (P.wideKeysFrom ·)) = true)
    (i1 : s.vars.all (P.varReadable ·) = true) (i2 : fn.resultTypes.all (fun t => P.readableRec t && decide (t < P.types.size)) = true) (i3 : (c.ifacesOut == fn.resultTypes.toList.any (P.ifacesRec ·)) = true)
    (i4 : (c.loopsOut == fn.resultTypes.toList.any (P.loopsFrom ·)) = true) (i5 : (c.plainKeys == P.plainKeys) = true) (i6 : c.shortTexts.isNone = true)
    (j1 : P.stopsHeard = true) (j2 : P.mayEnter = true) (j3 : (c.lifted == P.liftsFinal) = true) (j4 : (P.make == some c.make) = true)
    (j5 : (c.kinds == []) = true) (j7 : c.domain.isEmpty = true) (j6 : (c.pinned == c.pinnedBy) = true)
    (k1 : (c.veiled == (fn.params.toList ++ s.plain.varTypes P ++ fn.resultTypes.toList).any (P.veiledRec ·)) = true) (k2 : c.veiledFits P fn.params.toList (fn.params.toList ++ s.plain.varTypes P ++ fn.resultTypes.toList) = true) :
    joinedFacts P f fn s c = true := by
  unfold joinedFacts
  rw [j7, if_pos rfl]
  rw [a1, a2, a3, b1, b2, d1, d2, d3, d4, e1, e2, e3, e4, g1, g2, g3, h1, h2, i1, i2, i3, i4, i5, i6, j1, j2, j3, j4, j5, j6, k1, k2]
  rfl
end Go.Twin
