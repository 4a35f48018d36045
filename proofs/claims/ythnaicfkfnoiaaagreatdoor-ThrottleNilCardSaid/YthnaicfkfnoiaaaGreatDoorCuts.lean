/- The calls at which the run is cut. -/
import Derived.Test.YthnaicfkfnoiaaaGreatDoorS3
import Derived.Test.YthnaicfkfnoiaaaGreatDoorEnv
set_option maxRecDepth 100000
namespace Go.Vai
open Go
noncomputable def e0 : Entry := ⟨5, [(vp 579 0 0 13), vz], s1, (.tuple [(vi 32), (vi 0)]), s2⟩
noncomputable def e1 : Entry := ⟨5, [(vp 2899 0 0 13), vz], s5, (.tuple [(vi 32), (vi 0)]), s6⟩
noncomputable def e2 : Entry := ⟨5, [(vp 4647 0 0 13), vz], s9, (.tuple [(vi 32), (vi 0)]), s10⟩
noncomputable def e3 : Entry := ⟨5, [(vp 6413 0 0 13), vz], s13, (.tuple [(vi 32), (vi 0)]), s14⟩
noncomputable def e4 : Entry := ⟨5, [(vp 8831 0 0 13), vz], s17, (.tuple [(vi 32), (vi 0)]), s18⟩
noncomputable def e5 : Entry := ⟨23, [(.agg [(vs 38 0 0 2 6 2), (vs 32 1 0 6 4 6)]), (.agg [(vs 21 0 0 1 1 1), (vs 22 0 0 1 1 1)]), (.agg [(vi 0), (vi 4), (vi 1), (vi 1), (vy 2), vz])], s0, (.tuple [(.agg [(vs 1765 1 0 1 2 1), (vs 1773 0 0 1 1 1), (vi 2), (vi 3), (vi 1), (vi 0), vz]), (.agg [(vi 2), (vi 1), (vi 2), (vi 0)]), (vi 0)]), s3⟩
noncomputable def e6 : Entry := ⟨23, [(.agg [(vs 1801 0 0 2 6 2), (vs 1795 1 0 6 4 6)]), (.agg [(vs 21 0 0 1 1 1), (vs 22 0 0 1 1 1)]), (.agg [(vi 0), (vi 4), (vi 1), (vi 1), (vy 2), vz])], s4, (.tuple [(.agg [(vs 4085 1 0 1 2 1), (vs 4093 0 0 1 1 1), (vi 2), (vi 3), (vi 1), (vi 0), vz]), (.agg [(vi 2), (vi 1), (vi 2), (vi 0)]), (vi 0)]), s7⟩
noncomputable def e7 : Entry := ⟨23, [(.agg [(vs 1801 0 0 2 6 2), (vs 1795 1 0 6 4 6)]), (.agg [(vs 21 0 0 1 1 1), (vs 22 0 0 1 1 1)]), (.agg [(vi 0), (vi 4), (vi 1), (vi 2), (vy 2), vz])], s8, (.tuple [(.agg [(vs 5836 1 0 1 2 1), (vs 5844 0 0 1 1 1), (vi 2), (vi 3), (vi 1), (vi 0), vz]), (.agg [(vi 2), (vi 0), (vi 2), (vi 0)]), (vi 0)]), s11⟩
noncomputable def e8 : Entry := ⟨23, [(.agg [(vs 5872 0 0 2 6 2), (vs 5866 1 0 6 4 6)]), (.agg [(vs 21 0 0 1 1 1), (vs 22 0 0 1 1 1)]), (.agg [(vi 0), (vi 4), (vi 1), (vi 1), (vy 1), vz])], s12, (.tuple [(.agg [(vs 7697 1 0 1 2 1), (vs 7705 0 0 1 1 1), (vi 2), (vi 3), (vi 1), (vi 0), vz]), (.agg [(vi 2), (vi 0), (vi 1), (vi 0)]), (vi 0)]), s15⟩
noncomputable def e9 : Entry := ⟨23, [(.agg [(vs 7733 0 0 2 6 2), (vs 7727 1 0 6 4 6)]), (.agg [(vs 21 0 0 1 1 1), (vs 22 0 0 1 1 1)]), (.agg [(vi 0), (vi 4), (vi 1), (vi 1), (vy 1), vz])], s16, (.tuple [(.agg [(vs 10115 1 0 1 2 1), (vs 10123 0 0 1 1 1), (vi 2), (vi 3), (vi 1), (vi 0), vz]), (.agg [(vi 2), (vi 0), (vi 1), (vi 0)]), (vi 0)]), s19⟩
end Go.Vai
