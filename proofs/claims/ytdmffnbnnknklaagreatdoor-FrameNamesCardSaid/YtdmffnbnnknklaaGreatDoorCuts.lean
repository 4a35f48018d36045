/- The calls at which the run is cut. -/
import Derived.Test.YtdmffnbnnknklaaGreatDoorS1
import Derived.Test.YtdmffnbnnknklaaGreatDoorSums
set_option maxRecDepth 100000
namespace Go.Vai
open Go
noncomputable def e0 : Entry := ⟨5, [(.agg [(vs 90 1 0 2 6 2), (vs 40 8 0 9 4 9)]), (vi 2), (vi 1)], s0, (.tuple [vf, (vi 0)]), s1⟩
noncomputable def e1 : Entry := ⟨5, [(.agg [(vs 906 1 0 2 6 2), (vs 856 8 0 9 4 9)]), (vi 3), (vi 2)], s2, (.tuple [vt, (vi 0)]), s3⟩
noncomputable def e2 : Entry := ⟨5, [(.agg [(vs 1719 1 0 2 6 2), (vs 1669 8 0 9 4 9)]), (vi 3), (vi 1)], s4, (.tuple [vt, (vi 0)]), s5⟩
noncomputable def e3 : Entry := ⟨5, [(.agg [(vs 2532 1 0 2 6 2), (vs 2482 8 0 9 4 9)]), (vi 4), (vi 2)], s6, (.tuple [vt, (vi 0)]), s7⟩
noncomputable def e4 : Entry := ⟨5, [(.agg [(vs 3351 1 0 2 6 2), (vs 3301 8 0 9 4 9)]), (vi 4), (vi 1)], s8, (.tuple [vt, (vi 0)]), s9⟩
noncomputable def e5 : Entry := ⟨5, [(.agg [(vs 4170 1 0 2 6 2), (vs 4120 8 0 9 4 9)]), (vi 7), (vi 6)], s10, (.tuple [vf, (vi 0)]), s11⟩
noncomputable def e6 : Entry := ⟨5, [(.agg [(vs 4986 1 0 2 6 2), (vs 4936 8 0 9 4 9)]), (vi 8), (vi 6)], s12, (.tuple [vt, (vi 0)]), s13⟩
noncomputable def e7 : Entry := ⟨5, [(.agg [(vs 5799 1 0 2 6 2), (vs 5749 8 0 9 4 9)]), (vi 1), (vi 1)], s14, (.tuple [vf, (vi 0)]), s15⟩
noncomputable def e8 : Entry := ⟨7, [(.agg [(vs 6615 1 0 2 6 2), (vs 6565 8 0 9 4 9)])], s16, (.tuple [(vs 7386 1 0 2 1 2), (vs 7445 1 0 2 1 2), (vi 0)]), s17⟩
noncomputable def e9 : Entry := ⟨8, [(.agg [(vs 7527 1 0 2 6 2), (vs 7477 8 0 9 4 9)])], s18, (.tuple [(.agg [(vs 8326 1 0 2 1 2), (vs 8281 0 0 9 1 9)]), (vi 0)]), s19⟩
noncomputable def e10 : Entry := ⟨5, [(.agg [(vs 8417 1 0 2 6 2), (vs 8367 8 0 9 4 9)]), (vi 9), (vi 0)], s20, (.tuple [vf, (vi 3)]), s21⟩
noncomputable def e11 : Entry := ⟨11, [(.agg [(vs 9243 1 0 2 6 2), (vs 9193 8 0 9 4 9), (vs 9257 0 0 2 1 2), (vs 9258 0 0 9 1 9)]), (vs 9263 1 0 2 3 2), vz], s22, (.tuple [(.agg [vz, vz]), (vi 6)]), s23⟩
noncomputable def e12 : Entry := ⟨11, [(.agg [(vs 10184 1 0 2 6 2), (vs 10134 8 0 9 4 9), (vs 10198 0 0 2 1 2), (vs 10199 0 0 9 1 9)]), vz, (vs 10200 0 0 1 2 1)], s24, (.tuple [(.agg [vz, vz]), (vi 2)]), s25⟩
noncomputable def e13 : Entry := ⟨14, [(.agg [(vs 11062 1 0 2 6 2), (vs 11012 8 0 9 4 9), (vs 11076 0 0 2 1 2), (vs 11077 0 0 9 1 9)]), (.agg [vz, vz]), (.agg [(vi 0), (vi 9), (vi 0), (vy 0), (vi 0)])], s26, (.tuple [(.agg [vz, vz]), vz, (vi 3)]), s27⟩
noncomputable def e14 : Entry := ⟨14, [(.agg [(vs 11952 1 0 2 6 2), (vs 11902 8 0 9 4 9), (vs 11966 0 0 2 1 2), (vs 11967 0 0 9 1 9)]), (.agg [vz, vz]), (.agg [(vi 0), (vi 1), (vi 2), (vy 0), (vi 0)])], s28, (.tuple [(.agg [vz, vz]), vz, (vi 7)]), s29⟩
noncomputable def e15 : Entry := ⟨14, [(.agg [(vs 12848 1 0 2 6 2), (vs 12798 8 0 9 4 9), (vs 12862 0 0 2 1 2), (vs 12863 0 0 9 1 9)]), (.agg [vz, vz]), (.agg [(vi 0), (vi 1), (vi 0), (vy 0), (vi 0)])], s30, (.tuple [(.agg [vz, vz]), vz, (vi 2)]), s31⟩
noncomputable def e16 : Entry := ⟨15, [(.agg [(vs 13747 1 0 2 6 2), (vs 13697 8 0 9 4 9), (vs 13761 0 0 2 1 2), (vs 13762 0 0 9 1 9)]), (.agg [vz, vz]), vz], s32, (.tuple [(.agg [vz, vz, (vi 0), (vi 0), (vi 0), (vi 0), vz]), (vi 0), (vi 2)]), s33⟩
noncomputable def e17 : Entry := ⟨16, [(.agg [(vs 14624 1 0 2 6 2), (vs 14574 8 0 9 4 9), (vs 14638 0 0 2 1 2), (vs 14639 0 0 9 1 9)])], s34, (vi 4), s35⟩
noncomputable def e18 : Entry := ⟨17, [(.agg [(vs 15470 1 0 2 6 2), (vs 15420 8 0 9 4 9), (vs 15484 0 0 2 1 2), (vs 15485 0 0 9 1 9)]), (.agg [(vs 15486 0 0 1 3 1), vz])], s36, (vi 4), s37⟩
noncomputable def e19 : Entry := ⟨8, [(.agg [(vs 16310 0 0 2 6 2), (vs 16301 0 0 9 4 9)])], s39, (.tuple [(.agg [(vs 17098 1 0 2 1 2), (vs 17053 0 0 9 1 9)]), (vi 0)]), s40⟩
noncomputable def e20 : Entry := ⟨8, [(.agg [(vs 17136 0 0 1 6 1), (vs 17131 0 0 5 4 5)])], s41, (.tuple [(.agg [(vs 17636 0 0 1 1 1), (vs 17579 0 0 5 1 5)]), (vi 0)]), s42⟩
noncomputable def e21 : Entry := ⟨14, [(.agg [(vs 17731 1 0 2 6 2), (vs 17681 8 0 9 4 9), (vs 17745 0 0 2 1 2), (vs 17746 0 0 9 1 9)]), (.agg [vz, vz]), (.agg [(vi 1), (vi 1), (vi 0), (vy 1), (vi 3)])], s43, (.tuple [(.agg [(vs 18583 0 0 1 3 1), vz]), vz, (vi 0)]), s44⟩
noncomputable def e22 : Entry := ⟨14, [(.agg [(vs 18647 1 0 2 6 2), (vs 18597 8 0 9 4 9), (vs 18661 0 0 2 1 2), (vs 18662 0 0 9 1 9)]), (.agg [(vs 18583 0 0 1 3 1), vz]), (.agg [(vi 1), (vi 1), (vi 1), (vy 1), (vi 0)])], s45, (.tuple [(.agg [(vs 19492 0 0 0 3 1), vz]), (vs 19529 0 0 1 3 1), (vi 0)]), s46⟩
noncomputable def e23 : Entry := ⟨18, [], s38, vt, s47⟩
end Go.Vai
