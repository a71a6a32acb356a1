/- Rules for calls. -/
import Derived.Test.YtkaabknkabdfpaaGreatDoorTab2
import Derived.Test.YtkaabknkabdfpaaGreatDoorEwA
set_option linter.unusedVariables false
set_option linter.unusedSimpArgs false
namespace Go.Proofs.YtkaabknkabdfpaaGreatDoor
open Go.Ev
section
variable {κ : List KF} {s : Fr} {h : AH} {Q : Fr → AH → Prop} {vs : List PV} {d : Option Nat} {r : List COper}
@[simp ↓] theorem call6 : callK T 6 vs h d r κ s Q = pureK T 6 (allO (snap h 12) vs) (vs.any (own 12)) h d r κ s Q := callK_pure (c := c6) rfl rfl
@[simp ↓] theorem call8 : callK T 8 vs h d r κ s Q = pureK T 8 (allO (snap h 12) vs) (vs.any (own 12)) h d r κ s Q := callK_pure (c := c8) rfl rfl
@[simp ↓] theorem call9 : callK T 9 vs h d r κ s Q = pureK T 9 (allO (snap h 12) vs) (vs.any (own 12)) h d r κ s Q := callK_pure (c := c9) rfl rfl
@[simp ↓] theorem call15 : callK T 15 vs h d r κ s Q = pureK T 15 (allO (snap h 12) vs) (vs.any (own 12)) h d r κ s Q := callK_pure (c := c15) rfl rfl
@[simp ↓] theorem call16 : callK T 16 vs h d r κ s Q = pureK T 16 (allO (snap h 12) vs) (vs.any (own 12)) h d r κ s Q := callK_pure (c := c16) rfl rfl
@[simp ↓] theorem call17 : callK T 17 vs h d r κ s Q = pureK T 17 (allO (snap h 12) vs) (vs.any (own 12)) h d r κ s Q := callK_pure (c := c17) rfl rfl
@[simp ↓] theorem call18 : callK T 18 vs h d r κ s Q = pureK T 18 (allO (snap h 12) vs) (vs.any (own 12)) h d r κ s Q := callK_pure (c := c18) rfl rfl
@[simp ↓] theorem call19 : callK T 19 vs h d r κ s Q = pureK T 19 (allO (snap h 12) vs) (vs.any (own 12)) h d r κ s Q := callK_pure (c := c19) rfl rfl
@[simp ↓] theorem call20 : callK T 20 vs h d r κ s Q = pureK T 20 (allO (snap h 12) vs) (vs.any (own 12)) h d r κ s Q := callK_pure (c := c20) rfl rfl
@[simp ↓] theorem call46 : callK T 46 vs h d r κ s Q = pureK T 46 (allO (snap h 12) vs) (vs.any (own 12)) h d r κ s Q := callK_pure (c := c46) rfl rfl
@[simp ↓] theorem call47 : callK T 47 vs h d r κ s Q = pureK T 47 (allO (snap h 12) vs) (vs.any (own 12)) h d r κ s Q := callK_pure (c := c47) rfl rfl
@[simp ↓] theorem call48 : callK T 48 vs h d r κ s Q = pureK T 48 (allO (snap h 12) vs) (vs.any (own 12)) h d r κ s Q := callK_pure (c := c48) rfl rfl
@[simp ↓] theorem call49 : callK T 49 vs h d r κ s Q = pureK T 49 (allO (snap h 12) vs) (vs.any (own 12)) h d r κ s Q := callK_pure (c := c49) rfl rfl
@[simp ↓] theorem call50 : callK T 50 vs h d r κ s Q = pureK T 50 (allO (snap h 12) vs) (vs.any (own 12)) h d r κ s Q := callK_pure (c := c50) rfl rfl
@[simp ↓] theorem call51 : callK T 51 vs h d r κ s Q = pureK T 51 (allO (snap h 12) vs) (vs.any (own 12)) h d r κ s Q := callK_pure (c := c51) rfl rfl
@[simp ↓] theorem call52 : callK T 52 vs h d r κ s Q = pureK T 52 (allO (snap h 12) vs) (vs.any (own 12)) h d r κ s Q := callK_pure (c := c52) rfl rfl
@[simp ↓] theorem call53 : callK T 53 vs h d r κ s Q = pureK T 53 (allO (snap h 12) vs) (vs.any (own 12)) h d r κ s Q := callK_pure (c := c53) rfl rfl
@[simp ↓] theorem call54 : callK T 54 vs h d r κ s Q = pureK T 54 (allO (snap h 12) vs) (vs.any (own 12)) h d r κ s Q := callK_pure (c := c54) rfl rfl
@[simp ↓] theorem call55 : callK T 55 vs h d r κ s Q = pureK T 55 (allO (snap h 12) vs) (vs.any (own 12)) h d r κ s Q := callK_pure (c := c55) rfl rfl
@[simp ↓] theorem call56 : callK T 56 vs h d r κ s Q = pureK T 56 (allO (snap h 12) vs) (vs.any (own 12)) h d r κ s Q := callK_pure (c := c56) rfl rfl
@[simp ↓] theorem call57 : callK T 57 vs h d r κ s Q = pureK T 57 (allO (snap h 12) vs) (vs.any (own 12)) h d r κ s Q := callK_pure (c := c57) rfl rfl
@[simp ↓] theorem call108 : callK T 108 vs h d r κ s Q = pureK T 108 (allO (snap h 12) vs) (vs.any (own 12)) h d r κ s Q := callK_pure (c := c108) rfl rfl
@[simp ↓] theorem call109 : callK T 109 vs h d r κ s Q = pureK T 109 (allO (snap h 12) vs) (vs.any (own 12)) h d r κ s Q := callK_pure (c := c109) rfl rfl
@[simp ↓] theorem call110 : callK T 110 vs h d r κ s Q = pureK T 110 (allO (snap h 12) vs) (vs.any (own 12)) h d r κ s Q := callK_pure (c := c110) rfl rfl
@[simp ↓] theorem call111 : callK T 111 vs h d r κ s Q = pureK T 111 (allO (snap h 12) vs) (vs.any (own 12)) h d r κ s Q := callK_pure (c := c111) rfl rfl
@[simp ↓] theorem call112 : callK T 112 vs h d r κ s Q = pureK T 112 (allO (snap h 12) vs) (vs.any (own 12)) h d r κ s Q := callK_pure (c := c112) rfl rfl
@[simp ↓] theorem call113 : callK T 113 vs h d r κ s Q = pureK T 113 (allO (snap h 12) vs) (vs.any (own 12)) h d r κ s Q := callK_pure (c := c113) rfl rfl
@[simp ↓] theorem call114 : callK T 114 vs h d r κ s Q = pureK T 114 (allO (snap h 12) vs) (vs.any (own 12)) h d r κ s Q := callK_pure (c := c114) rfl rfl
@[simp ↓] theorem call115 : callK T 115 vs h d r κ s Q = pureK T 115 (allO (snap h 12) vs) (vs.any (own 12)) h d r κ s Q := callK_pure (c := c115) rfl rfl
@[simp ↓] theorem call131 : callK T 131 vs h d r κ s Q = pureK T 131 (allO (snap h 12) vs) (vs.any (own 12)) h d r κ s Q := callK_pure (c := c131) rfl rfl
@[simp ↓] theorem call176 : callK T 176 vs h d r κ s Q = pureK T 176 (allO (snap h 12) vs) (vs.any (own 12)) h d r κ s Q := callK_pure (c := c176) rfl rfl
@[simp ↓] theorem call177 : callK T 177 vs h d r κ s Q = pureK T 177 (allO (snap h 12) vs) (vs.any (own 12)) h d r κ s Q := callK_pure (c := c177) rfl rfl
@[simp ↓] theorem call178 : callK T 178 vs h d r κ s Q = pureK T 178 (allO (snap h 12) vs) (vs.any (own 12)) h d r κ s Q := callK_pure (c := c178) rfl rfl
@[simp ↓] theorem call179 : callK T 179 vs h d r κ s Q = pureK T 179 (allO (snap h 12) vs) (vs.any (own 12)) h d r κ s Q := callK_pure (c := c179) rfl rfl
@[simp ↓] theorem call180 : callK T 180 vs h d r κ s Q = pureK T 180 (allO (snap h 12) vs) (vs.any (own 12)) h d r κ s Q := callK_pure (c := c180) rfl rfl
@[simp ↓] theorem call181 : callK T 181 vs h d r κ s Q = pureK T 181 (allO (snap h 12) vs) (vs.any (own 12)) h d r κ s Q := callK_pure (c := c181) rfl rfl
@[simp ↓] theorem call182 : callK T 182 vs h d r κ s Q = pureK T 182 (allO (snap h 12) vs) (vs.any (own 12)) h d r κ s Q := callK_pure (c := c182) rfl rfl
@[simp ↓] theorem call183 : callK T 183 vs h d r κ s Q = pureK T 183 (allO (snap h 12) vs) (vs.any (own 12)) h d r κ s Q := callK_pure (c := c183) rfl rfl
@[simp ↓] theorem call236 : callK T 236 vs h d r κ s Q = pureK T 236 (allO (snap h 12) vs) (vs.any (own 12)) h d r κ s Q := callK_pure (c := c236) rfl rfl
@[simp ↓] theorem call237 : callK T 237 vs h d r κ s Q = pureK T 237 (allO (snap h 12) vs) (vs.any (own 12)) h d r κ s Q := callK_pure (c := c237) rfl rfl
end
end Go.Proofs.YtkaabknkabdfpaaGreatDoor
