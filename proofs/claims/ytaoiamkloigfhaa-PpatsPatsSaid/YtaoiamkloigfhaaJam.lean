/- A text of this proof. -/
import Derived.Test.YtaoiamkloigfhaaJad
import Derived.Test.YtaoiamkloigfhaaProg
/- The compiled code of the functions. -/
namespace Go.Proofs.Ytaoiamkloigfhaa
open Go Go.V
-- envoy/envoylaw08.PpatsLinear
def k_envoylaw08_PpatsLinear_r0 : IC := .reg false [⟨none, some 1, .box (.t 0)⟩, ⟨none, some 2, .v (.mov (.c (.bool false)))⟩]
def k_envoylaw08_PpatsLinear_r1 : IC := .reg false [⟨none, some 8, .v (.ld true 5 (.t 1))⟩, ⟨none, some 9, .call (.c (.fn 5 [] [])) [((.t 8), (.agg [.id, .id, .id, .id, (.sl 5)]))]⟩, ⟨none, some 10, .v (.bin .eql .no (.t 9) (.c (.int .i64 0)))⟩]
def k_envoylaw08_PpatsLinear_r2 : IC := .reg false [⟨none, some 11, .call (.c (.fn 6 [] [])) []⟩, ⟨none, some 2, .v (.mov (.t 11))⟩]
def k_envoylaw08_PpatsLinear_r3 : IC := .reg false [⟨none, some 12, .v (.ld true 5 (.t 1))⟩, ⟨none, some 13, .call (.c (.fn 7 [] [])) [((.t 12), (.agg [.id, .id, .id, .id, (.sl 5)]))]⟩, ⟨none, some 3, .v (.mov (.t 13))⟩]
def k_envoylaw08_PpatsLinear_r4 : IC := .reg false [⟨none, some 4, .v (.mov (.c (.bool false)))⟩]
def k_envoylaw08_PpatsLinear_r5 : IC := .reg false [⟨none, some 5, .v (.mov (.c (.int .i64 0)))⟩]
def k_envoylaw08_PpatsLinear_r7 : IC := .reg false [⟨none, some 14, .v (.mov (.t 5))⟩, ⟨none, some 15, .v (.mov (.t 3))⟩, ⟨none, some 16, .v (.len false (.t 15))⟩, ⟨none, some 17, .v (.bin .lss .no (.t 14) (.t 16))⟩]
def k_envoylaw08_PpatsLinear_r8 : IC := .drw [(⟨none, some 20, .v (.mov (.t 4))⟩, []), (⟨none, some 21, .v (.mov (.t 20))⟩, []), (⟨some (21, false), some 22, .v (.mov (.t 3))⟩, []), (⟨some (21, false), some 23, .v (.mov (.t 5))⟩, []), (⟨some (21, false), some 24, .v (.slv 1 (.t 22) none (some (.t 23)) none)⟩, []), (⟨some (21, false), some 25, .v (.mov (.t 3))⟩, []), (⟨some (21, false), some 26, .v (.mov (.t 5))⟩, []), (⟨some (21, false), some 27, .v (.iad 1 (.t 25) (.t 26))⟩, []), (⟨some (21, false), some 28, .v (.ld false 1 (.t 27))⟩, []), (⟨some (21, false), some 29, .call (.c (.fn 8 [] [])) [((.t 24), (.sl 1)), ((.t 28), .id)]⟩, []), (⟨none, some 30, .v (.pick (.t 21) (.c (.bool true)) (.t 29))⟩, []), (⟨none, some 4, .v (.mov (.t 30))⟩, [])]
def k_envoylaw08_PpatsLinear_r9 : IC := .reg false [⟨none, some 18, .v (.mov (.t 5))⟩, ⟨none, some 19, .v (.bin .add .no (.t 18) (.c (.int .i64 1)))⟩, ⟨none, some 5, .v (.mov (.t 19))⟩]
def k_envoylaw08_PpatsLinear_l6 : IC := (.seq (.seq k_envoylaw08_PpatsLinear_r7 (.cond (.t 17) .skip (.exit 0))) (.seq (.block 1 k_envoylaw08_PpatsLinear_r8) k_envoylaw08_PpatsLinear_r9))
def k_envoylaw08_PpatsLinear_r11 : IC := .reg false [⟨none, some 32, .v (.ld true 5 (.t 1))⟩, ⟨none, some 33, .call (.c (.fn 9 [] [])) [((.t 32), (.agg [.id, .id, .id, .id, (.sl 5)]))]⟩, ⟨none, some 31, .v (.mov (.t 33))⟩, ⟨none, some 34, .v (.ext (.t 31) 0)⟩, ⟨none, some 35, .v (.ext (.t 31) 1)⟩, ⟨none, some 6, .v (.mov (.t 34))⟩, ⟨none, some 7, .v (.mov (.t 35))⟩]
def k_envoylaw08_PpatsLinear_r12 : IC := .reg false [⟨none, some 36, .v (.mov (.t 7))⟩, ⟨none, some 37, .v (.mov (.t 4))⟩, ⟨none, some 38, .v (.un .not (.t 37))⟩, ⟨none, some 39, .v (.bin .eql .bool (.t 36) (.t 38))⟩, ⟨none, some 40, .v (.mov (.t 39))⟩, ⟨some (40, true), some 41, .call (.c (.fn 6 [] [])) []⟩, ⟨none, some 42, .v (.pick (.t 40) (.t 41) (.c (.bool false)))⟩, ⟨none, some 2, .v (.mov (.t 42))⟩]
def k_envoylaw08_PpatsLinear : IC := (.seq k_envoylaw08_PpatsLinear_r0 (.seq (.seq k_envoylaw08_PpatsLinear_r1 (.cond (.t 10) (.seq k_envoylaw08_PpatsLinear_r2 .ret) .skip)) (.seq k_envoylaw08_PpatsLinear_r3 (.seq k_envoylaw08_PpatsLinear_r4 (.seq (.seq k_envoylaw08_PpatsLinear_r5 (.block 0 (.loop k_envoylaw08_PpatsLinear_l6))) (.seq k_envoylaw08_PpatsLinear_r11 (.seq k_envoylaw08_PpatsLinear_r12 .ret)))))))
@[go_sem] def s_envoylaw08_PpatsLinear : List (RV × Co) := [(.t 2, .id)]
theorem c_envoylaw08_PpatsLinear : cFun Try.prog 3 = some (43, k_envoylaw08_PpatsLinear, s_envoylaw08_PpatsLinear) := by kernel_rfl

-- envoy/envoylaw08.PpatsPats
def k_envoylaw08_PpatsPats_r0 : IC := .reg false [⟨none, some 2, .v (.mov (.c (.bool false)))⟩]
def k_envoylaw08_PpatsPats_r1 : IC := .reg false [⟨none, some 9, .v (.mov (.t 0))⟩, ⟨none, some 10, .v (.len true (.t 9))⟩, ⟨none, some 11, .v (.bin .gtr .no (.t 10) (.c (.int .i64 3000)))⟩]
def k_envoylaw08_PpatsPats_r2 : IC := .reg false [⟨none, some 12, .call (.c (.fn 6 [] [])) []⟩, ⟨none, some 2, .v (.mov (.t 12))⟩]
def k_envoylaw08_PpatsPats_r3 : IC := .reg false [⟨none, some 14, .v (.mov (.t 0))⟩, ⟨none, some 15, .call (.c (.fn 10 [] [])) [((.t 14), .id)]⟩, ⟨none, some 13, .v (.mov (.t 15))⟩, ⟨none, some 16, .v (.ext (.t 13) 0)⟩, ⟨none, some 17, .v (.ext (.t 13) 1)⟩, ⟨none, some 18, .v (.ext (.t 13) 2)⟩, ⟨none, some 3, .alo [(.int .i64 0), (.int .i64 0), (.int .i64 0), (.str []), .nils]⟩, ⟨none, none, .st 5 (.agg [.id, .id, .id, .id, (.sl 5)]) (.t 3) (.t 16)⟩, ⟨none, some 4, .v (.mov (.t 17))⟩, ⟨none, some 5, .v (.mov (.t 18))⟩]
def k_envoylaw08_PpatsPats_r4 : IC := .reg false [⟨none, some 20, .v (.mov (.t 0))⟩, ⟨none, some 21, .call (.c (.fn 11 [] [])) [((.t 20), .id)]⟩, ⟨none, some 19, .v (.mov (.t 21))⟩, ⟨none, some 22, .v (.ext (.t 19) 0)⟩, ⟨none, some 23, .v (.ext (.t 19) 1)⟩, ⟨none, some 24, .v (.ext (.t 19) 2)⟩, ⟨none, some 6, .alo [(.int .i64 0), (.int .i64 0), (.int .i64 0), (.str []), .nils]⟩, ⟨none, none, .st 5 (.agg [.id, .id, .id, .id, (.sl 5)]) (.t 6) (.t 22)⟩, ⟨none, some 7, .v (.mov (.t 23))⟩, ⟨none, some 8, .v (.mov (.t 24))⟩]
def k_envoylaw08_PpatsPats_r5 : IC := .reg false [⟨none, some 25, .v (.ld true 5 (.t 3))⟩, ⟨none, some 26, .v (.ld true 5 (.t 6))⟩, ⟨none, some 27, .call (.c (.fn 12 [] [])) [((.t 25), (.agg [.id, .id, .id, .id, (.sl 5)])), ((.t 26), (.agg [.id, .id, .id, .id, (.sl 5)]))]⟩, ⟨none, some 28, .v (.mov (.t 27))⟩, ⟨some (28, true), some 29, .v (.mov (.t 4))⟩, ⟨some (28, true), some 30, .v (.mov (.t 7))⟩, ⟨some (28, true), some 31, .v (.bin .eql .no (.t 29) (.t 30))⟩, ⟨none, some 32, .v (.pick (.t 28) (.t 31) (.c (.bool false)))⟩, ⟨none, some 33, .v (.mov (.t 32))⟩, ⟨some (33, true), some 34, .v (.mov (.t 5))⟩, ⟨some (33, true), some 35, .v (.mov (.t 8))⟩, ⟨some (33, true), some 36, .v (.bin .eql .no (.t 34) (.t 35))⟩, ⟨none, some 37, .v (.pick (.t 33) (.t 36) (.c (.bool false)))⟩, ⟨none, some 38, .v (.mov (.t 37))⟩, ⟨some (38, true), some 39, .v (.mov (.t 5))⟩, ⟨some (38, true), some 40, .v (.bin .neq .no (.t 39) (.c (.int .i64 0)))⟩, ⟨some (38, true), some 41, .v (.mov (.t 40))⟩, ⟨some (41, false), some 42, .v (.ld true 5 (.t 3))⟩, ⟨some (41, false), some 43, .call (.c (.fn 13 [] [])) [((.t 42), (.agg [.id, .id, .id, .id, (.sl 5)]))]⟩, ⟨some (38, true), some 44, .v (.pick (.t 41) (.c (.bool true)) (.t 43))⟩, ⟨none, some 45, .v (.pick (.t 38) (.t 44) (.c (.bool false)))⟩, ⟨none, some 46, .v (.mov (.t 45))⟩, ⟨some (46, true), some 47, .call (.c (.fn 6 [] [])) []⟩, ⟨none, some 48, .v (.pick (.t 46) (.t 47) (.c (.bool false)))⟩, ⟨none, some 2, .v (.mov (.t 48))⟩]
def k_envoylaw08_PpatsPats : IC := (.seq k_envoylaw08_PpatsPats_r0 (.seq (.seq k_envoylaw08_PpatsPats_r1 (.cond (.t 11) (.seq k_envoylaw08_PpatsPats_r2 .ret) .skip)) (.seq k_envoylaw08_PpatsPats_r3 (.seq k_envoylaw08_PpatsPats_r4 (.seq k_envoylaw08_PpatsPats_r5 .ret)))))
@[go_sem] def s_envoylaw08_PpatsPats : List (RV × Co) := [(.t 2, .id)]
theorem c_envoylaw08_PpatsPats : cFun Try.prog 4 = some (49, k_envoylaw08_PpatsPats, s_envoylaw08_PpatsPats) := by kernel_rfl

-- envoy/envoylaw06.Few
def k_envoylaw06_Few_r0 : IC := .reg false [⟨none, some 1, .box (.t 0)⟩, ⟨none, some 2, .v (.mov (.c (.int .i64 0)))⟩]
def k_envoylaw06_Few_r1 : IC := .reg false [⟨none, some 3, .v (.ld true 5 (.t 1))⟩, ⟨none, some 4, .call (.c (.fn 14 [] [])) [((.t 3), (.agg [.id, .id, .id, .id, (.sl 5)])), ((.c (.int .i64 3000)), .id)]⟩, ⟨none, some 5, .v (.bin .lss .no (.t 4) (.c (.int .i64 0)))⟩]
def k_envoylaw06_Few_r2 : IC := .reg false [⟨none, some 2, .v (.mov (.c (.int .i64 0)))⟩]
def k_envoylaw06_Few_r3 : IC := .reg false [⟨none, some 2, .v (.mov (.c (.int .i64 1)))⟩]
def k_envoylaw06_Few : IC := (.seq k_envoylaw06_Few_r0 (.seq (.seq k_envoylaw06_Few_r1 (.cond (.t 5) (.seq k_envoylaw06_Few_r2 .ret) .skip)) (.seq k_envoylaw06_Few_r3 .ret)))
@[go_sem] def s_envoylaw06_Few : List (RV × Co) := [(.t 2, .id)]
theorem c_envoylaw06_Few : cFun Try.prog 5 = some (6, k_envoylaw06_Few, s_envoylaw06_Few) := by kernel_rfl

-- envoy/envoylaw08.awake
def k_envoylaw08_awake_r0 : IC := .reg false [⟨none, some 0, .v (.mov (.c (.bool false)))⟩]
def k_envoylaw08_awake_r1 : IC := .reg false [⟨none, some 13, .call (.c (.fn 10 [] [])) [((.c (.str [75, 32, 120, 32, 40, 76, 32, 95, 41])), .id)]⟩, ⟨none, some 12, .v (.mov (.t 13))⟩, ⟨none, some 14, .v (.ext (.t 12) 0)⟩, ⟨none, some 15, .v (.ext (.t 12) 1)⟩, ⟨none, some 16, .v (.ext (.t 12) 2)⟩, ⟨none, some 1, .alo [(.int .i64 0), (.int .i64 0), (.int .i64 0), (.str []), .nils]⟩, ⟨none, none, .st 5 (.agg [.id, .id, .id, .id, (.sl 5)]) (.t 1) (.t 14)⟩, ⟨none, some 2, .v (.mov (.t 15))⟩, ⟨none, some 3, .v (.mov (.t 16))⟩]
def k_envoylaw08_awake_r2 : IC := .reg false [⟨none, some 18, .call (.c (.fn 10 [] [])) [((.c (.str [75, 32, 120, 32, 120])), .id)]⟩, ⟨none, some 17, .v (.mov (.t 18))⟩, ⟨none, some 19, .v (.ext (.t 17) 0)⟩, ⟨none, some 20, .v (.ext (.t 17) 1)⟩, ⟨none, some 21, .v (.ext (.t 17) 2)⟩, ⟨none, some 4, .alo [(.int .i64 0), (.int .i64 0), (.int .i64 0), (.str []), .nils]⟩, ⟨none, none, .st 5 (.agg [.id, .id, .id, .id, (.sl 5)]) (.t 4) (.t 19)⟩, ⟨none, some 5, .v (.mov (.t 20))⟩, ⟨none, some 6, .v (.mov (.t 21))⟩]
def k_envoylaw08_awake_r3 : IC := .reg false [⟨none, some 23, .call (.c (.fn 10 [] [])) [((.c (.str [120, 32, 121])), .id)]⟩, ⟨none, some 22, .v (.mov (.t 23))⟩, ⟨none, some 24, .v (.ext (.t 22) 0)⟩, ⟨none, some 25, .v (.ext (.t 22) 1)⟩, ⟨none, some 26, .v (.ext (.t 22) 2)⟩, ⟨none, some 7, .alo [(.int .i64 0), (.int .i64 0), (.int .i64 0), (.str []), .nils]⟩, ⟨none, none, .st 5 (.agg [.id, .id, .id, .id, (.sl 5)]) (.t 7) (.t 24)⟩, ⟨none, some 8, .v (.mov (.t 25))⟩, ⟨none, some 9, .v (.mov (.t 26))⟩]
def k_envoylaw08_awake_r4 : IC := .reg false [⟨none, some 28, .v (.ld true 5 (.t 4))⟩, ⟨none, some 29, .call (.c (.fn 9 [] [])) [((.t 28), (.agg [.id, .id, .id, .id, (.sl 5)]))]⟩, ⟨none, some 27, .v (.mov (.t 29))⟩, ⟨none, some 30, .v (.ext (.t 27) 0)⟩, ⟨none, some 31, .v (.ext (.t 27) 1)⟩, ⟨none, some 10, .v (.mov (.t 30))⟩, ⟨none, some 11, .v (.mov (.t 31))⟩]
def k_envoylaw08_awake_r5 : IC := .reg false [⟨none, some 32, .v (.fad (.t 1) 4)⟩, ⟨none, some 33, .v (.ld false 1 (.t 32))⟩, ⟨none, some 34, .v (.len false (.t 33))⟩, ⟨none, some 35, .v (.bin .neq .no (.t 34) (.c (.int .i64 2)))⟩]
def k_envoylaw08_awake_r6 : IC := .reg false [⟨none, some 0, .v (.mov (.c (.bool false)))⟩]
def k_envoylaw08_awake_r7 : IC := .reg false [⟨none, some 36, .v (.fad (.t 1) 0)⟩, ⟨none, some 37, .v (.ld false 1 (.t 36))⟩, ⟨none, some 38, .v (.bin .eql .no (.t 37) (.c (.int .i64 14)))⟩, ⟨none, some 39, .v (.mov (.t 38))⟩, ⟨some (39, true), some 40, .v (.fad (.t 1) 4)⟩, ⟨some (39, true), some 41, .v (.ld false 1 (.t 40))⟩, ⟨some (39, true), some 42, .v (.iad 5 (.t 41) (.c (.int .i64 1)))⟩, ⟨some (39, true), some 43, .v (.fad (.t 42) 3)⟩, ⟨some (39, true), some 44, .v (.ld false 1 (.t 43))⟩, ⟨some (39, true), some 45, .v (.bin .eql .no (.t 44) (.c (.str [76])))⟩, ⟨none, some 46, .v (.pick (.t 39) (.t 45) (.c (.bool false)))⟩, ⟨none, some 47, .v (.mov (.t 46))⟩, ⟨some (47, true), some 48, .v (.mov (.t 2))⟩, ⟨some (47, true), some 49, .v (.bin .eql .no (.t 48) (.c (.int .i64 0)))⟩, ⟨none, some 50, .v (.pick (.t 47) (.t 49) (.c (.bool false)))⟩, ⟨none, some 51, .v (.mov (.t 50))⟩, ⟨some (51, true), some 52, .v (.mov (.t 3))⟩, ⟨some (51, true), some 53, .v (.bin .eql .no (.t 52) (.c (.int .i64 0)))⟩, ⟨none, some 54, .v (.pick (.t 51) (.t 53) (.c (.bool false)))⟩, ⟨none, some 55, .v (.mov (.t 54))⟩, ⟨some (55, true), some 56, .v (.mov (.t 6))⟩, ⟨some (55, true), some 57, .v (.bin .eql .no (.t 56) (.c (.int .i64 0)))⟩, ⟨none, some 58, .v (.pick (.t 55) (.t 57) (.c (.bool false)))⟩, ⟨none, some 59, .v (.mov (.t 58))⟩, ⟨some (59, true), some 60, .v (.mov (.t 10))⟩, ⟨some (59, true), some 61, .v (.bin .eql .no (.t 60) (.c (.int .i64 4)))⟩, ⟨none, some 62, .v (.pick (.t 59) (.t 61) (.c (.bool false)))⟩, ⟨none, some 63, .v (.mov (.t 62))⟩, ⟨some (63, true), some 64, .v (.mov (.t 11))⟩, ⟨some (63, true), some 65, .v (.un .not (.t 64))⟩, ⟨none, some 66, .v (.pick (.t 63) (.t 65) (.c (.bool false)))⟩, ⟨none, some 67, .v (.mov (.t 66))⟩, ⟨some (67, true), some 68, .v (.mov (.t 8))⟩, ⟨some (67, true), some 69, .v (.bin .eql .no (.t 68) (.c (.int .i64 2)))⟩, ⟨none, some 70, .v (.pick (.t 67) (.t 69) (.c (.bool false)))⟩, ⟨none, some 71, .v (.mov (.t 70))⟩, ⟨some (71, true), some 72, .v (.mov (.t 9))⟩, ⟨some (71, true), some 73, .v (.bin .eql .no (.t 72) (.c (.int .i64 5)))⟩, ⟨none, some 74, .v (.pick (.t 71) (.t 73) (.c (.bool false)))⟩, ⟨none, some 75, .v (.mov (.t 74))⟩, ⟨some (75, true), some 76, .v (.ld true 5 (.t 4))⟩, ⟨some (75, true), some 77, .call (.c (.fn 7 [] [])) [((.t 76), (.agg [.id, .id, .id, .id, (.sl 5)]))]⟩, ⟨some (75, true), some 78, .v (.bsl 1 [((.c (.str [120])), .id), ((.c (.str [120])), .id)])⟩, ⟨some (75, true), some 79, .call (.c (.fn 15 [] [])) [((.t 77), (.sl 1)), ((.t 78), (.sl 1))]⟩, ⟨none, some 80, .v (.pick (.t 75) (.t 79) (.c (.bool false)))⟩, ⟨none, some 0, .v (.mov (.t 80))⟩]
def k_envoylaw08_awake : IC := (.seq k_envoylaw08_awake_r0 (.seq k_envoylaw08_awake_r1 (.seq k_envoylaw08_awake_r2 (.seq k_envoylaw08_awake_r3 (.seq k_envoylaw08_awake_r4 (.seq (.seq k_envoylaw08_awake_r5 (.cond (.t 35) (.seq k_envoylaw08_awake_r6 .ret) .skip)) (.seq k_envoylaw08_awake_r7 .ret)))))))
@[go_sem] def s_envoylaw08_awake : List (RV × Co) := [(.t 0, .id)]
theorem c_envoylaw08_awake : cFun Try.prog 6 = some (81, k_envoylaw08_awake, s_envoylaw08_awake) := by kernel_rfl

-- envoy/ppats.Vars
def k_ppats_Vars_r0 : IC := .reg false [⟨none, some 1, .box (.t 0)⟩, ⟨none, some 2, .v (.mov (.c .nils))⟩]
def k_ppats_Vars_r1 : IC := .reg false [⟨none, some 3, .v (.mov (.c .nils))⟩]
def k_ppats_Vars_r2 : IC := .reg false [⟨none, some 6, .v (.ld true 5 (.t 1))⟩, ⟨none, some 7, .call (.c (.fn 16 [] [])) [((.c .nils), (.sl 5)), ((.t 6), (.agg [.id, .id, .id, .id, (.sl 5)]))]⟩, ⟨none, some 8, .v (.len false (.t 7))⟩, ⟨none, some 9, .v (.mov (.c (.int .i64 0)))⟩]
def k_ppats_Vars_r4 : IC := .reg false [⟨none, some 10, .v (.bin .lss .no (.t 9) (.t 8))⟩]
def k_ppats_Vars_r5 : IC := .reg false [⟨none, some 11, .v (.iad 5 (.t 7) (.t 9))⟩, ⟨none, some 12, .v (.ld true 5 (.t 11))⟩, ⟨none, some 5, .alo [(.int .i64 0), (.int .i64 0), (.int .i64 0), (.str []), .nils]⟩, ⟨none, none, .st 5 (.agg [.id, .id, .id, .id, (.sl 5)]) (.t 5) (.t 12)⟩]
def k_ppats_Vars_r6 : IC := .reg false [⟨none, some 13, .v (.mov (.t 3))⟩, ⟨none, some 14, .v (.fad (.t 5) 3)⟩, ⟨none, some 15, .v (.ld false 1 (.t 14))⟩, ⟨none, some 16, .v (.bsl 1 [((.t 15), .id)])⟩, ⟨none, some 17, .app 1 (.str []) 16 (.sl 1) (.t 13) (.t 16)⟩, ⟨none, some 3, .v (.mov (.t 17))⟩]
def k_ppats_Vars_r7 : IC := .reg false [⟨none, some 18, .v (.bin .add .no (.t 9) (.c (.int .i64 1)))⟩, ⟨none, some 9, .v (.mov (.t 18))⟩]
def k_ppats_Vars_l3 : IC := (.seq k_ppats_Vars_r4 (.seq (.cond (.t 10) .skip (.exit 0)) (.seq (.block 1 (.seq k_ppats_Vars_r5 k_ppats_Vars_r6)) k_ppats_Vars_r7)))
def k_ppats_Vars_r9 : IC := .reg false [⟨none, some 19, .v (.mov (.t 3))⟩, ⟨none, some 2, .v (.mov (.t 19))⟩]
def k_ppats_Vars : IC := (.seq k_ppats_Vars_r0 (.seq k_ppats_Vars_r1 (.seq (.seq k_ppats_Vars_r2 (.block 0 (.loop k_ppats_Vars_l3))) (.seq k_ppats_Vars_r9 .ret))))
@[go_sem] def s_ppats_Vars : List (RV × Co) := [(.t 2, (.sl 1))]
theorem c_ppats_Vars : cFun Try.prog 7 = some (20, k_ppats_Vars, s_ppats_Vars) := by kernel_rfl

-- envoy/envoyref03.Has
def k_envoyref03_Has_r0 : IC := .reg false [⟨none, some 4, .v (.mov (.c (.bool false)))⟩]
def k_envoyref03_Has_r1 : IC := .reg false [⟨none, some 5, .v (.mov (.c (.int .i64 0)))⟩]
def k_envoyref03_Has_r3 : IC := .reg false [⟨none, some 6, .v (.mov (.t 5))⟩, ⟨none, some 7, .v (.mov (.t 0))⟩, ⟨none, some 8, .v (.len false (.t 7))⟩, ⟨none, some 9, .v (.bin .lss .no (.t 6) (.t 8))⟩]
def k_envoyref03_Has_r4 : IC := .reg false [⟨none, some 12, .v (.mov (.t 0))⟩, ⟨none, some 13, .v (.mov (.t 5))⟩, ⟨none, some 14, .v (.iad 1 (.t 12) (.t 13))⟩, ⟨none, some 15, .v (.ld false 1 (.t 14))⟩, ⟨none, some 16, .v (.mov (.t 1))⟩, ⟨none, some 17, .v (.bin .eql .no (.t 15) (.t 16))⟩]
def k_envoyref03_Has_r5 : IC := .reg false [⟨none, some 4, .v (.mov (.c (.bool true)))⟩]
def k_envoyref03_Has_r6 : IC := .reg false [⟨none, some 10, .v (.mov (.t 5))⟩, ⟨none, some 11, .v (.bin .add .no (.t 10) (.c (.int .i64 1)))⟩, ⟨none, some 5, .v (.mov (.t 11))⟩]
def k_envoyref03_Has_l2 : IC := (.seq (.seq k_envoyref03_Has_r3 (.cond (.t 9) .skip (.exit 0))) (.seq (.block 1 (.seq k_envoyref03_Has_r4 (.cond (.t 17) (.seq k_envoyref03_Has_r5 .ret) .skip))) k_envoyref03_Has_r6))
def k_envoyref03_Has_r8 : IC := .reg false [⟨none, some 4, .v (.mov (.c (.bool false)))⟩]
def k_envoyref03_Has : IC := (.seq k_envoyref03_Has_r0 (.seq (.seq k_envoyref03_Has_r1 (.block 0 (.loop k_envoyref03_Has_l2))) (.seq k_envoyref03_Has_r8 .ret)))
@[go_sem] def s_envoyref03_Has : List (RV × Co) := [(.t 4, .id)]
theorem c_envoyref03_Has : cFun Try.prog 8 = some (18, k_envoyref03_Has, s_envoyref03_Has) := by kernel_rfl

-- envoy/ppats.Linear
def k_ppats_Linear_r0 : IC := .reg false [⟨none, some 1, .box (.t 0)⟩, ⟨none, some 2, .v (.mov (.c (.int .i64 0)))⟩, ⟨none, some 3, .v (.mov (.c (.bool false)))⟩]
def k_ppats_Linear_r1 : IC := .reg false [⟨none, some 4, .v (.mov (.c .nils))⟩]
def k_ppats_Linear_r2 : IC := .reg false [⟨none, some 5, .v (.mov (.c (.int .i64 0)))⟩, ⟨none, some 6, .v (.mov (.c (.bool true)))⟩]
def k_ppats_Linear_r3 : IC := .reg false [⟨none, some 9, .v (.ld true 5 (.t 1))⟩, ⟨none, some 10, .call (.c (.fn 16 [] [])) [((.c .nils), (.sl 5)), ((.t 9), (.agg [.id, .id, .id, .id, (.sl 5)]))]⟩, ⟨none, some 11, .v (.len false (.t 10))⟩, ⟨none, some 12, .v (.mov (.c (.int .i64 0)))⟩]
def k_ppats_Linear_r5 : IC := .reg false [⟨none, some 13, .v (.bin .lss .no (.t 12) (.t 11))⟩]
def k_ppats_Linear_r6 : IC := .reg false [⟨none, some 14, .v (.iad 5 (.t 10) (.t 12))⟩, ⟨none, some 15, .v (.ld true 5 (.t 14))⟩, ⟨none, some 8, .alo [(.int .i64 0), (.int .i64 0), (.int .i64 0), (.str []), .nils]⟩, ⟨none, none, .st 5 (.agg [.id, .id, .id, .id, (.sl 5)]) (.t 8) (.t 15)⟩]
def k_ppats_Linear_r7 : IC := .reg false [⟨none, some 16, .v (.mov (.t 4))⟩, ⟨none, some 17, .v (.fad (.t 8) 3)⟩, ⟨none, some 18, .v (.ld false 1 (.t 17))⟩, ⟨none, some 19, .call (.c (.fn 17 [] [])) [((.t 16), (.sl 1)), ((.t 18), .id)]⟩]
def k_ppats_Linear_r8 : IC := .reg false [⟨none, some 20, .v (.fad (.t 8) 1)⟩, ⟨none, some 21, .v (.ld false 1 (.t 20))⟩, ⟨none, some 5, .v (.mov (.t 21))⟩, ⟨none, some 6, .v (.mov (.c (.bool false)))⟩]
def k_ppats_Linear_r9 : IC := .reg false [⟨none, some 22, .v (.mov (.t 4))⟩, ⟨none, some 23, .v (.fad (.t 8) 3)⟩, ⟨none, some 24, .v (.ld false 1 (.t 23))⟩, ⟨none, some 25, .v (.bsl 1 [((.t 24), .id)])⟩, ⟨none, some 26, .app 1 (.str []) 16 (.sl 1) (.t 22) (.t 25)⟩, ⟨none, some 4, .v (.mov (.t 26))⟩]
def k_ppats_Linear_r10 : IC := .reg false [⟨none, some 27, .v (.bin .add .no (.t 12) (.c (.int .i64 1)))⟩, ⟨none, some 12, .v (.mov (.t 27))⟩]
def k_ppats_Linear_l4 : IC := (.seq k_ppats_Linear_r5 (.seq (.cond (.t 13) .skip (.exit 0)) (.seq (.block 1 (.seq k_ppats_Linear_r6 (.seq (.seq k_ppats_Linear_r7 (.cond (.t 19) (.seq k_ppats_Linear_r8 (.exit 0)) .skip)) k_ppats_Linear_r9))) k_ppats_Linear_r10)))
def k_ppats_Linear_r12 : IC := .reg false [⟨none, some 28, .v (.mov (.t 5))⟩, ⟨none, some 29, .v (.mov (.t 6))⟩, ⟨none, some 2, .v (.mov (.t 28))⟩, ⟨none, some 3, .v (.mov (.t 29))⟩]
def k_ppats_Linear : IC := (.seq k_ppats_Linear_r0 (.scope (.seq k_ppats_Linear_r1 (.seq k_ppats_Linear_r2 (.seq (.label 0) (.seq (.seq k_ppats_Linear_r3 (.block 0 (.loop k_ppats_Linear_l4))) (.seq k_ppats_Linear_r12 .ret)))))))
@[go_sem] def s_ppats_Linear : List (RV × Co) := [(.t 2, .id), (.t 3, .id)]
theorem c_ppats_Linear : cFun Try.prog 9 = some (30, k_ppats_Linear, s_ppats_Linear) := by kernel_rfl

-- envoy/ppats.Pat
def k_ppats_Pat_r0 : IC := .reg false [⟨none, some 2, .alo [(.int .i64 0), (.int .i64 0), (.int .i64 0), (.str []), .nils]⟩, ⟨none, some 3, .v (.mov (.c (.int .i64 0)))⟩, ⟨none, some 4, .v (.mov (.c (.int .i64 0)))⟩]
def k_ppats_Pat_r1 : IC := .reg false [⟨none, some 14, .v (.mov (.t 0))⟩, ⟨none, some 15, .call (.c (.fn 18 [] [])) [((.t 14), .id)]⟩, ⟨none, some 13, .v (.mov (.t 15))⟩, ⟨none, some 16, .v (.ext (.t 13) 0)⟩, ⟨none, some 17, .v (.ext (.t 13) 1)⟩, ⟨none, some 18, .v (.ext (.t 13) 2)⟩, ⟨none, some 5, .v (.mov (.t 16))⟩, ⟨none, some 6, .v (.mov (.t 17))⟩, ⟨none, some 7, .v (.mov (.t 18))⟩]
def k_ppats_Pat_r2 : IC := .reg false [⟨none, some 19, .v (.mov (.t 7))⟩, ⟨none, some 20, .v (.bin .neq .no (.t 19) (.c (.int .i64 0)))⟩]
def k_ppats_Pat_r3 : IC := .reg false [⟨none, some 21, .v (.bld [(.int .i64 0), (.int .i64 0), (.int .i64 0), (.str []), .nils] [])⟩, ⟨none, some 22, .v (.mov (.t 6))⟩, ⟨none, some 23, .v (.mov (.t 7))⟩, ⟨none, none, .st 5 (.agg [.id, .id, .id, .id, (.sl 5)]) (.t 2) (.t 21)⟩, ⟨none, some 3, .v (.mov (.t 22))⟩, ⟨none, some 4, .v (.mov (.t 23))⟩]
def k_ppats_Pat_r4 : IC := .reg false [⟨none, some 24, .v (.mov (.t 5))⟩, ⟨none, some 25, .call (.c (.fn 19 [] [])) [((.t 24), (.sl 4))]⟩, ⟨none, some 8, .v (.mov (.t 25))⟩]
def k_ppats_Pat_r5 : IC := .reg false [⟨none, some 27, .v (.mov (.t 8))⟩, ⟨none, some 28, .call (.c (.fn 20 [] [])) [((.t 27), .id)]⟩, ⟨none, some 26, .v (.mov (.t 28))⟩, ⟨none, some 29, .v (.ext (.t 26) 0)⟩, ⟨none, some 30, .v (.ext (.t 26) 1)⟩, ⟨none, some 9, .alo [(.int .i64 0), (.int .i64 0), (.int .i64 0), (.str []), .nils]⟩, ⟨none, none, .st 5 (.agg [.id, .id, .id, .id, (.sl 5)]) (.t 9) (.t 29)⟩, ⟨none, some 10, .v (.mov (.t 30))⟩]
def k_ppats_Pat_r6 : IC := .reg false [⟨none, some 32, .v (.mov (.t 8))⟩, ⟨none, some 33, .call (.c (.fn 21 [] [])) [((.t 32), .id)]⟩, ⟨none, some 31, .v (.mov (.t 33))⟩, ⟨none, some 34, .v (.ext (.t 31) 0)⟩, ⟨none, some 35, .v (.ext (.t 31) 1)⟩, ⟨none, some 11, .v (.mov (.t 34))⟩, ⟨none, some 12, .v (.mov (.t 35))⟩]
def k_ppats_Pat_r7 : IC := .reg false [⟨none, some 36, .v (.mov (.t 12))⟩, ⟨none, some 37, .v (.bin .neq .no (.t 36) (.c (.int .i64 0)))⟩]
def k_ppats_Pat_r8 : IC := .reg false [⟨none, some 38, .v (.bld [(.int .i64 0), (.int .i64 0), (.int .i64 0), (.str []), .nils] [])⟩, ⟨none, some 39, .v (.mov (.t 11))⟩, ⟨none, some 40, .v (.mov (.t 12))⟩, ⟨none, none, .st 5 (.agg [.id, .id, .id, .id, (.sl 5)]) (.t 2) (.t 38)⟩, ⟨none, some 3, .v (.mov (.t 39))⟩, ⟨none, some 4, .v (.mov (.t 40))⟩]
def k_ppats_Pat_r9 : IC := .reg false [⟨none, some 41, .v (.ld true 5 (.t 9))⟩, ⟨none, some 42, .call (.c (.fn 22 [] [])) [((.t 41), (.agg [.id, .id, .id, .id, (.sl 5)]))]⟩, ⟨none, some 43, .v (.bin .gtr .no (.t 42) (.c (.int .i64 100)))⟩]
def k_ppats_Pat_r10 : IC := .drw [(⟨none, some 44, .v (.bld [(.int .i64 0), (.int .i64 0), (.int .i64 0), (.str []), .nils] [])⟩, []), (⟨none, some 45, .v (.fad (.t 9) 1)⟩, []), (⟨none, some 46, .v (.ld false 1 (.t 45))⟩, []), (⟨none, none, .st 5 (.agg [.id, .id, .id, .id, (.sl 5)]) (.t 2) (.t 44)⟩, [1, 2]), (⟨none, some 3, .v (.mov (.t 46))⟩, []), (⟨none, some 4, .v (.mov (.c (.int .i64 2)))⟩, [])]
def k_ppats_Pat_r11 : IC := .reg false [⟨none, some 47, .v (.ld true 5 (.t 9))⟩, ⟨none, none, .st 5 (.agg [.id, .id, .id, .id, (.sl 5)]) (.t 2) (.t 47)⟩, ⟨none, some 3, .v (.mov (.c (.int .i64 0)))⟩, ⟨none, some 4, .v (.mov (.c (.int .i64 0)))⟩]
def k_ppats_Pat : IC := (.seq k_ppats_Pat_r0 (.seq k_ppats_Pat_r1 (.seq (.seq k_ppats_Pat_r2 (.cond (.t 20) (.seq k_ppats_Pat_r3 .ret) .skip)) (.seq k_ppats_Pat_r4 (.seq k_ppats_Pat_r5 (.seq (.seq k_ppats_Pat_r6 (.seq k_ppats_Pat_r7 (.cond (.t 37) (.seq k_ppats_Pat_r8 .ret) .skip))) (.seq (.seq k_ppats_Pat_r9 (.cond (.t 43) (.seq k_ppats_Pat_r10 .ret) .skip)) (.seq k_ppats_Pat_r11 .ret))))))))
@[go_sem] def s_ppats_Pat : List (RV × Co) := [(.c true 5 2, (.agg [.id, .id, .id, .id, (.sl 5)])), (.t 3, .id), (.t 4, .id)]
theorem c_ppats_Pat : cFun Try.prog 10 = some (48, k_ppats_Pat, s_ppats_Pat) := by kernel_rfl

-- envoy/envoyref08.Pat
def k_envoyref08_Pat_r0 : IC := .reg false [⟨none, some 2, .alo [(.int .i64 0), (.int .i64 0), (.int .i64 0), (.str []), .nils]⟩, ⟨none, some 3, .v (.mov (.c (.int .i64 0)))⟩, ⟨none, some 4, .v (.mov (.c (.int .i64 0)))⟩]
def k_envoyref08_Pat_r1 : IC := .reg false [⟨none, some 11, .v (.mov (.t 0))⟩, ⟨none, some 12, .call (.c (.fn 23 [] [])) [((.t 11), .id)]⟩, ⟨none, some 10, .v (.mov (.t 12))⟩, ⟨none, some 13, .v (.ext (.t 10) 0)⟩, ⟨none, some 14, .v (.ext (.t 10) 1)⟩, ⟨none, some 15, .v (.ext (.t 10) 2)⟩, ⟨none, some 5, .v (.mov (.t 13))⟩, ⟨none, some 6, .v (.mov (.t 14))⟩, ⟨none, some 7, .v (.mov (.t 15))⟩]
def k_envoyref08_Pat_r2 : IC := .reg false [⟨none, some 16, .v (.mov (.t 7))⟩, ⟨none, some 17, .v (.bin .neq .no (.t 16) (.c (.int .i64 0)))⟩]
def k_envoyref08_Pat_r3 : IC := .reg false [⟨none, some 18, .v (.bld [(.int .i64 0), (.int .i64 0), (.int .i64 0), (.str []), .nils] [])⟩, ⟨none, some 19, .v (.mov (.t 6))⟩, ⟨none, some 20, .v (.mov (.t 7))⟩, ⟨none, none, .st 5 (.agg [.id, .id, .id, .id, (.sl 5)]) (.t 2) (.t 18)⟩, ⟨none, some 3, .v (.mov (.t 19))⟩, ⟨none, some 4, .v (.mov (.t 20))⟩]
def k_envoyref08_Pat_r4 : IC := .reg false [⟨none, some 22, .v (.mov (.t 5))⟩, ⟨none, some 23, .call (.c (.fn 25 [] [])) [((.t 22), (.sl 4))]⟩, ⟨none, some 24, .call (.c (.fn 24 [] [])) [((.t 23), (.agg [(.sl 4), .id, .id, .id, .id, .id, .id, .id]))]⟩, ⟨none, some 21, .v (.mov (.t 24))⟩, ⟨none, some 25, .v (.ext (.t 21) 0)⟩, ⟨none, some 26, .v (.ext (.t 21) 1)⟩, ⟨none, some 8, .alo [.nils, (.int .i64 0), (.int .i64 0), (.int .i64 0), (.str []), (.int .i64 0), (.int .i64 0), (.int .i64 0)]⟩, ⟨none, some 9, .alo [(.int .i64 0), (.int .i64 0), (.int .i64 0), (.str []), .nils]⟩, ⟨none, none, .st 8 (.agg [(.sl 4), .id, .id, .id, .id, .id, .id, .id]) (.t 8) (.t 25)⟩, ⟨none, none, .st 5 (.agg [.id, .id, .id, .id, (.sl 5)]) (.t 9) (.t 26)⟩]
def k_envoyref08_Pat_r5 : IC := .reg false [⟨none, some 27, .v (.ld true 8 (.t 8))⟩, ⟨none, some 28, .v (.ld true 5 (.t 9))⟩, ⟨none, some 29, .call (.c (.fn 26 [] [])) [((.t 27), (.agg [(.sl 4), .id, .id, .id, .id, .id, .id, .id])), ((.t 28), (.agg [.id, .id, .id, .id, (.sl 5)]))]⟩, ⟨none, some 30, .v (.ext (.t 29) 0)⟩, ⟨none, some 31, .v (.ext (.t 29) 1)⟩, ⟨none, some 32, .v (.ext (.t 29) 2)⟩, ⟨none, none, .st 5 (.agg [.id, .id, .id, .id, (.sl 5)]) (.t 2) (.t 30)⟩, ⟨none, some 3, .v (.mov (.t 31))⟩, ⟨none, some 4, .v (.mov (.t 32))⟩]
def k_envoyref08_Pat : IC := (.seq k_envoyref08_Pat_r0 (.seq k_envoyref08_Pat_r1 (.seq (.seq k_envoyref08_Pat_r2 (.cond (.t 17) (.seq k_envoyref08_Pat_r3 .ret) .skip)) (.seq k_envoyref08_Pat_r4 (.seq k_envoyref08_Pat_r5 .ret)))))
@[go_sem] def s_envoyref08_Pat : List (RV × Co) := [(.c true 5 2, (.agg [.id, .id, .id, .id, (.sl 5)])), (.t 3, .id), (.t 4, .id)]
theorem c_envoyref08_Pat : cFun Try.prog 11 = some (33, k_envoyref08_Pat, s_envoyref08_Pat) := by kernel_rfl

-- envoy/envoyref06.Just
def k_envoyref06_Just_r0 : IC := .reg false [⟨none, some 2, .box (.t 0)⟩, ⟨none, some 3, .box (.t 1)⟩, ⟨none, some 4, .v (.mov (.c (.bool false)))⟩]
def k_envoyref06_Just_r1 : IC := .reg false [⟨none, some 6, .v (.fad (.t 2) 1)⟩, ⟨none, some 7, .v (.ld false 1 (.t 6))⟩, ⟨none, some 8, .v (.fad (.t 3) 1)⟩, ⟨none, some 9, .v (.ld false 1 (.t 8))⟩, ⟨none, some 10, .v (.bin .neq .no (.t 7) (.t 9))⟩, ⟨none, some 11, .v (.mov (.t 10))⟩, ⟨some (11, false), some 12, .v (.fad (.t 2) 0)⟩, ⟨some (11, false), some 13, .v (.ld false 1 (.t 12))⟩, ⟨some (11, false), some 14, .v (.fad (.t 3) 0)⟩, ⟨some (11, false), some 15, .v (.ld false 1 (.t 14))⟩, ⟨some (11, false), some 16, .v (.bin .neq .no (.t 13) (.t 15))⟩, ⟨none, some 17, .v (.pick (.t 11) (.c (.bool true)) (.t 16))⟩, ⟨none, some 18, .v (.mov (.t 17))⟩, ⟨some (18, false), some 19, .v (.fad (.t 2) 3)⟩, ⟨some (18, false), some 20, .v (.ld false 1 (.t 19))⟩, ⟨some (18, false), some 21, .v (.fad (.t 3) 3)⟩, ⟨some (18, false), some 22, .v (.ld false 1 (.t 21))⟩, ⟨some (18, false), some 23, .v (.bin .neq .no (.t 20) (.t 22))⟩, ⟨none, some 24, .v (.pick (.t 18) (.c (.bool true)) (.t 23))⟩, ⟨none, some 25, .v (.mov (.t 24))⟩, ⟨some (25, false), some 26, .v (.fad (.t 2) 2)⟩, ⟨some (25, false), some 27, .v (.ld false 1 (.t 26))⟩, ⟨some (25, false), some 28, .v (.fad (.t 3) 2)⟩, ⟨some (25, false), some 29, .v (.ld false 1 (.t 28))⟩, ⟨some (25, false), some 30, .v (.bin .neq .no (.t 27) (.t 29))⟩, ⟨none, some 31, .v (.pick (.t 25) (.c (.bool true)) (.t 30))⟩, ⟨none, some 32, .v (.mov (.t 31))⟩, ⟨some (32, false), some 33, .v (.fad (.t 2) 4)⟩, ⟨some (32, false), some 34, .v (.ld false 1 (.t 33))⟩, ⟨some (32, false), some 35, .v (.len false (.t 34))⟩, ⟨some (32, false), some 36, .v (.fad (.t 3) 4)⟩, ⟨some (32, false), some 37, .v (.ld false 1 (.t 36))⟩, ⟨some (32, false), some 38, .v (.len false (.t 37))⟩, ⟨some (32, false), some 39, .v (.bin .neq .no (.t 35) (.t 38))⟩, ⟨none, some 40, .v (.pick (.t 32) (.c (.bool true)) (.t 39))⟩]
def k_envoyref06_Just_r2 : IC := .reg false [⟨none, some 4, .v (.mov (.c (.bool false)))⟩]
def k_envoyref06_Just_r3 : IC := .reg false [⟨none, some 5, .v (.mov (.c (.int .i64 0)))⟩]
def k_envoyref06_Just_r5 : IC := .reg false [⟨none, some 41, .v (.mov (.t 5))⟩, ⟨none, some 42, .v (.fad (.t 2) 4)⟩, ⟨none, some 43, .v (.ld false 1 (.t 42))⟩, ⟨none, some 44, .v (.len false (.t 43))⟩, ⟨none, some 45, .v (.bin .lss .no (.t 41) (.t 44))⟩]
def k_envoyref06_Just_r6 : IC := .drw [(⟨none, some 48, .v (.fad (.t 2) 4)⟩, []), (⟨none, some 49, .v (.ld false 1 (.t 48))⟩, []), (⟨none, some 50, .v (.mov (.t 5))⟩, []), (⟨none, some 51, .v (.iad 5 (.t 49) (.t 50))⟩, []), (⟨none, some 52, .v (.ld true 5 (.t 51))⟩, []), (⟨none, some 53, .v (.fad (.t 3) 4)⟩, []), (⟨none, some 54, .v (.ld false 1 (.t 53))⟩, []), (⟨none, some 55, .v (.mov (.t 5))⟩, []), (⟨none, some 56, .v (.iad 5 (.t 54) (.t 55))⟩, []), (⟨none, some 57, .v (.ld true 5 (.t 56))⟩, []), (⟨none, some 58, .call (.c (.fn 12 [] [])) [((.t 52), (.agg [.id, .id, .id, .id, (.sl 5)])), ((.t 57), (.agg [.id, .id, .id, .id, (.sl 5)]))]⟩, []), (⟨none, some 59, .v (.un .not (.t 58))⟩, [])]
def k_envoyref06_Just_r7 : IC := .reg false [⟨none, some 4, .v (.mov (.c (.bool false)))⟩]
def k_envoyref06_Just_r8 : IC := .reg false [⟨none, some 46, .v (.mov (.t 5))⟩, ⟨none, some 47, .v (.bin .add .no (.t 46) (.c (.int .i64 1)))⟩, ⟨none, some 5, .v (.mov (.t 47))⟩]
def k_envoyref06_Just_l4 : IC := (.seq (.seq k_envoyref06_Just_r5 (.cond (.t 45) .skip (.exit 0))) (.seq (.block 1 (.seq k_envoyref06_Just_r6 (.cond (.t 59) (.seq k_envoyref06_Just_r7 .ret) .skip))) k_envoyref06_Just_r8))
def k_envoyref06_Just_r10 : IC := .reg false [⟨none, some 4, .v (.mov (.c (.bool true)))⟩]
def k_envoyref06_Just : IC := (.seq k_envoyref06_Just_r0 (.seq (.seq k_envoyref06_Just_r1 (.cond (.t 40) (.seq k_envoyref06_Just_r2 .ret) .skip)) (.seq (.seq k_envoyref06_Just_r3 (.block 0 (.loop k_envoyref06_Just_l4))) (.seq k_envoyref06_Just_r10 .ret))))
@[go_sem] def s_envoyref06_Just : List (RV × Co) := [(.t 4, .id)]
theorem c_envoyref06_Just : cFun Try.prog 12 = some (60, k_envoyref06_Just, s_envoyref06_Just) := by kernel_rfl

-- envoy/nodes.Pat
def k_nodes_Pat_r0 : IC := .reg false [⟨none, some 1, .box (.t 0)⟩, ⟨none, some 2, .v (.mov (.c (.bool false)))⟩]
def k_nodes_Pat_r1 : IC := .reg false [⟨none, some 3, .v (.ld true 5 (.t 1))⟩, ⟨none, some 4, .call (.c (.fn 27 [] [])) [((.t 3), (.agg [.id, .id, .id, .id, (.sl 5)]))]⟩, ⟨none, some 5, .v (.mov (.t 4))⟩, ⟨some (5, true), some 6, .v (.ld true 5 (.t 1))⟩, ⟨some (5, true), some 7, .call (.c (.fn 28 [] [])) [((.t 6), (.agg [.id, .id, .id, .id, (.sl 5)]))]⟩, ⟨none, some 8, .v (.pick (.t 5) (.t 7) (.c (.bool false)))⟩, ⟨none, some 2, .v (.mov (.t 8))⟩]
def k_nodes_Pat : IC := (.seq k_nodes_Pat_r0 (.seq k_nodes_Pat_r1 .ret))
@[go_sem] def s_nodes_Pat : List (RV × Co) := [(.t 2, .id)]
theorem c_nodes_Pat : cFun Try.prog 13 = some (9, k_nodes_Pat, s_nodes_Pat) := by kernel_rfl

-- envoy/envoylaw06.count
def k_envoylaw06_count_r0 : IC := .reg false [⟨none, some 2, .box (.t 0)⟩, ⟨none, some 4, .v (.mov (.c (.int .i64 0)))⟩]
def k_envoylaw06_count_r1 : IC := .reg false [⟨none, some 6, .v (.mov (.t 1))⟩, ⟨none, some 7, .v (.bin .sub .no (.t 6) (.c (.int .i64 1)))⟩, ⟨none, some 1, .v (.mov (.t 7))⟩]
def k_envoylaw06_count_r2 : IC := .reg false [⟨none, some 5, .v (.mov (.c (.int .i64 0)))⟩]
def k_envoylaw06_count_r4 : IC := .reg false [⟨none, some 8, .v (.mov (.t 5))⟩, ⟨none, some 9, .v (.fad (.t 2) 4)⟩, ⟨none, some 10, .v (.ld false 1 (.t 9))⟩, ⟨none, some 11, .v (.len false (.t 10))⟩, ⟨none, some 12, .v (.bin .lss .no (.t 8) (.t 11))⟩, ⟨none, some 13, .v (.mov (.t 12))⟩, ⟨some (13, true), some 14, .v (.mov (.t 1))⟩, ⟨some (13, true), some 15, .v (.bin .geq .no (.t 14) (.c (.int .i64 0)))⟩, ⟨none, some 16, .v (.pick (.t 13) (.t 15) (.c (.bool false)))⟩]
def k_envoylaw06_count_r5 : IC := .reg false [⟨none, some 19, .v (.fad (.t 2) 4)⟩, ⟨none, some 20, .v (.ld false 1 (.t 19))⟩, ⟨none, some 21, .v (.mov (.t 5))⟩, ⟨none, some 22, .v (.iad 5 (.t 20) (.t 21))⟩, ⟨none, some 23, .v (.ld true 5 (.t 22))⟩, ⟨none, some 24, .v (.mov (.t 1))⟩, ⟨none, some 25, .call (.c (.fn 14 [] [])) [((.t 23), (.agg [.id, .id, .id, .id, (.sl 5)])), ((.t 24), .id)]⟩, ⟨none, some 1, .v (.mov (.t 25))⟩]
def k_envoylaw06_count_r6 : IC := .reg false [⟨none, some 17, .v (.mov (.t 5))⟩, ⟨none, some 18, .v (.bin .add .no (.t 17) (.c (.int .i64 1)))⟩, ⟨none, some 5, .v (.mov (.t 18))⟩]
def k_envoylaw06_count_l3 : IC := (.seq (.seq k_envoylaw06_count_r4 (.cond (.t 16) .skip (.exit 0))) (.seq (.block 1 k_envoylaw06_count_r5) k_envoylaw06_count_r6))
def k_envoylaw06_count_r8 : IC := .reg false [⟨none, some 26, .v (.mov (.t 1))⟩, ⟨none, some 4, .v (.mov (.t 26))⟩]
def k_envoylaw06_count : IC := (.seq k_envoylaw06_count_r0 (.seq k_envoylaw06_count_r1 (.seq (.seq k_envoylaw06_count_r2 (.block 0 (.loop k_envoylaw06_count_l3))) (.seq k_envoylaw06_count_r8 .ret))))
@[go_sem] def s_envoylaw06_count : List (RV × Co) := [(.t 4, .id)]
theorem c_envoylaw06_count : cFun Try.prog 14 = some (27, k_envoylaw06_count, s_envoylaw06_count) := by kernel_rfl

-- envoy/envoyref01.Texts
def k_envoyref01_Texts_r0 : IC := .reg false [⟨none, some 4, .v (.mov (.c (.bool false)))⟩]
def k_envoyref01_Texts_r1 : IC := .reg false [⟨none, some 6, .v (.mov (.t 0))⟩, ⟨none, some 7, .v (.len false (.t 6))⟩, ⟨none, some 8, .v (.mov (.t 1))⟩, ⟨none, some 9, .v (.len false (.t 8))⟩, ⟨none, some 10, .v (.bin .neq .no (.t 7) (.t 9))⟩]
def k_envoyref01_Texts_r2 : IC := .reg false [⟨none, some 4, .v (.mov (.c (.bool false)))⟩]
def k_envoyref01_Texts_r3 : IC := .reg false [⟨none, some 5, .v (.mov (.c (.int .i64 0)))⟩]
def k_envoyref01_Texts_r5 : IC := .reg false [⟨none, some 11, .v (.mov (.t 5))⟩, ⟨none, some 12, .v (.mov (.t 0))⟩, ⟨none, some 13, .v (.len false (.t 12))⟩, ⟨none, some 14, .v (.bin .lss .no (.t 11) (.t 13))⟩]
def k_envoyref01_Texts_r6 : IC := .drw [(⟨none, some 17, .v (.mov (.t 0))⟩, []), (⟨none, some 18, .v (.mov (.t 5))⟩, []), (⟨none, some 19, .v (.iad 1 (.t 17) (.t 18))⟩, []), (⟨none, some 20, .v (.ld false 1 (.t 19))⟩, []), (⟨none, some 21, .v (.mov (.t 1))⟩, []), (⟨none, some 22, .v (.mov (.t 5))⟩, []), (⟨none, some 23, .v (.iad 1 (.t 21) (.t 22))⟩, []), (⟨none, some 24, .v (.ld false 1 (.t 23))⟩, []), (⟨none, some 25, .v (.bin .neq .no (.t 20) (.t 24))⟩, [])]
def k_envoyref01_Texts_r7 : IC := .reg false [⟨none, some 4, .v (.mov (.c (.bool false)))⟩]
def k_envoyref01_Texts_r8 : IC := .reg false [⟨none, some 15, .v (.mov (.t 5))⟩, ⟨none, some 16, .v (.bin .add .no (.t 15) (.c (.int .i64 1)))⟩, ⟨none, some 5, .v (.mov (.t 16))⟩]
def k_envoyref01_Texts_l4 : IC := (.seq (.seq k_envoyref01_Texts_r5 (.cond (.t 14) .skip (.exit 0))) (.seq (.block 1 (.seq k_envoyref01_Texts_r6 (.cond (.t 25) (.seq k_envoyref01_Texts_r7 .ret) .skip))) k_envoyref01_Texts_r8))
def k_envoyref01_Texts_r10 : IC := .reg false [⟨none, some 4, .v (.mov (.c (.bool true)))⟩]
def k_envoyref01_Texts : IC := (.seq k_envoyref01_Texts_r0 (.seq (.seq k_envoyref01_Texts_r1 (.cond (.t 10) (.seq k_envoyref01_Texts_r2 .ret) .skip)) (.seq (.seq k_envoyref01_Texts_r3 (.block 0 (.loop k_envoyref01_Texts_l4))) (.seq k_envoyref01_Texts_r10 .ret))))
@[go_sem] def s_envoyref01_Texts : List (RV × Co) := [(.t 4, .id)]
theorem c_envoyref01_Texts : cFun Try.prog 15 = some (26, k_envoyref01_Texts, s_envoyref01_Texts) := by kernel_rfl

-- envoy/ppats.vars
def k_ppats_vars_r0 : IC := .reg false [⟨none, some 3, .box (.t 1)⟩, ⟨none, some 4, .v (.mov (.c .nils))⟩]
def k_ppats_vars_r1 : IC := .reg false [⟨none, some 7, .v (.fad (.t 3) 0)⟩, ⟨none, some 8, .v (.ld false 1 (.t 7))⟩, ⟨none, some 9, .v (.bin .eql .no (.t 8) (.c (.int .i64 11)))⟩]
def k_ppats_vars_r2 : IC := .reg false [⟨none, some 10, .v (.mov (.t 0))⟩, ⟨none, some 11, .v (.ld true 5 (.t 3))⟩, ⟨none, some 12, .v (.bsl 5 [((.t 11), (.agg [.id, .id, .id, .id, (.sl 5)]))])⟩, ⟨none, some 13, .app 5 (.agg [(.int .i64 0), (.int .i64 0), (.int .i64 0), (.str []), .nils]) 64 (.sl 5) (.t 10) (.t 12)⟩, ⟨none, some 4, .v (.mov (.t 13))⟩]
def k_ppats_vars_r3 : IC := .reg false [⟨none, some 14, .v (.fad (.t 3) 4)⟩, ⟨none, some 15, .v (.ld false 1 (.t 14))⟩, ⟨none, some 16, .v (.len false (.t 15))⟩, ⟨none, some 17, .v (.mov (.c (.int .i64 0)))⟩]
def k_ppats_vars_r5 : IC := .reg false [⟨none, some 18, .v (.bin .lss .no (.t 17) (.t 16))⟩]
def k_ppats_vars_r6 : IC := .reg false [⟨none, some 19, .v (.iad 5 (.t 15) (.t 17))⟩, ⟨none, some 20, .v (.ld true 5 (.t 19))⟩, ⟨none, some 6, .alo [(.int .i64 0), (.int .i64 0), (.int .i64 0), (.str []), .nils]⟩, ⟨none, none, .st 5 (.agg [.id, .id, .id, .id, (.sl 5)]) (.t 6) (.t 20)⟩]
def k_ppats_vars_r7 : IC := .reg false [⟨none, some 21, .v (.mov (.t 0))⟩, ⟨none, some 22, .v (.ld true 5 (.t 6))⟩, ⟨none, some 23, .call (.c (.fn 16 [] [])) [((.t 21), (.sl 5)), ((.t 22), (.agg [.id, .id, .id, .id, (.sl 5)]))]⟩, ⟨none, some 0, .v (.mov (.t 23))⟩]
def k_ppats_vars_r8 : IC := .reg false [⟨none, some 24, .v (.bin .add .no (.t 17) (.c (.int .i64 1)))⟩, ⟨none, some 17, .v (.mov (.t 24))⟩]
def k_ppats_vars_l4 : IC := (.seq k_ppats_vars_r5 (.seq (.cond (.t 18) .skip (.exit 0)) (.seq (.block 1 (.seq k_ppats_vars_r6 k_ppats_vars_r7)) k_ppats_vars_r8)))
def k_ppats_vars_r10 : IC := .reg false [⟨none, some 25, .v (.mov (.t 0))⟩, ⟨none, some 4, .v (.mov (.t 25))⟩]
def k_ppats_vars : IC := (.seq k_ppats_vars_r0 (.seq (.seq k_ppats_vars_r1 (.cond (.t 9) (.seq k_ppats_vars_r2 .ret) .skip)) (.seq (.seq k_ppats_vars_r3 (.block 0 (.loop k_ppats_vars_l4))) (.seq k_ppats_vars_r10 .ret))))
@[go_sem] def s_ppats_vars : List (RV × Co) := [(.t 4, (.sl 5))]
theorem c_ppats_vars : cFun Try.prog 16 = some (26, k_ppats_vars, s_ppats_vars) := by kernel_rfl

-- slices.Contains[[]string,string]
def k_slices_Contains___string_string__r0 : IC := .reg false [⟨none, some 4, .v (.mov (.c (.bool false)))⟩]
def k_slices_Contains___string_string__r1 : IC := .reg false [⟨none, some 5, .v (.mov (.t 0))⟩, ⟨none, some 6, .v (.mov (.t 1))⟩, ⟨none, some 7, .call (.c (.fn 29 [] [])) [((.t 5), (.sl 1)), ((.t 6), .id)]⟩, ⟨none, some 8, .v (.bin .geq .no (.t 7) (.c (.int .i64 0)))⟩, ⟨none, some 4, .v (.mov (.t 8))⟩]
def k_slices_Contains___string_string_ : IC := (.seq k_slices_Contains___string_string__r0 (.seq k_slices_Contains___string_string__r1 .ret))
@[go_sem] def s_slices_Contains___string_string_ : List (RV × Co) := [(.t 4, .id)]
theorem c_slices_Contains___string_string_ : cFun Try.prog 17 = some (9, k_slices_Contains___string_string_, s_slices_Contains___string_string_) := by kernel_rfl

-- envoy/lexer.Lex
def k_lexer_Lex_r0 : IC := .reg false [⟨none, some 2, .alo [.nils]⟩, ⟨none, some 3, .alo [(.int .i64 0)]⟩, ⟨none, some 4, .alo [(.int .i64 0)]⟩]
def k_lexer_Lex_r1 : IC := .reg false [⟨none, some 8, .v (.mov (.t 0))⟩, ⟨none, some 9, .v (.len true (.t 8))⟩, ⟨none, some 10, .v (.bin .gtr .no (.t 9) (.c (.int .i64 1048576)))⟩]
def k_lexer_Lex_r2 : IC := .reg false [⟨none, none, .st 1 (.sl 4) (.t 2) (.c .nils)⟩, ⟨none, none, .st 1 .id (.t 3) (.c (.int .i64 0))⟩, ⟨none, none, .st 1 .id (.t 4) (.c (.int .i64 2))⟩]
def k_lexer_Lex_r3 : IC := .reg false [⟨none, some 5, .alo [.nils]⟩]
def k_lexer_Lex_r4 : IC := .reg false [⟨none, some 11, .v (.mov (.t 0))⟩, ⟨none, some 12, .call (.c (.fn 30 [] [])) [((.t 11), .id)]⟩]
def k_lexer_Lex_r6 : IC := .reg false [⟨none, some 15, .v (.mov (.t 7))⟩, ⟨none, some 16, .v (.bin .neq .no (.t 15) (.c (.int .i64 0)))⟩]
def k_lexer_Lex_r7 : IC := .drw [(⟨none, some 17, .v (.fad (.t 6) 1)⟩, []), (⟨none, some 18, .v (.ld false 1 (.t 17))⟩, []), (⟨none, some 19, .v (.mov (.t 7))⟩, []), (⟨none, none, .st 1 (.sl 4) (.t 2) (.c .nils)⟩, [0, 1, 2]), (⟨none, none, .st 1 .id (.t 3) (.t 18)⟩, [2]), (⟨none, none, .st 1 .id (.t 4) (.t 19)⟩, [])]
def k_lexer_Lex_r8 : IC := .reg false [⟨none, some 20, .v (.ld false 1 (.t 5))⟩, ⟨none, some 21, .v (.ld true 4 (.t 6))⟩, ⟨none, some 22, .v (.bsl 4 [((.t 21), .id)])⟩, ⟨none, some 23, .app 4 (.agg [(.int .i64 0), (.int .i64 0), (.int .i64 0), (.str [])]) 40 (.sl 4) (.t 20) (.t 22)⟩, ⟨none, none, .st 1 (.sl 4) (.t 5) (.t 23)⟩]
def k_lexer_Lex_b5 : IC := (.block 1 (.seq (.seq k_lexer_Lex_r6 (.cond (.t 16) (.seq k_lexer_Lex_r7 .ret) .skip)) k_lexer_Lex_r8))
def k_lexer_Lex_r10 : IC := .reg false [⟨none, some 6, .alo [(.int .i64 0), (.int .i64 0), (.int .i64 0), (.str [])]⟩, ⟨none, none, .st 4 .id (.t 6) (.t 13)⟩]
def k_lexer_Lex_r11 : IC := .reg false [⟨none, some 7, .v (.mov (.t 14))⟩]
def k_lexer_Lex_r12 : IC := .reg false [⟨none, some 24, .v (.ld false 1 (.t 5))⟩, ⟨none, some 25, .v (.mov (.t 0))⟩, ⟨none, some 26, .v (.len true (.t 25))⟩, ⟨none, some 27, .v (.bld [(.int .i64 0), (.int .i64 0), (.int .i64 0), (.str [])] [(0, 1, (.c (.int .i64 0))), (1, 1, (.t 26))])⟩, ⟨none, some 28, .v (.bsl 4 [((.t 27), .id)])⟩, ⟨none, some 29, .app 4 (.agg [(.int .i64 0), (.int .i64 0), (.int .i64 0), (.str [])]) 40 (.sl 4) (.t 24) (.t 28)⟩, ⟨none, none, .st 1 (.sl 4) (.t 2) (.t 29)⟩, ⟨none, none, .st 1 .id (.t 3) (.c (.int .i64 0))⟩, ⟨none, none, .st 1 .id (.t 4) (.c (.int .i64 0))⟩]
def k_lexer_Lex : IC := (.seq k_lexer_Lex_r0 (.seq (.seq k_lexer_Lex_r1 (.cond (.t 10) (.seq k_lexer_Lex_r2 .ret) .skip)) (.seq k_lexer_Lex_r3 (.seq (.seq k_lexer_Lex_r4 (.block 0 (.rng (.t 12) [13, 14] (.seq k_lexer_Lex_r10 k_lexer_Lex_r11) k_lexer_Lex_b5))) (.seq k_lexer_Lex_r12 .ret)))))
@[go_sem] def s_lexer_Lex : List (RV × Co) := [(.c false 1 2, (.sl 4)), (.c false 1 3, .id), (.c false 1 4, .id)]
theorem c_lexer_Lex : cFun Try.prog 18 = some (30, k_lexer_Lex, s_lexer_Lex) := by kernel_rfl

-- envoy/cursor.New
def k_cursor_New_r0 : IC := .reg false [⟨none, some 2, .v (.mov (.c .nilp))⟩]
def k_cursor_New_r1 : IC := .reg false [⟨none, some 6, .v (.bld [.nils, (.int .i64 0), (.int .i64 0), (.int .i64 0), (.str []), (.int .i64 0), (.int .i64 0), (.int .i64 0), (.int .i64 0)] [])⟩, ⟨none, some 7, .box (.t 6)⟩, ⟨none, some 3, .v (.mov (.t 7))⟩]
def k_cursor_New_r2 : IC := .reg false [⟨none, some 8, .v (.mov (.t 0))⟩, ⟨none, some 9, .v (.len false (.t 8))⟩, ⟨none, some 10, .v (.mov (.c (.int .i64 0)))⟩]
def k_cursor_New_r4 : IC := .reg false [⟨none, some 11, .v (.bin .lss .no (.t 10) (.t 9))⟩]
def k_cursor_New_r5 : IC := .reg false [⟨none, some 12, .v (.iad 4 (.t 8) (.t 10))⟩, ⟨none, some 13, .v (.ld true 4 (.t 12))⟩, ⟨none, some 5, .alo [(.int .i64 0), (.int .i64 0), (.int .i64 0), (.str [])]⟩, ⟨none, none, .st 4 .id (.t 5) (.t 13)⟩]
def k_cursor_New_r6 : IC := .reg false [⟨none, some 14, .v (.fad (.t 5) 0)⟩, ⟨none, some 15, .v (.ld false 1 (.t 14))⟩, ⟨none, some 16, .v (.bin .eql .no (.t 15) (.c (.int .i64 0)))⟩]
def k_cursor_New_r7 : IC := .reg false [⟨none, some 17, .v (.mov (.t 3))⟩, ⟨none, some 18, .v (.fad (.t 5) 1)⟩, ⟨none, some 19, .v (.ld false 1 (.t 18))⟩, ⟨none, some 20, .v (.nck (.t 17))⟩, ⟨none, some 21, .v (.fad (.t 20) 1)⟩, ⟨none, some 22, .v (.fad (.t 21) 1)⟩, ⟨none, none, .st 1 .id (.t 22) (.t 19)⟩]
def k_cursor_New_r8 : IC := .drw [(⟨none, some 23, .v (.mov (.t 3))⟩, []), (⟨none, some 24, .v (.mov (.t 3))⟩, []), (⟨none, some 25, .v (.nck (.t 24))⟩, []), (⟨none, some 26, .v (.fad (.t 25) 0)⟩, []), (⟨none, some 27, .v (.ld false 1 (.t 26))⟩, []), (⟨none, some 28, .v (.ld true 4 (.t 5))⟩, []), (⟨none, some 29, .v (.bsl 4 [((.t 28), .id)])⟩, []), (⟨none, some 30, .app 4 (.agg [(.int .i64 0), (.int .i64 0), (.int .i64 0), (.str [])]) 40 (.sl 4) (.t 27) (.t 29)⟩, [0]), (⟨none, some 31, .v (.nck (.t 23))⟩, []), (⟨none, some 32, .v (.fad (.t 31) 0)⟩, []), (⟨none, none, .st 1 (.sl 4) (.t 32) (.t 30)⟩, [])]
def k_cursor_New_r9 : IC := .reg false [⟨none, some 33, .v (.bin .add .no (.t 10) (.c (.int .i64 1)))⟩, ⟨none, some 10, .v (.mov (.t 33))⟩]
def k_cursor_New_l3 : IC := (.seq k_cursor_New_r4 (.seq (.cond (.t 11) .skip (.exit 0)) (.seq (.block 1 (.seq k_cursor_New_r5 (.seq (.seq k_cursor_New_r6 (.cond (.t 16) (.seq k_cursor_New_r7 (.exit 0)) .skip)) k_cursor_New_r8))) k_cursor_New_r9)))
def k_cursor_New_r11 : IC := .reg false [⟨none, some 34, .v (.mov (.t 3))⟩, ⟨none, some 2, .v (.mov (.t 34))⟩]
def k_cursor_New : IC := (.seq k_cursor_New_r0 (.seq k_cursor_New_r1 (.seq (.seq k_cursor_New_r2 (.block 0 (.loop k_cursor_New_l3))) (.seq k_cursor_New_r11 .ret))))
@[go_sem] def s_cursor_New : List (RV × Co) := [(.t 2, .id)]
theorem c_cursor_New : cFun Try.prog 19 = some (35, k_cursor_New, s_cursor_New) := by kernel_rfl

-- envoy/ppats.At
def k_ppats_At_r0 : IC := .reg false [⟨none, some 2, .alo [(.int .i64 0), (.int .i64 0), (.int .i64 0), (.str []), .nils]⟩, ⟨none, some 3, .v (.mov (.c (.bool false)))⟩]
def k_ppats_At_r1 : IC := .reg false [⟨none, some 8, .v (.mov (.t 0))⟩, ⟨none, some 9, .call (.c (.fn 31 [] [])) [((.t 8), .id)]⟩, ⟨none, some 10, .v (.un .not (.t 9))⟩]
def k_ppats_At_r2 : IC := .reg false [⟨none, some 11, .v (.bld [(.int .i64 0), (.int .i64 0), (.int .i64 0), (.str []), .nils] [])⟩, ⟨none, none, .st 5 (.agg [.id, .id, .id, .id, (.sl 5)]) (.t 2) (.t 11)⟩, ⟨none, some 3, .v (.mov (.c (.bool false)))⟩]
def k_ppats_At_r3 : IC := .reg false [⟨none, some 12, .v (.mov (.t 0))⟩, ⟨none, some 13, .call (.c (.fn 32 [] [])) [((.t 12), .id)]⟩, ⟨none, some 14, .v (.fld false 1 0 (.t 13))⟩, ⟨none, some 15, .v (.bin .eql .no (.t 14) (.c (.int .i64 2)))⟩, ⟨none, some 4, .v (.mov (.t 15))⟩]
def k_ppats_At_r4 : IC := .reg false [⟨none, some 17, .v (.mov (.t 0))⟩, ⟨none, some 18, .call (.c (.fn 33 [] [])) [((.t 17), .id)]⟩, ⟨none, some 16, .v (.mov (.t 18))⟩, ⟨none, some 19, .v (.ext (.t 16) 0)⟩, ⟨none, some 20, .v (.ext (.t 16) 1)⟩, ⟨none, some 5, .alo [(.int .i64 0), (.int .i64 0), (.int .i64 0), (.str []), .nils]⟩, ⟨none, none, .st 5 (.agg [.id, .id, .id, .id, (.sl 5)]) (.t 5) (.t 19)⟩, ⟨none, some 6, .v (.mov (.t 20))⟩]
def k_ppats_At_r6 : IC := .reg false [⟨none, some 21, .v (.mov (.t 6))⟩, ⟨none, some 22, .v (.mov (.t 21))⟩, ⟨some (22, true), some 23, .v (.mov (.t 4))⟩, ⟨none, some 24, .v (.pick (.t 22) (.t 23) (.c (.bool false)))⟩, ⟨none, some 25, .v (.mov (.t 24))⟩, ⟨some (25, true), some 26, .v (.mov (.t 0))⟩, ⟨some (25, true), some 27, .call (.c (.fn 34 [] [])) [((.t 26), .id)]⟩, ⟨none, some 28, .v (.pick (.t 25) (.t 27) (.c (.bool false)))⟩]
def k_ppats_At_r7 : IC := .reg false [⟨none, some 7, .alo [(.int .i64 0), (.int .i64 0), (.int .i64 0), (.str []), .nils]⟩]
def k_ppats_At_r8 : IC := .reg false [⟨none, some 30, .v (.mov (.t 0))⟩, ⟨none, some 31, .call (.c (.fn 33 [] [])) [((.t 30), .id)]⟩, ⟨none, some 29, .v (.mov (.t 31))⟩, ⟨none, some 32, .v (.ext (.t 29) 0)⟩, ⟨none, some 33, .v (.ext (.t 29) 1)⟩, ⟨none, none, .st 5 (.agg [.id, .id, .id, .id, (.sl 5)]) (.t 7) (.t 32)⟩, ⟨none, some 6, .v (.mov (.t 33))⟩]
def k_ppats_At_r9 : IC := .reg false [⟨none, some 34, .v (.mov (.t 6))⟩]
def k_ppats_At_r10 : IC := .reg false [⟨none, some 35, .v (.fad (.t 5) 4)⟩, ⟨none, some 36, .v (.ld false 1 (.t 35))⟩, ⟨none, some 37, .v (.ld true 5 (.t 7))⟩, ⟨none, some 38, .v (.bsl 5 [((.t 37), (.agg [.id, .id, .id, .id, (.sl 5)]))])⟩, ⟨none, some 39, .app 5 (.agg [(.int .i64 0), (.int .i64 0), (.int .i64 0), (.str []), .nils]) 64 (.sl 5) (.t 36) (.t 38)⟩, ⟨none, some 40, .v (.fad (.t 5) 4)⟩, ⟨none, none, .st 1 (.sl 5) (.t 40) (.t 39)⟩]
def k_ppats_At_l5 : IC := (.seq (.seq k_ppats_At_r6 (.cond (.t 28) .skip (.exit 0))) (.block 1 (.seq k_ppats_At_r7 (.seq k_ppats_At_r8 (.seq k_ppats_At_r9 (.cond (.t 34) k_ppats_At_r10 .skip))))))
def k_ppats_At_r12 : IC := .reg false [⟨none, some 41, .v (.mov (.t 0))⟩, ⟨none, some 42, .call (.c (.fn 35 [] [])) [((.t 41), .id)]⟩]
def k_ppats_At_r13 : IC := .reg false [⟨none, some 43, .v (.mov (.t 6))⟩, ⟨none, some 44, .v (.un .not (.t 43))⟩]
def k_ppats_At_r14 : IC := .reg false [⟨none, some 45, .v (.bld [(.int .i64 0), (.int .i64 0), (.int .i64 0), (.str []), .nils] [])⟩, ⟨none, none, .st 5 (.agg [.id, .id, .id, .id, (.sl 5)]) (.t 2) (.t 45)⟩, ⟨none, some 3, .v (.mov (.c (.bool false)))⟩]
def k_ppats_At_r15 : IC := .reg false [⟨none, some 46, .v (.ld true 5 (.t 5))⟩, ⟨none, none, .st 5 (.agg [.id, .id, .id, .id, (.sl 5)]) (.t 2) (.t 46)⟩, ⟨none, some 3, .v (.mov (.c (.bool true)))⟩]
def k_ppats_At : IC := (.seq k_ppats_At_r0 (.seq (.seq k_ppats_At_r1 (.cond (.t 10) (.seq k_ppats_At_r2 .ret) .skip)) (.seq k_ppats_At_r3 (.seq k_ppats_At_r4 (.seq (.block 0 (.loop k_ppats_At_l5)) (.seq k_ppats_At_r12 (.seq (.seq k_ppats_At_r13 (.cond (.t 44) (.seq k_ppats_At_r14 .ret) .skip)) (.seq k_ppats_At_r15 .ret))))))))
@[go_sem] def s_ppats_At : List (RV × Co) := [(.c true 5 2, (.agg [.id, .id, .id, .id, (.sl 5)])), (.t 3, .id)]
theorem c_ppats_At : cFun Try.prog 20 = some (47, k_ppats_At, s_ppats_At) := by kernel_rfl

-- (*envoy/cursor.Cursor).Done
def k_cursor_Cursor_Done_r0 : IC := .reg false [⟨none, some 2, .v (.mov (.c (.int .i64 0)))⟩, ⟨none, some 3, .v (.mov (.c (.int .i64 0)))⟩]
def k_cursor_Cursor_Done_r1 : IC := .reg false [⟨none, some 5, .v (.mov (.t 0))⟩, ⟨none, some 6, .v (.bin .eql .ptr (.t 5) (.c .nilp))⟩, ⟨none, some 4, .v (.mov (.t 6))⟩]
def k_cursor_Cursor_Done_r2 : IC := .reg false [⟨none, some 2, .v (.mov (.c (.int .i64 0)))⟩, ⟨none, some 3, .v (.mov (.c (.int .i64 1)))⟩]
def k_cursor_Cursor_Done_r3 : IC := .reg false [⟨none, some 8, .v (.mov (.t 0))⟩, ⟨none, some 9, .v (.nck (.t 8))⟩, ⟨none, some 10, .v (.fad (.t 9) 7)⟩, ⟨none, some 11, .v (.ld false 1 (.t 10))⟩, ⟨none, some 12, .v (.bin .neq .no (.t 11) (.c (.int .i64 0)))⟩, ⟨none, some 7, .v (.mov (.t 12))⟩]
def k_cursor_Cursor_Done_r4 : IC := .drw [(⟨none, some 13, .v (.mov (.t 0))⟩, []), (⟨none, some 14, .v (.nck (.t 13))⟩, []), (⟨none, some 15, .v (.fad (.t 14) 8)⟩, []), (⟨none, some 16, .v (.ld false 1 (.t 15))⟩, []), (⟨none, some 17, .v (.mov (.t 0))⟩, []), (⟨none, some 18, .v (.nck (.t 17))⟩, []), (⟨none, some 19, .v (.fad (.t 18) 7)⟩, []), (⟨none, some 20, .v (.ld false 1 (.t 19))⟩, []), (⟨none, some 2, .v (.mov (.t 16))⟩, []), (⟨none, some 3, .v (.mov (.t 20))⟩, [])]
def k_cursor_Cursor_Done_r5 : IC := .drw [(⟨none, some 22, .v (.mov (.t 0))⟩, []), (⟨none, some 23, .v (.nck (.t 22))⟩, []), (⟨none, some 24, .v (.fad (.t 23) 5)⟩, []), (⟨none, some 25, .v (.ld false 1 (.t 24))⟩, []), (⟨none, some 26, .v (.mov (.t 0))⟩, []), (⟨none, some 27, .v (.nck (.t 26))⟩, []), (⟨none, some 28, .v (.fad (.t 27) 0)⟩, []), (⟨none, some 29, .v (.ld false 1 (.t 28))⟩, []), (⟨none, some 30, .v (.len false (.t 29))⟩, []), (⟨none, some 31, .v (.bin .lss .no (.t 25) (.t 30))⟩, []), (⟨none, some 21, .v (.mov (.t 31))⟩, [])]
def k_cursor_Cursor_Done_r6 : IC := .drw [(⟨none, some 32, .v (.mov (.t 0))⟩, []), (⟨none, some 33, .v (.nck (.t 32))⟩, []), (⟨none, some 34, .v (.fad (.t 33) 0)⟩, []), (⟨none, some 35, .v (.ld false 1 (.t 34))⟩, []), (⟨none, some 36, .v (.mov (.t 0))⟩, []), (⟨none, some 37, .v (.nck (.t 36))⟩, []), (⟨none, some 38, .v (.fad (.t 37) 5)⟩, []), (⟨none, some 39, .v (.ld false 1 (.t 38))⟩, []), (⟨none, some 40, .v (.iad 4 (.t 35) (.t 39))⟩, []), (⟨none, some 41, .v (.fad (.t 40) 1)⟩, []), (⟨none, some 42, .v (.ld false 1 (.t 41))⟩, []), (⟨none, some 2, .v (.mov (.t 42))⟩, []), (⟨none, some 3, .v (.mov (.c (.int .i64 5)))⟩, [])]
def k_cursor_Cursor_Done_r7 : IC := .reg false [⟨none, some 43, .v (.mov (.t 0))⟩, ⟨none, some 44, .v (.nck (.t 43))⟩, ⟨none, some 45, .v (.fad (.t 44) 1)⟩, ⟨none, some 46, .v (.fad (.t 45) 1)⟩, ⟨none, some 47, .v (.ld false 1 (.t 46))⟩, ⟨none, some 2, .v (.mov (.t 47))⟩, ⟨none, some 3, .v (.mov (.c (.int .i64 0)))⟩]
def k_cursor_Cursor_Done : IC := (.seq k_cursor_Cursor_Done_r0 (.seq (.block 0 (.seq k_cursor_Cursor_Done_r1 (.cond (.t 4) (.seq k_cursor_Cursor_Done_r2 .ret) (.seq k_cursor_Cursor_Done_r3 (.cond (.t 7) (.seq k_cursor_Cursor_Done_r4 .ret) (.seq k_cursor_Cursor_Done_r5 (.cond (.t 21) (.seq k_cursor_Cursor_Done_r6 .ret) .skip))))))) (.seq k_cursor_Cursor_Done_r7 .ret)))
@[go_sem] def s_cursor_Cursor_Done : List (RV × Co) := [(.t 2, .id), (.t 3, .id)]
theorem c_cursor_Cursor_Done : cFun Try.prog 21 = some (48, k_cursor_Cursor_Done, s_cursor_Cursor_Done) := by kernel_rfl

-- envoy/nodes.Depth
def k_nodes_Depth_r0 : IC := .reg false [⟨none, some 1, .box (.t 0)⟩, ⟨none, some 2, .v (.mov (.c (.int .i64 0)))⟩]
def k_nodes_Depth_r1 : IC := .reg false [⟨none, some 3, .alo [(.int .i64 0)]⟩, ⟨none, none, .st 1 .id (.t 3) (.c (.int .i64 0))⟩]
def k_nodes_Depth_r2 : IC := .reg false [⟨none, some 5, .v (.ld true 5 (.t 1))⟩, ⟨none, some 6, .call (.c (.fn 36 [] [])) [((.t 5), (.agg [.id, .id, .id, .id, (.sl 5)])), ((.c (.int .i64 1)), .id)]⟩]
def k_nodes_Depth_r4 : IC := .reg false [⟨none, some 9, .v (.ld false 1 (.t 3))⟩, ⟨none, some 10, .v (.mov (.t 4))⟩, ⟨none, some 11, .v (.mm true (.t 9) (.t 10))⟩, ⟨none, none, .st 1 .id (.t 3) (.t 11)⟩]
def k_nodes_Depth_b3 : IC := (.block 1 k_nodes_Depth_r4)
def k_nodes_Depth_r6 : IC := .reg false [⟨none, some 4, .v (.mov (.t 7))⟩]
def k_nodes_Depth_r7 : IC := .reg false [⟨none, some 12, .v (.ld false 1 (.t 3))⟩, ⟨none, some 2, .v (.mov (.t 12))⟩]
def k_nodes_Depth : IC := (.seq k_nodes_Depth_r0 (.seq k_nodes_Depth_r1 (.seq (.seq k_nodes_Depth_r2 (.block 0 (.rng (.t 6) [7, 8] k_nodes_Depth_r6 k_nodes_Depth_b3))) (.seq k_nodes_Depth_r7 .ret))))
@[go_sem] def s_nodes_Depth : List (RV × Co) := [(.t 2, .id)]
theorem c_nodes_Depth : cFun Try.prog 22 = some (13, k_nodes_Depth, s_nodes_Depth) := by kernel_rfl

-- envoy/envoyref04.Lex
def k_envoyref04_Lex_r0 : IC := .reg false [⟨none, some 2, .v (.mov (.c .nils))⟩, ⟨none, some 3, .v (.mov (.c (.int .i64 0)))⟩, ⟨none, some 4, .v (.mov (.c (.int .i64 0)))⟩]
def k_envoyref04_Lex_r1 : IC := .reg false [⟨none, some 9, .v (.mov (.t 0))⟩, ⟨none, some 10, .v (.len true (.t 9))⟩, ⟨none, some 11, .v (.bin .gtr .no (.t 10) (.c (.int .i64 1048576)))⟩]
def k_envoyref04_Lex_r2 : IC := .reg false [⟨none, some 2, .v (.mov (.c .nils))⟩, ⟨none, some 3, .v (.mov (.c (.int .i64 0)))⟩, ⟨none, some 4, .v (.mov (.c (.int .i64 2)))⟩]
def k_envoyref04_Lex_r3 : IC := .reg false [⟨none, some 5, .v (.mov (.c .nils))⟩]
def k_envoyref04_Lex_r4 : IC := .reg false [⟨none, some 12, .v (.mov (.t 0))⟩, ⟨none, some 13, .call (.c (.fn 37 [] [])) [((.t 12), .id), ((.c (.int .i64 0)), .id)]⟩, ⟨none, some 6, .v (.mov (.t 13))⟩]
def k_envoyref04_Lex_r6 : IC := .reg false [⟨none, some 14, .v (.mov (.t 6))⟩, ⟨none, some 15, .v (.mov (.t 0))⟩, ⟨none, some 16, .v (.len true (.t 15))⟩, ⟨none, some 17, .v (.bin .lss .no (.t 14) (.t 16))⟩]
def k_envoyref04_Lex_r7 : IC := .reg false [⟨none, some 19, .v (.mov (.t 0))⟩, ⟨none, some 20, .v (.mov (.t 6))⟩, ⟨none, some 21, .v (.sls (.t 19) (some (.t 20)) none)⟩, ⟨none, some 22, .call (.c (.fn 38 [] [])) [((.t 21), .id)]⟩, ⟨none, some 18, .v (.mov (.t 22))⟩, ⟨none, some 23, .v (.ext (.t 18) 0)⟩, ⟨none, some 24, .v (.ext (.t 18) 1)⟩, ⟨none, some 7, .alo [(.int .i64 0), (.int .i64 0), (.int .i64 0), (.str [])]⟩, ⟨none, none, .st 4 .id (.t 7) (.t 23)⟩, ⟨none, some 8, .v (.mov (.t 24))⟩]
def k_envoyref04_Lex_r8 : IC := .reg false [⟨none, some 25, .v (.mov (.t 8))⟩, ⟨none, some 26, .v (.bin .neq .no (.t 25) (.c (.int .i64 0)))⟩]
def k_envoyref04_Lex_r9 : IC := .reg false [⟨none, some 27, .v (.mov (.t 6))⟩, ⟨none, some 28, .v (.mov (.t 8))⟩, ⟨none, some 2, .v (.mov (.c .nils))⟩, ⟨none, some 3, .v (.mov (.t 27))⟩, ⟨none, some 4, .v (.mov (.t 28))⟩]
def k_envoyref04_Lex_r10 : IC := .reg false [⟨none, some 29, .v (.mov (.t 6))⟩, ⟨none, some 30, .v (.fad (.t 7) 1)⟩, ⟨none, none, .st 1 .id (.t 30) (.t 29)⟩]
def k_envoyref04_Lex_r11 : IC := .reg false [⟨none, some 31, .v (.mov (.t 5))⟩, ⟨none, some 32, .v (.ld true 4 (.t 7))⟩, ⟨none, some 33, .v (.bsl 4 [((.t 32), .id)])⟩, ⟨none, some 34, .app 4 (.agg [(.int .i64 0), (.int .i64 0), (.int .i64 0), (.str [])]) 40 (.sl 4) (.t 31) (.t 33)⟩, ⟨none, some 5, .v (.mov (.t 34))⟩]
def k_envoyref04_Lex_r12 : IC := .reg false [⟨none, some 35, .v (.mov (.t 0))⟩, ⟨none, some 36, .v (.mov (.t 6))⟩, ⟨none, some 37, .v (.fad (.t 7) 3)⟩, ⟨none, some 38, .v (.ld false 1 (.t 37))⟩, ⟨none, some 39, .v (.len true (.t 38))⟩, ⟨none, some 40, .v (.bin .add .no (.t 36) (.t 39))⟩, ⟨none, some 41, .call (.c (.fn 37 [] [])) [((.t 35), .id), ((.t 40), .id)]⟩, ⟨none, some 6, .v (.mov (.t 41))⟩]
def k_envoyref04_Lex_l5 : IC := (.seq (.seq k_envoyref04_Lex_r6 (.cond (.t 17) .skip (.exit 0))) (.block 1 (.seq k_envoyref04_Lex_r7 (.seq (.seq k_envoyref04_Lex_r8 (.cond (.t 26) (.seq k_envoyref04_Lex_r9 .ret) .skip)) (.seq k_envoyref04_Lex_r10 (.seq k_envoyref04_Lex_r11 k_envoyref04_Lex_r12))))))
def k_envoyref04_Lex_r14 : IC := .reg false [⟨none, some 42, .v (.mov (.t 5))⟩, ⟨none, some 43, .v (.mov (.t 0))⟩, ⟨none, some 44, .v (.len true (.t 43))⟩, ⟨none, some 45, .v (.bld [(.int .i64 0), (.int .i64 0), (.int .i64 0), (.str [])] [(0, 1, (.c (.int .i64 0))), (1, 1, (.t 44))])⟩, ⟨none, some 46, .v (.bsl 4 [((.t 45), .id)])⟩, ⟨none, some 47, .app 4 (.agg [(.int .i64 0), (.int .i64 0), (.int .i64 0), (.str [])]) 40 (.sl 4) (.t 42) (.t 46)⟩, ⟨none, some 2, .v (.mov (.t 47))⟩, ⟨none, some 3, .v (.mov (.c (.int .i64 0)))⟩, ⟨none, some 4, .v (.mov (.c (.int .i64 0)))⟩]
def k_envoyref04_Lex : IC := (.seq k_envoyref04_Lex_r0 (.seq (.seq k_envoyref04_Lex_r1 (.cond (.t 11) (.seq k_envoyref04_Lex_r2 .ret) .skip)) (.seq k_envoyref04_Lex_r3 (.seq k_envoyref04_Lex_r4 (.seq (.block 0 (.loop k_envoyref04_Lex_l5)) (.seq k_envoyref04_Lex_r14 .ret))))))
@[go_sem] def s_envoyref04_Lex : List (RV × Co) := [(.t 2, (.sl 4)), (.t 3, .id), (.t 4, .id)]
theorem c_envoyref04_Lex : cFun Try.prog 23 = some (48, k_envoyref04_Lex, s_envoyref04_Lex) := by kernel_rfl

-- envoy/envoyref08.At
def k_envoyref08_At_r0 : IC := .reg false [⟨none, some 1, .box (.t 0)⟩, ⟨none, some 2, .alo [.nils, (.int .i64 0), (.int .i64 0), (.int .i64 0), (.str []), (.int .i64 0), (.int .i64 0), (.int .i64 0)]⟩, ⟨none, some 3, .alo [(.int .i64 0), (.int .i64 0), (.int .i64 0), (.str []), .nils]⟩]
def k_envoyref08_At_r1 : IC := .reg false [⟨none, some 11, .v (.ld true 8 (.t 1))⟩, ⟨none, some 12, .call (.c (.fn 39 [] [])) [((.t 11), (.agg [(.sl 4), .id, .id, .id, .id, .id, .id, .id]))]⟩, ⟨none, some 10, .v (.mov (.t 12))⟩, ⟨none, some 13, .v (.ext (.t 10) 0)⟩, ⟨none, some 14, .v (.ext (.t 10) 1)⟩, ⟨none, none, .st 8 (.agg [(.sl 4), .id, .id, .id, .id, .id, .id, .id]) (.t 1) (.t 13)⟩]
def k_envoyref08_At_r2 : IC := .reg false [⟨none, some 15, .v (.ld true 8 (.t 1))⟩, ⟨none, some 16, .call (.c (.fn 40 [] [])) [((.t 15), (.agg [(.sl 4), .id, .id, .id, .id, .id, .id, .id]))]⟩, ⟨none, some 17, .v (.fld false 1 0 (.t 16))⟩, ⟨none, some 18, .v (.bin .neq .no (.t 17) (.c (.int .i64 2)))⟩]
def k_envoyref08_At_r3 : IC := .reg false [⟨none, some 20, .v (.ld true 8 (.t 1))⟩, ⟨none, some 21, .call (.c (.fn 41 [] [])) [((.t 20), (.agg [(.sl 4), .id, .id, .id, .id, .id, .id, .id]))]⟩, ⟨none, some 19, .v (.mov (.t 21))⟩, ⟨none, some 22, .v (.ext (.t 19) 0)⟩, ⟨none, some 23, .v (.ext (.t 19) 1)⟩, ⟨none, some 4, .alo [.nils, (.int .i64 0), (.int .i64 0), (.int .i64 0), (.str []), (.int .i64 0), (.int .i64 0), (.int .i64 0)]⟩, ⟨none, some 5, .alo [(.int .i64 0), (.int .i64 0), (.int .i64 0), (.str []), .nils]⟩, ⟨none, none, .st 8 (.agg [(.sl 4), .id, .id, .id, .id, .id, .id, .id]) (.t 4) (.t 22)⟩, ⟨none, none, .st 5 (.agg [.id, .id, .id, .id, (.sl 5)]) (.t 5) (.t 23)⟩]
def k_envoyref08_At_r4 : IC := .drw [(⟨none, some 24, .v (.ld true 8 (.t 4))⟩, []), (⟨none, some 25, .call (.c (.fn 42 [] [])) [((.t 24), (.agg [(.sl 4), .id, .id, .id, .id, .id, .id, .id]))]⟩, []), (⟨none, some 26, .v (.ld true 5 (.t 5))⟩, []), (⟨none, none, .st 8 (.agg [(.sl 4), .id, .id, .id, .id, .id, .id, .id]) (.t 2) (.t 25)⟩, [2]), (⟨none, none, .st 5 (.agg [.id, .id, .id, .id, (.sl 5)]) (.t 3) (.t 26)⟩, [])]
def k_envoyref08_At_r5 : IC := .reg false [⟨none, some 28, .v (.ld true 8 (.t 1))⟩, ⟨none, some 29, .call (.c (.fn 43 [] [])) [((.t 28), (.agg [(.sl 4), .id, .id, .id, .id, .id, .id, .id]))]⟩, ⟨none, some 27, .v (.mov (.t 29))⟩, ⟨none, some 30, .v (.ext (.t 27) 0)⟩, ⟨none, some 31, .v (.ext (.t 27) 1)⟩, ⟨none, some 6, .alo [(.int .i64 0), (.int .i64 0), (.int .i64 0), (.str [])]⟩, ⟨none, none, .st 8 (.agg [(.sl 4), .id, .id, .id, .id, .id, .id, .id]) (.t 1) (.t 30)⟩, ⟨none, none, .st 4 .id (.t 6) (.t 31)⟩]
def k_envoyref08_At_r6 : IC := .reg false [⟨none, some 32, .v (.fad (.t 6) 1)⟩, ⟨none, some 33, .v (.ld false 1 (.t 32))⟩, ⟨none, some 34, .v (.fad (.t 6) 3)⟩, ⟨none, some 35, .v (.ld false 1 (.t 34))⟩, ⟨none, some 36, .v (.bld [(.int .i64 0), (.int .i64 0), (.int .i64 0), (.str []), .nils] [(0, 1, (.c (.int .i64 14))), (1, 1, (.t 33)), (3, 1, (.t 35))])⟩, ⟨none, some 7, .alo [(.int .i64 0), (.int .i64 0), (.int .i64 0), (.str []), .nils]⟩, ⟨none, none, .st 5 (.agg [.id, .id, .id, .id, (.sl 5)]) (.t 7) (.t 36)⟩]
def k_envoyref08_At_r8 : IC := .reg false [⟨none, some 37, .v (.ld true 8 (.t 1))⟩, ⟨none, some 38, .call (.c (.fn 44 [] [])) [((.t 37), (.agg [(.sl 4), .id, .id, .id, .id, .id, .id, .id]))]⟩]
def k_envoyref08_At_r9 : IC := .reg false [⟨none, some 40, .v (.ld true 8 (.t 1))⟩, ⟨none, some 41, .call (.c (.fn 41 [] [])) [((.t 40), (.agg [(.sl 4), .id, .id, .id, .id, .id, .id, .id]))]⟩, ⟨none, some 39, .v (.mov (.t 41))⟩, ⟨none, some 42, .v (.ext (.t 39) 0)⟩, ⟨none, some 43, .v (.ext (.t 39) 1)⟩, ⟨none, some 8, .alo [.nils, (.int .i64 0), (.int .i64 0), (.int .i64 0), (.str []), (.int .i64 0), (.int .i64 0), (.int .i64 0)]⟩, ⟨none, some 9, .alo [(.int .i64 0), (.int .i64 0), (.int .i64 0), (.str []), .nils]⟩, ⟨none, none, .st 8 (.agg [(.sl 4), .id, .id, .id, .id, .id, .id, .id]) (.t 8) (.t 42)⟩, ⟨none, none, .st 5 (.agg [.id, .id, .id, .id, (.sl 5)]) (.t 9) (.t 43)⟩]
def k_envoyref08_At_r10 : IC := .reg false [⟨none, some 44, .v (.ld true 8 (.t 8))⟩, ⟨none, none, .st 8 (.agg [(.sl 4), .id, .id, .id, .id, .id, .id, .id]) (.t 1) (.t 44)⟩]
def k_envoyref08_At_r11 : IC := .reg false [⟨none, some 45, .v (.fad (.t 7) 4)⟩, ⟨none, some 46, .v (.ld false 1 (.t 45))⟩, ⟨none, some 47, .v (.ld true 5 (.t 9))⟩, ⟨none, some 48, .v (.bsl 5 [((.t 47), (.agg [.id, .id, .id, .id, (.sl 5)]))])⟩, ⟨none, some 49, .app 5 (.agg [(.int .i64 0), (.int .i64 0), (.int .i64 0), (.str []), .nils]) 64 (.sl 5) (.t 46) (.t 48)⟩, ⟨none, some 50, .v (.fad (.t 7) 4)⟩, ⟨none, none, .st 1 (.sl 5) (.t 50) (.t 49)⟩]
def k_envoyref08_At_l7 : IC := (.seq (.seq k_envoyref08_At_r8 (.cond (.t 38) .skip (.exit 0))) (.block 1 (.seq k_envoyref08_At_r9 (.seq k_envoyref08_At_r10 k_envoyref08_At_r11))))
def k_envoyref08_At_r13 : IC := .drw [(⟨none, some 51, .v (.ld true 8 (.t 1))⟩, []), (⟨none, some 52, .call (.c (.fn 42 [] [])) [((.t 51), (.agg [(.sl 4), .id, .id, .id, .id, .id, .id, .id]))]⟩, []), (⟨none, some 53, .v (.ld true 5 (.t 7))⟩, []), (⟨none, none, .st 8 (.agg [(.sl 4), .id, .id, .id, .id, .id, .id, .id]) (.t 2) (.t 52)⟩, [2]), (⟨none, none, .st 5 (.agg [.id, .id, .id, .id, (.sl 5)]) (.t 3) (.t 53)⟩, [])]
def k_envoyref08_At : IC := (.seq k_envoyref08_At_r0 (.seq k_envoyref08_At_r1 (.seq (.seq k_envoyref08_At_r2 (.cond (.t 18) (.seq k_envoyref08_At_r3 (.seq k_envoyref08_At_r4 .ret)) .skip)) (.seq k_envoyref08_At_r5 (.seq k_envoyref08_At_r6 (.seq (.block 0 (.loop k_envoyref08_At_l7)) (.seq k_envoyref08_At_r13 .ret)))))))
@[go_sem] def s_envoyref08_At : List (RV × Co) := [(.c true 8 2, (.agg [(.sl 4), .id, .id, .id, .id, .id, .id, .id])), (.c true 5 3, (.agg [.id, .id, .id, .id, (.sl 5)]))]
theorem c_envoyref08_At : cFun Try.prog 24 = some (54, k_envoyref08_At, s_envoyref08_At) := by kernel_rfl

-- envoy/envoyref05.New
def k_envoyref05_New_r0 : IC := .reg false [⟨none, some 2, .alo [.nils, (.int .i64 0), (.int .i64 0), (.int .i64 0), (.str []), (.int .i64 0), (.int .i64 0), (.int .i64 0)]⟩]
def k_envoyref05_New_r1 : IC := .reg false [⟨none, some 3, .v (.mov (.c (.int .i64 0)))⟩]
def k_envoyref05_New_r3 : IC := .reg false [⟨none, some 4, .v (.mov (.t 3))⟩, ⟨none, some 5, .v (.mov (.t 0))⟩, ⟨none, some 6, .v (.len false (.t 5))⟩, ⟨none, some 7, .v (.bin .lss .no (.t 4) (.t 6))⟩]
def k_envoyref05_New_r4 : IC := .reg false [⟨none, some 10, .v (.mov (.t 0))⟩, ⟨none, some 11, .v (.mov (.t 3))⟩, ⟨none, some 12, .v (.iad 4 (.t 10) (.t 11))⟩, ⟨none, some 13, .v (.fad (.t 12) 0)⟩, ⟨none, some 14, .v (.ld false 1 (.t 13))⟩, ⟨none, some 15, .v (.bin .eql .no (.t 14) (.c (.int .i64 0)))⟩]
def k_envoyref05_New_r5 : IC := .drw [(⟨none, some 16, .v (.mov (.t 0))⟩, []), (⟨none, some 17, .v (.mov (.t 3))⟩, []), (⟨none, some 18, .v (.slv 4 (.t 16) none (some (.t 17)) none)⟩, []), (⟨none, some 19, .v (.mov (.t 0))⟩, []), (⟨none, some 20, .v (.mov (.t 3))⟩, []), (⟨none, some 21, .v (.iad 4 (.t 19) (.t 20))⟩, []), (⟨none, some 22, .v (.fad (.t 21) 1)⟩, []), (⟨none, some 23, .v (.ld false 1 (.t 22))⟩, []), (⟨none, some 24, .v (.bld [(.int .i64 0), (.int .i64 0), (.int .i64 0), (.str [])] [(0, 1, (.c (.int .i64 0))), (1, 1, (.t 23))])⟩, []), (⟨none, some 25, .v (.bld [.nils, (.int .i64 0), (.int .i64 0), (.int .i64 0), (.str []), (.int .i64 0), (.int .i64 0), (.int .i64 0)] [(0, 1, (.t 18)), (1, 4, (.t 24))])⟩, []), (⟨none, none, .st 8 (.agg [(.sl 4), .id, .id, .id, .id, .id, .id, .id]) (.t 2) (.t 25)⟩, [])]
def k_envoyref05_New_r6 : IC := .reg false [⟨none, some 8, .v (.mov (.t 3))⟩, ⟨none, some 9, .v (.bin .add .no (.t 8) (.c (.int .i64 1)))⟩, ⟨none, some 3, .v (.mov (.t 9))⟩]
def k_envoyref05_New_l2 : IC := (.seq (.seq k_envoyref05_New_r3 (.cond (.t 7) .skip (.exit 0))) (.seq (.block 1 (.seq k_envoyref05_New_r4 (.cond (.t 15) (.seq k_envoyref05_New_r5 .ret) .skip))) k_envoyref05_New_r6))
def k_envoyref05_New_r8 : IC := .reg false [⟨none, some 26, .v (.mov (.t 0))⟩, ⟨none, some 27, .v (.bld [.nils, (.int .i64 0), (.int .i64 0), (.int .i64 0), (.str []), (.int .i64 0), (.int .i64 0), (.int .i64 0)] [(0, 1, (.t 26))])⟩, ⟨none, none, .st 8 (.agg [(.sl 4), .id, .id, .id, .id, .id, .id, .id]) (.t 2) (.t 27)⟩]
def k_envoyref05_New : IC := (.seq k_envoyref05_New_r0 (.seq (.seq k_envoyref05_New_r1 (.block 0 (.loop k_envoyref05_New_l2))) (.seq k_envoyref05_New_r8 .ret)))
@[go_sem] def s_envoyref05_New : List (RV × Co) := [(.c true 8 2, (.agg [(.sl 4), .id, .id, .id, .id, .id, .id, .id]))]
theorem c_envoyref05_New : cFun Try.prog 25 = some (28, k_envoyref05_New, s_envoyref05_New) := by kernel_rfl

-- envoy/envoyref07.Whole
def k_envoyref07_Whole_r0 : IC := .reg false [⟨none, some 2, .box (.t 0)⟩, ⟨none, some 3, .box (.t 1)⟩, ⟨none, some 4, .alo [(.int .i64 0), (.int .i64 0), (.int .i64 0), (.str []), .nils]⟩, ⟨none, some 5, .v (.mov (.c (.int .i64 0)))⟩, ⟨none, some 6, .v (.mov (.c (.int .i64 0)))⟩]
def k_envoyref07_Whole_r1 : IC := .reg false [⟨none, some 10, .v (.ld true 8 (.t 2))⟩, ⟨none, some 11, .call (.c (.fn 45 [] [])) [((.t 10), (.agg [(.sl 4), .id, .id, .id, .id, .id, .id, .id]))]⟩, ⟨none, some 9, .v (.mov (.t 11))⟩, ⟨none, some 12, .v (.ext (.t 9) 0)⟩, ⟨none, some 13, .v (.ext (.t 9) 1)⟩, ⟨none, some 7, .v (.mov (.t 12))⟩, ⟨none, some 8, .v (.mov (.t 13))⟩]
def k_envoyref07_Whole_r2 : IC := .reg false [⟨none, some 14, .v (.mov (.t 8))⟩, ⟨none, some 15, .v (.bin .neq .no (.t 14) (.c (.int .i64 0)))⟩]
def k_envoyref07_Whole_r3 : IC := .reg false [⟨none, some 16, .v (.bld [(.int .i64 0), (.int .i64 0), (.int .i64 0), (.str []), .nils] [])⟩, ⟨none, some 17, .v (.mov (.t 7))⟩, ⟨none, some 18, .v (.mov (.t 8))⟩, ⟨none, none, .st 5 (.agg [.id, .id, .id, .id, (.sl 5)]) (.t 4) (.t 16)⟩, ⟨none, some 5, .v (.mov (.t 17))⟩, ⟨none, some 6, .v (.mov (.t 18))⟩]
def k_envoyref07_Whole_r4 : IC := .reg false [⟨none, some 19, .v (.ld true 5 (.t 3))⟩, ⟨none, some 20, .call (.c (.fn 46 [] [])) [((.t 19), (.agg [.id, .id, .id, .id, (.sl 5)]))]⟩, ⟨none, some 21, .v (.bin .gtr .no (.t 20) (.c (.int .i64 100)))⟩]
def k_envoyref07_Whole_r5 : IC := .drw [(⟨none, some 22, .v (.bld [(.int .i64 0), (.int .i64 0), (.int .i64 0), (.str []), .nils] [])⟩, []), (⟨none, some 23, .v (.fad (.t 3) 1)⟩, []), (⟨none, some 24, .v (.ld false 1 (.t 23))⟩, []), (⟨none, none, .st 5 (.agg [.id, .id, .id, .id, (.sl 5)]) (.t 4) (.t 22)⟩, [1, 2]), (⟨none, some 5, .v (.mov (.t 24))⟩, []), (⟨none, some 6, .v (.mov (.c (.int .i64 2)))⟩, [])]
def k_envoyref07_Whole_r6 : IC := .reg false [⟨none, some 25, .v (.ld true 5 (.t 3))⟩, ⟨none, none, .st 5 (.agg [.id, .id, .id, .id, (.sl 5)]) (.t 4) (.t 25)⟩, ⟨none, some 5, .v (.mov (.c (.int .i64 0)))⟩, ⟨none, some 6, .v (.mov (.c (.int .i64 0)))⟩]
def k_envoyref07_Whole : IC := (.seq k_envoyref07_Whole_r0 (.seq k_envoyref07_Whole_r1 (.seq (.seq k_envoyref07_Whole_r2 (.cond (.t 15) (.seq k_envoyref07_Whole_r3 .ret) .skip)) (.seq (.seq k_envoyref07_Whole_r4 (.cond (.t 21) (.seq k_envoyref07_Whole_r5 .ret) .skip)) (.seq k_envoyref07_Whole_r6 .ret)))))
@[go_sem] def s_envoyref07_Whole : List (RV × Co) := [(.c true 5 4, (.agg [.id, .id, .id, .id, (.sl 5)])), (.t 5, .id), (.t 6, .id)]
theorem c_envoyref07_Whole : cFun Try.prog 26 = some (26, k_envoyref07_Whole, s_envoyref07_Whole) := by kernel_rfl

-- envoy/nodes.low
def k_nodes_low_r0 : IC := .reg false [⟨none, some 1, .box (.t 0)⟩, ⟨none, some 2, .alo [(.bool false)]⟩]
def k_nodes_low_r1 : IC := .reg false [⟨none, some 4, .v (.ld true 5 (.t 1))⟩, ⟨none, some 5, .call (.c (.fn 36 [] [])) [((.t 4), (.agg [.id, .id, .id, .id, (.sl 5)])), ((.c (.int .i64 1)), .id)]⟩]
def k_nodes_low_r3 : IC := .reg false [⟨none, some 8, .v (.mov (.t 3))⟩, ⟨none, some 9, .v (.bin .gtr .no (.t 8) (.c (.int .i64 100)))⟩]
def k_nodes_low_r4 : IC := .reg false [⟨none, none, .st 1 .id (.t 2) (.c (.bool false))⟩]
def k_nodes_low_b2 : IC := (.block 1 (.seq k_nodes_low_r3 (.cond (.t 9) (.seq k_nodes_low_r4 .ret) .skip)))
def k_nodes_low_r6 : IC := .reg false [⟨none, some 3, .v (.mov (.t 6))⟩]
def k_nodes_low_r7 : IC := .reg false [⟨none, none, .st 1 .id (.t 2) (.c (.bool true))⟩]
def k_nodes_low : IC := (.seq k_nodes_low_r0 (.seq (.seq k_nodes_low_r1 (.block 0 (.rng (.t 5) [6, 7] k_nodes_low_r6 k_nodes_low_b2))) (.seq k_nodes_low_r7 .ret)))
@[go_sem] def s_nodes_low : List (RV × Co) := [(.c false 1 2, .id)]
theorem c_nodes_low : cFun Try.prog 27 = some (10, k_nodes_low, s_nodes_low) := by kernel_rfl

-- envoy/nodes.isPat
def k_nodes_isPat_r0 : IC := .reg false [⟨none, some 1, .box (.t 0)⟩, ⟨none, some 2, .v (.mov (.c (.bool false)))⟩]
def k_nodes_isPat_r1 : IC := .reg false [⟨none, some 3, .v (.fad (.t 1) 0)⟩, ⟨none, some 4, .v (.ld false 1 (.t 3))⟩]
def k_nodes_isPat_r2 : IC := .reg false [⟨none, some 6, .v (.bin .eql .no (.t 4) (.c (.int .i64 11)))⟩, ⟨none, some 5, .v (.mov (.t 6))⟩]
def k_nodes_isPat_r3 : IC := .reg false [⟨none, some 7, .v (.ld true 5 (.t 1))⟩, ⟨none, some 8, .call (.c (.fn 47 [] [])) [((.t 7), (.agg [.id, .id, .id, .id, (.sl 5)])), ((.c (.fn 48 [] [])), .id)]⟩, ⟨none, some 9, .v (.mov (.t 8))⟩, ⟨some (9, true), some 10, .v (.fad (.t 1) 4)⟩, ⟨some (9, true), some 11, .v (.ld false 1 (.t 10))⟩, ⟨some (9, true), some 12, .v (.len false (.t 11))⟩, ⟨some (9, true), some 13, .v (.bin .eql .no (.t 12) (.c (.int .i64 0)))⟩, ⟨none, some 14, .v (.pick (.t 9) (.t 13) (.c (.bool false)))⟩, ⟨none, some 2, .v (.mov (.t 14))⟩]
def k_nodes_isPat_r4 : IC := .reg false [⟨none, some 16, .v (.bin .eql .no (.t 4) (.c (.int .i64 12)))⟩, ⟨none, some 15, .v (.mov (.t 16))⟩]
def k_nodes_isPat_r5 : IC := .reg false [⟨none, some 17, .v (.ld true 5 (.t 1))⟩, ⟨none, some 18, .call (.c (.fn 49 [] [])) [((.t 17), (.agg [.id, .id, .id, .id, (.sl 5)]))]⟩, ⟨none, some 19, .v (.mov (.t 18))⟩, ⟨some (19, true), some 20, .v (.fad (.t 1) 4)⟩, ⟨some (19, true), some 21, .v (.ld false 1 (.t 20))⟩, ⟨some (19, true), some 22, .v (.len false (.t 21))⟩, ⟨some (19, true), some 23, .v (.bin .eql .no (.t 22) (.c (.int .i64 0)))⟩, ⟨none, some 24, .v (.pick (.t 19) (.t 23) (.c (.bool false)))⟩, ⟨none, some 2, .v (.mov (.t 24))⟩]
def k_nodes_isPat_r6 : IC := .reg false [⟨none, some 26, .v (.bin .eql .no (.t 4) (.c (.int .i64 13)))⟩, ⟨none, some 25, .v (.mov (.t 26))⟩]
def k_nodes_isPat_r7 : IC := .reg false [⟨none, some 27, .v (.fad (.t 1) 3)⟩, ⟨none, some 28, .v (.ld false 1 (.t 27))⟩, ⟨none, some 29, .v (.bin .eql .no (.t 28) (.c (.str [])))⟩, ⟨none, some 30, .v (.mov (.t 29))⟩, ⟨some (30, true), some 31, .v (.fad (.t 1) 2)⟩, ⟨some (30, true), some 32, .v (.ld false 1 (.t 31))⟩, ⟨some (30, true), some 33, .v (.bin .geq .no (.t 32) (.c (.int .i64 0)))⟩, ⟨none, some 34, .v (.pick (.t 30) (.t 33) (.c (.bool false)))⟩, ⟨none, some 35, .v (.mov (.t 34))⟩, ⟨some (35, true), some 36, .v (.fad (.t 1) 4)⟩, ⟨some (35, true), some 37, .v (.ld false 1 (.t 36))⟩, ⟨some (35, true), some 38, .v (.len false (.t 37))⟩, ⟨some (35, true), some 39, .v (.bin .eql .no (.t 38) (.c (.int .i64 0)))⟩, ⟨none, some 40, .v (.pick (.t 35) (.t 39) (.c (.bool false)))⟩, ⟨none, some 2, .v (.mov (.t 40))⟩]
def k_nodes_isPat_r8 : IC := .reg false [⟨none, some 42, .v (.bin .eql .no (.t 4) (.c (.int .i64 14)))⟩, ⟨none, some 41, .v (.mov (.t 42))⟩]
def k_nodes_isPat_r9 : IC := .reg false [⟨none, some 43, .v (.ld true 5 (.t 1))⟩, ⟨none, some 44, .call (.c (.fn 47 [] [])) [((.t 43), (.agg [.id, .id, .id, .id, (.sl 5)])), ((.c (.fn 50 [] [])), .id)]⟩, ⟨none, some 45, .v (.mov (.t 44))⟩, ⟨some (45, true), some 46, .v (.fad (.t 1) 4)⟩, ⟨some (45, true), some 47, .v (.ld false 1 (.t 46))⟩, ⟨some (45, true), some 48, .call (.c (.fn 51 [] [])) [((.t 47), (.sl 5)), ((.c (.fn 28 [] [])), .id)]⟩, ⟨none, some 49, .v (.pick (.t 45) (.t 48) (.c (.bool false)))⟩, ⟨none, some 2, .v (.mov (.t 49))⟩]
def k_nodes_isPat_r10 : IC := .reg false [⟨none, some 2, .v (.mov (.c (.bool false)))⟩]
def k_nodes_isPat : IC := (.seq k_nodes_isPat_r0 (.seq (.seq k_nodes_isPat_r1 (.block 0 (.seq k_nodes_isPat_r2 (.cond (.t 5) (.seq k_nodes_isPat_r3 .ret) (.seq k_nodes_isPat_r4 (.cond (.t 15) (.seq k_nodes_isPat_r5 .ret) (.seq k_nodes_isPat_r6 (.cond (.t 25) (.seq k_nodes_isPat_r7 .ret) (.seq k_nodes_isPat_r8 (.cond (.t 41) (.seq k_nodes_isPat_r9 .ret) .skip)))))))))) (.seq k_nodes_isPat_r10 .ret)))
@[go_sem] def s_nodes_isPat : List (RV × Co) := [(.t 2, .id)]
theorem c_nodes_isPat : cFun Try.prog 28 = some (50, k_nodes_isPat, s_nodes_isPat) := by kernel_rfl

-- slices.Index[[]string,string]
def k_slices_Index___string_string__r0 : IC := .reg false [⟨none, some 4, .v (.mov (.c (.int .i64 0)))⟩]
def k_slices_Index___string_string__r1 : IC := .reg false [⟨none, some 6, .v (.mov (.t 0))⟩, ⟨none, some 7, .v (.len false (.t 6))⟩, ⟨none, some 8, .v (.mov (.c (.int .i64 0)))⟩]
def k_slices_Index___string_string__r3 : IC := .reg false [⟨none, some 9, .v (.bin .lss .no (.t 8) (.t 7))⟩]
def k_slices_Index___string_string__r4 : IC := .reg false [⟨none, some 10, .v (.mov (.t 8))⟩, ⟨none, some 5, .v (.mov (.t 10))⟩]
def k_slices_Index___string_string__r5 : IC := .reg false [⟨none, some 11, .v (.mov (.t 1))⟩, ⟨none, some 12, .v (.mov (.t 0))⟩, ⟨none, some 13, .v (.mov (.t 5))⟩, ⟨none, some 14, .v (.iad 1 (.t 12) (.t 13))⟩, ⟨none, some 15, .v (.ld false 1 (.t 14))⟩, ⟨none, some 16, .v (.bin .eql .no (.t 11) (.t 15))⟩]
def k_slices_Index___string_string__r6 : IC := .reg false [⟨none, some 17, .v (.mov (.t 5))⟩, ⟨none, some 4, .v (.mov (.t 17))⟩]
def k_slices_Index___string_string__r7 : IC := .reg false [⟨none, some 18, .v (.bin .add .no (.t 8) (.c (.int .i64 1)))⟩, ⟨none, some 8, .v (.mov (.t 18))⟩]
def k_slices_Index___string_string__l2 : IC := (.seq k_slices_Index___string_string__r3 (.seq (.cond (.t 9) .skip (.exit 0)) (.seq (.block 1 (.seq k_slices_Index___string_string__r4 (.seq k_slices_Index___string_string__r5 (.cond (.t 16) (.seq k_slices_Index___string_string__r6 .ret) .skip)))) k_slices_Index___string_string__r7)))
def k_slices_Index___string_string__r9 : IC := .reg false [⟨none, some 4, .v (.mov (.c (.int .i64 (-1))))⟩]
def k_slices_Index___string_string_ : IC := (.seq k_slices_Index___string_string__r0 (.seq (.seq k_slices_Index___string_string__r1 (.block 0 (.loop k_slices_Index___string_string__l2))) (.seq k_slices_Index___string_string__r9 .ret)))
@[go_sem] def s_slices_Index___string_string_ : List (RV × Co) := [(.t 4, .id)]
theorem c_slices_Index___string_string_ : cFun Try.prog 29 = some (19, k_slices_Index___string_string_, s_slices_Index___string_string_) := by kernel_rfl

-- envoy/lexer.words
def k_lexer_words_r0 : IC := .reg false [⟨none, some 1, .box (.t 0)⟩, ⟨none, some 2, .v (.mov (.c .nilf))⟩]
def k_lexer_words_r1 : IC := .reg false [⟨none, some 3, .v (.mfn 52 [] [(.t 1)])⟩, ⟨none, some 2, .v (.mov (.t 3))⟩]
def k_lexer_words : IC := (.seq k_lexer_words_r0 (.seq k_lexer_words_r1 .ret))
@[go_sem] def s_lexer_words : List (RV × Co) := [(.t 2, .id)]
theorem c_lexer_words : cFun Try.prog 30 = some (4, k_lexer_words, s_lexer_words) := by kernel_rfl

-- (*envoy/cursor.Cursor).Enter
def k_cursor_Cursor_Enter_r0 : IC := .reg false [⟨none, some 2, .v (.mov (.c (.bool false)))⟩]
def k_cursor_Cursor_Enter_r1 : IC := .reg false [⟨none, some 3, .v (.mov (.t 0))⟩, ⟨none, some 4, .call (.c (.fn 55 [] [])) [((.t 3), .id)]⟩, ⟨none, some 5, .v (.mov (.t 4))⟩, ⟨some (5, false), some 6, .v (.mov (.t 0))⟩, ⟨some (5, false), some 7, .v (.nck (.t 6))⟩, ⟨some (5, false), some 8, .v (.fad (.t 7) 6)⟩, ⟨some (5, false), some 9, .v (.ld false 1 (.t 8))⟩, ⟨some (5, false), some 10, .v (.bin .geq .no (.t 9) (.c (.int .i64 200)))⟩, ⟨none, some 11, .v (.pick (.t 5) (.c (.bool true)) (.t 10))⟩]
def k_cursor_Cursor_Enter_r2 : IC := .reg false [⟨none, some 12, .v (.mov (.t 0))⟩, ⟨none, some 13, .call (.c (.fn 56 [] [])) [((.t 12), .id), ((.c (.int .i64 2)), .id)]⟩, ⟨none, some 2, .v (.mov (.t 13))⟩]
def k_cursor_Cursor_Enter_r3 : IC := .reg false [⟨none, some 14, .v (.mov (.t 0))⟩, ⟨none, some 15, .v (.nck (.t 14))⟩, ⟨none, some 16, .v (.fad (.t 15) 6)⟩, ⟨none, some 17, .v (.ld false 1 (.t 16))⟩, ⟨none, some 18, .v (.bin .add .no (.t 17) (.c (.int .i64 1)))⟩, ⟨none, some 19, .v (.nck (.t 14))⟩, ⟨none, some 20, .v (.fad (.t 19) 6)⟩, ⟨none, none, .st 1 .id (.t 20) (.t 18)⟩]
def k_cursor_Cursor_Enter_r4 : IC := .reg false [⟨none, some 2, .v (.mov (.c (.bool true)))⟩]
def k_cursor_Cursor_Enter : IC := (.seq k_cursor_Cursor_Enter_r0 (.seq (.seq k_cursor_Cursor_Enter_r1 (.cond (.t 11) (.seq k_cursor_Cursor_Enter_r2 .ret) .skip)) (.seq k_cursor_Cursor_Enter_r3 (.seq k_cursor_Cursor_Enter_r4 .ret))))
@[go_sem] def s_cursor_Cursor_Enter : List (RV × Co) := [(.t 2, .id)]
theorem c_cursor_Cursor_Enter : cFun Try.prog 31 = some (21, k_cursor_Cursor_Enter, s_cursor_Cursor_Enter) := by kernel_rfl

-- (*envoy/cursor.Cursor).Peek
def k_cursor_Cursor_Peek_r0 : IC := .reg false [⟨none, some 2, .alo [(.int .i64 0), (.int .i64 0), (.int .i64 0), (.str [])]⟩]
def k_cursor_Cursor_Peek_r1 : IC := .reg false [⟨none, some 4, .v (.mov (.t 0))⟩, ⟨none, some 5, .call (.c (.fn 55 [] [])) [((.t 4), .id)]⟩, ⟨none, some 3, .v (.mov (.t 5))⟩]
def k_cursor_Cursor_Peek_r2 : IC := .reg false [⟨none, some 6, .v (.bld [(.int .i64 0), (.int .i64 0), (.int .i64 0), (.str [])] [])⟩, ⟨none, none, .st 4 .id (.t 2) (.t 6)⟩]
def k_cursor_Cursor_Peek_r3 : IC := .drw [(⟨none, some 8, .v (.mov (.t 0))⟩, []), (⟨none, some 9, .v (.nck (.t 8))⟩, []), (⟨none, some 10, .v (.fad (.t 9) 5)⟩, []), (⟨none, some 11, .v (.ld false 1 (.t 10))⟩, []), (⟨none, some 12, .v (.mov (.t 0))⟩, []), (⟨none, some 13, .v (.nck (.t 12))⟩, []), (⟨none, some 14, .v (.fad (.t 13) 0)⟩, []), (⟨none, some 15, .v (.ld false 1 (.t 14))⟩, []), (⟨none, some 16, .v (.len false (.t 15))⟩, []), (⟨none, some 17, .v (.bin .lss .no (.t 11) (.t 16))⟩, []), (⟨none, some 7, .v (.mov (.t 17))⟩, [])]
def k_cursor_Cursor_Peek_r4 : IC := .drw [(⟨none, some 18, .v (.mov (.t 0))⟩, []), (⟨none, some 19, .v (.nck (.t 18))⟩, []), (⟨none, some 20, .v (.fad (.t 19) 0)⟩, []), (⟨none, some 21, .v (.ld false 1 (.t 20))⟩, []), (⟨none, some 22, .v (.mov (.t 0))⟩, []), (⟨none, some 23, .v (.nck (.t 22))⟩, []), (⟨none, some 24, .v (.fad (.t 23) 5)⟩, []), (⟨none, some 25, .v (.ld false 1 (.t 24))⟩, []), (⟨none, some 26, .v (.iad 4 (.t 21) (.t 25))⟩, []), (⟨none, some 27, .v (.ld true 4 (.t 26))⟩, []), (⟨none, none, .st 4 .id (.t 2) (.t 27)⟩, [])]
def k_cursor_Cursor_Peek_r5 : IC := .reg false [⟨none, some 28, .v (.mov (.t 0))⟩, ⟨none, some 29, .v (.nck (.t 28))⟩, ⟨none, some 30, .v (.fad (.t 29) 1)⟩, ⟨none, some 31, .v (.ld true 4 (.t 30))⟩, ⟨none, none, .st 4 .id (.t 2) (.t 31)⟩]
def k_cursor_Cursor_Peek : IC := (.seq k_cursor_Cursor_Peek_r0 (.seq (.block 0 (.seq k_cursor_Cursor_Peek_r1 (.cond (.t 3) (.seq k_cursor_Cursor_Peek_r2 .ret) (.seq k_cursor_Cursor_Peek_r3 (.cond (.t 7) (.seq k_cursor_Cursor_Peek_r4 .ret) .skip))))) (.seq k_cursor_Cursor_Peek_r5 .ret)))
@[go_sem] def s_cursor_Cursor_Peek : List (RV × Co) := [(.c true 4 2, .id)]
theorem c_cursor_Cursor_Peek : cFun Try.prog 32 = some (32, k_cursor_Cursor_Peek, s_cursor_Cursor_Peek) := by kernel_rfl

-- envoy/ppats.atom
def k_ppats_atom_r0 : IC := .reg false [⟨none, some 2, .alo [(.int .i64 0), (.int .i64 0), (.int .i64 0), (.str []), .nils]⟩, ⟨none, some 3, .v (.mov (.c (.bool false)))⟩]
def k_ppats_atom_r1 : IC := .reg false [⟨none, some 9, .v (.mov (.t 0))⟩, ⟨none, some 10, .call (.c (.fn 57 [] [])) [((.t 9), .id)]⟩, ⟨none, some 8, .v (.mov (.t 10))⟩, ⟨none, some 11, .v (.ext (.t 8) 0)⟩, ⟨none, some 12, .v (.ext (.t 8) 1)⟩, ⟨none, some 4, .alo [(.int .i64 0), (.int .i64 0), (.int .i64 0), (.str []), .nils]⟩, ⟨none, none, .st 5 (.agg [.id, .id, .id, .id, (.sl 5)]) (.t 4) (.t 11)⟩, ⟨none, some 5, .v (.mov (.t 12))⟩]
def k_ppats_atom_r2 : IC := .reg false [⟨none, some 13, .v (.mov (.t 5))⟩]
def k_ppats_atom_r3 : IC := .reg false [⟨none, some 14, .v (.mov (.t 0))⟩, ⟨none, some 15, .call (.c (.fn 58 [] [])) [((.t 14), .id)]⟩]
def k_ppats_atom_r4 : IC := .reg false [⟨none, some 16, .v (.ld true 5 (.t 4))⟩, ⟨none, none, .st 5 (.agg [.id, .id, .id, .id, (.sl 5)]) (.t 2) (.t 16)⟩, ⟨none, some 3, .v (.mov (.c (.bool true)))⟩]
def k_ppats_atom_r5 : IC := .reg false [⟨none, some 17, .v (.mov (.t 0))⟩, ⟨none, some 18, .call (.c (.fn 59 [] [])) [((.t 17), .id), ((.c (.str [40])), .id)]⟩, ⟨none, some 19, .v (.un .not (.t 18))⟩]
def k_ppats_atom_r6 : IC := .reg false [⟨none, some 20, .v (.bld [(.int .i64 0), (.int .i64 0), (.int .i64 0), (.str []), .nils] [])⟩, ⟨none, some 21, .v (.mov (.t 0))⟩, ⟨none, some 22, .call (.c (.fn 56 [] [])) [((.t 21), .id), ((.c (.int .i64 5)), .id)]⟩, ⟨none, none, .st 5 (.agg [.id, .id, .id, .id, (.sl 5)]) (.t 2) (.t 20)⟩, ⟨none, some 3, .v (.mov (.t 22))⟩]
def k_ppats_atom_r7 : IC := .reg false [⟨none, some 23, .v (.mov (.t 0))⟩, ⟨none, some 24, .call (.c (.fn 31 [] [])) [((.t 23), .id)]⟩, ⟨none, some 25, .v (.un .not (.t 24))⟩]
def k_ppats_atom_r8 : IC := .reg false [⟨none, some 26, .v (.bld [(.int .i64 0), (.int .i64 0), (.int .i64 0), (.str []), .nils] [])⟩, ⟨none, none, .st 5 (.agg [.id, .id, .id, .id, (.sl 5)]) (.t 2) (.t 26)⟩, ⟨none, some 3, .v (.mov (.c (.bool false)))⟩]
def k_ppats_atom_r9 : IC := .reg false [⟨none, some 27, .v (.mov (.t 0))⟩, ⟨none, some 28, .call (.c (.fn 58 [] [])) [((.t 27), .id)]⟩]
def k_ppats_atom_r10 : IC := .reg false [⟨none, some 30, .v (.mov (.t 0))⟩, ⟨none, some 31, .call (.c (.fn 20 [] [])) [((.t 30), .id)]⟩, ⟨none, some 29, .v (.mov (.t 31))⟩, ⟨none, some 32, .v (.ext (.t 29) 0)⟩, ⟨none, some 33, .v (.ext (.t 29) 1)⟩, ⟨none, some 6, .alo [(.int .i64 0), (.int .i64 0), (.int .i64 0), (.str []), .nils]⟩, ⟨none, none, .st 5 (.agg [.id, .id, .id, .id, (.sl 5)]) (.t 6) (.t 32)⟩, ⟨none, some 7, .v (.mov (.t 33))⟩]
def k_ppats_atom_r11 : IC := .reg false [⟨none, some 34, .v (.mov (.t 7))⟩, ⟨none, some 35, .v (.un .not (.t 34))⟩, ⟨none, some 36, .v (.mov (.t 35))⟩, ⟨some (36, false), some 37, .v (.mov (.t 0))⟩, ⟨some (36, false), some 38, .call (.c (.fn 60 [] [])) [((.t 37), .id), ((.c (.str [41])), .id)]⟩, ⟨some (36, false), some 39, .v (.un .not (.t 38))⟩, ⟨none, some 40, .v (.pick (.t 36) (.c (.bool true)) (.t 39))⟩]
def k_ppats_atom_r12 : IC := .reg false [⟨none, some 41, .v (.bld [(.int .i64 0), (.int .i64 0), (.int .i64 0), (.str []), .nils] [])⟩, ⟨none, none, .st 5 (.agg [.id, .id, .id, .id, (.sl 5)]) (.t 2) (.t 41)⟩, ⟨none, some 3, .v (.mov (.c (.bool false)))⟩]
def k_ppats_atom_r13 : IC := .reg false [⟨none, some 42, .v (.mov (.t 0))⟩, ⟨none, some 43, .call (.c (.fn 35 [] [])) [((.t 42), .id)]⟩]
def k_ppats_atom_r14 : IC := .reg false [⟨none, some 44, .v (.ld true 5 (.t 6))⟩, ⟨none, none, .st 5 (.agg [.id, .id, .id, .id, (.sl 5)]) (.t 2) (.t 44)⟩, ⟨none, some 3, .v (.mov (.c (.bool true)))⟩]
def k_ppats_atom : IC := (.seq k_ppats_atom_r0 (.seq (.seq k_ppats_atom_r1 (.seq k_ppats_atom_r2 (.cond (.t 13) (.seq k_ppats_atom_r3 (.seq k_ppats_atom_r4 .ret)) .skip))) (.seq (.seq k_ppats_atom_r5 (.cond (.t 19) (.seq k_ppats_atom_r6 .ret) .skip)) (.seq (.seq k_ppats_atom_r7 (.cond (.t 25) (.seq k_ppats_atom_r8 .ret) .skip)) (.seq k_ppats_atom_r9 (.seq k_ppats_atom_r10 (.seq (.seq k_ppats_atom_r11 (.cond (.t 40) (.seq k_ppats_atom_r12 .ret) .skip)) (.seq k_ppats_atom_r13 (.seq k_ppats_atom_r14 .ret)))))))))
@[go_sem] def s_ppats_atom : List (RV × Co) := [(.c true 5 2, (.agg [.id, .id, .id, .id, (.sl 5)])), (.t 3, .id)]
theorem c_ppats_atom : cFun Try.prog 33 = some (45, k_ppats_atom, s_ppats_atom) := by kernel_rfl

-- envoy/ppats.begins
def k_ppats_begins_r0 : IC := .reg false [⟨none, some 2, .v (.mov (.c (.bool false)))⟩]
def k_ppats_begins_r1 : IC := .reg false [⟨none, some 6, .v (.mov (.t 0))⟩, ⟨none, some 7, .call (.c (.fn 57 [] [])) [((.t 6), .id)]⟩, ⟨none, some 5, .v (.mov (.t 7))⟩, ⟨none, some 8, .v (.ext (.t 5) 0)⟩, ⟨none, some 9, .v (.ext (.t 5) 1)⟩, ⟨none, some 3, .alo [(.int .i64 0), (.int .i64 0), (.int .i64 0), (.str []), .nils]⟩, ⟨none, none, .st 5 (.agg [.id, .id, .id, .id, (.sl 5)]) (.t 3) (.t 8)⟩, ⟨none, some 4, .v (.mov (.t 9))⟩]
def k_ppats_begins_r2 : IC := .reg false [⟨none, some 10, .v (.mov (.t 4))⟩, ⟨none, some 11, .v (.mov (.t 10))⟩, ⟨some (11, false), some 12, .v (.mov (.t 0))⟩, ⟨some (11, false), some 13, .call (.c (.fn 59 [] [])) [((.t 12), .id), ((.c (.str [40])), .id)]⟩, ⟨none, some 14, .v (.pick (.t 11) (.c (.bool true)) (.t 13))⟩, ⟨none, some 2, .v (.mov (.t 14))⟩]
def k_ppats_begins : IC := (.seq k_ppats_begins_r0 (.seq k_ppats_begins_r1 (.seq k_ppats_begins_r2 .ret)))
@[go_sem] def s_ppats_begins : List (RV × Co) := [(.t 2, .id)]
theorem c_ppats_begins : cFun Try.prog 34 = some (15, k_ppats_begins, s_ppats_begins) := by kernel_rfl

-- (*envoy/cursor.Cursor).Leave
def k_cursor_Cursor_Leave_r0 : IC := .reg false [⟨none, some 2, .v (.mov (.t 0))⟩, ⟨none, some 3, .call (.c (.fn 55 [] [])) [((.t 2), .id)]⟩, ⟨none, some 4, .v (.un .not (.t 3))⟩, ⟨none, some 5, .v (.mov (.t 4))⟩, ⟨some (5, true), some 6, .v (.mov (.t 0))⟩, ⟨some (5, true), some 7, .v (.nck (.t 6))⟩, ⟨some (5, true), some 8, .v (.fad (.t 7) 6)⟩, ⟨some (5, true), some 9, .v (.ld false 1 (.t 8))⟩, ⟨some (5, true), some 10, .v (.bin .gtr .no (.t 9) (.c (.int .i64 0)))⟩, ⟨none, some 11, .v (.pick (.t 5) (.t 10) (.c (.bool false)))⟩]
def k_cursor_Cursor_Leave_r1 : IC := .reg false [⟨none, some 12, .v (.mov (.t 0))⟩, ⟨none, some 13, .v (.nck (.t 12))⟩, ⟨none, some 14, .v (.fad (.t 13) 6)⟩, ⟨none, some 15, .v (.ld false 1 (.t 14))⟩, ⟨none, some 16, .v (.bin .sub .no (.t 15) (.c (.int .i64 1)))⟩, ⟨none, some 17, .v (.nck (.t 12))⟩, ⟨none, some 18, .v (.fad (.t 17) 6)⟩, ⟨none, none, .st 1 .id (.t 18) (.t 16)⟩]
def k_cursor_Cursor_Leave : IC := (.seq k_cursor_Cursor_Leave_r0 (.cond (.t 11) k_cursor_Cursor_Leave_r1 .skip))
@[go_sem] def s_cursor_Cursor_Leave : List (RV × Co) := []
theorem c_cursor_Cursor_Leave : cFun Try.prog 35 = some (19, k_cursor_Cursor_Leave, s_cursor_Cursor_Leave) := by kernel_rfl

-- envoy/nodes.all
def k_nodes_all_r0 : IC := .reg false [⟨none, some 2, .box (.t 0)⟩, ⟨none, some 3, .box (.t 1)⟩, ⟨none, some 4, .v (.mov (.c .nilf))⟩]
def k_nodes_all_r1 : IC := .reg false [⟨none, some 5, .v (.mfn 61 [] [(.t 2), (.t 3)])⟩, ⟨none, some 4, .v (.mov (.t 5))⟩]
def k_nodes_all : IC := (.seq k_nodes_all_r0 (.seq k_nodes_all_r1 .ret))
@[go_sem] def s_nodes_all : List (RV × Co) := [(.t 4, .id)]
theorem c_nodes_all : cFun Try.prog 36 = some (6, k_nodes_all, s_nodes_all) := by kernel_rfl

-- envoy/envoyref04.skip
def k_envoyref04_skip_r0 : IC := .reg false [⟨none, some 4, .v (.mov (.c (.int .i64 0)))⟩]
def k_envoyref04_skip_r2 : IC := .reg false [⟨none, some 5, .v (.mov (.t 1))⟩, ⟨none, some 6, .v (.mov (.t 0))⟩, ⟨none, some 7, .v (.len true (.t 6))⟩, ⟨none, some 8, .v (.bin .lss .no (.t 5) (.t 7))⟩]
def k_envoyref04_skip_r3 : IC := .reg false [⟨none, some 11, .v (.mov (.t 0))⟩, ⟨none, some 12, .v (.mov (.t 1))⟩, ⟨none, some 13, .v (.idx (.t 11) (.t 12))⟩, ⟨none, some 14, .v (.bin .eql .no (.t 13) (.c (.int .u8 9)))⟩, ⟨none, some 15, .v (.mov (.t 14))⟩, ⟨some (15, false), some 16, .v (.mov (.t 0))⟩, ⟨some (15, false), some 17, .v (.mov (.t 1))⟩, ⟨some (15, false), some 18, .v (.idx (.t 16) (.t 17))⟩, ⟨some (15, false), some 19, .v (.bin .eql .no (.t 18) (.c (.int .u8 10)))⟩, ⟨none, some 20, .v (.pick (.t 15) (.c (.bool true)) (.t 19))⟩, ⟨none, some 21, .v (.mov (.t 20))⟩, ⟨some (21, false), some 22, .v (.mov (.t 0))⟩, ⟨some (21, false), some 23, .v (.mov (.t 1))⟩, ⟨some (21, false), some 24, .v (.idx (.t 22) (.t 23))⟩, ⟨some (21, false), some 25, .v (.bin .eql .no (.t 24) (.c (.int .u8 13)))⟩, ⟨none, some 26, .v (.pick (.t 21) (.c (.bool true)) (.t 25))⟩, ⟨none, some 27, .v (.mov (.t 26))⟩, ⟨some (27, false), some 28, .v (.mov (.t 0))⟩, ⟨some (27, false), some 29, .v (.mov (.t 1))⟩, ⟨some (27, false), some 30, .v (.idx (.t 28) (.t 29))⟩, ⟨some (27, false), some 31, .v (.bin .eql .no (.t 30) (.c (.int .u8 32)))⟩, ⟨none, some 32, .v (.pick (.t 27) (.c (.bool true)) (.t 31))⟩, ⟨none, some 10, .v (.mov (.t 32))⟩]
def k_envoyref04_skip_r4 : IC := .reg false [⟨none, some 33, .v (.mov (.t 1))⟩, ⟨none, some 34, .v (.bin .add .no (.t 33) (.c (.int .i64 1)))⟩, ⟨none, some 1, .v (.mov (.t 34))⟩]
def k_envoyref04_skip_r5 : IC := .reg false [⟨none, some 36, .v (.mov (.t 0))⟩, ⟨none, some 37, .v (.mov (.t 1))⟩, ⟨none, some 38, .v (.idx (.t 36) (.t 37))⟩, ⟨none, some 39, .v (.bin .eql .no (.t 38) (.c (.int .u8 45)))⟩, ⟨none, some 40, .v (.mov (.t 39))⟩, ⟨some (40, true), some 41, .v (.mov (.t 1))⟩, ⟨some (40, true), some 42, .v (.bin .add .no (.t 41) (.c (.int .i64 1)))⟩, ⟨some (40, true), some 43, .v (.mov (.t 0))⟩, ⟨some (40, true), some 44, .v (.len true (.t 43))⟩, ⟨some (40, true), some 45, .v (.bin .lss .no (.t 42) (.t 44))⟩, ⟨none, some 46, .v (.pick (.t 40) (.t 45) (.c (.bool false)))⟩, ⟨none, some 47, .v (.mov (.t 46))⟩, ⟨some (47, true), some 48, .v (.mov (.t 0))⟩, ⟨some (47, true), some 49, .v (.mov (.t 1))⟩, ⟨some (47, true), some 50, .v (.bin .add .no (.t 49) (.c (.int .i64 1)))⟩, ⟨some (47, true), some 51, .v (.idx (.t 48) (.t 50))⟩, ⟨some (47, true), some 52, .v (.bin .eql .no (.t 51) (.c (.int .u8 45)))⟩, ⟨none, some 53, .v (.pick (.t 47) (.t 52) (.c (.bool false)))⟩, ⟨none, some 35, .v (.mov (.t 53))⟩]
def k_envoyref04_skip_r7 : IC := .reg false [⟨none, some 54, .v (.mov (.t 1))⟩, ⟨none, some 55, .v (.mov (.t 0))⟩, ⟨none, some 56, .v (.len true (.t 55))⟩, ⟨none, some 57, .v (.bin .lss .no (.t 54) (.t 56))⟩, ⟨none, some 58, .v (.mov (.t 57))⟩, ⟨some (58, true), some 59, .v (.mov (.t 0))⟩, ⟨some (58, true), some 60, .v (.mov (.t 1))⟩, ⟨some (58, true), some 61, .v (.idx (.t 59) (.t 60))⟩, ⟨some (58, true), some 62, .v (.bin .neq .no (.t 61) (.c (.int .u8 10)))⟩, ⟨none, some 63, .v (.pick (.t 58) (.t 62) (.c (.bool false)))⟩]
def k_envoyref04_skip_r8 : IC := .reg false [⟨none, some 64, .v (.mov (.t 1))⟩, ⟨none, some 65, .v (.bin .add .no (.t 64) (.c (.int .i64 1)))⟩, ⟨none, some 1, .v (.mov (.t 65))⟩]
def k_envoyref04_skip_l6 : IC := (.seq (.seq k_envoyref04_skip_r7 (.cond (.t 63) .skip (.exit 3))) (.block 4 k_envoyref04_skip_r8))
def k_envoyref04_skip_r10 : IC := .reg false [⟨none, some 9, .v (.mov (.t 1))⟩, ⟨none, some 4, .v (.mov (.t 9))⟩]
def k_envoyref04_skip_l1 : IC := (.seq (.seq k_envoyref04_skip_r2 (.cond (.t 8) .skip (.exit 0))) (.block 1 (.block 2 (.seq k_envoyref04_skip_r3 (.cond (.t 10) k_envoyref04_skip_r4 (.seq k_envoyref04_skip_r5 (.cond (.t 35) (.block 3 (.loop k_envoyref04_skip_l6)) (.seq k_envoyref04_skip_r10 .ret))))))))
def k_envoyref04_skip_r12 : IC := .reg false [⟨none, some 66, .v (.mov (.t 1))⟩, ⟨none, some 4, .v (.mov (.t 66))⟩]
def k_envoyref04_skip : IC := (.seq k_envoyref04_skip_r0 (.seq (.block 0 (.loop k_envoyref04_skip_l1)) (.seq k_envoyref04_skip_r12 .ret)))
@[go_sem] def s_envoyref04_skip : List (RV × Co) := [(.t 4, .id)]
theorem c_envoyref04_skip : cFun Try.prog 37 = some (67, k_envoyref04_skip, s_envoyref04_skip) := by kernel_rfl

-- envoy/envoyref04.word
def k_envoyref04_word_r0 : IC := .reg false [⟨none, some 2, .alo [(.int .i64 0), (.int .i64 0), (.int .i64 0), (.str [])]⟩, ⟨none, some 3, .v (.mov (.c (.int .i64 0)))⟩]
def k_envoyref04_word_r1 : IC := .reg false [⟨none, some 4, .v (.mov (.c (.int .i64 0)))⟩]
def k_envoyref04_word_r2 : IC := .reg false [⟨none, some 10, .v (.mov (.t 0))⟩, ⟨none, some 11, .v (.idx (.t 10) (.c (.int .i64 0)))⟩, ⟨none, some 12, .call (.c (.fn 63 [] [])) [((.t 11), .id)]⟩, ⟨none, some 9, .v (.mov (.t 12))⟩]
def k_envoyref04_word_r4 : IC := .reg false [⟨none, some 13, .v (.mov (.t 4))⟩, ⟨none, some 14, .v (.mov (.t 0))⟩, ⟨none, some 15, .v (.len true (.t 14))⟩, ⟨none, some 16, .v (.bin .lss .no (.t 13) (.t 15))⟩, ⟨none, some 17, .v (.mov (.t 16))⟩, ⟨some (17, true), some 18, .v (.mov (.t 0))⟩, ⟨some (17, true), some 19, .v (.mov (.t 4))⟩, ⟨some (17, true), some 20, .v (.idx (.t 18) (.t 19))⟩, ⟨some (17, true), some 21, .call (.c (.fn 63 [] [])) [((.t 20), .id)]⟩, ⟨none, some 22, .v (.pick (.t 17) (.t 21) (.c (.bool false)))⟩]
def k_envoyref04_word_r5 : IC := .reg false [⟨none, some 23, .v (.mov (.t 4))⟩, ⟨none, some 24, .v (.bin .add .no (.t 23) (.c (.int .i64 1)))⟩, ⟨none, some 4, .v (.mov (.t 24))⟩]
def k_envoyref04_word_l3 : IC := (.seq (.seq k_envoyref04_word_r4 (.cond (.t 22) .skip (.exit 1))) (.block 2 k_envoyref04_word_r5))
def k_envoyref04_word_r7 : IC := .reg false [⟨none, some 26, .v (.mov (.t 0))⟩, ⟨none, some 27, .v (.mov (.t 4))⟩, ⟨none, some 28, .v (.sls (.t 26) none (some (.t 27)))⟩, ⟨none, some 29, .call (.c (.fn 64 [] [])) [((.t 28), .id)]⟩, ⟨none, some 25, .v (.mov (.t 29))⟩, ⟨none, some 30, .v (.ext (.t 25) 0)⟩, ⟨none, some 31, .v (.ext (.t 25) 1)⟩, ⟨none, some 5, .v (.mov (.t 30))⟩, ⟨none, some 6, .v (.mov (.t 31))⟩]
def k_envoyref04_word_r8 : IC := .reg false [⟨none, some 32, .v (.mov (.t 5))⟩, ⟨none, some 33, .v (.mov (.t 0))⟩, ⟨none, some 34, .v (.mov (.t 4))⟩, ⟨none, some 35, .v (.sls (.t 33) none (some (.t 34)))⟩, ⟨none, some 36, .v (.bld [(.int .i64 0), (.int .i64 0), (.int .i64 0), (.str [])] [(0, 1, (.c (.int .i64 3))), (2, 1, (.t 32)), (3, 1, (.t 35))])⟩, ⟨none, some 37, .v (.mov (.t 6))⟩, ⟨none, none, .st 4 .id (.t 2) (.t 36)⟩, ⟨none, some 3, .v (.mov (.t 37))⟩]
def k_envoyref04_word_r9 : IC := .reg false [⟨none, some 39, .v (.mov (.t 0))⟩, ⟨none, some 40, .v (.idx (.t 39) (.c (.int .i64 0)))⟩, ⟨none, some 41, .call (.c (.fn 65 [] [])) [((.t 40), .id)]⟩, ⟨none, some 42, .v (.mov (.t 41))⟩, ⟨some (42, false), some 43, .v (.mov (.t 0))⟩, ⟨some (42, false), some 44, .v (.idx (.t 43) (.c (.int .i64 0)))⟩, ⟨some (42, false), some 45, .call (.c (.fn 66 [] [])) [((.t 44), .id)]⟩, ⟨none, some 46, .v (.pick (.t 42) (.c (.bool true)) (.t 45))⟩, ⟨none, some 38, .v (.mov (.t 46))⟩]
def k_envoyref04_word_r11 : IC := .reg false [⟨none, some 47, .v (.mov (.t 4))⟩, ⟨none, some 48, .v (.mov (.t 0))⟩, ⟨none, some 49, .v (.len true (.t 48))⟩, ⟨none, some 50, .v (.bin .lss .no (.t 47) (.t 49))⟩, ⟨none, some 51, .v (.mov (.t 50))⟩, ⟨some (51, true), some 52, .v (.mov (.t 0))⟩, ⟨some (51, true), some 53, .v (.mov (.t 4))⟩, ⟨some (51, true), some 54, .v (.idx (.t 52) (.t 53))⟩, ⟨some (51, true), some 55, .call (.c (.fn 67 [] [])) [((.t 54), .id)]⟩, ⟨none, some 56, .v (.pick (.t 51) (.t 55) (.c (.bool false)))⟩]
def k_envoyref04_word_r12 : IC := .reg false [⟨none, some 57, .v (.mov (.t 4))⟩, ⟨none, some 58, .v (.bin .add .no (.t 57) (.c (.int .i64 1)))⟩, ⟨none, some 4, .v (.mov (.t 58))⟩]
def k_envoyref04_word_l10 : IC := (.seq (.seq k_envoyref04_word_r11 (.cond (.t 56) .skip (.exit 3))) (.block 4 k_envoyref04_word_r12))
def k_envoyref04_word_r14 : IC := .reg false [⟨none, some 59, .v (.mov (.t 0))⟩, ⟨none, some 60, .v (.mov (.t 4))⟩, ⟨none, some 61, .v (.sls (.t 59) none (some (.t 60)))⟩, ⟨none, some 62, .v (.bld [(.int .i64 0), (.int .i64 0), (.int .i64 0), (.str [])] [(0, 1, (.c (.int .i64 1))), (3, 1, (.t 61))])⟩, ⟨none, some 7, .alo [(.int .i64 0), (.int .i64 0), (.int .i64 0), (.str [])]⟩, ⟨none, none, .st 4 .id (.t 7) (.t 62)⟩]
def k_envoyref04_word_r15 : IC := .reg false [⟨none, some 64, .v (.fad (.t 7) 3)⟩, ⟨none, some 65, .v (.ld false 1 (.t 64))⟩, ⟨none, some 66, .v (.bin .eql .no (.t 65) (.c (.str [95])))⟩, ⟨none, some 63, .v (.mov (.t 66))⟩]
def k_envoyref04_word_r16 : IC := .reg false [⟨none, some 67, .v (.fad (.t 7) 0)⟩, ⟨none, none, .st 1 .id (.t 67) (.c (.int .i64 5))⟩]
def k_envoyref04_word_r17 : IC := .reg false [⟨none, some 69, .v (.fad (.t 7) 3)⟩, ⟨none, some 70, .v (.ld false 1 (.t 69))⟩, ⟨none, some 71, .call (.c (.fn 68 [] [])) [((.t 70), .id)]⟩, ⟨none, some 68, .v (.mov (.t 71))⟩]
def k_envoyref04_word_r18 : IC := .reg false [⟨none, some 72, .v (.fad (.t 7) 0)⟩, ⟨none, none, .st 1 .id (.t 72) (.c (.int .i64 4))⟩]
def k_envoyref04_word_r19 : IC := .reg false [⟨none, some 74, .v (.mov (.t 0))⟩, ⟨none, some 75, .v (.idx (.t 74) (.c (.int .i64 0)))⟩, ⟨none, some 76, .call (.c (.fn 66 [] [])) [((.t 75), .id)]⟩, ⟨none, some 73, .v (.mov (.t 76))⟩]
def k_envoyref04_word_r20 : IC := .reg false [⟨none, some 77, .v (.fad (.t 7) 0)⟩, ⟨none, none, .st 1 .id (.t 77) (.c (.int .i64 2))⟩]
def k_envoyref04_word_r21 : IC := .reg false [⟨none, some 78, .v (.ld true 4 (.t 7))⟩, ⟨none, none, .st 4 .id (.t 2) (.t 78)⟩, ⟨none, some 3, .v (.mov (.c (.int .i64 0)))⟩]
def k_envoyref04_word_r22 : IC := .reg false [⟨none, some 79, .v (.mov (.t 0))⟩, ⟨none, some 80, .call (.c (.fn 69 [] [])) [((.t 79), .id)]⟩, ⟨none, some 8, .v (.mov (.t 80))⟩]
def k_envoyref04_word_r23 : IC := .reg false [⟨none, some 81, .v (.mov (.t 8))⟩, ⟨none, some 82, .v (.bin .eql .no (.t 81) (.c (.str [])))⟩]
def k_envoyref04_word_r24 : IC := .reg false [⟨none, some 83, .v (.bld [(.int .i64 0), (.int .i64 0), (.int .i64 0), (.str [])] [])⟩, ⟨none, none, .st 4 .id (.t 2) (.t 83)⟩, ⟨none, some 3, .v (.mov (.c (.int .i64 3)))⟩]
def k_envoyref04_word_r25 : IC := .reg false [⟨none, some 84, .v (.mov (.t 8))⟩, ⟨none, some 85, .v (.bld [(.int .i64 0), (.int .i64 0), (.int .i64 0), (.str [])] [(0, 1, (.c (.int .i64 5))), (3, 1, (.t 84))])⟩, ⟨none, none, .st 4 .id (.t 2) (.t 85)⟩, ⟨none, some 3, .v (.mov (.c (.int .i64 0)))⟩]
def k_envoyref04_word : IC := (.seq k_envoyref04_word_r0 (.seq k_envoyref04_word_r1 (.seq (.block 0 (.seq k_envoyref04_word_r2 (.cond (.t 9) (.seq (.block 1 (.loop k_envoyref04_word_l3)) (.seq k_envoyref04_word_r7 (.seq k_envoyref04_word_r8 .ret))) (.seq k_envoyref04_word_r9 (.cond (.t 38) (.seq (.block 3 (.loop k_envoyref04_word_l10)) (.seq k_envoyref04_word_r14 (.seq (.block 5 (.seq k_envoyref04_word_r15 (.cond (.t 63) k_envoyref04_word_r16 (.seq k_envoyref04_word_r17 (.cond (.t 68) k_envoyref04_word_r18 (.seq k_envoyref04_word_r19 (.cond (.t 73) k_envoyref04_word_r20 .skip))))))) (.seq k_envoyref04_word_r21 .ret)))) .skip))))) (.seq k_envoyref04_word_r22 (.seq (.seq k_envoyref04_word_r23 (.cond (.t 82) (.seq k_envoyref04_word_r24 .ret) .skip)) (.seq k_envoyref04_word_r25 .ret))))))
@[go_sem] def s_envoyref04_word : List (RV × Co) := [(.c true 4 2, .id), (.t 3, .id)]
theorem c_envoyref04_word : cFun Try.prog 38 = some (86, k_envoyref04_word, s_envoyref04_word) := by kernel_rfl

-- envoy/envoyref05.Enter
def k_envoyref05_Enter_r0 : IC := .reg false [⟨none, some 1, .box (.t 0)⟩, ⟨none, some 2, .alo [.nils, (.int .i64 0), (.int .i64 0), (.int .i64 0), (.str []), (.int .i64 0), (.int .i64 0), (.int .i64 0)]⟩, ⟨none, some 3, .v (.mov (.c (.bool false)))⟩]
def k_envoyref05_Enter_r1 : IC := .reg false [⟨none, some 4, .v (.fad (.t 1) 6)⟩, ⟨none, some 5, .v (.ld false 1 (.t 4))⟩, ⟨none, some 6, .v (.bin .neq .no (.t 5) (.c (.int .i64 0)))⟩]
def k_envoyref05_Enter_r2 : IC := .reg false [⟨none, some 7, .v (.ld true 8 (.t 1))⟩, ⟨none, none, .st 8 (.agg [(.sl 4), .id, .id, .id, .id, .id, .id, .id]) (.t 2) (.t 7)⟩, ⟨none, some 3, .v (.mov (.c (.bool false)))⟩]
def k_envoyref05_Enter_r3 : IC := .reg false [⟨none, some 8, .v (.fad (.t 1) 5)⟩, ⟨none, some 9, .v (.ld false 1 (.t 8))⟩, ⟨none, some 10, .v (.bin .geq .no (.t 9) (.c (.int .i64 200)))⟩]
def k_envoyref05_Enter_r4 : IC := .reg false [⟨none, some 11, .v (.ld true 8 (.t 1))⟩, ⟨none, some 12, .call (.c (.fn 70 [] [])) [((.t 11), (.agg [(.sl 4), .id, .id, .id, .id, .id, .id, .id])), ((.c (.int .i64 2)), .id)]⟩, ⟨none, none, .st 8 (.agg [(.sl 4), .id, .id, .id, .id, .id, .id, .id]) (.t 2) (.t 12)⟩, ⟨none, some 3, .v (.mov (.c (.bool false)))⟩]
def k_envoyref05_Enter_r5 : IC := .reg false [⟨none, some 13, .v (.fad (.t 1) 5)⟩, ⟨none, some 14, .v (.ld false 1 (.t 13))⟩, ⟨none, some 15, .v (.bin .add .no (.t 14) (.c (.int .i64 1)))⟩, ⟨none, some 16, .v (.fad (.t 1) 5)⟩, ⟨none, none, .st 1 .id (.t 16) (.t 15)⟩]
def k_envoyref05_Enter_r6 : IC := .reg false [⟨none, some 17, .v (.ld true 8 (.t 1))⟩, ⟨none, none, .st 8 (.agg [(.sl 4), .id, .id, .id, .id, .id, .id, .id]) (.t 2) (.t 17)⟩, ⟨none, some 3, .v (.mov (.c (.bool true)))⟩]
def k_envoyref05_Enter : IC := (.seq k_envoyref05_Enter_r0 (.seq (.seq k_envoyref05_Enter_r1 (.cond (.t 6) (.seq k_envoyref05_Enter_r2 .ret) .skip)) (.seq (.seq k_envoyref05_Enter_r3 (.cond (.t 10) (.seq k_envoyref05_Enter_r4 .ret) .skip)) (.seq k_envoyref05_Enter_r5 (.seq k_envoyref05_Enter_r6 .ret)))))
@[go_sem] def s_envoyref05_Enter : List (RV × Co) := [(.c true 8 2, (.agg [(.sl 4), .id, .id, .id, .id, .id, .id, .id])), (.t 3, .id)]
theorem c_envoyref05_Enter : cFun Try.prog 39 = some (18, k_envoyref05_Enter, s_envoyref05_Enter) := by kernel_rfl

-- envoy/envoyref05.Peek
def k_envoyref05_Peek_r0 : IC := .reg false [⟨none, some 1, .box (.t 0)⟩, ⟨none, some 2, .alo [(.int .i64 0), (.int .i64 0), (.int .i64 0), (.str [])]⟩]
def k_envoyref05_Peek_r1 : IC := .reg false [⟨none, some 4, .v (.fad (.t 1) 6)⟩, ⟨none, some 5, .v (.ld false 1 (.t 4))⟩, ⟨none, some 6, .v (.bin .neq .no (.t 5) (.c (.int .i64 0)))⟩, ⟨none, some 3, .v (.mov (.t 6))⟩]
def k_envoyref05_Peek_r2 : IC := .reg false [⟨none, some 7, .v (.bld [(.int .i64 0), (.int .i64 0), (.int .i64 0), (.str [])] [])⟩, ⟨none, none, .st 4 .id (.t 2) (.t 7)⟩]
def k_envoyref05_Peek_r3 : IC := .reg false [⟨none, some 9, .v (.fad (.t 1) 0)⟩, ⟨none, some 10, .v (.ld false 1 (.t 9))⟩, ⟨none, some 11, .v (.len false (.t 10))⟩, ⟨none, some 12, .v (.bin .eql .no (.t 11) (.c (.int .i64 0)))⟩, ⟨none, some 8, .v (.mov (.t 12))⟩]
def k_envoyref05_Peek_r4 : IC := .reg false [⟨none, some 13, .v (.fad (.t 1) 1)⟩, ⟨none, some 14, .v (.ld true 4 (.t 13))⟩, ⟨none, none, .st 4 .id (.t 2) (.t 14)⟩]
def k_envoyref05_Peek_r5 : IC := .reg false [⟨none, some 15, .v (.fad (.t 1) 0)⟩, ⟨none, some 16, .v (.ld false 1 (.t 15))⟩, ⟨none, some 17, .v (.iad 4 (.t 16) (.c (.int .i64 0)))⟩, ⟨none, some 18, .v (.ld true 4 (.t 17))⟩, ⟨none, none, .st 4 .id (.t 2) (.t 18)⟩]
def k_envoyref05_Peek : IC := (.seq k_envoyref05_Peek_r0 (.seq (.block 0 (.seq k_envoyref05_Peek_r1 (.cond (.t 3) (.seq k_envoyref05_Peek_r2 .ret) (.seq k_envoyref05_Peek_r3 (.cond (.t 8) (.seq k_envoyref05_Peek_r4 .ret) .skip))))) (.seq k_envoyref05_Peek_r5 .ret)))
@[go_sem] def s_envoyref05_Peek : List (RV × Co) := [(.c true 4 2, .id)]
theorem c_envoyref05_Peek : cFun Try.prog 40 = some (19, k_envoyref05_Peek, s_envoyref05_Peek) := by kernel_rfl

-- envoy/envoyref08.atom
def k_envoyref08_atom_r0 : IC := .reg false [⟨none, some 1, .box (.t 0)⟩, ⟨none, some 2, .alo [.nils, (.int .i64 0), (.int .i64 0), (.int .i64 0), (.str []), (.int .i64 0), (.int .i64 0), (.int .i64 0)]⟩, ⟨none, some 3, .alo [(.int .i64 0), (.int .i64 0), (.int .i64 0), (.str []), .nils]⟩]
def k_envoyref08_atom_r1 : IC := .reg false [⟨none, some 7, .v (.ld true 8 (.t 1))⟩, ⟨none, some 8, .call (.c (.fn 40 [] [])) [((.t 7), (.agg [(.sl 4), .id, .id, .id, .id, .id, .id, .id]))]⟩, ⟨none, some 4, .alo [(.int .i64 0), (.int .i64 0), (.int .i64 0), (.str [])]⟩, ⟨none, none, .st 4 .id (.t 4) (.t 8)⟩]
def k_envoyref08_atom_r2 : IC := .reg false [⟨none, some 9, .v (.ld true 8 (.t 1))⟩, ⟨none, some 10, .call (.c (.fn 44 [] [])) [((.t 9), (.agg [(.sl 4), .id, .id, .id, .id, .id, .id, .id]))]⟩, ⟨none, some 11, .v (.un .not (.t 10))⟩]
def k_envoyref08_atom_r3 : IC := .reg false [⟨none, some 12, .v (.ld true 8 (.t 1))⟩, ⟨none, some 13, .call (.c (.fn 70 [] [])) [((.t 12), (.agg [(.sl 4), .id, .id, .id, .id, .id, .id, .id])), ((.c (.int .i64 5)), .id)]⟩, ⟨none, some 14, .v (.bld [(.int .i64 0), (.int .i64 0), (.int .i64 0), (.str []), .nils] [])⟩, ⟨none, none, .st 8 (.agg [(.sl 4), .id, .id, .id, .id, .id, .id, .id]) (.t 2) (.t 13)⟩, ⟨none, none, .st 5 (.agg [.id, .id, .id, .id, (.sl 5)]) (.t 3) (.t 14)⟩]
def k_envoyref08_atom_r4 : IC := .reg false [⟨none, some 15, .v (.ld true 8 (.t 1))⟩, ⟨none, some 16, .call (.c (.fn 71 [] [])) [((.t 15), (.agg [(.sl 4), .id, .id, .id, .id, .id, .id, .id])), ((.c (.str [40])), .id)]⟩]
def k_envoyref08_atom_r5 : IC := .reg false [⟨none, some 18, .v (.ld true 8 (.t 1))⟩, ⟨none, some 19, .call (.c (.fn 39 [] [])) [((.t 18), (.agg [(.sl 4), .id, .id, .id, .id, .id, .id, .id]))]⟩, ⟨none, some 17, .v (.mov (.t 19))⟩, ⟨none, some 20, .v (.ext (.t 17) 0)⟩, ⟨none, some 21, .v (.ext (.t 17) 1)⟩, ⟨none, none, .st 8 (.agg [(.sl 4), .id, .id, .id, .id, .id, .id, .id]) (.t 1) (.t 20)⟩]
def k_envoyref08_atom_r6 : IC := .reg false [⟨none, some 23, .v (.ld true 8 (.t 1))⟩, ⟨none, some 24, .call (.c (.fn 72 [] [])) [((.t 23), (.agg [(.sl 4), .id, .id, .id, .id, .id, .id, .id])), ((.c (.str [40])), .id)]⟩, ⟨none, some 22, .v (.mov (.t 24))⟩, ⟨none, some 25, .v (.ext (.t 22) 0)⟩, ⟨none, some 26, .v (.ext (.t 22) 1)⟩, ⟨none, none, .st 8 (.agg [(.sl 4), .id, .id, .id, .id, .id, .id, .id]) (.t 1) (.t 25)⟩]
def k_envoyref08_atom_r7 : IC := .reg false [⟨none, some 28, .v (.ld true 8 (.t 1))⟩, ⟨none, some 29, .call (.c (.fn 24 [] [])) [((.t 28), (.agg [(.sl 4), .id, .id, .id, .id, .id, .id, .id]))]⟩, ⟨none, some 27, .v (.mov (.t 29))⟩, ⟨none, some 30, .v (.ext (.t 27) 0)⟩, ⟨none, some 31, .v (.ext (.t 27) 1)⟩, ⟨none, some 5, .alo [.nils, (.int .i64 0), (.int .i64 0), (.int .i64 0), (.str []), (.int .i64 0), (.int .i64 0), (.int .i64 0)]⟩, ⟨none, some 6, .alo [(.int .i64 0), (.int .i64 0), (.int .i64 0), (.str []), .nils]⟩, ⟨none, none, .st 8 (.agg [(.sl 4), .id, .id, .id, .id, .id, .id, .id]) (.t 5) (.t 30)⟩, ⟨none, none, .st 5 (.agg [.id, .id, .id, .id, (.sl 5)]) (.t 6) (.t 31)⟩]
def k_envoyref08_atom_r8 : IC := .reg false [⟨none, some 33, .v (.ld true 8 (.t 5))⟩, ⟨none, some 34, .call (.c (.fn 72 [] [])) [((.t 33), (.agg [(.sl 4), .id, .id, .id, .id, .id, .id, .id])), ((.c (.str [41])), .id)]⟩, ⟨none, some 32, .v (.mov (.t 34))⟩, ⟨none, some 35, .v (.ext (.t 32) 0)⟩, ⟨none, some 36, .v (.ext (.t 32) 1)⟩, ⟨none, none, .st 8 (.agg [(.sl 4), .id, .id, .id, .id, .id, .id, .id]) (.t 5) (.t 35)⟩]
def k_envoyref08_atom_r9 : IC := .drw [(⟨none, some 37, .v (.ld true 8 (.t 5))⟩, []), (⟨none, some 38, .call (.c (.fn 42 [] [])) [((.t 37), (.agg [(.sl 4), .id, .id, .id, .id, .id, .id, .id]))]⟩, []), (⟨none, some 39, .v (.ld true 5 (.t 6))⟩, []), (⟨none, none, .st 8 (.agg [(.sl 4), .id, .id, .id, .id, .id, .id, .id]) (.t 2) (.t 38)⟩, [2]), (⟨none, none, .st 5 (.agg [.id, .id, .id, .id, (.sl 5)]) (.t 3) (.t 39)⟩, [])]
def k_envoyref08_atom_r10 : IC := .reg false [⟨none, some 41, .v (.ld true 8 (.t 1))⟩, ⟨none, some 42, .call (.c (.fn 43 [] [])) [((.t 41), (.agg [(.sl 4), .id, .id, .id, .id, .id, .id, .id]))]⟩, ⟨none, some 40, .v (.mov (.t 42))⟩, ⟨none, some 43, .v (.ext (.t 40) 0)⟩, ⟨none, some 44, .v (.ext (.t 40) 1)⟩, ⟨none, none, .st 8 (.agg [(.sl 4), .id, .id, .id, .id, .id, .id, .id]) (.t 1) (.t 43)⟩]
def k_envoyref08_atom_r11 : IC := .reg false [⟨none, some 45, .v (.fad (.t 4) 0)⟩, ⟨none, some 46, .v (.ld false 1 (.t 45))⟩]
def k_envoyref08_atom_r12 : IC := .reg false [⟨none, some 48, .v (.bin .eql .no (.t 46) (.c (.int .i64 1)))⟩, ⟨none, some 47, .v (.mov (.t 48))⟩]
def k_envoyref08_atom_r13 : IC := .drw [(⟨none, some 49, .v (.ld true 8 (.t 1))⟩, []), (⟨none, some 50, .v (.fad (.t 4) 1)⟩, []), (⟨none, some 51, .v (.ld false 1 (.t 50))⟩, []), (⟨none, some 52, .v (.fad (.t 4) 3)⟩, []), (⟨none, some 53, .v (.ld false 1 (.t 52))⟩, []), (⟨none, some 54, .v (.bld [(.int .i64 0), (.int .i64 0), (.int .i64 0), (.str []), .nils] [(0, 1, (.c (.int .i64 11))), (1, 1, (.t 51)), (3, 1, (.t 53))])⟩, []), (⟨none, none, .st 8 (.agg [(.sl 4), .id, .id, .id, .id, .id, .id, .id]) (.t 2) (.t 49)⟩, [1, 2, 3, 4, 5]), (⟨none, none, .st 5 (.agg [.id, .id, .id, .id, (.sl 5)]) (.t 3) (.t 54)⟩, [])]
def k_envoyref08_atom_r14 : IC := .reg false [⟨none, some 56, .v (.bin .eql .no (.t 46) (.c (.int .i64 2)))⟩, ⟨none, some 55, .v (.mov (.t 56))⟩]
def k_envoyref08_atom_r15 : IC := .drw [(⟨none, some 57, .v (.ld true 8 (.t 1))⟩, []), (⟨none, some 58, .v (.fad (.t 4) 1)⟩, []), (⟨none, some 59, .v (.ld false 1 (.t 58))⟩, []), (⟨none, some 60, .v (.fad (.t 4) 3)⟩, []), (⟨none, some 61, .v (.ld false 1 (.t 60))⟩, []), (⟨none, some 62, .v (.bld [(.int .i64 0), (.int .i64 0), (.int .i64 0), (.str []), .nils] [(0, 1, (.c (.int .i64 14))), (1, 1, (.t 59)), (3, 1, (.t 61))])⟩, []), (⟨none, none, .st 8 (.agg [(.sl 4), .id, .id, .id, .id, .id, .id, .id]) (.t 2) (.t 57)⟩, [1, 2, 3, 4, 5]), (⟨none, none, .st 5 (.agg [.id, .id, .id, .id, (.sl 5)]) (.t 3) (.t 62)⟩, [])]
def k_envoyref08_atom_r16 : IC := .reg false [⟨none, some 64, .v (.bin .eql .no (.t 46) (.c (.int .i64 3)))⟩, ⟨none, some 63, .v (.mov (.t 64))⟩]
def k_envoyref08_atom_r17 : IC := .drw [(⟨none, some 65, .v (.ld true 8 (.t 1))⟩, []), (⟨none, some 66, .v (.fad (.t 4) 1)⟩, []), (⟨none, some 67, .v (.ld false 1 (.t 66))⟩, []), (⟨none, some 68, .v (.fad (.t 4) 2)⟩, []), (⟨none, some 69, .v (.ld false 1 (.t 68))⟩, []), (⟨none, some 70, .v (.bld [(.int .i64 0), (.int .i64 0), (.int .i64 0), (.str []), .nils] [(0, 1, (.c (.int .i64 13))), (1, 1, (.t 67)), (2, 1, (.t 69))])⟩, []), (⟨none, none, .st 8 (.agg [(.sl 4), .id, .id, .id, .id, .id, .id, .id]) (.t 2) (.t 65)⟩, [1, 2, 3, 4, 5]), (⟨none, none, .st 5 (.agg [.id, .id, .id, .id, (.sl 5)]) (.t 3) (.t 70)⟩, [])]
def k_envoyref08_atom_r18 : IC := .drw [(⟨none, some 71, .v (.ld true 8 (.t 1))⟩, []), (⟨none, some 72, .v (.fad (.t 4) 1)⟩, []), (⟨none, some 73, .v (.ld false 1 (.t 72))⟩, []), (⟨none, some 74, .v (.bld [(.int .i64 0), (.int .i64 0), (.int .i64 0), (.str []), .nils] [(0, 1, (.c (.int .i64 12))), (1, 1, (.t 73))])⟩, []), (⟨none, none, .st 8 (.agg [(.sl 4), .id, .id, .id, .id, .id, .id, .id]) (.t 2) (.t 71)⟩, [1, 2, 3]), (⟨none, none, .st 5 (.agg [.id, .id, .id, .id, (.sl 5)]) (.t 3) (.t 74)⟩, [])]
def k_envoyref08_atom : IC := (.seq k_envoyref08_atom_r0 (.seq k_envoyref08_atom_r1 (.seq (.seq k_envoyref08_atom_r2 (.cond (.t 11) (.seq k_envoyref08_atom_r3 .ret) .skip)) (.seq (.seq k_envoyref08_atom_r4 (.cond (.t 16) (.seq k_envoyref08_atom_r5 (.seq k_envoyref08_atom_r6 (.seq k_envoyref08_atom_r7 (.seq k_envoyref08_atom_r8 (.seq k_envoyref08_atom_r9 .ret))))) .skip)) (.seq k_envoyref08_atom_r10 (.seq (.seq k_envoyref08_atom_r11 (.block 0 (.seq k_envoyref08_atom_r12 (.cond (.t 47) (.seq k_envoyref08_atom_r13 .ret) (.seq k_envoyref08_atom_r14 (.cond (.t 55) (.seq k_envoyref08_atom_r15 .ret) (.seq k_envoyref08_atom_r16 (.cond (.t 63) (.seq k_envoyref08_atom_r17 .ret) .skip)))))))) (.seq k_envoyref08_atom_r18 .ret)))))))
@[go_sem] def s_envoyref08_atom : List (RV × Co) := [(.c true 8 2, (.agg [(.sl 4), .id, .id, .id, .id, .id, .id, .id])), (.c true 5 3, (.agg [.id, .id, .id, .id, (.sl 5)]))]
theorem c_envoyref08_atom : cFun Try.prog 41 = some (75, k_envoyref08_atom, s_envoyref08_atom) := by kernel_rfl

-- envoy/envoyref05.Leave
def k_envoyref05_Leave_r0 : IC := .reg false [⟨none, some 1, .box (.t 0)⟩, ⟨none, some 2, .alo [.nils, (.int .i64 0), (.int .i64 0), (.int .i64 0), (.str []), (.int .i64 0), (.int .i64 0), (.int .i64 0)]⟩]
def k_envoyref05_Leave_r1 : IC := .reg false [⟨none, some 3, .v (.fad (.t 1) 6)⟩, ⟨none, some 4, .v (.ld false 1 (.t 3))⟩, ⟨none, some 5, .v (.bin .eql .no (.t 4) (.c (.int .i64 0)))⟩, ⟨none, some 6, .v (.mov (.t 5))⟩, ⟨some (6, true), some 7, .v (.fad (.t 1) 5)⟩, ⟨some (6, true), some 8, .v (.ld false 1 (.t 7))⟩, ⟨some (6, true), some 9, .v (.bin .gtr .no (.t 8) (.c (.int .i64 0)))⟩, ⟨none, some 10, .v (.pick (.t 6) (.t 9) (.c (.bool false)))⟩]
def k_envoyref05_Leave_r2 : IC := .reg false [⟨none, some 11, .v (.fad (.t 1) 5)⟩, ⟨none, some 12, .v (.ld false 1 (.t 11))⟩, ⟨none, some 13, .v (.bin .sub .no (.t 12) (.c (.int .i64 1)))⟩, ⟨none, some 14, .v (.fad (.t 1) 5)⟩, ⟨none, none, .st 1 .id (.t 14) (.t 13)⟩]
def k_envoyref05_Leave_r3 : IC := .reg false [⟨none, some 15, .v (.ld true 8 (.t 1))⟩, ⟨none, none, .st 8 (.agg [(.sl 4), .id, .id, .id, .id, .id, .id, .id]) (.t 2) (.t 15)⟩]
def k_envoyref05_Leave : IC := (.seq k_envoyref05_Leave_r0 (.seq (.seq k_envoyref05_Leave_r1 (.cond (.t 10) k_envoyref05_Leave_r2 .skip)) (.seq k_envoyref05_Leave_r3 .ret)))
@[go_sem] def s_envoyref05_Leave : List (RV × Co) := [(.c true 8 2, (.agg [(.sl 4), .id, .id, .id, .id, .id, .id, .id]))]
theorem c_envoyref05_Leave : cFun Try.prog 42 = some (16, k_envoyref05_Leave, s_envoyref05_Leave) := by kernel_rfl

-- envoy/envoyref05.Next
def k_envoyref05_Next_r0 : IC := .reg false [⟨none, some 1, .box (.t 0)⟩, ⟨none, some 2, .alo [.nils, (.int .i64 0), (.int .i64 0), (.int .i64 0), (.str []), (.int .i64 0), (.int .i64 0), (.int .i64 0)]⟩, ⟨none, some 3, .alo [(.int .i64 0), (.int .i64 0), (.int .i64 0), (.str [])]⟩]
def k_envoyref05_Next_r1 : IC := .reg false [⟨none, some 5, .v (.ld true 8 (.t 1))⟩, ⟨none, some 6, .call (.c (.fn 40 [] [])) [((.t 5), (.agg [(.sl 4), .id, .id, .id, .id, .id, .id, .id]))]⟩, ⟨none, some 4, .alo [(.int .i64 0), (.int .i64 0), (.int .i64 0), (.str [])]⟩, ⟨none, none, .st 4 .id (.t 4) (.t 6)⟩]
def k_envoyref05_Next_r2 : IC := .reg false [⟨none, some 7, .v (.fad (.t 1) 6)⟩, ⟨none, some 8, .v (.ld false 1 (.t 7))⟩, ⟨none, some 9, .v (.bin .eql .no (.t 8) (.c (.int .i64 0)))⟩, ⟨none, some 10, .v (.mov (.t 9))⟩, ⟨some (10, true), some 11, .v (.fad (.t 1) 0)⟩, ⟨some (10, true), some 12, .v (.ld false 1 (.t 11))⟩, ⟨some (10, true), some 13, .v (.len false (.t 12))⟩, ⟨some (10, true), some 14, .v (.bin .gtr .no (.t 13) (.c (.int .i64 0)))⟩, ⟨none, some 15, .v (.pick (.t 10) (.t 14) (.c (.bool false)))⟩]
def k_envoyref05_Next_r3 : IC := .reg false [⟨none, some 16, .v (.fad (.t 1) 0)⟩, ⟨none, some 17, .v (.ld false 1 (.t 16))⟩, ⟨none, some 18, .v (.slv 4 (.t 17) (some (.c (.int .i64 1))) none none)⟩, ⟨none, some 19, .v (.fad (.t 1) 0)⟩, ⟨none, none, .st 1 (.sl 4) (.t 19) (.t 18)⟩]
def k_envoyref05_Next_r4 : IC := .drw [(⟨none, some 20, .v (.ld true 8 (.t 1))⟩, []), (⟨none, some 21, .v (.ld true 4 (.t 4))⟩, []), (⟨none, none, .st 8 (.agg [(.sl 4), .id, .id, .id, .id, .id, .id, .id]) (.t 2) (.t 20)⟩, [1]), (⟨none, none, .st 4 .id (.t 3) (.t 21)⟩, [])]
def k_envoyref05_Next : IC := (.seq k_envoyref05_Next_r0 (.seq k_envoyref05_Next_r1 (.seq (.seq k_envoyref05_Next_r2 (.cond (.t 15) k_envoyref05_Next_r3 .skip)) (.seq k_envoyref05_Next_r4 .ret))))
@[go_sem] def s_envoyref05_Next : List (RV × Co) := [(.c true 8 2, (.agg [(.sl 4), .id, .id, .id, .id, .id, .id, .id])), (.c true 4 3, .id)]
theorem c_envoyref05_Next : cFun Try.prog 43 = some (22, k_envoyref05_Next, s_envoyref05_Next) := by kernel_rfl

-- envoy/envoyref08.begins
def k_envoyref08_begins_r0 : IC := .reg false [⟨none, some 1, .box (.t 0)⟩, ⟨none, some 2, .v (.mov (.c (.bool false)))⟩]
def k_envoyref08_begins_r1 : IC := .reg false [⟨none, some 4, .v (.ld true 8 (.t 1))⟩, ⟨none, some 5, .call (.c (.fn 40 [] [])) [((.t 4), (.agg [(.sl 4), .id, .id, .id, .id, .id, .id, .id]))]⟩, ⟨none, some 6, .v (.fld false 1 0 (.t 5))⟩, ⟨none, some 3, .v (.mov (.t 6))⟩]
def k_envoyref08_begins_r2 : IC := .reg false [⟨none, some 7, .v (.fad (.t 1) 6)⟩, ⟨none, some 8, .v (.ld false 1 (.t 7))⟩, ⟨none, some 9, .v (.bin .eql .no (.t 8) (.c (.int .i64 0)))⟩, ⟨none, some 10, .v (.mov (.t 9))⟩, ⟨some (10, true), some 11, .v (.mov (.t 3))⟩, ⟨some (10, true), some 12, .v (.bin .eql .no (.t 11) (.c (.int .i64 1)))⟩, ⟨some (10, true), some 13, .v (.mov (.t 12))⟩, ⟨some (13, false), some 14, .v (.mov (.t 3))⟩, ⟨some (13, false), some 15, .v (.bin .eql .no (.t 14) (.c (.int .i64 2)))⟩, ⟨some (10, true), some 16, .v (.pick (.t 13) (.c (.bool true)) (.t 15))⟩, ⟨some (10, true), some 17, .v (.mov (.t 16))⟩, ⟨some (17, false), some 18, .v (.mov (.t 3))⟩, ⟨some (17, false), some 19, .v (.bin .eql .no (.t 18) (.c (.int .i64 3)))⟩, ⟨some (10, true), some 20, .v (.pick (.t 17) (.c (.bool true)) (.t 19))⟩, ⟨some (10, true), some 21, .v (.mov (.t 20))⟩, ⟨some (21, false), some 22, .v (.ld true 8 (.t 1))⟩, ⟨some (21, false), some 23, .call (.c (.fn 71 [] [])) [((.t 22), (.agg [(.sl 4), .id, .id, .id, .id, .id, .id, .id])), ((.c (.str [95])), .id)]⟩, ⟨some (10, true), some 24, .v (.pick (.t 21) (.c (.bool true)) (.t 23))⟩, ⟨some (10, true), some 25, .v (.mov (.t 24))⟩, ⟨some (25, false), some 26, .v (.ld true 8 (.t 1))⟩, ⟨some (25, false), some 27, .call (.c (.fn 71 [] [])) [((.t 26), (.agg [(.sl 4), .id, .id, .id, .id, .id, .id, .id])), ((.c (.str [40])), .id)]⟩, ⟨some (10, true), some 28, .v (.pick (.t 25) (.c (.bool true)) (.t 27))⟩, ⟨none, some 29, .v (.pick (.t 10) (.t 28) (.c (.bool false)))⟩, ⟨none, some 2, .v (.mov (.t 29))⟩]
def k_envoyref08_begins : IC := (.seq k_envoyref08_begins_r0 (.seq k_envoyref08_begins_r1 (.seq k_envoyref08_begins_r2 .ret)))
@[go_sem] def s_envoyref08_begins : List (RV × Co) := [(.t 2, .id)]
theorem c_envoyref08_begins : cFun Try.prog 44 = some (30, k_envoyref08_begins, s_envoyref08_begins) := by kernel_rfl

-- envoy/envoyref05.Done
def k_envoyref05_Done_r0 : IC := .reg false [⟨none, some 1, .box (.t 0)⟩, ⟨none, some 2, .v (.mov (.c (.int .i64 0)))⟩, ⟨none, some 3, .v (.mov (.c (.int .i64 0)))⟩]
def k_envoyref05_Done_r1 : IC := .reg false [⟨none, some 5, .v (.fad (.t 1) 6)⟩, ⟨none, some 6, .v (.ld false 1 (.t 5))⟩, ⟨none, some 7, .v (.bin .neq .no (.t 6) (.c (.int .i64 0)))⟩, ⟨none, some 4, .v (.mov (.t 7))⟩]
def k_envoyref05_Done_r2 : IC := .drw [(⟨none, some 8, .v (.fad (.t 1) 7)⟩, []), (⟨none, some 9, .v (.ld false 1 (.t 8))⟩, []), (⟨none, some 10, .v (.fad (.t 1) 6)⟩, []), (⟨none, some 11, .v (.ld false 1 (.t 10))⟩, []), (⟨none, some 2, .v (.mov (.t 9))⟩, []), (⟨none, some 3, .v (.mov (.t 11))⟩, [])]
def k_envoyref05_Done_r3 : IC := .reg false [⟨none, some 13, .v (.fad (.t 1) 0)⟩, ⟨none, some 14, .v (.ld false 1 (.t 13))⟩, ⟨none, some 15, .v (.len false (.t 14))⟩, ⟨none, some 16, .v (.bin .gtr .no (.t 15) (.c (.int .i64 0)))⟩, ⟨none, some 12, .v (.mov (.t 16))⟩]
def k_envoyref05_Done_r4 : IC := .reg false [⟨none, some 17, .v (.fad (.t 1) 0)⟩, ⟨none, some 18, .v (.ld false 1 (.t 17))⟩, ⟨none, some 19, .v (.iad 4 (.t 18) (.c (.int .i64 0)))⟩, ⟨none, some 20, .v (.fad (.t 19) 1)⟩, ⟨none, some 21, .v (.ld false 1 (.t 20))⟩, ⟨none, some 2, .v (.mov (.t 21))⟩, ⟨none, some 3, .v (.mov (.c (.int .i64 5)))⟩]
def k_envoyref05_Done_r5 : IC := .reg false [⟨none, some 22, .v (.fad (.t 1) 1)⟩, ⟨none, some 23, .v (.fad (.t 22) 1)⟩, ⟨none, some 24, .v (.ld false 1 (.t 23))⟩, ⟨none, some 2, .v (.mov (.t 24))⟩, ⟨none, some 3, .v (.mov (.c (.int .i64 0)))⟩]
def k_envoyref05_Done : IC := (.seq k_envoyref05_Done_r0 (.seq (.block 0 (.seq k_envoyref05_Done_r1 (.cond (.t 4) (.seq k_envoyref05_Done_r2 .ret) (.seq k_envoyref05_Done_r3 (.cond (.t 12) (.seq k_envoyref05_Done_r4 .ret) .skip))))) (.seq k_envoyref05_Done_r5 .ret)))
@[go_sem] def s_envoyref05_Done : List (RV × Co) := [(.t 2, .id), (.t 3, .id)]
theorem c_envoyref05_Done : cFun Try.prog 45 = some (25, k_envoyref05_Done, s_envoyref05_Done) := by kernel_rfl

-- envoy/envoyref06.Depth
def k_envoyref06_Depth_r0 : IC := .reg false [⟨none, some 1, .box (.t 0)⟩, ⟨none, some 2, .v (.mov (.c (.int .i64 0)))⟩]
def k_envoyref06_Depth_r1 : IC := .reg false [⟨none, some 3, .v (.mov (.c (.int .i64 0)))⟩]
def k_envoyref06_Depth_r2 : IC := .reg false [⟨none, some 4, .v (.mov (.c (.int .i64 0)))⟩]
def k_envoyref06_Depth_r4 : IC := .reg false [⟨none, some 5, .v (.mov (.t 4))⟩, ⟨none, some 6, .v (.fad (.t 1) 4)⟩, ⟨none, some 7, .v (.ld false 1 (.t 6))⟩, ⟨none, some 8, .v (.len false (.t 7))⟩, ⟨none, some 9, .v (.bin .lss .no (.t 5) (.t 8))⟩]
def k_envoyref06_Depth_r5 : IC := .reg false [⟨none, some 12, .v (.mov (.t 3))⟩, ⟨none, some 13, .v (.fad (.t 1) 4)⟩, ⟨none, some 14, .v (.ld false 1 (.t 13))⟩, ⟨none, some 15, .v (.mov (.t 4))⟩, ⟨none, some 16, .v (.iad 5 (.t 14) (.t 15))⟩, ⟨none, some 17, .v (.ld true 5 (.t 16))⟩, ⟨none, some 18, .call (.c (.fn 46 [] [])) [((.t 17), (.agg [.id, .id, .id, .id, (.sl 5)]))]⟩, ⟨none, some 19, .v (.mm true (.t 12) (.t 18))⟩, ⟨none, some 3, .v (.mov (.t 19))⟩]
def k_envoyref06_Depth_r6 : IC := .reg false [⟨none, some 10, .v (.mov (.t 4))⟩, ⟨none, some 11, .v (.bin .add .no (.t 10) (.c (.int .i64 1)))⟩, ⟨none, some 4, .v (.mov (.t 11))⟩]
def k_envoyref06_Depth_l3 : IC := (.seq (.seq k_envoyref06_Depth_r4 (.cond (.t 9) .skip (.exit 0))) (.seq (.block 1 k_envoyref06_Depth_r5) k_envoyref06_Depth_r6))
def k_envoyref06_Depth_r8 : IC := .reg false [⟨none, some 20, .v (.mov (.t 3))⟩, ⟨none, some 21, .v (.bin .add .no (.t 20) (.c (.int .i64 1)))⟩, ⟨none, some 2, .v (.mov (.t 21))⟩]
def k_envoyref06_Depth : IC := (.seq k_envoyref06_Depth_r0 (.seq k_envoyref06_Depth_r1 (.seq (.seq k_envoyref06_Depth_r2 (.block 0 (.loop k_envoyref06_Depth_l3))) (.seq k_envoyref06_Depth_r8 .ret))))
@[go_sem] def s_envoyref06_Depth : List (RV × Co) := [(.t 2, .id)]
theorem c_envoyref06_Depth : cFun Try.prog 46 = some (22, k_envoyref06_Depth, s_envoyref06_Depth) := by kernel_rfl

-- envoy/nodes.named
def k_nodes_named_r0 : IC := .reg false [⟨none, some 2, .box (.t 0)⟩, ⟨none, some 4, .v (.mov (.c (.bool false)))⟩]
def k_nodes_named_r1 : IC := .reg false [⟨none, some 5, .v (.fad (.t 2) 2)⟩, ⟨none, some 6, .v (.ld false 1 (.t 5))⟩, ⟨none, some 7, .v (.bin .eql .no (.t 6) (.c (.int .i64 0)))⟩, ⟨none, some 8, .v (.mov (.t 7))⟩, ⟨some (8, true), some 9, .v (.mov (.t 1))⟩, ⟨some (8, true), some 10, .v (.fad (.t 2) 3)⟩, ⟨some (8, true), some 11, .v (.ld false 1 (.t 10))⟩, ⟨some (8, true), some 12, .call (.t 9) [((.t 11), .id)]⟩, ⟨none, some 13, .v (.pick (.t 8) (.t 12) (.c (.bool false)))⟩, ⟨none, some 4, .v (.mov (.t 13))⟩]
def k_nodes_named : IC := (.seq k_nodes_named_r0 (.seq k_nodes_named_r1 .ret))
@[go_sem] def s_nodes_named : List (RV × Co) := [(.t 4, .id)]
theorem c_nodes_named : cFun Try.prog 47 = some (14, k_nodes_named, s_nodes_named) := by kernel_rfl

-- envoy/names.Var
def k_names_Var_r0 : IC := .reg false [⟨none, some 2, .v (.mov (.c (.bool false)))⟩]
def k_names_Var_r1 : IC := .reg false [⟨none, some 3, .v (.mov (.t 0))⟩, ⟨none, some 4, .v (.bin .neq .no (.t 3) (.c (.str [])))⟩, ⟨none, some 5, .v (.mov (.t 4))⟩, ⟨some (5, true), some 6, .v (.mov (.t 0))⟩, ⟨some (5, true), some 7, .v (.bin .neq .no (.t 6) (.c (.str [95])))⟩, ⟨none, some 8, .v (.pick (.t 5) (.t 7) (.c (.bool false)))⟩, ⟨none, some 9, .v (.mov (.t 8))⟩, ⟨some (9, true), some 10, .v (.mov (.t 0))⟩, ⟨some (9, true), some 11, .v (.idx (.t 10) (.c (.int .i64 0)))⟩, ⟨some (9, true), some 12, .call (.c (.fn 73 [] [])) [((.t 11), .id)]⟩, ⟨none, some 13, .v (.pick (.t 9) (.t 12) (.c (.bool false)))⟩, ⟨none, some 14, .v (.mov (.t 13))⟩, ⟨some (14, true), some 15, .v (.mov (.t 0))⟩, ⟨some (14, true), some 16, .call (.c (.fn 74 [] [])) [((.t 15), .id)]⟩, ⟨none, some 17, .v (.pick (.t 14) (.t 16) (.c (.bool false)))⟩, ⟨none, some 18, .v (.mov (.t 17))⟩, ⟨some (18, true), some 19, .v (.mov (.t 0))⟩, ⟨some (18, true), some 20, .call (.c (.fn 75 [] [])) [((.t 19), .id)]⟩, ⟨some (18, true), some 21, .v (.un .not (.t 20))⟩, ⟨none, some 22, .v (.pick (.t 18) (.t 21) (.c (.bool false)))⟩, ⟨none, some 2, .v (.mov (.t 22))⟩]
def k_names_Var : IC := (.seq k_names_Var_r0 (.seq k_names_Var_r1 .ret))
@[go_sem] def s_names_Var : List (RV × Co) := [(.t 2, .id)]
theorem c_names_Var : cFun Try.prog 48 = some (23, k_names_Var, s_names_Var) := by kernel_rfl

-- envoy/nodes.bare
def k_nodes_bare_r0 : IC := .reg false [⟨none, some 1, .box (.t 0)⟩, ⟨none, some 2, .v (.mov (.c (.bool false)))⟩]
def k_nodes_bare_r1 : IC := .reg false [⟨none, some 3, .v (.fad (.t 1) 3)⟩, ⟨none, some 4, .v (.ld false 1 (.t 3))⟩, ⟨none, some 5, .v (.bin .eql .no (.t 4) (.c (.str [])))⟩, ⟨none, some 6, .v (.mov (.t 5))⟩, ⟨some (6, true), some 7, .v (.fad (.t 1) 2)⟩, ⟨some (6, true), some 8, .v (.ld false 1 (.t 7))⟩, ⟨some (6, true), some 9, .v (.bin .eql .no (.t 8) (.c (.int .i64 0)))⟩, ⟨none, some 10, .v (.pick (.t 6) (.t 9) (.c (.bool false)))⟩, ⟨none, some 2, .v (.mov (.t 10))⟩]
def k_nodes_bare : IC := (.seq k_nodes_bare_r0 (.seq k_nodes_bare_r1 .ret))
@[go_sem] def s_nodes_bare : List (RV × Co) := [(.t 2, .id)]
theorem c_nodes_bare : cFun Try.prog 49 = some (11, k_nodes_bare, s_nodes_bare) := by kernel_rfl

-- envoy/names.Con
def k_names_Con_r0 : IC := .reg false [⟨none, some 2, .v (.mov (.c (.bool false)))⟩]
def k_names_Con_r1 : IC := .reg false [⟨none, some 3, .v (.mov (.t 0))⟩, ⟨none, some 4, .v (.bin .neq .no (.t 3) (.c (.str [])))⟩, ⟨none, some 5, .v (.mov (.t 4))⟩, ⟨some (5, true), some 6, .v (.mov (.t 0))⟩, ⟨some (5, true), some 7, .v (.idx (.t 6) (.c (.int .i64 0)))⟩, ⟨some (5, true), some 8, .call (.c (.fn 76 [] [])) [((.t 7), .id)]⟩, ⟨none, some 9, .v (.pick (.t 5) (.t 8) (.c (.bool false)))⟩, ⟨none, some 10, .v (.mov (.t 9))⟩, ⟨some (10, true), some 11, .v (.mov (.t 0))⟩, ⟨some (10, true), some 12, .call (.c (.fn 74 [] [])) [((.t 11), .id)]⟩, ⟨none, some 13, .v (.pick (.t 10) (.t 12) (.c (.bool false)))⟩, ⟨none, some 2, .v (.mov (.t 13))⟩]
def k_names_Con : IC := (.seq k_names_Con_r0 (.seq k_names_Con_r1 .ret))
@[go_sem] def s_names_Con : List (RV × Co) := [(.t 2, .id)]
theorem c_names_Con : cFun Try.prog 50 = some (14, k_names_Con, s_names_Con) := by kernel_rfl

-- envoy/nodes.each
def k_nodes_each_r0 : IC := .reg false [⟨none, some 4, .v (.mov (.c (.bool false)))⟩]
def k_nodes_each_r1 : IC := .reg false [⟨none, some 7, .v (.mov (.t 0))⟩, ⟨none, some 8, .v (.len false (.t 7))⟩, ⟨none, some 9, .v (.mov (.c (.int .i64 0)))⟩]
def k_nodes_each_r3 : IC := .reg false [⟨none, some 10, .v (.bin .lss .no (.t 9) (.t 8))⟩]
def k_nodes_each_r4 : IC := .reg false [⟨none, some 11, .v (.iad 5 (.t 7) (.t 9))⟩, ⟨none, some 12, .v (.ld true 5 (.t 11))⟩, ⟨none, some 6, .alo [(.int .i64 0), (.int .i64 0), (.int .i64 0), (.str []), .nils]⟩, ⟨none, none, .st 5 (.agg [.id, .id, .id, .id, (.sl 5)]) (.t 6) (.t 12)⟩]
def k_nodes_each_r5 : IC := .reg false [⟨none, some 13, .v (.mov (.t 1))⟩, ⟨none, some 14, .v (.ld true 5 (.t 6))⟩, ⟨none, some 15, .call (.t 13) [((.t 14), (.agg [.id, .id, .id, .id, (.sl 5)]))]⟩, ⟨none, some 16, .v (.un .not (.t 15))⟩]
def k_nodes_each_r6 : IC := .reg false [⟨none, some 4, .v (.mov (.c (.bool false)))⟩]
def k_nodes_each_r7 : IC := .reg false [⟨none, some 17, .v (.bin .add .no (.t 9) (.c (.int .i64 1)))⟩, ⟨none, some 9, .v (.mov (.t 17))⟩]
def k_nodes_each_l2 : IC := (.seq k_nodes_each_r3 (.seq (.cond (.t 10) .skip (.exit 0)) (.seq (.block 1 (.seq k_nodes_each_r4 (.seq k_nodes_each_r5 (.cond (.t 16) (.seq k_nodes_each_r6 .ret) .skip)))) k_nodes_each_r7)))
def k_nodes_each_r9 : IC := .reg false [⟨none, some 4, .v (.mov (.c (.bool true)))⟩]
def k_nodes_each : IC := (.seq k_nodes_each_r0 (.seq (.seq k_nodes_each_r1 (.block 0 (.loop k_nodes_each_l2))) (.seq k_nodes_each_r9 .ret)))
@[go_sem] def s_nodes_each : List (RV × Co) := [(.t 4, .id)]
theorem c_nodes_each : cFun Try.prog 51 = some (18, k_nodes_each, s_nodes_each) := by kernel_rfl

-- envoy/lexer.words$1
def k_lexer_words_1_r0 : IC := .reg false [⟨none, some 6, .v (.ld false 1 (.t 1))⟩, ⟨none, some 7, .call (.c (.fn 53 [] [])) [((.t 6), .id)]⟩, ⟨none, some 3, .v (.mov (.t 7))⟩]
def k_lexer_words_1_r2 : IC := .reg false [⟨none, some 8, .v (.mov (.t 3))⟩, ⟨none, some 9, .v (.ld false 1 (.t 1))⟩, ⟨none, some 10, .v (.len true (.t 9))⟩, ⟨none, some 11, .v (.bin .lss .no (.t 8) (.t 10))⟩]
def k_lexer_words_1_r3 : IC := .reg false [⟨none, some 13, .v (.ld false 1 (.t 1))⟩, ⟨none, some 14, .v (.mov (.t 3))⟩, ⟨none, some 15, .v (.sls (.t 13) (some (.t 14)) none)⟩, ⟨none, some 16, .call (.c (.fn 54 [] [])) [((.t 15), .id)]⟩, ⟨none, some 12, .v (.mov (.t 16))⟩, ⟨none, some 17, .v (.ext (.t 12) 0)⟩, ⟨none, some 18, .v (.ext (.t 12) 1)⟩, ⟨none, some 4, .alo [(.int .i64 0), (.int .i64 0), (.int .i64 0), (.str [])]⟩, ⟨none, none, .st 4 .id (.t 4) (.t 17)⟩, ⟨none, some 5, .v (.mov (.t 18))⟩]
def k_lexer_words_1_r4 : IC := .reg false [⟨none, some 19, .v (.mov (.t 3))⟩, ⟨none, some 20, .v (.fad (.t 4) 1)⟩, ⟨none, none, .st 1 .id (.t 20) (.t 19)⟩]
def k_lexer_words_1_r5 : IC := .reg false [⟨none, some 21, .v (.mov (.t 0))⟩, ⟨none, some 22, .v (.ld true 4 (.t 4))⟩, ⟨none, some 23, .v (.mov (.t 5))⟩, ⟨none, some 24, .call (.t 21) [((.t 22), .id), ((.t 23), .id)]⟩, ⟨none, some 25, .v (.un .not (.t 24))⟩]
def k_lexer_words_1_r6 : IC := .reg false [⟨none, some 26, .v (.mov (.t 3))⟩, ⟨none, some 27, .v (.fad (.t 4) 3)⟩, ⟨none, some 28, .v (.ld false 1 (.t 27))⟩, ⟨none, some 29, .v (.len true (.t 28))⟩, ⟨none, some 30, .v (.bin .add .no (.t 26) (.t 29))⟩, ⟨none, some 3, .v (.mov (.t 30))⟩]
def k_lexer_words_1_r7 : IC := .reg false [⟨none, some 31, .v (.mov (.t 3))⟩, ⟨none, some 32, .v (.ld false 1 (.t 1))⟩, ⟨none, some 33, .v (.mov (.t 3))⟩, ⟨none, some 34, .v (.sls (.t 32) (some (.t 33)) none)⟩, ⟨none, some 35, .call (.c (.fn 53 [] [])) [((.t 34), .id)]⟩, ⟨none, some 36, .v (.bin .add .no (.t 31) (.t 35))⟩, ⟨none, some 3, .v (.mov (.t 36))⟩]
def k_lexer_words_1_l1 : IC := (.seq (.seq k_lexer_words_1_r2 (.cond (.t 11) .skip (.exit 0))) (.block 1 (.seq k_lexer_words_1_r3 (.seq k_lexer_words_1_r4 (.seq (.seq k_lexer_words_1_r5 (.cond (.t 25) .ret .skip)) (.seq k_lexer_words_1_r6 k_lexer_words_1_r7))))))
def k_lexer_words_1 : IC := (.seq k_lexer_words_1_r0 (.block 0 (.loop k_lexer_words_1_l1)))
@[go_sem] def s_lexer_words_1 : List (RV × Co) := []
theorem c_lexer_words_1 : cFun Try.prog 52 = some (37, k_lexer_words_1, s_lexer_words_1) := by kernel_rfl

-- envoy/lexer.skip
def k_lexer_skip_r0 : IC := .reg false [⟨none, some 2, .v (.mov (.c (.int .i64 0)))⟩]
def k_lexer_skip_r1 : IC := .reg false [⟨none, some 3, .v (.mov (.c (.int .i64 0)))⟩]
def k_lexer_skip_r3 : IC := .reg false [⟨none, some 5, .v (.mov (.t 0))⟩, ⟨none, some 6, .v (.mov (.t 3))⟩, ⟨none, some 7, .v (.sls (.t 5) (some (.t 6)) none)⟩, ⟨none, some 8, .call (.c (.fn 77 [] [])) [((.t 7), .id), ((.c (.fn 78 [] [])), .id)]⟩, ⟨none, some 4, .v (.mov (.t 8))⟩]
def k_lexer_skip_r4 : IC := .reg false [⟨none, some 9, .v (.mov (.t 0))⟩, ⟨none, some 10, .v (.mov (.t 3))⟩, ⟨none, some 11, .v (.mov (.t 4))⟩, ⟨none, some 12, .v (.bin .add .no (.t 10) (.t 11))⟩, ⟨none, some 13, .v (.sls (.t 9) (some (.t 12)) none)⟩, ⟨none, some 14, .call (.c (.fn 79 [] [])) [((.t 13), .id), ((.c (.str [45, 45])), .id)]⟩]
def k_lexer_skip_r5 : IC := .reg false [⟨none, some 15, .v (.mov (.t 4))⟩, ⟨none, some 16, .v (.mov (.t 0))⟩, ⟨none, some 17, .v (.mov (.t 3))⟩, ⟨none, some 18, .v (.mov (.t 4))⟩, ⟨none, some 19, .v (.bin .add .no (.t 17) (.t 18))⟩, ⟨none, some 20, .v (.sls (.t 16) (some (.t 19)) none)⟩, ⟨none, some 21, .call (.c (.fn 77 [] [])) [((.t 20), .id), ((.c (.fn 80 [] [])), .id)]⟩, ⟨none, some 22, .v (.bin .add .no (.t 15) (.t 21))⟩, ⟨none, some 4, .v (.mov (.t 22))⟩]
def k_lexer_skip_r6 : IC := .reg false [⟨none, some 23, .v (.mov (.t 4))⟩, ⟨none, some 24, .v (.bin .eql .no (.t 23) (.c (.int .i64 0)))⟩]
def k_lexer_skip_r7 : IC := .reg false [⟨none, some 25, .v (.mov (.t 3))⟩, ⟨none, some 2, .v (.mov (.t 25))⟩]
def k_lexer_skip_r8 : IC := .reg false [⟨none, some 26, .v (.mov (.t 3))⟩, ⟨none, some 27, .v (.mov (.t 4))⟩, ⟨none, some 28, .v (.bin .add .no (.t 26) (.t 27))⟩, ⟨none, some 3, .v (.mov (.t 28))⟩]
def k_lexer_skip_l2 : IC := (.block 1 (.seq k_lexer_skip_r3 (.seq (.seq k_lexer_skip_r4 (.cond (.t 14) k_lexer_skip_r5 .skip)) (.seq (.seq k_lexer_skip_r6 (.cond (.t 24) (.seq k_lexer_skip_r7 .ret) .skip)) k_lexer_skip_r8))))
def k_lexer_skip : IC := (.seq k_lexer_skip_r0 (.seq k_lexer_skip_r1 (.block 0 (.loop k_lexer_skip_l2))))
@[go_sem] def s_lexer_skip : List (RV × Co) := [(.t 2, .id)]
theorem c_lexer_skip : cFun Try.prog 53 = some (29, k_lexer_skip, s_lexer_skip) := by kernel_rfl

-- envoy/lexer.word
def k_lexer_word_r0 : IC := .reg false [⟨none, some 2, .alo [(.int .i64 0), (.int .i64 0), (.int .i64 0), (.str [])]⟩, ⟨none, some 3, .v (.mov (.c (.int .i64 0)))⟩]
def k_lexer_word_r1 : IC := .reg false [⟨none, some 9, .v (.mov (.t 0))⟩, ⟨none, some 10, .v (.idx (.t 9) (.c (.int .i64 0)))⟩, ⟨none, some 4, .v (.mov (.t 10))⟩]
def k_lexer_word_r2 : IC := .reg false [⟨none, some 12, .v (.mov (.t 4))⟩, ⟨none, some 13, .call (.c (.fn 81 [] [])) [((.t 12), .id)]⟩, ⟨none, some 11, .v (.mov (.t 13))⟩]
def k_lexer_word_r3 : IC := .reg false [⟨none, some 14, .v (.mov (.t 0))⟩, ⟨none, some 15, .v (.mov (.t 0))⟩, ⟨none, some 16, .call (.c (.fn 77 [] [])) [((.t 15), .id), ((.c (.fn 81 [] [])), .id)]⟩, ⟨none, some 17, .v (.sls (.t 14) none (some (.t 16)))⟩, ⟨none, some 5, .v (.mov (.t 17))⟩]
def k_lexer_word_r4 : IC := .reg false [⟨none, some 19, .v (.mov (.t 5))⟩, ⟨none, some 20, .call (.c (.fn 82 [] [])) [((.t 19), .id)]⟩, ⟨none, some 18, .v (.mov (.t 20))⟩, ⟨none, some 21, .v (.ext (.t 18) 0)⟩, ⟨none, some 22, .v (.ext (.t 18) 1)⟩, ⟨none, some 6, .v (.mov (.t 21))⟩, ⟨none, some 7, .v (.mov (.t 22))⟩]
def k_lexer_word_r5 : IC := .reg false [⟨none, some 23, .v (.mov (.t 6))⟩, ⟨none, some 24, .v (.mov (.t 5))⟩, ⟨none, some 25, .v (.bld [(.int .i64 0), (.int .i64 0), (.int .i64 0), (.str [])] [(0, 1, (.c (.int .i64 3))), (2, 1, (.t 23)), (3, 1, (.t 24))])⟩, ⟨none, some 26, .v (.mov (.t 7))⟩, ⟨none, none, .st 4 .id (.t 2) (.t 25)⟩, ⟨none, some 3, .v (.mov (.t 26))⟩]
def k_lexer_word_r6 : IC := .reg false [⟨none, some 28, .v (.mov (.t 4))⟩, ⟨none, some 29, .call (.c (.fn 83 [] [])) [((.t 28), .id)]⟩, ⟨none, some 30, .v (.mov (.t 29))⟩, ⟨some (30, true), some 31, .v (.mov (.t 4))⟩, ⟨some (30, true), some 32, .v (.bin .neq .no (.t 31) (.c (.int .u8 39)))⟩, ⟨none, some 33, .v (.pick (.t 30) (.t 32) (.c (.bool false)))⟩, ⟨none, some 27, .v (.mov (.t 33))⟩]
def k_lexer_word_r7 : IC := .reg false [⟨none, some 34, .v (.mov (.t 0))⟩, ⟨none, some 35, .v (.mov (.t 0))⟩, ⟨none, some 36, .call (.c (.fn 77 [] [])) [((.t 35), .id), ((.c (.fn 83 [] [])), .id)]⟩, ⟨none, some 37, .v (.sls (.t 34) none (some (.t 36)))⟩, ⟨none, some 38, .call (.c (.fn 84 [] [])) [((.t 37), .id)]⟩, ⟨none, none, .st 4 .id (.t 2) (.t 38)⟩, ⟨none, some 3, .v (.mov (.c (.int .i64 0)))⟩]
def k_lexer_word_r8 : IC := .reg false [⟨none, some 39, .v (.mov (.t 0))⟩, ⟨none, some 40, .call (.c (.fn 85 [] [])) [((.t 39), .id)]⟩, ⟨none, some 8, .v (.mov (.t 40))⟩]
def k_lexer_word_r9 : IC := .reg false [⟨none, some 41, .v (.mov (.t 8))⟩, ⟨none, some 42, .v (.bin .eql .no (.t 41) (.c (.int .i64 0)))⟩]
def k_lexer_word_r10 : IC := .reg false [⟨none, some 43, .v (.bld [(.int .i64 0), (.int .i64 0), (.int .i64 0), (.str [])] [])⟩, ⟨none, none, .st 4 .id (.t 2) (.t 43)⟩, ⟨none, some 3, .v (.mov (.c (.int .i64 3)))⟩]
def k_lexer_word_r11 : IC := .reg false [⟨none, some 44, .v (.mov (.t 0))⟩, ⟨none, some 45, .v (.mov (.t 8))⟩, ⟨none, some 46, .v (.sls (.t 44) none (some (.t 45)))⟩, ⟨none, some 47, .v (.bld [(.int .i64 0), (.int .i64 0), (.int .i64 0), (.str [])] [(0, 1, (.c (.int .i64 5))), (3, 1, (.t 46))])⟩, ⟨none, none, .st 4 .id (.t 2) (.t 47)⟩, ⟨none, some 3, .v (.mov (.c (.int .i64 0)))⟩]
def k_lexer_word : IC := (.seq k_lexer_word_r0 (.seq (.seq k_lexer_word_r1 (.block 0 (.seq k_lexer_word_r2 (.cond (.t 11) (.seq k_lexer_word_r3 (.seq k_lexer_word_r4 (.seq k_lexer_word_r5 .ret))) (.seq k_lexer_word_r6 (.cond (.t 27) (.seq k_lexer_word_r7 .ret) .skip)))))) (.seq k_lexer_word_r8 (.seq (.seq k_lexer_word_r9 (.cond (.t 42) (.seq k_lexer_word_r10 .ret) .skip)) (.seq k_lexer_word_r11 .ret)))))
@[go_sem] def s_lexer_word : List (RV × Co) := [(.c true 4 2, .id), (.t 3, .id)]
theorem c_lexer_word : cFun Try.prog 54 = some (48, k_lexer_word, s_lexer_word) := by kernel_rfl

-- (*envoy/cursor.Cursor).failed
def k_cursor_Cursor_failed_r0 : IC := .reg false [⟨none, some 2, .v (.mov (.c (.bool false)))⟩]
def k_cursor_Cursor_failed_r1 : IC := .reg false [⟨none, some 3, .v (.mov (.t 0))⟩, ⟨none, some 4, .v (.bin .eql .ptr (.t 3) (.c .nilp))⟩, ⟨none, some 5, .v (.mov (.t 4))⟩, ⟨some (5, false), some 6, .v (.mov (.t 0))⟩, ⟨some (5, false), some 7, .v (.nck (.t 6))⟩, ⟨some (5, false), some 8, .v (.fad (.t 7) 7)⟩, ⟨some (5, false), some 9, .v (.ld false 1 (.t 8))⟩, ⟨some (5, false), some 10, .v (.bin .neq .no (.t 9) (.c (.int .i64 0)))⟩, ⟨none, some 11, .v (.pick (.t 5) (.c (.bool true)) (.t 10))⟩, ⟨none, some 2, .v (.mov (.t 11))⟩]
def k_cursor_Cursor_failed : IC := (.seq k_cursor_Cursor_failed_r0 (.seq k_cursor_Cursor_failed_r1 .ret))
@[go_sem] def s_cursor_Cursor_failed : List (RV × Co) := [(.t 2, .id)]
theorem c_cursor_Cursor_failed : cFun Try.prog 55 = some (12, k_cursor_Cursor_failed, s_cursor_Cursor_failed) := by kernel_rfl

-- (*envoy/cursor.Cursor).Fail
def k_cursor_Cursor_Fail_r0 : IC := .reg false [⟨none, some 4, .v (.mov (.c (.bool false)))⟩]
def k_cursor_Cursor_Fail_r1 : IC := .reg false [⟨none, some 5, .v (.mov (.t 0))⟩, ⟨none, some 6, .call (.c (.fn 55 [] [])) [((.t 5), .id)]⟩, ⟨none, some 7, .v (.un .not (.t 6))⟩]
def k_cursor_Cursor_Fail_r2 : IC := .reg false [⟨none, some 8, .v (.mov (.t 1))⟩, ⟨none, some 9, .v (.bin .eql .no (.t 8) (.c (.int .i64 0)))⟩]
def k_cursor_Cursor_Fail_r3 : IC := .reg false [⟨none, some 1, .v (.mov (.c (.int .i64 1)))⟩]
def k_cursor_Cursor_Fail_r4 : IC := .reg false [⟨none, some 10, .v (.mov (.t 0))⟩, ⟨none, some 11, .v (.mov (.t 0))⟩, ⟨none, some 12, .call (.c (.fn 32 [] [])) [((.t 11), .id)]⟩, ⟨none, some 13, .v (.fld false 1 1 (.t 12))⟩, ⟨none, some 14, .v (.nck (.t 10))⟩, ⟨none, some 15, .v (.fad (.t 14) 8)⟩, ⟨none, none, .st 1 .id (.t 15) (.t 13)⟩]
def k_cursor_Cursor_Fail_r5 : IC := .reg false [⟨none, some 16, .v (.mov (.t 0))⟩, ⟨none, some 17, .v (.mov (.t 1))⟩, ⟨none, some 18, .v (.nck (.t 16))⟩, ⟨none, some 19, .v (.fad (.t 18) 7)⟩, ⟨none, none, .st 1 .id (.t 19) (.t 17)⟩]
def k_cursor_Cursor_Fail_r6 : IC := .reg false [⟨none, some 4, .v (.mov (.c (.bool false)))⟩]
def k_cursor_Cursor_Fail : IC := (.seq k_cursor_Cursor_Fail_r0 (.seq (.seq k_cursor_Cursor_Fail_r1 (.cond (.t 7) (.seq (.seq k_cursor_Cursor_Fail_r2 (.cond (.t 9) k_cursor_Cursor_Fail_r3 .skip)) (.seq k_cursor_Cursor_Fail_r4 k_cursor_Cursor_Fail_r5)) .skip)) (.seq k_cursor_Cursor_Fail_r6 .ret)))
@[go_sem] def s_cursor_Cursor_Fail : List (RV × Co) := [(.t 4, .id)]
theorem c_cursor_Cursor_Fail : cFun Try.prog 56 = some (20, k_cursor_Cursor_Fail, s_cursor_Cursor_Fail) := by kernel_rfl

-- envoy/ppats.leaf
def k_ppats_leaf_r0 : IC := .reg false [⟨none, some 2, .alo [(.int .i64 0), (.int .i64 0), (.int .i64 0), (.str []), .nils]⟩, ⟨none, some 3, .v (.mov (.c (.bool false)))⟩]
def k_ppats_leaf_r1 : IC := .reg false [⟨none, some 6, .v (.mov (.t 0))⟩, ⟨none, some 7, .call (.c (.fn 32 [] [])) [((.t 6), .id)]⟩, ⟨none, some 4, .alo [(.int .i64 0), (.int .i64 0), (.int .i64 0), (.str [])]⟩, ⟨none, none, .st 4 .id (.t 4) (.t 7)⟩]
def k_ppats_leaf_r2 : IC := .reg false [⟨none, some 8, .v (.fad (.t 4) 1)⟩, ⟨none, some 9, .v (.ld false 1 (.t 8))⟩, ⟨none, some 10, .v (.fad (.t 4) 3)⟩, ⟨none, some 11, .v (.ld false 1 (.t 10))⟩, ⟨none, some 12, .v (.bld [(.int .i64 0), (.int .i64 0), (.int .i64 0), (.str []), .nils] [(1, 1, (.t 9)), (3, 1, (.t 11))])⟩, ⟨none, some 5, .alo [(.int .i64 0), (.int .i64 0), (.int .i64 0), (.str []), .nils]⟩, ⟨none, none, .st 5 (.agg [.id, .id, .id, .id, (.sl 5)]) (.t 5) (.t 12)⟩]
def k_ppats_leaf_r3 : IC := .reg false [⟨none, some 15, .v (.fad (.t 4) 0)⟩, ⟨none, some 16, .v (.ld false 1 (.t 15))⟩, ⟨none, some 17, .v (.bin .eql .no (.t 16) (.c (.int .i64 1)))⟩, ⟨none, some 14, .v (.mov (.t 17))⟩]
def k_ppats_leaf_r4 : IC := .reg false [⟨none, some 18, .v (.fad (.t 5) 0)⟩, ⟨none, none, .st 1 .id (.t 18) (.c (.int .i64 11))⟩]
def k_ppats_leaf_r5 : IC := .reg false [⟨none, some 20, .v (.fad (.t 4) 0)⟩, ⟨none, some 21, .v (.ld false 1 (.t 20))⟩, ⟨none, some 22, .v (.bin .eql .no (.t 21) (.c (.int .i64 2)))⟩, ⟨none, some 19, .v (.mov (.t 22))⟩]
def k_ppats_leaf_r6 : IC := .reg false [⟨none, some 23, .v (.fad (.t 5) 0)⟩, ⟨none, none, .st 1 .id (.t 23) (.c (.int .i64 14))⟩]
def k_ppats_leaf_r7 : IC := .reg false [⟨none, some 25, .v (.fad (.t 4) 0)⟩, ⟨none, some 26, .v (.ld false 1 (.t 25))⟩, ⟨none, some 27, .v (.bin .eql .no (.t 26) (.c (.int .i64 3)))⟩, ⟨none, some 24, .v (.mov (.t 27))⟩]
def k_ppats_leaf_r8 : IC := .drw [(⟨none, some 28, .v (.fad (.t 4) 2)⟩, []), (⟨none, some 29, .v (.ld false 1 (.t 28))⟩, []), (⟨none, some 30, .v (.fad (.t 5) 0)⟩, []), (⟨none, none, .st 1 .id (.t 30) (.c (.int .i64 13))⟩, [0, 1]), (⟨none, some 31, .v (.fad (.t 5) 2)⟩, []), (⟨none, none, .st 1 .id (.t 31) (.t 29)⟩, []), (⟨none, some 32, .v (.fad (.t 5) 3)⟩, []), (⟨none, none, .st 1 .id (.t 32) (.c (.str []))⟩, [])]
def k_ppats_leaf_r9 : IC := .reg false [⟨none, some 34, .v (.mov (.t 0))⟩, ⟨none, some 35, .call (.c (.fn 59 [] [])) [((.t 34), .id), ((.c (.str [95])), .id)]⟩, ⟨none, some 33, .v (.mov (.t 35))⟩]
def k_ppats_leaf_r10 : IC := .reg false [⟨none, some 36, .v (.fad (.t 5) 0)⟩, ⟨none, none, .st 1 .id (.t 36) (.c (.int .i64 12))⟩, ⟨none, some 37, .v (.fad (.t 5) 3)⟩, ⟨none, none, .st 1 .id (.t 37) (.c (.str []))⟩]
def k_ppats_leaf_r11 : IC := .reg false [⟨none, some 13, .v (.bld [(.int .i64 0), (.int .i64 0), (.int .i64 0), (.str []), .nils] [])⟩, ⟨none, none, .st 5 (.agg [.id, .id, .id, .id, (.sl 5)]) (.t 2) (.t 13)⟩, ⟨none, some 3, .v (.mov (.c (.bool false)))⟩]
def k_ppats_leaf_r12 : IC := .reg false [⟨none, some 38, .v (.ld true 5 (.t 5))⟩, ⟨none, none, .st 5 (.agg [.id, .id, .id, .id, (.sl 5)]) (.t 2) (.t 38)⟩, ⟨none, some 3, .v (.mov (.c (.bool true)))⟩]
def k_ppats_leaf : IC := (.seq k_ppats_leaf_r0 (.seq k_ppats_leaf_r1 (.seq k_ppats_leaf_r2 (.seq (.block 0 (.seq k_ppats_leaf_r3 (.cond (.t 14) k_ppats_leaf_r4 (.seq k_ppats_leaf_r5 (.cond (.t 19) k_ppats_leaf_r6 (.seq k_ppats_leaf_r7 (.cond (.t 24) k_ppats_leaf_r8 (.seq k_ppats_leaf_r9 (.cond (.t 33) k_ppats_leaf_r10 (.seq k_ppats_leaf_r11 .ret)))))))))) (.seq k_ppats_leaf_r12 .ret)))))
@[go_sem] def s_ppats_leaf : List (RV × Co) := [(.c true 5 2, (.agg [.id, .id, .id, .id, (.sl 5)])), (.t 3, .id)]
theorem c_ppats_leaf : cFun Try.prog 57 = some (39, k_ppats_leaf, s_ppats_leaf) := by kernel_rfl

-- (*envoy/cursor.Cursor).Next
def k_cursor_Cursor_Next_r0 : IC := .reg false [⟨none, some 2, .alo [(.int .i64 0), (.int .i64 0), (.int .i64 0), (.str [])]⟩]
def k_cursor_Cursor_Next_r1 : IC := .reg false [⟨none, some 4, .v (.mov (.t 0))⟩, ⟨none, some 5, .call (.c (.fn 32 [] [])) [((.t 4), .id)]⟩, ⟨none, some 3, .alo [(.int .i64 0), (.int .i64 0), (.int .i64 0), (.str [])]⟩, ⟨none, none, .st 4 .id (.t 3) (.t 5)⟩]
def k_cursor_Cursor_Next_r2 : IC := .drw [(⟨none, some 6, .v (.mov (.t 0))⟩, []), (⟨none, some 7, .call (.c (.fn 55 [] [])) [((.t 6), .id)]⟩, []), (⟨none, some 8, .v (.un .not (.t 7))⟩, []), (⟨none, some 9, .v (.mov (.t 8))⟩, []), (⟨some (9, true), some 10, .v (.mov (.t 0))⟩, []), (⟨some (9, true), some 11, .v (.nck (.t 10))⟩, []), (⟨some (9, true), some 12, .v (.fad (.t 11) 5)⟩, []), (⟨some (9, true), some 13, .v (.ld false 1 (.t 12))⟩, []), (⟨some (9, true), some 14, .v (.mov (.t 0))⟩, []), (⟨some (9, true), some 15, .v (.nck (.t 14))⟩, []), (⟨some (9, true), some 16, .v (.fad (.t 15) 0)⟩, []), (⟨some (9, true), some 17, .v (.ld false 1 (.t 16))⟩, []), (⟨some (9, true), some 18, .v (.len false (.t 17))⟩, []), (⟨some (9, true), some 19, .v (.bin .lss .no (.t 13) (.t 18))⟩, []), (⟨none, some 20, .v (.pick (.t 9) (.t 19) (.c (.bool false)))⟩, [])]
def k_cursor_Cursor_Next_r3 : IC := .reg false [⟨none, some 21, .v (.mov (.t 0))⟩, ⟨none, some 22, .v (.nck (.t 21))⟩, ⟨none, some 23, .v (.fad (.t 22) 5)⟩, ⟨none, some 24, .v (.ld false 1 (.t 23))⟩, ⟨none, some 25, .v (.bin .add .no (.t 24) (.c (.int .i64 1)))⟩, ⟨none, some 26, .v (.nck (.t 21))⟩, ⟨none, some 27, .v (.fad (.t 26) 5)⟩, ⟨none, none, .st 1 .id (.t 27) (.t 25)⟩]
def k_cursor_Cursor_Next_r4 : IC := .reg false [⟨none, some 28, .v (.ld true 4 (.t 3))⟩, ⟨none, none, .st 4 .id (.t 2) (.t 28)⟩]
def k_cursor_Cursor_Next : IC := (.seq k_cursor_Cursor_Next_r0 (.seq k_cursor_Cursor_Next_r1 (.seq (.seq k_cursor_Cursor_Next_r2 (.cond (.t 20) k_cursor_Cursor_Next_r3 .skip)) (.seq k_cursor_Cursor_Next_r4 .ret))))
@[go_sem] def s_cursor_Cursor_Next : List (RV × Co) := [(.c true 4 2, .id)]
theorem c_cursor_Cursor_Next : cFun Try.prog 58 = some (29, k_cursor_Cursor_Next, s_cursor_Cursor_Next) := by kernel_rfl

-- (*envoy/cursor.Cursor).Is
def k_cursor_Cursor_Is_r0 : IC := .reg false [⟨none, some 4, .v (.mov (.c (.bool false)))⟩]
def k_cursor_Cursor_Is_r1 : IC := .reg false [⟨none, some 5, .v (.mov (.t 0))⟩, ⟨none, some 6, .call (.c (.fn 55 [] [])) [((.t 5), .id)]⟩, ⟨none, some 7, .v (.un .not (.t 6))⟩, ⟨none, some 8, .v (.mov (.t 7))⟩, ⟨some (8, true), some 9, .v (.mov (.t 0))⟩, ⟨some (8, true), some 10, .call (.c (.fn 32 [] [])) [((.t 9), .id)]⟩, ⟨some (8, true), some 11, .v (.mov (.t 1))⟩, ⟨some (8, true), some 12, .v (.bsl 1 [((.t 11), .id)])⟩, ⟨some (8, true), some 13, .call (.c (.fn 86 [] [])) [((.t 10), .id), ((.t 12), (.sl 1))]⟩, ⟨none, some 14, .v (.pick (.t 8) (.t 13) (.c (.bool false)))⟩, ⟨none, some 4, .v (.mov (.t 14))⟩]
def k_cursor_Cursor_Is : IC := (.seq k_cursor_Cursor_Is_r0 (.seq k_cursor_Cursor_Is_r1 .ret))
@[go_sem] def s_cursor_Cursor_Is : List (RV × Co) := [(.t 4, .id)]
theorem c_cursor_Cursor_Is : cFun Try.prog 59 = some (15, k_cursor_Cursor_Is, s_cursor_Cursor_Is) := by kernel_rfl

-- (*envoy/cursor.Cursor).Want
def k_cursor_Cursor_Want_r0 : IC := .reg false [⟨none, some 4, .v (.mov (.c (.bool false)))⟩]
def k_cursor_Cursor_Want_r1 : IC := .reg false [⟨none, some 5, .v (.mov (.t 0))⟩, ⟨none, some 6, .v (.mov (.t 1))⟩, ⟨none, some 7, .call (.c (.fn 87 [] [])) [((.t 5), .id), ((.t 6), .id)]⟩, ⟨none, some 8, .v (.mov (.t 7))⟩, ⟨some (8, false), some 9, .v (.mov (.t 0))⟩, ⟨some (8, false), some 10, .call (.c (.fn 56 [] [])) [((.t 9), .id), ((.c (.int .i64 5)), .id)]⟩, ⟨none, some 11, .v (.pick (.t 8) (.c (.bool true)) (.t 10))⟩, ⟨none, some 4, .v (.mov (.t 11))⟩]
def k_cursor_Cursor_Want : IC := (.seq k_cursor_Cursor_Want_r0 (.seq k_cursor_Cursor_Want_r1 .ret))
@[go_sem] def s_cursor_Cursor_Want : List (RV × Co) := [(.t 4, .id)]
theorem c_cursor_Cursor_Want : cFun Try.prog 60 = some (12, k_cursor_Cursor_Want, s_cursor_Cursor_Want) := by kernel_rfl

-- envoy/nodes.all$1
def k_nodes_all_1_r0 : IC := .reg false [⟨none, some 4, .v (.ld true 5 (.t 1))⟩, ⟨none, some 5, .v (.ld false 1 (.t 2))⟩, ⟨none, some 6, .v (.mov (.t 0))⟩, ⟨none, some 7, .call (.c (.fn 62 [] [])) [((.t 4), (.agg [.id, .id, .id, .id, (.sl 5)])), ((.t 5), .id), ((.t 6), .id)]⟩]
def k_nodes_all_1 : IC := k_nodes_all_1_r0
@[go_sem] def s_nodes_all_1 : List (RV × Co) := []
theorem c_nodes_all_1 : cFun Try.prog 61 = some (8, k_nodes_all_1, s_nodes_all_1) := by kernel_rfl

-- envoy/nodes.walk
def k_nodes_walk_r0 : IC := .reg false [⟨none, some 3, .box (.t 0)⟩, ⟨none, some 6, .v (.mov (.c (.bool false)))⟩]
def k_nodes_walk_r1 : IC := .reg false [⟨none, some 9, .v (.mov (.t 2))⟩, ⟨none, some 10, .v (.mov (.t 1))⟩, ⟨none, some 11, .v (.ld true 5 (.t 3))⟩, ⟨none, some 12, .call (.t 9) [((.t 10), .id), ((.t 11), (.agg [.id, .id, .id, .id, (.sl 5)]))]⟩, ⟨none, some 13, .v (.un .not (.t 12))⟩]
def k_nodes_walk_r2 : IC := .reg false [⟨none, some 6, .v (.mov (.c (.bool false)))⟩]
def k_nodes_walk_r3 : IC := .reg false [⟨none, some 14, .v (.fad (.t 3) 4)⟩, ⟨none, some 15, .v (.ld false 1 (.t 14))⟩, ⟨none, some 16, .v (.len false (.t 15))⟩, ⟨none, some 17, .v (.mov (.c (.int .i64 0)))⟩]
def k_nodes_walk_r5 : IC := .reg false [⟨none, some 18, .v (.bin .lss .no (.t 17) (.t 16))⟩]
def k_nodes_walk_r6 : IC := .reg false [⟨none, some 19, .v (.iad 5 (.t 15) (.t 17))⟩, ⟨none, some 20, .v (.ld true 5 (.t 19))⟩, ⟨none, some 8, .alo [(.int .i64 0), (.int .i64 0), (.int .i64 0), (.str []), .nils]⟩, ⟨none, none, .st 5 (.agg [.id, .id, .id, .id, (.sl 5)]) (.t 8) (.t 20)⟩]
def k_nodes_walk_r7 : IC := .reg false [⟨none, some 21, .v (.ld true 5 (.t 8))⟩, ⟨none, some 22, .v (.mov (.t 1))⟩, ⟨none, some 23, .v (.bin .add .no (.t 22) (.c (.int .i64 1)))⟩, ⟨none, some 24, .v (.mov (.t 2))⟩, ⟨none, some 25, .call (.c (.fn 62 [] [])) [((.t 21), (.agg [.id, .id, .id, .id, (.sl 5)])), ((.t 23), .id), ((.t 24), .id)]⟩, ⟨none, some 26, .v (.un .not (.t 25))⟩]
def k_nodes_walk_r8 : IC := .reg false [⟨none, some 6, .v (.mov (.c (.bool false)))⟩]
def k_nodes_walk_r9 : IC := .reg false [⟨none, some 27, .v (.bin .add .no (.t 17) (.c (.int .i64 1)))⟩, ⟨none, some 17, .v (.mov (.t 27))⟩]
def k_nodes_walk_l4 : IC := (.seq k_nodes_walk_r5 (.seq (.cond (.t 18) .skip (.exit 0)) (.seq (.block 1 (.seq k_nodes_walk_r6 (.seq k_nodes_walk_r7 (.cond (.t 26) (.seq k_nodes_walk_r8 .ret) .skip)))) k_nodes_walk_r9)))
def k_nodes_walk_r11 : IC := .reg false [⟨none, some 6, .v (.mov (.c (.bool true)))⟩]
def k_nodes_walk : IC := (.seq k_nodes_walk_r0 (.seq (.seq k_nodes_walk_r1 (.cond (.t 13) (.seq k_nodes_walk_r2 .ret) .skip)) (.seq (.seq k_nodes_walk_r3 (.block 0 (.loop k_nodes_walk_l4))) (.seq k_nodes_walk_r11 .ret))))
@[go_sem] def s_nodes_walk : List (RV × Co) := [(.t 6, .id)]
theorem c_nodes_walk : cFun Try.prog 62 = some (28, k_nodes_walk, s_nodes_walk) := by kernel_rfl

-- envoy/envoyref03.Digit
def k_envoyref03_Digit_r0 : IC := .reg false [⟨none, some 2, .v (.mov (.c (.bool false)))⟩]
def k_envoyref03_Digit_r1 : IC := .reg false [⟨none, some 3, .v (.mov (.t 0))⟩, ⟨none, some 4, .v (.bin .geq .no (.t 3) (.c (.int .u8 48)))⟩, ⟨none, some 5, .v (.mov (.t 4))⟩, ⟨some (5, true), some 6, .v (.mov (.t 0))⟩, ⟨some (5, true), some 7, .v (.bin .leq .no (.t 6) (.c (.int .u8 57)))⟩, ⟨none, some 8, .v (.pick (.t 5) (.t 7) (.c (.bool false)))⟩, ⟨none, some 2, .v (.mov (.t 8))⟩]
def k_envoyref03_Digit : IC := (.seq k_envoyref03_Digit_r0 (.seq k_envoyref03_Digit_r1 .ret))
@[go_sem] def s_envoyref03_Digit : List (RV × Co) := [(.t 2, .id)]
theorem c_envoyref03_Digit : cFun Try.prog 63 = some (9, k_envoyref03_Digit, s_envoyref03_Digit) := by kernel_rfl

-- envoy/envoyref02.Read
def k_envoyref02_Read_r0 : IC := .reg false [⟨none, some 2, .v (.mov (.c (.int .i64 0)))⟩, ⟨none, some 3, .v (.mov (.c (.int .i64 0)))⟩]
def k_envoyref02_Read_r1 : IC := .reg false [⟨none, some 8, .v (.mov (.t 0))⟩, ⟨none, some 9, .v (.bin .eql .no (.t 8) (.c (.str [])))⟩]
def k_envoyref02_Read_r2 : IC := .reg false [⟨none, some 2, .v (.mov (.c (.int .i64 0)))⟩, ⟨none, some 3, .v (.mov (.c (.int .i64 5)))⟩]
def k_envoyref02_Read_r3 : IC := .reg false [⟨none, some 4, .v (.mov (.c (.int .i64 0)))⟩]
def k_envoyref02_Read_r5 : IC := .reg false [⟨none, some 10, .v (.mov (.t 4))⟩, ⟨none, some 11, .v (.mov (.t 0))⟩, ⟨none, some 12, .v (.len true (.t 11))⟩, ⟨none, some 13, .v (.bin .lss .no (.t 10) (.t 12))⟩]
def k_envoyref02_Read_r6 : IC := .reg false [⟨none, some 16, .v (.mov (.t 0))⟩, ⟨none, some 17, .v (.mov (.t 4))⟩, ⟨none, some 18, .v (.idx (.t 16) (.t 17))⟩, ⟨none, some 19, .v (.bin .lss .no (.t 18) (.c (.int .u8 48)))⟩, ⟨none, some 20, .v (.mov (.t 19))⟩, ⟨some (20, false), some 21, .v (.mov (.t 0))⟩, ⟨some (20, false), some 22, .v (.mov (.t 4))⟩, ⟨some (20, false), some 23, .v (.idx (.t 21) (.t 22))⟩, ⟨some (20, false), some 24, .v (.bin .gtr .no (.t 23) (.c (.int .u8 57)))⟩, ⟨none, some 25, .v (.pick (.t 20) (.c (.bool true)) (.t 24))⟩]
def k_envoyref02_Read_r7 : IC := .reg false [⟨none, some 2, .v (.mov (.c (.int .i64 0)))⟩, ⟨none, some 3, .v (.mov (.c (.int .i64 5)))⟩]
def k_envoyref02_Read_r8 : IC := .reg false [⟨none, some 14, .v (.mov (.t 4))⟩, ⟨none, some 15, .v (.bin .add .no (.t 14) (.c (.int .i64 1)))⟩, ⟨none, some 4, .v (.mov (.t 15))⟩]
def k_envoyref02_Read_l4 : IC := (.seq (.seq k_envoyref02_Read_r5 (.cond (.t 13) .skip (.exit 0))) (.seq (.block 1 (.seq k_envoyref02_Read_r6 (.cond (.t 25) (.seq k_envoyref02_Read_r7 .ret) .skip))) k_envoyref02_Read_r8))
def k_envoyref02_Read_r10 : IC := .reg false [⟨none, some 5, .v (.mov (.c (.int .i64 0)))⟩]
def k_envoyref02_Read_r11 : IC := .reg false [⟨none, some 6, .v (.mov (.c (.int .i64 0)))⟩]
def k_envoyref02_Read_r13 : IC := .reg false [⟨none, some 26, .v (.mov (.t 6))⟩, ⟨none, some 27, .v (.mov (.t 0))⟩, ⟨none, some 28, .v (.len true (.t 27))⟩, ⟨none, some 29, .v (.bin .lss .no (.t 26) (.t 28))⟩]
def k_envoyref02_Read_r14 : IC := .reg false [⟨none, some 32, .v (.mov (.t 0))⟩, ⟨none, some 33, .v (.mov (.t 6))⟩, ⟨none, some 34, .v (.idx (.t 32) (.t 33))⟩, ⟨none, some 35, .v (.bin .sub .no (.t 34) (.c (.int .u8 48)))⟩, ⟨none, some 36, .v (.cvi .i64 (.t 35))⟩, ⟨none, some 7, .v (.mov (.t 36))⟩]
def k_envoyref02_Read_r15 : IC := .reg false [⟨none, some 37, .v (.mov (.t 5))⟩, ⟨none, some 38, .v (.mov (.t 7))⟩, ⟨none, some 39, .v (.bin .sub .no (.c (.int .i64 9223372036854775807)) (.t 38))⟩, ⟨none, some 40, .v (.bin .quo .no (.t 39) (.c (.int .i64 10)))⟩, ⟨none, some 41, .v (.bin .gtr .no (.t 37) (.t 40))⟩]
def k_envoyref02_Read_r16 : IC := .reg false [⟨none, some 2, .v (.mov (.c (.int .i64 0)))⟩, ⟨none, some 3, .v (.mov (.c (.int .i64 4)))⟩]
def k_envoyref02_Read_r17 : IC := .reg false [⟨none, some 42, .v (.mov (.t 5))⟩, ⟨none, some 43, .v (.bin .mul .no (.c (.int .i64 10)) (.t 42))⟩, ⟨none, some 44, .v (.mov (.t 7))⟩, ⟨none, some 45, .v (.bin .add .no (.t 43) (.t 44))⟩, ⟨none, some 5, .v (.mov (.t 45))⟩]
def k_envoyref02_Read_r18 : IC := .reg false [⟨none, some 30, .v (.mov (.t 6))⟩, ⟨none, some 31, .v (.bin .add .no (.t 30) (.c (.int .i64 1)))⟩, ⟨none, some 6, .v (.mov (.t 31))⟩]
def k_envoyref02_Read_l12 : IC := (.seq (.seq k_envoyref02_Read_r13 (.cond (.t 29) .skip (.exit 2))) (.seq (.block 3 (.seq k_envoyref02_Read_r14 (.seq (.seq k_envoyref02_Read_r15 (.cond (.t 41) (.seq k_envoyref02_Read_r16 .ret) .skip)) k_envoyref02_Read_r17))) k_envoyref02_Read_r18))
def k_envoyref02_Read_r20 : IC := .reg false [⟨none, some 46, .v (.mov (.t 5))⟩, ⟨none, some 2, .v (.mov (.t 46))⟩, ⟨none, some 3, .v (.mov (.c (.int .i64 0)))⟩]
def k_envoyref02_Read : IC := (.seq k_envoyref02_Read_r0 (.seq (.seq k_envoyref02_Read_r1 (.cond (.t 9) (.seq k_envoyref02_Read_r2 .ret) .skip)) (.seq (.seq k_envoyref02_Read_r3 (.block 0 (.loop k_envoyref02_Read_l4))) (.seq k_envoyref02_Read_r10 (.seq (.seq k_envoyref02_Read_r11 (.block 2 (.loop k_envoyref02_Read_l12))) (.seq k_envoyref02_Read_r20 .ret))))))
@[go_sem] def s_envoyref02_Read : List (RV × Co) := [(.t 2, .id), (.t 3, .id)]
theorem c_envoyref02_Read : cFun Try.prog 64 = some (47, k_envoyref02_Read, s_envoyref02_Read) := by kernel_rfl

-- envoy/envoyref03.Small
def k_envoyref03_Small_r0 : IC := .reg false [⟨none, some 2, .v (.mov (.c (.bool false)))⟩]
def k_envoyref03_Small_r1 : IC := .reg false [⟨none, some 3, .v (.mov (.t 0))⟩, ⟨none, some 4, .v (.bin .geq .no (.t 3) (.c (.int .u8 97)))⟩, ⟨none, some 5, .v (.mov (.t 4))⟩, ⟨some (5, true), some 6, .v (.mov (.t 0))⟩, ⟨some (5, true), some 7, .v (.bin .leq .no (.t 6) (.c (.int .u8 122)))⟩, ⟨none, some 8, .v (.pick (.t 5) (.t 7) (.c (.bool false)))⟩, ⟨none, some 9, .v (.mov (.t 8))⟩, ⟨some (9, false), some 10, .v (.mov (.t 0))⟩, ⟨some (9, false), some 11, .v (.bin .eql .no (.t 10) (.c (.int .u8 95)))⟩, ⟨none, some 12, .v (.pick (.t 9) (.c (.bool true)) (.t 11))⟩, ⟨none, some 2, .v (.mov (.t 12))⟩]
def k_envoyref03_Small : IC := (.seq k_envoyref03_Small_r0 (.seq k_envoyref03_Small_r1 .ret))
@[go_sem] def s_envoyref03_Small : List (RV × Co) := [(.t 2, .id)]
theorem c_envoyref03_Small : cFun Try.prog 65 = some (13, k_envoyref03_Small, s_envoyref03_Small) := by kernel_rfl

-- envoy/envoyref03.Great
def k_envoyref03_Great_r0 : IC := .reg false [⟨none, some 2, .v (.mov (.c (.bool false)))⟩]
def k_envoyref03_Great_r1 : IC := .reg false [⟨none, some 3, .v (.mov (.t 0))⟩, ⟨none, some 4, .v (.bin .geq .no (.t 3) (.c (.int .u8 65)))⟩, ⟨none, some 5, .v (.mov (.t 4))⟩, ⟨some (5, true), some 6, .v (.mov (.t 0))⟩, ⟨some (5, true), some 7, .v (.bin .leq .no (.t 6) (.c (.int .u8 90)))⟩, ⟨none, some 8, .v (.pick (.t 5) (.t 7) (.c (.bool false)))⟩, ⟨none, some 2, .v (.mov (.t 8))⟩]
def k_envoyref03_Great : IC := (.seq k_envoyref03_Great_r0 (.seq k_envoyref03_Great_r1 .ret))
@[go_sem] def s_envoyref03_Great : List (RV × Co) := [(.t 2, .id)]
theorem c_envoyref03_Great : cFun Try.prog 66 = some (9, k_envoyref03_Great, s_envoyref03_Great) := by kernel_rfl

-- envoy/envoyref03.On
def k_envoyref03_On_r0 : IC := .reg false [⟨none, some 2, .v (.mov (.c (.bool false)))⟩]
def k_envoyref03_On_r1 : IC := .reg false [⟨none, some 3, .v (.mov (.t 0))⟩, ⟨none, some 4, .call (.c (.fn 65 [] [])) [((.t 3), .id)]⟩, ⟨none, some 5, .v (.mov (.t 4))⟩, ⟨some (5, false), some 6, .v (.mov (.t 0))⟩, ⟨some (5, false), some 7, .call (.c (.fn 66 [] [])) [((.t 6), .id)]⟩, ⟨none, some 8, .v (.pick (.t 5) (.c (.bool true)) (.t 7))⟩, ⟨none, some 9, .v (.mov (.t 8))⟩, ⟨some (9, false), some 10, .v (.mov (.t 0))⟩, ⟨some (9, false), some 11, .call (.c (.fn 63 [] [])) [((.t 10), .id)]⟩, ⟨none, some 12, .v (.pick (.t 9) (.c (.bool true)) (.t 11))⟩, ⟨none, some 13, .v (.mov (.t 12))⟩, ⟨some (13, false), some 14, .v (.mov (.t 0))⟩, ⟨some (13, false), some 15, .v (.bin .eql .no (.t 14) (.c (.int .u8 39)))⟩, ⟨none, some 16, .v (.pick (.t 13) (.c (.bool true)) (.t 15))⟩, ⟨none, some 2, .v (.mov (.t 16))⟩]
def k_envoyref03_On : IC := (.seq k_envoyref03_On_r0 (.seq k_envoyref03_On_r1 .ret))
@[go_sem] def s_envoyref03_On : List (RV × Co) := [(.t 2, .id)]
theorem c_envoyref03_On : cFun Try.prog 67 = some (17, k_envoyref03_On, s_envoyref03_On) := by kernel_rfl

-- envoy/envoyref03.Reserved
def k_envoyref03_Reserved_r0 : IC := .reg false [⟨none, some 2, .v (.mov (.c (.bool false)))⟩]
def k_envoyref03_Reserved_r1 : IC := .reg false [⟨none, some 3, .v (.mov (.t 0))⟩]
def k_envoyref03_Reserved_r2 : IC := .reg false [⟨none, some 5, .v (.bin .eql .no (.t 3) (.c (.str [100, 97, 116, 97])))⟩, ⟨none, some 4, .v (.mov (.t 5))⟩]
def k_envoyref03_Reserved_r3 : IC := .reg false [⟨none, some 6, .v (.bin .eql .no (.t 3) (.c (.str [99, 108, 97, 115, 115])))⟩, ⟨none, some 4, .v (.mov (.t 6))⟩]
def k_envoyref03_Reserved_r4 : IC := .reg false [⟨none, some 7, .v (.bin .eql .no (.t 3) (.c (.str [105, 110, 115, 116, 97, 110, 99, 101])))⟩, ⟨none, some 4, .v (.mov (.t 7))⟩]
def k_envoyref03_Reserved_r5 : IC := .reg false [⟨none, some 8, .v (.bin .eql .no (.t 3) (.c (.str [119, 104, 101, 114, 101])))⟩, ⟨none, some 4, .v (.mov (.t 8))⟩]
def k_envoyref03_Reserved_r6 : IC := .reg false [⟨none, some 9, .v (.bin .eql .no (.t 3) (.c (.str [108, 101, 116])))⟩, ⟨none, some 4, .v (.mov (.t 9))⟩]
def k_envoyref03_Reserved_r7 : IC := .reg false [⟨none, some 10, .v (.bin .eql .no (.t 3) (.c (.str [105, 110])))⟩, ⟨none, some 4, .v (.mov (.t 10))⟩]
def k_envoyref03_Reserved_r8 : IC := .reg false [⟨none, some 11, .v (.bin .eql .no (.t 3) (.c (.str [99, 97, 115, 101])))⟩, ⟨none, some 4, .v (.mov (.t 11))⟩]
def k_envoyref03_Reserved_r9 : IC := .reg false [⟨none, some 12, .v (.bin .eql .no (.t 3) (.c (.str [111, 102])))⟩, ⟨none, some 4, .v (.mov (.t 12))⟩]
def k_envoyref03_Reserved_r10 : IC := .reg false [⟨none, some 13, .v (.bin .eql .no (.t 3) (.c (.str [105, 102])))⟩, ⟨none, some 4, .v (.mov (.t 13))⟩]
def k_envoyref03_Reserved_r11 : IC := .reg false [⟨none, some 14, .v (.bin .eql .no (.t 3) (.c (.str [116, 104, 101, 110])))⟩, ⟨none, some 4, .v (.mov (.t 14))⟩]
def k_envoyref03_Reserved_r12 : IC := .reg false [⟨none, some 15, .v (.bin .eql .no (.t 3) (.c (.str [101, 108, 115, 101])))⟩, ⟨none, some 4, .v (.mov (.t 15))⟩]
def k_envoyref03_Reserved_r13 : IC := .reg false [⟨none, some 2, .v (.mov (.c (.bool true)))⟩]
def k_envoyref03_Reserved_r14 : IC := .reg false [⟨none, some 2, .v (.mov (.c (.bool false)))⟩]
def k_envoyref03_Reserved : IC := (.seq k_envoyref03_Reserved_r0 (.seq (.seq k_envoyref03_Reserved_r1 (.block 0 (.seq (.seq k_envoyref03_Reserved_r2 (.cond (.t 4) .skip (.seq k_envoyref03_Reserved_r3 (.cond (.t 4) .skip (.seq k_envoyref03_Reserved_r4 (.cond (.t 4) .skip (.seq k_envoyref03_Reserved_r5 (.cond (.t 4) .skip (.seq k_envoyref03_Reserved_r6 (.cond (.t 4) .skip (.seq k_envoyref03_Reserved_r7 (.cond (.t 4) .skip (.seq k_envoyref03_Reserved_r8 (.cond (.t 4) .skip (.seq k_envoyref03_Reserved_r9 (.cond (.t 4) .skip (.seq k_envoyref03_Reserved_r10 (.cond (.t 4) .skip (.seq k_envoyref03_Reserved_r11 (.cond (.t 4) .skip k_envoyref03_Reserved_r12)))))))))))))))))))) (.cond (.t 4) (.seq k_envoyref03_Reserved_r13 .ret) .skip)))) (.seq k_envoyref03_Reserved_r14 .ret)))
@[go_sem] def s_envoyref03_Reserved : List (RV × Co) := [(.t 2, .id)]
theorem c_envoyref03_Reserved : cFun Try.prog 68 = some (16, k_envoyref03_Reserved, s_envoyref03_Reserved) := by kernel_rfl

-- envoy/envoyref04.mark
def k_envoyref04_mark_r0 : IC := .reg false [⟨none, some 2, .v (.mov (.c (.str [])))⟩]
def k_envoyref04_mark_r1 : IC := .reg false [⟨none, some 3, .v (.mov (.t 0))⟩, ⟨none, some 4, .v (.len true (.t 3))⟩, ⟨none, some 5, .v (.bin .geq .no (.t 4) (.c (.int .i64 2)))⟩]
def k_envoyref04_mark_r2 : IC := .reg false [⟨none, some 6, .v (.mov (.t 0))⟩, ⟨none, some 7, .v (.sls (.t 6) none (some (.c (.int .i64 2))))⟩]
def k_envoyref04_mark_r3 : IC := .reg false [⟨none, some 9, .v (.bin .eql .no (.t 7) (.c (.str [45, 62])))⟩, ⟨none, some 8, .v (.mov (.t 9))⟩]
def k_envoyref04_mark_r4 : IC := .reg false [⟨none, some 10, .v (.bin .eql .no (.t 7) (.c (.str [61, 62])))⟩, ⟨none, some 8, .v (.mov (.t 10))⟩]
def k_envoyref04_mark_r5 : IC := .reg false [⟨none, some 11, .v (.bin .eql .no (.t 7) (.c (.str [58, 58])))⟩, ⟨none, some 8, .v (.mov (.t 11))⟩]
def k_envoyref04_mark_r6 : IC := .reg false [⟨none, some 12, .v (.mov (.t 0))⟩, ⟨none, some 13, .v (.sls (.t 12) none (some (.c (.int .i64 2))))⟩, ⟨none, some 2, .v (.mov (.t 13))⟩]
def k_envoyref04_mark_r7 : IC := .reg false [⟨none, some 14, .v (.mov (.t 0))⟩, ⟨none, some 15, .v (.idx (.t 14) (.c (.int .i64 0)))⟩]
def k_envoyref04_mark_r8 : IC := .reg false [⟨none, some 17, .v (.bin .eql .no (.t 15) (.c (.int .u8 40)))⟩, ⟨none, some 16, .v (.mov (.t 17))⟩]
def k_envoyref04_mark_r9 : IC := .reg false [⟨none, some 18, .v (.bin .eql .no (.t 15) (.c (.int .u8 41)))⟩, ⟨none, some 16, .v (.mov (.t 18))⟩]
def k_envoyref04_mark_r10 : IC := .reg false [⟨none, some 19, .v (.bin .eql .no (.t 15) (.c (.int .u8 123)))⟩, ⟨none, some 16, .v (.mov (.t 19))⟩]
def k_envoyref04_mark_r11 : IC := .reg false [⟨none, some 20, .v (.bin .eql .no (.t 15) (.c (.int .u8 125)))⟩, ⟨none, some 16, .v (.mov (.t 20))⟩]
def k_envoyref04_mark_r12 : IC := .reg false [⟨none, some 21, .v (.bin .eql .no (.t 15) (.c (.int .u8 59)))⟩, ⟨none, some 16, .v (.mov (.t 21))⟩]
def k_envoyref04_mark_r13 : IC := .reg false [⟨none, some 22, .v (.bin .eql .no (.t 15) (.c (.int .u8 44)))⟩, ⟨none, some 16, .v (.mov (.t 22))⟩]
def k_envoyref04_mark_r14 : IC := .reg false [⟨none, some 23, .v (.bin .eql .no (.t 15) (.c (.int .u8 61)))⟩, ⟨none, some 16, .v (.mov (.t 23))⟩]
def k_envoyref04_mark_r15 : IC := .reg false [⟨none, some 24, .v (.bin .eql .no (.t 15) (.c (.int .u8 124)))⟩, ⟨none, some 16, .v (.mov (.t 24))⟩]
def k_envoyref04_mark_r16 : IC := .reg false [⟨none, some 25, .v (.bin .eql .no (.t 15) (.c (.int .u8 92)))⟩, ⟨none, some 16, .v (.mov (.t 25))⟩]
def k_envoyref04_mark_r17 : IC := .reg false [⟨none, some 26, .v (.mov (.t 0))⟩, ⟨none, some 27, .v (.sls (.t 26) none (some (.c (.int .i64 1))))⟩, ⟨none, some 2, .v (.mov (.t 27))⟩]
def k_envoyref04_mark_r18 : IC := .reg false [⟨none, some 2, .v (.mov (.c (.str [])))⟩]
def k_envoyref04_mark : IC := (.seq k_envoyref04_mark_r0 (.seq (.seq k_envoyref04_mark_r1 (.cond (.t 5) (.seq k_envoyref04_mark_r2 (.block 0 (.seq (.seq k_envoyref04_mark_r3 (.cond (.t 8) .skip (.seq k_envoyref04_mark_r4 (.cond (.t 8) .skip k_envoyref04_mark_r5)))) (.cond (.t 8) (.seq k_envoyref04_mark_r6 .ret) .skip)))) .skip)) (.seq (.seq k_envoyref04_mark_r7 (.block 1 (.seq (.seq k_envoyref04_mark_r8 (.cond (.t 16) .skip (.seq k_envoyref04_mark_r9 (.cond (.t 16) .skip (.seq k_envoyref04_mark_r10 (.cond (.t 16) .skip (.seq k_envoyref04_mark_r11 (.cond (.t 16) .skip (.seq k_envoyref04_mark_r12 (.cond (.t 16) .skip (.seq k_envoyref04_mark_r13 (.cond (.t 16) .skip (.seq k_envoyref04_mark_r14 (.cond (.t 16) .skip (.seq k_envoyref04_mark_r15 (.cond (.t 16) .skip k_envoyref04_mark_r16)))))))))))))))) (.cond (.t 16) (.seq k_envoyref04_mark_r17 .ret) .skip)))) (.seq k_envoyref04_mark_r18 .ret))))
@[go_sem] def s_envoyref04_mark : List (RV × Co) := [(.t 2, .id)]
theorem c_envoyref04_mark : cFun Try.prog 69 = some (28, k_envoyref04_mark, s_envoyref04_mark) := by kernel_rfl

-- envoy/envoyref05.Fail
def k_envoyref05_Fail_r0 : IC := .reg false [⟨none, some 2, .box (.t 0)⟩, ⟨none, some 4, .alo [.nils, (.int .i64 0), (.int .i64 0), (.int .i64 0), (.str []), (.int .i64 0), (.int .i64 0), (.int .i64 0)]⟩]
def k_envoyref05_Fail_r1 : IC := .reg false [⟨none, some 6, .v (.fad (.t 2) 6)⟩, ⟨none, some 7, .v (.ld false 1 (.t 6))⟩, ⟨none, some 8, .v (.bin .neq .no (.t 7) (.c (.int .i64 0)))⟩]
def k_envoyref05_Fail_r2 : IC := .reg false [⟨none, some 9, .v (.ld true 8 (.t 2))⟩, ⟨none, none, .st 8 (.agg [(.sl 4), .id, .id, .id, .id, .id, .id, .id]) (.t 4) (.t 9)⟩]
def k_envoyref05_Fail_r3 : IC := .reg false [⟨none, some 10, .v (.ld true 8 (.t 2))⟩, ⟨none, some 11, .call (.c (.fn 40 [] [])) [((.t 10), (.agg [(.sl 4), .id, .id, .id, .id, .id, .id, .id]))]⟩, ⟨none, some 12, .v (.fld false 1 1 (.t 11))⟩, ⟨none, some 5, .v (.mov (.t 12))⟩]
def k_envoyref05_Fail_r4 : IC := .reg false [⟨none, some 13, .v (.mov (.t 1))⟩, ⟨none, some 14, .v (.bin .eql .no (.t 13) (.c (.int .i64 0)))⟩]
def k_envoyref05_Fail_r5 : IC := .reg false [⟨none, some 1, .v (.mov (.c (.int .i64 1)))⟩]
def k_envoyref05_Fail_r6 : IC := .reg false [⟨none, some 15, .v (.mov (.t 1))⟩, ⟨none, some 16, .v (.fad (.t 2) 6)⟩, ⟨none, none, .st 1 .id (.t 16) (.t 15)⟩]
def k_envoyref05_Fail_r7 : IC := .reg false [⟨none, some 17, .v (.mov (.t 5))⟩, ⟨none, some 18, .v (.fad (.t 2) 7)⟩, ⟨none, none, .st 1 .id (.t 18) (.t 17)⟩]
def k_envoyref05_Fail_r8 : IC := .reg false [⟨none, some 19, .v (.ld true 8 (.t 2))⟩, ⟨none, none, .st 8 (.agg [(.sl 4), .id, .id, .id, .id, .id, .id, .id]) (.t 4) (.t 19)⟩]
def k_envoyref05_Fail : IC := (.seq k_envoyref05_Fail_r0 (.seq (.seq k_envoyref05_Fail_r1 (.cond (.t 8) (.seq k_envoyref05_Fail_r2 .ret) .skip)) (.seq k_envoyref05_Fail_r3 (.seq (.seq k_envoyref05_Fail_r4 (.cond (.t 14) k_envoyref05_Fail_r5 .skip)) (.seq k_envoyref05_Fail_r6 (.seq k_envoyref05_Fail_r7 (.seq k_envoyref05_Fail_r8 .ret)))))))
@[go_sem] def s_envoyref05_Fail : List (RV × Co) := [(.c true 8 4, (.agg [(.sl 4), .id, .id, .id, .id, .id, .id, .id]))]
theorem c_envoyref05_Fail : cFun Try.prog 70 = some (20, k_envoyref05_Fail, s_envoyref05_Fail) := by kernel_rfl

-- envoy/envoyref05.Is
def k_envoyref05_Is_r0 : IC := .reg false [⟨none, some 2, .box (.t 0)⟩, ⟨none, some 4, .v (.mov (.c (.bool false)))⟩]
def k_envoyref05_Is_r1 : IC := .reg false [⟨none, some 5, .v (.fad (.t 2) 6)⟩, ⟨none, some 6, .v (.ld false 1 (.t 5))⟩, ⟨none, some 7, .v (.bin .eql .no (.t 6) (.c (.int .i64 0)))⟩, ⟨none, some 8, .v (.mov (.t 7))⟩, ⟨some (8, true), some 9, .v (.ld true 8 (.t 2))⟩, ⟨some (8, true), some 10, .call (.c (.fn 40 [] [])) [((.t 9), (.agg [(.sl 4), .id, .id, .id, .id, .id, .id, .id]))]⟩, ⟨some (8, true), some 11, .v (.mov (.t 1))⟩, ⟨some (8, true), some 12, .call (.c (.fn 88 [] [])) [((.t 10), .id), ((.t 11), .id)]⟩, ⟨none, some 13, .v (.pick (.t 8) (.t 12) (.c (.bool false)))⟩, ⟨none, some 4, .v (.mov (.t 13))⟩]
def k_envoyref05_Is : IC := (.seq k_envoyref05_Is_r0 (.seq k_envoyref05_Is_r1 .ret))
@[go_sem] def s_envoyref05_Is : List (RV × Co) := [(.t 4, .id)]
theorem c_envoyref05_Is : cFun Try.prog 71 = some (14, k_envoyref05_Is, s_envoyref05_Is) := by kernel_rfl

-- envoy/envoyref05.Want
def k_envoyref05_Want_r0 : IC := .reg false [⟨none, some 2, .box (.t 0)⟩, ⟨none, some 4, .alo [.nils, (.int .i64 0), (.int .i64 0), (.int .i64 0), (.str []), (.int .i64 0), (.int .i64 0), (.int .i64 0)]⟩, ⟨none, some 5, .v (.mov (.c (.bool false)))⟩]
def k_envoyref05_Want_r1 : IC := .reg false [⟨none, some 9, .v (.ld true 8 (.t 2))⟩, ⟨none, some 10, .v (.mov (.t 1))⟩, ⟨none, some 11, .call (.c (.fn 89 [] [])) [((.t 9), (.agg [(.sl 4), .id, .id, .id, .id, .id, .id, .id])), ((.t 10), .id)]⟩, ⟨none, some 8, .v (.mov (.t 11))⟩, ⟨none, some 12, .v (.ext (.t 8) 0)⟩, ⟨none, some 13, .v (.ext (.t 8) 1)⟩, ⟨none, some 6, .alo [.nils, (.int .i64 0), (.int .i64 0), (.int .i64 0), (.str []), (.int .i64 0), (.int .i64 0), (.int .i64 0)]⟩, ⟨none, none, .st 8 (.agg [(.sl 4), .id, .id, .id, .id, .id, .id, .id]) (.t 6) (.t 12)⟩, ⟨none, some 7, .v (.mov (.t 13))⟩]
def k_envoyref05_Want_r2 : IC := .reg false [⟨none, some 14, .v (.mov (.t 7))⟩, ⟨none, some 15, .v (.un .not (.t 14))⟩]
def k_envoyref05_Want_r3 : IC := .reg false [⟨none, some 16, .v (.ld true 8 (.t 2))⟩, ⟨none, some 17, .call (.c (.fn 70 [] [])) [((.t 16), (.agg [(.sl 4), .id, .id, .id, .id, .id, .id, .id])), ((.c (.int .i64 5)), .id)]⟩, ⟨none, none, .st 8 (.agg [(.sl 4), .id, .id, .id, .id, .id, .id, .id]) (.t 4) (.t 17)⟩, ⟨none, some 5, .v (.mov (.c (.bool false)))⟩]
def k_envoyref05_Want_r4 : IC := .reg false [⟨none, some 18, .v (.ld true 8 (.t 6))⟩, ⟨none, none, .st 8 (.agg [(.sl 4), .id, .id, .id, .id, .id, .id, .id]) (.t 4) (.t 18)⟩, ⟨none, some 5, .v (.mov (.c (.bool true)))⟩]
def k_envoyref05_Want : IC := (.seq k_envoyref05_Want_r0 (.seq k_envoyref05_Want_r1 (.seq (.seq k_envoyref05_Want_r2 (.cond (.t 15) (.seq k_envoyref05_Want_r3 .ret) .skip)) (.seq k_envoyref05_Want_r4 .ret))))
@[go_sem] def s_envoyref05_Want : List (RV × Co) := [(.c true 8 4, (.agg [(.sl 4), .id, .id, .id, .id, .id, .id, .id])), (.t 5, .id)]
theorem c_envoyref05_Want : cFun Try.prog 72 = some (19, k_envoyref05_Want, s_envoyref05_Want) := by kernel_rfl

-- envoy/names.small
def k_names_small_r0 : IC := .reg false [⟨none, some 2, .v (.mov (.c (.bool false)))⟩]
def k_names_small_r1 : IC := .reg false [⟨none, some 3, .v (.mov (.t 0))⟩, ⟨none, some 4, .v (.bin .geq .no (.t 3) (.c (.int .u8 97)))⟩, ⟨none, some 5, .v (.mov (.t 4))⟩, ⟨some (5, true), some 6, .v (.mov (.t 0))⟩, ⟨some (5, true), some 7, .v (.bin .leq .no (.t 6) (.c (.int .u8 122)))⟩, ⟨none, some 8, .v (.pick (.t 5) (.t 7) (.c (.bool false)))⟩, ⟨none, some 9, .v (.mov (.t 8))⟩, ⟨some (9, false), some 10, .v (.mov (.t 0))⟩, ⟨some (9, false), some 11, .v (.bin .eql .no (.t 10) (.c (.int .u8 95)))⟩, ⟨none, some 12, .v (.pick (.t 9) (.c (.bool true)) (.t 11))⟩, ⟨none, some 2, .v (.mov (.t 12))⟩]
def k_names_small : IC := (.seq k_names_small_r0 (.seq k_names_small_r1 .ret))
@[go_sem] def s_names_small : List (RV × Co) := [(.t 2, .id)]
theorem c_names_small : cFun Try.prog 73 = some (13, k_names_small, s_names_small) := by kernel_rfl

-- envoy/names.goes
def k_names_goes_r0 : IC := .reg false [⟨none, some 2, .v (.mov (.c (.bool false)))⟩]
def k_names_goes_r1 : IC := .reg false [⟨none, some 5, .v (.mov (.t 0))⟩, ⟨none, some 6, .v (.len true (.t 5))⟩, ⟨none, some 7, .v (.mov (.c (.int .i64 0)))⟩]
def k_names_goes_r3 : IC := .reg false [⟨none, some 8, .v (.bin .lss .no (.t 7) (.t 6))⟩]
def k_names_goes_r4 : IC := .reg false [⟨none, some 9, .v (.mov (.t 7))⟩, ⟨none, some 3, .v (.mov (.t 9))⟩]
def k_names_goes_r5 : IC := .reg false [⟨none, some 10, .v (.mov (.t 0))⟩, ⟨none, some 11, .v (.mov (.t 3))⟩, ⟨none, some 12, .v (.idx (.t 10) (.t 11))⟩, ⟨none, some 4, .v (.mov (.t 12))⟩]
def k_names_goes_r6 : IC := .reg false [⟨none, some 13, .v (.mov (.t 4))⟩, ⟨none, some 14, .call (.c (.fn 73 [] [])) [((.t 13), .id)]⟩, ⟨none, some 15, .v (.un .not (.t 14))⟩, ⟨none, some 16, .v (.mov (.t 15))⟩, ⟨some (16, true), some 17, .v (.mov (.t 4))⟩, ⟨some (16, true), some 18, .call (.c (.fn 76 [] [])) [((.t 17), .id)]⟩, ⟨some (16, true), some 19, .v (.un .not (.t 18))⟩, ⟨none, some 20, .v (.pick (.t 16) (.t 19) (.c (.bool false)))⟩, ⟨none, some 21, .v (.mov (.t 20))⟩, ⟨some (21, true), some 22, .v (.mov (.t 4))⟩, ⟨some (21, true), some 23, .v (.bin .lss .no (.t 22) (.c (.int .u8 48)))⟩, ⟨some (21, true), some 24, .v (.mov (.t 23))⟩, ⟨some (24, false), some 25, .v (.mov (.t 4))⟩, ⟨some (24, false), some 26, .v (.bin .gtr .no (.t 25) (.c (.int .u8 57)))⟩, ⟨some (21, true), some 27, .v (.pick (.t 24) (.c (.bool true)) (.t 26))⟩, ⟨none, some 28, .v (.pick (.t 21) (.t 27) (.c (.bool false)))⟩, ⟨none, some 29, .v (.mov (.t 28))⟩, ⟨some (29, true), some 30, .v (.mov (.t 4))⟩, ⟨some (29, true), some 31, .v (.bin .neq .no (.t 30) (.c (.int .u8 39)))⟩, ⟨none, some 32, .v (.pick (.t 29) (.t 31) (.c (.bool false)))⟩]
def k_names_goes_r7 : IC := .reg false [⟨none, some 2, .v (.mov (.c (.bool false)))⟩]
def k_names_goes_r8 : IC := .reg false [⟨none, some 33, .v (.bin .add .no (.t 7) (.c (.int .i64 1)))⟩, ⟨none, some 7, .v (.mov (.t 33))⟩]
def k_names_goes_l2 : IC := (.seq k_names_goes_r3 (.seq (.cond (.t 8) .skip (.exit 0)) (.seq (.block 1 (.seq k_names_goes_r4 (.seq k_names_goes_r5 (.seq k_names_goes_r6 (.cond (.t 32) (.seq k_names_goes_r7 .ret) .skip))))) k_names_goes_r8)))
def k_names_goes_r10 : IC := .reg false [⟨none, some 2, .v (.mov (.c (.bool true)))⟩]
def k_names_goes : IC := (.seq k_names_goes_r0 (.seq (.seq k_names_goes_r1 (.block 0 (.loop k_names_goes_l2))) (.seq k_names_goes_r10 .ret)))
@[go_sem] def s_names_goes : List (RV × Co) := [(.t 2, .id)]
theorem c_names_goes : cFun Try.prog 74 = some (34, k_names_goes, s_names_goes) := by kernel_rfl

-- envoy/names.Reserved
def k_names_Reserved_r0 : IC := .reg false [⟨none, some 2, .v (.mov (.c (.bool false)))⟩]
def k_names_Reserved_r1 : IC := .reg false [⟨none, some 3, .v (.mov (.c (.bool false)))⟩]
def k_names_Reserved_r2 : IC := .reg false [⟨none, some 6, .v (.bld [(.str []), (.str []), (.str []), (.str []), (.str []), (.str []), (.str []), (.str []), (.str []), (.str []), (.str [])] [(0, 1, (.c (.str [100, 97, 116, 97]))), (1, 1, (.c (.str [99, 108, 97, 115, 115]))), (2, 1, (.c (.str [105, 110, 115, 116, 97, 110, 99, 101]))), (3, 1, (.c (.str [119, 104, 101, 114, 101]))), (4, 1, (.c (.str [108, 101, 116]))), (5, 1, (.c (.str [105, 110]))), (6, 1, (.c (.str [99, 97, 115, 101]))), (7, 1, (.c (.str [111, 102]))), (8, 1, (.c (.str [105, 102]))), (9, 1, (.c (.str [116, 104, 101, 110]))), (10, 1, (.c (.str [101, 108, 115, 101])))])⟩, ⟨none, some 7, .v (.mov (.c (.int .i64 0)))⟩]
def k_names_Reserved_r4 : IC := .reg false [⟨none, some 8, .v (.bin .lss .no (.t 7) (.c (.int .i64 11)))⟩]
def k_names_Reserved_r5 : IC := .reg false [⟨none, some 9, .v (.ida false 1 11 (.t 6) (.t 7))⟩, ⟨none, some 5, .v (.mov (.t 9))⟩]
def k_names_Reserved_r6 : IC := .reg false [⟨none, some 10, .v (.mov (.t 5))⟩, ⟨none, some 11, .v (.mov (.t 0))⟩, ⟨none, some 12, .v (.bin .neq .no (.t 10) (.t 11))⟩]
def k_names_Reserved_r7 : IC := .reg false [⟨none, some 3, .v (.mov (.c (.bool true)))⟩]
def k_names_Reserved_r8 : IC := .reg false [⟨none, some 13, .v (.bin .add .no (.t 7) (.c (.int .i64 1)))⟩, ⟨none, some 7, .v (.mov (.t 13))⟩]
def k_names_Reserved_l3 : IC := (.seq k_names_Reserved_r4 (.seq (.cond (.t 8) .skip (.exit 0)) (.seq (.block 1 (.seq k_names_Reserved_r5 (.seq (.seq k_names_Reserved_r6 (.cond (.t 12) (.exit 1) .skip)) (.seq k_names_Reserved_r7 (.exit 0))))) k_names_Reserved_r8)))
def k_names_Reserved_r10 : IC := .reg false [⟨none, some 14, .v (.mov (.t 3))⟩, ⟨none, some 2, .v (.mov (.t 14))⟩]
def k_names_Reserved : IC := (.seq k_names_Reserved_r0 (.scope (.seq k_names_Reserved_r1 (.seq (.label 0) (.seq (.seq k_names_Reserved_r2 (.block 0 (.loop k_names_Reserved_l3))) (.seq k_names_Reserved_r10 .ret))))))
@[go_sem] def s_names_Reserved : List (RV × Co) := [(.t 2, .id)]
theorem c_names_Reserved : cFun Try.prog 75 = some (15, k_names_Reserved, s_names_Reserved) := by kernel_rfl

-- envoy/names.great
def k_names_great_r0 : IC := .reg false [⟨none, some 2, .v (.mov (.c (.bool false)))⟩]
def k_names_great_r1 : IC := .reg false [⟨none, some 3, .v (.mov (.t 0))⟩, ⟨none, some 4, .v (.bin .geq .no (.t 3) (.c (.int .u8 65)))⟩, ⟨none, some 5, .v (.mov (.t 4))⟩, ⟨some (5, true), some 6, .v (.mov (.t 0))⟩, ⟨some (5, true), some 7, .v (.bin .leq .no (.t 6) (.c (.int .u8 90)))⟩, ⟨none, some 8, .v (.pick (.t 5) (.t 7) (.c (.bool false)))⟩, ⟨none, some 2, .v (.mov (.t 8))⟩]
def k_names_great : IC := (.seq k_names_great_r0 (.seq k_names_great_r1 .ret))
@[go_sem] def s_names_great : List (RV × Co) := [(.t 2, .id)]
theorem c_names_great : cFun Try.prog 76 = some (9, k_names_great, s_names_great) := by kernel_rfl

-- envoy/lexer.while
def k_lexer_while_r0 : IC := .reg false [⟨none, some 4, .v (.mov (.c (.int .i64 0)))⟩]
def k_lexer_while_r1 : IC := .reg false [⟨none, some 6, .v (.mov (.t 0))⟩, ⟨none, some 7, .v (.len true (.t 6))⟩, ⟨none, some 8, .v (.mov (.c (.int .i64 0)))⟩]
def k_lexer_while_r3 : IC := .reg false [⟨none, some 9, .v (.bin .lss .no (.t 8) (.t 7))⟩]
def k_lexer_while_r4 : IC := .reg false [⟨none, some 10, .v (.mov (.t 8))⟩, ⟨none, some 5, .v (.mov (.t 10))⟩]
def k_lexer_while_r5 : IC := .reg false [⟨none, some 11, .v (.mov (.t 1))⟩, ⟨none, some 12, .v (.mov (.t 0))⟩, ⟨none, some 13, .v (.mov (.t 5))⟩, ⟨none, some 14, .v (.idx (.t 12) (.t 13))⟩, ⟨none, some 15, .call (.t 11) [((.t 14), .id)]⟩, ⟨none, some 16, .v (.un .not (.t 15))⟩]
def k_lexer_while_r6 : IC := .reg false [⟨none, some 17, .v (.mov (.t 5))⟩, ⟨none, some 4, .v (.mov (.t 17))⟩]
def k_lexer_while_r7 : IC := .reg false [⟨none, some 18, .v (.bin .add .no (.t 8) (.c (.int .i64 1)))⟩, ⟨none, some 8, .v (.mov (.t 18))⟩]
def k_lexer_while_l2 : IC := (.seq k_lexer_while_r3 (.seq (.cond (.t 9) .skip (.exit 0)) (.seq (.block 1 (.seq k_lexer_while_r4 (.seq k_lexer_while_r5 (.cond (.t 16) (.seq k_lexer_while_r6 .ret) .skip)))) k_lexer_while_r7)))
def k_lexer_while_r9 : IC := .reg false [⟨none, some 19, .v (.mov (.t 0))⟩, ⟨none, some 20, .v (.len true (.t 19))⟩, ⟨none, some 4, .v (.mov (.t 20))⟩]
def k_lexer_while : IC := (.seq k_lexer_while_r0 (.seq (.seq k_lexer_while_r1 (.block 0 (.loop k_lexer_while_l2))) (.seq k_lexer_while_r9 .ret)))
@[go_sem] def s_lexer_while : List (RV × Co) := [(.t 4, .id)]
theorem c_lexer_while : cFun Try.prog 77 = some (21, k_lexer_while, s_lexer_while) := by kernel_rfl

-- envoy/lexer.blank
def k_lexer_blank_r0 : IC := .reg false [⟨none, some 2, .v (.mov (.c (.bool false)))⟩]
def k_lexer_blank_r1 : IC := .reg false [⟨none, some 3, .v (.mov (.t 0))⟩, ⟨none, some 4, .v (.bin .eql .no (.t 3) (.c (.int .u8 9)))⟩, ⟨none, some 5, .v (.mov (.t 4))⟩, ⟨some (5, false), some 6, .v (.mov (.t 0))⟩, ⟨some (5, false), some 7, .v (.bin .eql .no (.t 6) (.c (.int .u8 10)))⟩, ⟨none, some 8, .v (.pick (.t 5) (.c (.bool true)) (.t 7))⟩, ⟨none, some 9, .v (.mov (.t 8))⟩, ⟨some (9, false), some 10, .v (.mov (.t 0))⟩, ⟨some (9, false), some 11, .v (.bin .eql .no (.t 10) (.c (.int .u8 13)))⟩, ⟨none, some 12, .v (.pick (.t 9) (.c (.bool true)) (.t 11))⟩, ⟨none, some 13, .v (.mov (.t 12))⟩, ⟨some (13, false), some 14, .v (.mov (.t 0))⟩, ⟨some (13, false), some 15, .v (.bin .eql .no (.t 14) (.c (.int .u8 32)))⟩, ⟨none, some 16, .v (.pick (.t 13) (.c (.bool true)) (.t 15))⟩, ⟨none, some 2, .v (.mov (.t 16))⟩]
def k_lexer_blank : IC := (.seq k_lexer_blank_r0 (.seq k_lexer_blank_r1 .ret))
@[go_sem] def s_lexer_blank : List (RV × Co) := [(.t 2, .id)]
theorem c_lexer_blank : cFun Try.prog 78 = some (17, k_lexer_blank, s_lexer_blank) := by kernel_rfl

-- strings.HasPrefix
def k_strings_HasPrefix_r0 : IC := .reg false [⟨none, some 4, .v (.mov (.c (.bool false)))⟩]
def k_strings_HasPrefix_r1 : IC := .reg false [⟨none, some 5, .v (.mov (.t 0))⟩, ⟨none, some 6, .v (.mov (.t 1))⟩, ⟨none, some 7, .call (.c (.fn 90 [] [])) [((.t 5), .id), ((.t 6), .id)]⟩, ⟨none, some 4, .v (.mov (.t 7))⟩]
def k_strings_HasPrefix : IC := (.seq k_strings_HasPrefix_r0 (.seq k_strings_HasPrefix_r1 .ret))
@[go_sem] def s_strings_HasPrefix : List (RV × Co) := [(.t 4, .id)]
theorem c_strings_HasPrefix : cFun Try.prog 79 = some (8, k_strings_HasPrefix, s_strings_HasPrefix) := by kernel_rfl

-- envoy/lexer.skip$1
def k_lexer_skip_1_r0 : IC := .reg false [⟨none, some 2, .v (.mov (.c (.bool false)))⟩]
def k_lexer_skip_1_r1 : IC := .reg false [⟨none, some 3, .v (.mov (.t 0))⟩, ⟨none, some 4, .v (.bin .neq .no (.t 3) (.c (.int .u8 10)))⟩, ⟨none, some 2, .v (.mov (.t 4))⟩]
def k_lexer_skip_1 : IC := (.seq k_lexer_skip_1_r0 (.seq k_lexer_skip_1_r1 .ret))
@[go_sem] def s_lexer_skip_1 : List (RV × Co) := [(.t 2, .id)]
theorem c_lexer_skip_1 : cFun Try.prog 80 = some (5, k_lexer_skip_1, s_lexer_skip_1) := by kernel_rfl

-- envoy/lexer.digit
def k_lexer_digit_r0 : IC := .reg false [⟨none, some 2, .v (.mov (.c (.bool false)))⟩]
def k_lexer_digit_r1 : IC := .reg false [⟨none, some 3, .v (.mov (.t 0))⟩, ⟨none, some 4, .v (.bin .geq .no (.t 3) (.c (.int .u8 48)))⟩, ⟨none, some 5, .v (.mov (.t 4))⟩, ⟨some (5, true), some 6, .v (.mov (.t 0))⟩, ⟨some (5, true), some 7, .v (.bin .leq .no (.t 6) (.c (.int .u8 57)))⟩, ⟨none, some 8, .v (.pick (.t 5) (.t 7) (.c (.bool false)))⟩, ⟨none, some 2, .v (.mov (.t 8))⟩]
def k_lexer_digit : IC := (.seq k_lexer_digit_r0 (.seq k_lexer_digit_r1 .ret))
@[go_sem] def s_lexer_digit : List (RV × Co) := [(.t 2, .id)]
theorem c_lexer_digit : cFun Try.prog 81 = some (9, k_lexer_digit, s_lexer_digit) := by kernel_rfl

-- envoy/ints.Read
def k_ints_Read_r0 : IC := .reg false [⟨none, some 2, .v (.mov (.c (.int .i64 0)))⟩, ⟨none, some 3, .v (.mov (.c (.int .i64 0)))⟩]
def k_ints_Read_r1 : IC := .reg false [⟨none, some 8, .v (.mov (.t 0))⟩, ⟨none, some 9, .v (.len true (.t 8))⟩, ⟨none, some 10, .v (.mov (.c (.int .i64 0)))⟩]
def k_ints_Read_r3 : IC := .reg false [⟨none, some 11, .v (.bin .lss .no (.t 10) (.t 9))⟩]
def k_ints_Read_r4 : IC := .reg false [⟨none, some 12, .v (.mov (.t 10))⟩, ⟨none, some 4, .v (.mov (.t 12))⟩]
def k_ints_Read_r5 : IC := .reg false [⟨none, some 13, .v (.mov (.t 0))⟩, ⟨none, some 14, .v (.mov (.t 4))⟩, ⟨none, some 15, .v (.idx (.t 13) (.t 14))⟩, ⟨none, some 16, .v (.bin .lss .no (.t 15) (.c (.int .u8 48)))⟩, ⟨none, some 17, .v (.mov (.t 16))⟩, ⟨some (17, false), some 18, .v (.mov (.t 0))⟩, ⟨some (17, false), some 19, .v (.mov (.t 4))⟩, ⟨some (17, false), some 20, .v (.idx (.t 18) (.t 19))⟩, ⟨some (17, false), some 21, .v (.bin .gtr .no (.t 20) (.c (.int .u8 57)))⟩, ⟨none, some 22, .v (.pick (.t 17) (.c (.bool true)) (.t 21))⟩]
def k_ints_Read_r6 : IC := .reg false [⟨none, some 2, .v (.mov (.c (.int .i64 0)))⟩, ⟨none, some 3, .v (.mov (.c (.int .i64 5)))⟩]
def k_ints_Read_r7 : IC := .reg false [⟨none, some 23, .v (.bin .add .no (.t 10) (.c (.int .i64 1)))⟩, ⟨none, some 10, .v (.mov (.t 23))⟩]
def k_ints_Read_l2 : IC := (.seq k_ints_Read_r3 (.seq (.cond (.t 11) .skip (.exit 0)) (.seq (.block 1 (.seq k_ints_Read_r4 (.seq k_ints_Read_r5 (.cond (.t 22) (.seq k_ints_Read_r6 .ret) .skip)))) k_ints_Read_r7)))
def k_ints_Read_r9 : IC := .reg false [⟨none, some 24, .v (.mov (.t 0))⟩, ⟨none, some 25, .v (.bin .eql .no (.t 24) (.c (.str [])))⟩]
def k_ints_Read_r10 : IC := .reg false [⟨none, some 2, .v (.mov (.c (.int .i64 0)))⟩, ⟨none, some 3, .v (.mov (.c (.int .i64 5)))⟩]
def k_ints_Read_r11 : IC := .reg false [⟨none, some 5, .v (.mov (.c (.int .i64 0)))⟩, ⟨none, some 6, .v (.mov (.c (.int .i64 0)))⟩]
def k_ints_Read_r12 : IC := .reg false [⟨none, some 26, .v (.mov (.t 0))⟩, ⟨none, some 27, .v (.mov (.t 6))⟩, ⟨none, some 28, .v (.idx (.t 26) (.t 27))⟩, ⟨none, some 29, .v (.bin .sub .no (.t 28) (.c (.int .u8 48)))⟩, ⟨none, some 30, .v (.cvi .i64 (.t 29))⟩, ⟨none, some 7, .v (.mov (.t 30))⟩]
def k_ints_Read_r13 : IC := .reg false [⟨none, some 31, .v (.mov (.t 5))⟩, ⟨none, some 32, .v (.mov (.t 7))⟩, ⟨none, some 33, .v (.bin .sub .no (.c (.int .i64 9223372036854775807)) (.t 32))⟩, ⟨none, some 34, .v (.bin .quo .no (.t 33) (.c (.int .i64 10)))⟩, ⟨none, some 35, .v (.bin .gtr .no (.t 31) (.t 34))⟩]
def k_ints_Read_r14 : IC := .reg false [⟨none, some 2, .v (.mov (.c (.int .i64 0)))⟩, ⟨none, some 3, .v (.mov (.c (.int .i64 4)))⟩]
def k_ints_Read_r15 : IC := .reg false [⟨none, some 36, .v (.mov (.t 5))⟩, ⟨none, some 37, .v (.bin .mul .no (.c (.int .i64 10)) (.t 36))⟩, ⟨none, some 38, .v (.mov (.t 7))⟩, ⟨none, some 39, .v (.bin .add .no (.t 37) (.t 38))⟩, ⟨none, some 5, .v (.mov (.t 39))⟩]
def k_ints_Read_r16 : IC := .reg false [⟨none, some 40, .v (.mov (.t 6))⟩, ⟨none, some 41, .v (.bin .add .no (.t 40) (.c (.int .i64 1)))⟩, ⟨none, some 6, .v (.mov (.t 41))⟩]
def k_ints_Read_r17 : IC := .reg false [⟨none, some 42, .v (.mov (.t 6))⟩, ⟨none, some 43, .v (.mov (.t 0))⟩, ⟨none, some 44, .v (.len true (.t 43))⟩, ⟨none, some 45, .v (.bin .lss .no (.t 42) (.t 44))⟩]
def k_ints_Read_r18 : IC := .reg false [⟨none, some 46, .v (.mov (.t 5))⟩, ⟨none, some 2, .v (.mov (.t 46))⟩, ⟨none, some 3, .v (.mov (.c (.int .i64 0)))⟩]
def k_ints_Read : IC := (.seq k_ints_Read_r0 (.scope (.seq (.seq k_ints_Read_r1 (.block 0 (.loop k_ints_Read_l2))) (.seq (.seq k_ints_Read_r9 (.cond (.t 25) (.seq k_ints_Read_r10 .ret) .skip)) (.seq k_ints_Read_r11 (.seq (.label 0) (.seq k_ints_Read_r12 (.seq (.seq k_ints_Read_r13 (.cond (.t 35) (.seq k_ints_Read_r14 .ret) .skip)) (.seq k_ints_Read_r15 (.seq (.seq k_ints_Read_r16 (.seq k_ints_Read_r17 (.cond (.t 45) (.goto 0) .skip))) (.seq k_ints_Read_r18 .ret)))))))))))
@[go_sem] def s_ints_Read : List (RV × Co) := [(.t 2, .id), (.t 3, .id)]
theorem c_ints_Read : cFun Try.prog 82 = some (47, k_ints_Read, s_ints_Read) := by kernel_rfl

-- envoy/lexer.on
def k_lexer_on_r0 : IC := .reg false [⟨none, some 2, .v (.mov (.c (.bool false)))⟩]
def k_lexer_on_r1 : IC := .reg false [⟨none, some 3, .v (.mov (.t 0))⟩, ⟨none, some 4, .v (.bin .geq .no (.t 3) (.c (.int .u8 97)))⟩, ⟨none, some 5, .v (.mov (.t 4))⟩, ⟨some (5, true), some 6, .v (.mov (.t 0))⟩, ⟨some (5, true), some 7, .v (.bin .leq .no (.t 6) (.c (.int .u8 122)))⟩, ⟨none, some 8, .v (.pick (.t 5) (.t 7) (.c (.bool false)))⟩, ⟨none, some 9, .v (.mov (.t 8))⟩, ⟨some (9, false), some 10, .v (.mov (.t 0))⟩, ⟨some (9, false), some 11, .v (.bin .geq .no (.t 10) (.c (.int .u8 65)))⟩, ⟨some (9, false), some 12, .v (.mov (.t 11))⟩, ⟨some (12, true), some 13, .v (.mov (.t 0))⟩, ⟨some (12, true), some 14, .v (.bin .leq .no (.t 13) (.c (.int .u8 90)))⟩, ⟨some (9, false), some 15, .v (.pick (.t 12) (.t 14) (.c (.bool false)))⟩, ⟨none, some 16, .v (.pick (.t 9) (.c (.bool true)) (.t 15))⟩, ⟨none, some 17, .v (.mov (.t 16))⟩, ⟨some (17, false), some 18, .v (.mov (.t 0))⟩, ⟨some (17, false), some 19, .v (.bin .eql .no (.t 18) (.c (.int .u8 95)))⟩, ⟨none, some 20, .v (.pick (.t 17) (.c (.bool true)) (.t 19))⟩, ⟨none, some 21, .v (.mov (.t 20))⟩, ⟨some (21, false), some 22, .v (.mov (.t 0))⟩, ⟨some (21, false), some 23, .v (.bin .eql .no (.t 22) (.c (.int .u8 39)))⟩, ⟨none, some 24, .v (.pick (.t 21) (.c (.bool true)) (.t 23))⟩, ⟨none, some 25, .v (.mov (.t 24))⟩, ⟨some (25, false), some 26, .v (.mov (.t 0))⟩, ⟨some (25, false), some 27, .call (.c (.fn 81 [] [])) [((.t 26), .id)]⟩, ⟨none, some 28, .v (.pick (.t 25) (.c (.bool true)) (.t 27))⟩, ⟨none, some 2, .v (.mov (.t 28))⟩]
def k_lexer_on : IC := (.seq k_lexer_on_r0 (.seq k_lexer_on_r1 .ret))
@[go_sem] def s_lexer_on : List (RV × Co) := [(.t 2, .id)]
theorem c_lexer_on : cFun Try.prog 83 = some (29, k_lexer_on, s_lexer_on) := by kernel_rfl

-- envoy/lexer.name
def k_lexer_name_r0 : IC := .reg false [⟨none, some 2, .alo [(.int .i64 0), (.int .i64 0), (.int .i64 0), (.str [])]⟩]
def k_lexer_name_r1 : IC := .reg false [⟨none, some 4, .v (.mov (.t 0))⟩, ⟨none, some 5, .v (.bld [(.int .i64 0), (.int .i64 0), (.int .i64 0), (.str [])] [(0, 1, (.c (.int .i64 1))), (3, 1, (.t 4))])⟩, ⟨none, some 3, .alo [(.int .i64 0), (.int .i64 0), (.int .i64 0), (.str [])]⟩, ⟨none, none, .st 4 .id (.t 3) (.t 5)⟩]
def k_lexer_name_r2 : IC := .reg false [⟨none, some 7, .v (.mov (.t 0))⟩, ⟨none, some 8, .v (.bin .eql .no (.t 7) (.c (.str [95])))⟩, ⟨none, some 6, .v (.mov (.t 8))⟩]
def k_lexer_name_r3 : IC := .reg false [⟨none, some 9, .v (.fad (.t 3) 0)⟩, ⟨none, none, .st 1 .id (.t 9) (.c (.int .i64 5))⟩]
def k_lexer_name_r4 : IC := .reg false [⟨none, some 11, .v (.mov (.t 0))⟩, ⟨none, some 12, .call (.c (.fn 75 [] [])) [((.t 11), .id)]⟩, ⟨none, some 10, .v (.mov (.t 12))⟩]
def k_lexer_name_r5 : IC := .reg false [⟨none, some 13, .v (.fad (.t 3) 0)⟩, ⟨none, none, .st 1 .id (.t 13) (.c (.int .i64 4))⟩]
def k_lexer_name_r6 : IC := .reg false [⟨none, some 15, .v (.mov (.t 0))⟩, ⟨none, some 16, .call (.c (.fn 50 [] [])) [((.t 15), .id)]⟩, ⟨none, some 14, .v (.mov (.t 16))⟩]
def k_lexer_name_r7 : IC := .reg false [⟨none, some 17, .v (.fad (.t 3) 0)⟩, ⟨none, none, .st 1 .id (.t 17) (.c (.int .i64 2))⟩]
def k_lexer_name_r8 : IC := .reg false [⟨none, some 18, .v (.ld true 4 (.t 3))⟩, ⟨none, none, .st 4 .id (.t 2) (.t 18)⟩]
def k_lexer_name : IC := (.seq k_lexer_name_r0 (.seq k_lexer_name_r1 (.seq (.block 0 (.seq k_lexer_name_r2 (.cond (.t 6) k_lexer_name_r3 (.seq k_lexer_name_r4 (.cond (.t 10) k_lexer_name_r5 (.seq k_lexer_name_r6 (.cond (.t 14) k_lexer_name_r7 .skip))))))) (.seq k_lexer_name_r8 .ret))))
@[go_sem] def s_lexer_name : List (RV × Co) := [(.c true 4 2, .id)]
theorem c_lexer_name : cFun Try.prog 84 = some (19, k_lexer_name, s_lexer_name) := by kernel_rfl

-- envoy/lexer.mark
def k_lexer_mark_r0 : IC := .reg false [⟨none, some 2, .v (.mov (.c (.int .i64 0)))⟩]
def k_lexer_mark_r1 : IC := .reg false [⟨none, some 5, .v (.bld [(.str []), (.str []), (.str []), (.str []), (.str []), (.str []), (.str []), (.str []), (.str []), (.str []), (.str []), (.str [])] [(0, 1, (.c (.str [45, 62]))), (1, 1, (.c (.str [61, 62]))), (2, 1, (.c (.str [58, 58]))), (3, 1, (.c (.str [40]))), (4, 1, (.c (.str [41]))), (5, 1, (.c (.str [123]))), (6, 1, (.c (.str [125]))), (7, 1, (.c (.str [59]))), (8, 1, (.c (.str [44]))), (9, 1, (.c (.str [61]))), (10, 1, (.c (.str [124]))), (11, 1, (.c (.str [92])))])⟩, ⟨none, some 6, .v (.mov (.c (.int .i64 0)))⟩]
def k_lexer_mark_r3 : IC := .reg false [⟨none, some 7, .v (.bin .lss .no (.t 6) (.c (.int .i64 12)))⟩]
def k_lexer_mark_r4 : IC := .reg false [⟨none, some 8, .v (.ida false 1 12 (.t 5) (.t 6))⟩, ⟨none, some 4, .v (.mov (.t 8))⟩]
def k_lexer_mark_r5 : IC := .reg false [⟨none, some 9, .v (.mov (.t 0))⟩, ⟨none, some 10, .v (.mov (.t 4))⟩, ⟨none, some 11, .call (.c (.fn 79 [] [])) [((.t 9), .id), ((.t 10), .id)]⟩]
def k_lexer_mark_r6 : IC := .reg false [⟨none, some 12, .v (.mov (.t 4))⟩, ⟨none, some 13, .v (.len true (.t 12))⟩, ⟨none, some 2, .v (.mov (.t 13))⟩]
def k_lexer_mark_r7 : IC := .reg false [⟨none, some 14, .v (.bin .add .no (.t 6) (.c (.int .i64 1)))⟩, ⟨none, some 6, .v (.mov (.t 14))⟩]
def k_lexer_mark_l2 : IC := (.seq k_lexer_mark_r3 (.seq (.cond (.t 7) .skip (.exit 0)) (.seq (.block 1 (.seq k_lexer_mark_r4 (.seq k_lexer_mark_r5 (.cond (.t 11) (.seq k_lexer_mark_r6 .ret) .skip)))) k_lexer_mark_r7)))
def k_lexer_mark_r9 : IC := .reg false [⟨none, some 2, .v (.mov (.c (.int .i64 0)))⟩]
def k_lexer_mark : IC := (.seq k_lexer_mark_r0 (.seq (.seq k_lexer_mark_r1 (.block 0 (.loop k_lexer_mark_l2))) (.seq k_lexer_mark_r9 .ret)))
@[go_sem] def s_lexer_mark : List (RV × Co) := [(.t 2, .id)]
theorem c_lexer_mark : cFun Try.prog 85 = some (15, k_lexer_mark, s_lexer_mark) := by kernel_rfl

-- envoy/cursor.among
def k_cursor_among_r0 : IC := .reg false [⟨none, some 2, .box (.t 0)⟩, ⟨none, some 4, .v (.mov (.c (.bool false)))⟩]
def k_cursor_among_r1 : IC := .reg false [⟨none, some 7, .v (.fad (.t 2) 0)⟩, ⟨none, some 8, .v (.ld false 1 (.t 7))⟩, ⟨none, some 9, .v (.bin .neq .no (.t 8) (.c (.int .i64 4)))⟩, ⟨none, some 10, .v (.mov (.t 9))⟩, ⟨some (10, true), some 11, .v (.fad (.t 2) 0)⟩, ⟨some (10, true), some 12, .v (.ld false 1 (.t 11))⟩, ⟨some (10, true), some 13, .v (.bin .neq .no (.t 12) (.c (.int .i64 5)))⟩, ⟨none, some 14, .v (.pick (.t 10) (.t 13) (.c (.bool false)))⟩]
def k_cursor_among_r2 : IC := .reg false [⟨none, some 4, .v (.mov (.c (.bool false)))⟩]
def k_cursor_among_r3 : IC := .reg false [⟨none, some 15, .v (.mov (.t 1))⟩, ⟨none, some 16, .v (.len false (.t 15))⟩, ⟨none, some 17, .v (.mov (.c (.int .i64 0)))⟩]
def k_cursor_among_r5 : IC := .reg false [⟨none, some 18, .v (.bin .lss .no (.t 17) (.t 16))⟩]
def k_cursor_among_r6 : IC := .reg false [⟨none, some 19, .v (.iad 1 (.t 15) (.t 17))⟩, ⟨none, some 20, .v (.ld false 1 (.t 19))⟩, ⟨none, some 6, .v (.mov (.t 20))⟩]
def k_cursor_among_r7 : IC := .reg false [⟨none, some 21, .v (.fad (.t 2) 3)⟩, ⟨none, some 22, .v (.ld false 1 (.t 21))⟩, ⟨none, some 23, .v (.mov (.t 6))⟩, ⟨none, some 24, .v (.bin .eql .no (.t 22) (.t 23))⟩]
def k_cursor_among_r8 : IC := .reg false [⟨none, some 4, .v (.mov (.c (.bool true)))⟩]
def k_cursor_among_r9 : IC := .reg false [⟨none, some 25, .v (.bin .add .no (.t 17) (.c (.int .i64 1)))⟩, ⟨none, some 17, .v (.mov (.t 25))⟩]
def k_cursor_among_l4 : IC := (.seq k_cursor_among_r5 (.seq (.cond (.t 18) .skip (.exit 0)) (.seq (.block 1 (.seq k_cursor_among_r6 (.seq k_cursor_among_r7 (.cond (.t 24) (.seq k_cursor_among_r8 .ret) .skip)))) k_cursor_among_r9)))
def k_cursor_among_r11 : IC := .reg false [⟨none, some 4, .v (.mov (.c (.bool false)))⟩]
def k_cursor_among : IC := (.seq k_cursor_among_r0 (.seq (.seq k_cursor_among_r1 (.cond (.t 14) (.seq k_cursor_among_r2 .ret) .skip)) (.seq (.seq k_cursor_among_r3 (.block 0 (.loop k_cursor_among_l4))) (.seq k_cursor_among_r11 .ret))))
@[go_sem] def s_cursor_among : List (RV × Co) := [(.t 4, .id)]
theorem c_cursor_among : cFun Try.prog 86 = some (26, k_cursor_among, s_cursor_among) := by kernel_rfl

-- (*envoy/cursor.Cursor).Take
def k_cursor_Cursor_Take_r0 : IC := .reg false [⟨none, some 4, .v (.mov (.c (.bool false)))⟩]
def k_cursor_Cursor_Take_r1 : IC := .reg false [⟨none, some 5, .v (.mov (.t 0))⟩, ⟨none, some 6, .v (.mov (.t 1))⟩, ⟨none, some 7, .call (.c (.fn 59 [] [])) [((.t 5), .id), ((.t 6), .id)]⟩, ⟨none, some 8, .v (.un .not (.t 7))⟩]
def k_cursor_Cursor_Take_r2 : IC := .reg false [⟨none, some 4, .v (.mov (.c (.bool false)))⟩]
def k_cursor_Cursor_Take_r3 : IC := .reg false [⟨none, some 9, .v (.mov (.t 0))⟩, ⟨none, some 10, .call (.c (.fn 58 [] [])) [((.t 9), .id)]⟩]
def k_cursor_Cursor_Take_r4 : IC := .reg false [⟨none, some 4, .v (.mov (.c (.bool true)))⟩]
def k_cursor_Cursor_Take : IC := (.seq k_cursor_Cursor_Take_r0 (.seq (.seq k_cursor_Cursor_Take_r1 (.cond (.t 8) (.seq k_cursor_Cursor_Take_r2 .ret) .skip)) (.seq k_cursor_Cursor_Take_r3 (.seq k_cursor_Cursor_Take_r4 .ret))))
@[go_sem] def s_cursor_Cursor_Take : List (RV × Co) := [(.t 4, .id)]
theorem c_cursor_Cursor_Take : cFun Try.prog 87 = some (11, k_cursor_Cursor_Take, s_cursor_Cursor_Take) := by kernel_rfl

-- envoy/envoyref05.word
def k_envoyref05_word_r0 : IC := .reg false [⟨none, some 2, .box (.t 0)⟩, ⟨none, some 4, .v (.mov (.c (.bool false)))⟩]
def k_envoyref05_word_r1 : IC := .reg false [⟨none, some 5, .v (.fad (.t 2) 0)⟩, ⟨none, some 6, .v (.ld false 1 (.t 5))⟩, ⟨none, some 7, .v (.bin .eql .no (.t 6) (.c (.int .i64 4)))⟩, ⟨none, some 8, .v (.mov (.t 7))⟩, ⟨some (8, false), some 9, .v (.fad (.t 2) 0)⟩, ⟨some (8, false), some 10, .v (.ld false 1 (.t 9))⟩, ⟨some (8, false), some 11, .v (.bin .eql .no (.t 10) (.c (.int .i64 5)))⟩, ⟨none, some 12, .v (.pick (.t 8) (.c (.bool true)) (.t 11))⟩, ⟨none, some 13, .v (.mov (.t 12))⟩, ⟨some (13, true), some 14, .v (.fad (.t 2) 3)⟩, ⟨some (13, true), some 15, .v (.ld false 1 (.t 14))⟩, ⟨some (13, true), some 16, .v (.mov (.t 1))⟩, ⟨some (13, true), some 17, .v (.bin .eql .no (.t 15) (.t 16))⟩, ⟨none, some 18, .v (.pick (.t 13) (.t 17) (.c (.bool false)))⟩, ⟨none, some 4, .v (.mov (.t 18))⟩]
def k_envoyref05_word : IC := (.seq k_envoyref05_word_r0 (.seq k_envoyref05_word_r1 .ret))
@[go_sem] def s_envoyref05_word : List (RV × Co) := [(.t 4, .id)]
theorem c_envoyref05_word : cFun Try.prog 88 = some (19, k_envoyref05_word, s_envoyref05_word) := by kernel_rfl

-- envoy/envoyref05.Take
def k_envoyref05_Take_r0 : IC := .reg false [⟨none, some 2, .box (.t 0)⟩, ⟨none, some 4, .alo [.nils, (.int .i64 0), (.int .i64 0), (.int .i64 0), (.str []), (.int .i64 0), (.int .i64 0), (.int .i64 0)]⟩, ⟨none, some 5, .v (.mov (.c (.bool false)))⟩]
def k_envoyref05_Take_r1 : IC := .reg false [⟨none, some 8, .v (.ld true 8 (.t 2))⟩, ⟨none, some 9, .v (.mov (.t 1))⟩, ⟨none, some 10, .call (.c (.fn 71 [] [])) [((.t 8), (.agg [(.sl 4), .id, .id, .id, .id, .id, .id, .id])), ((.t 9), .id)]⟩, ⟨none, some 11, .v (.un .not (.t 10))⟩]
def k_envoyref05_Take_r2 : IC := .reg false [⟨none, some 12, .v (.ld true 8 (.t 2))⟩, ⟨none, none, .st 8 (.agg [(.sl 4), .id, .id, .id, .id, .id, .id, .id]) (.t 4) (.t 12)⟩, ⟨none, some 5, .v (.mov (.c (.bool false)))⟩]
def k_envoyref05_Take_r3 : IC := .reg false [⟨none, some 14, .v (.ld true 8 (.t 2))⟩, ⟨none, some 15, .call (.c (.fn 43 [] [])) [((.t 14), (.agg [(.sl 4), .id, .id, .id, .id, .id, .id, .id]))]⟩, ⟨none, some 13, .v (.mov (.t 15))⟩, ⟨none, some 16, .v (.ext (.t 13) 0)⟩, ⟨none, some 17, .v (.ext (.t 13) 1)⟩, ⟨none, some 6, .alo [.nils, (.int .i64 0), (.int .i64 0), (.int .i64 0), (.str []), (.int .i64 0), (.int .i64 0), (.int .i64 0)]⟩, ⟨none, some 7, .alo [(.int .i64 0), (.int .i64 0), (.int .i64 0), (.str [])]⟩, ⟨none, none, .st 8 (.agg [(.sl 4), .id, .id, .id, .id, .id, .id, .id]) (.t 6) (.t 16)⟩, ⟨none, none, .st 4 .id (.t 7) (.t 17)⟩]
def k_envoyref05_Take_r4 : IC := .reg false [⟨none, some 18, .v (.ld true 8 (.t 6))⟩, ⟨none, none, .st 8 (.agg [(.sl 4), .id, .id, .id, .id, .id, .id, .id]) (.t 4) (.t 18)⟩, ⟨none, some 5, .v (.mov (.c (.bool true)))⟩]
def k_envoyref05_Take : IC := (.seq k_envoyref05_Take_r0 (.seq (.seq k_envoyref05_Take_r1 (.cond (.t 11) (.seq k_envoyref05_Take_r2 .ret) .skip)) (.seq k_envoyref05_Take_r3 (.seq k_envoyref05_Take_r4 .ret))))
@[go_sem] def s_envoyref05_Take : List (RV × Co) := [(.c true 8 4, (.agg [(.sl 4), .id, .id, .id, .id, .id, .id, .id])), (.t 5, .id)]
theorem c_envoyref05_Take : cFun Try.prog 89 = some (19, k_envoyref05_Take, s_envoyref05_Take) := by kernel_rfl

-- internal/stringslite.HasPrefix
def k_internal_stringslite_HasPrefix_r0 : IC := .reg false [⟨none, some 4, .v (.mov (.c (.bool false)))⟩]
def k_internal_stringslite_HasPrefix_r1 : IC := .reg false [⟨none, some 5, .v (.mov (.t 0))⟩, ⟨none, some 6, .v (.len true (.t 5))⟩, ⟨none, some 7, .v (.mov (.t 1))⟩, ⟨none, some 8, .v (.len true (.t 7))⟩, ⟨none, some 9, .v (.bin .geq .no (.t 6) (.t 8))⟩, ⟨none, some 10, .v (.mov (.t 9))⟩, ⟨some (10, true), some 11, .v (.mov (.t 0))⟩, ⟨some (10, true), some 12, .v (.mov (.t 1))⟩, ⟨some (10, true), some 13, .v (.len true (.t 12))⟩, ⟨some (10, true), some 14, .v (.sls (.t 11) none (some (.t 13)))⟩, ⟨some (10, true), some 15, .v (.mov (.t 1))⟩, ⟨some (10, true), some 16, .v (.bin .eql .no (.t 14) (.t 15))⟩, ⟨none, some 17, .v (.pick (.t 10) (.t 16) (.c (.bool false)))⟩, ⟨none, some 4, .v (.mov (.t 17))⟩]
def k_internal_stringslite_HasPrefix : IC := (.seq k_internal_stringslite_HasPrefix_r0 (.seq k_internal_stringslite_HasPrefix_r1 .ret))
@[go_sem] def s_internal_stringslite_HasPrefix : List (RV × Co) := [(.t 4, .id)]
theorem c_internal_stringslite_HasPrefix : cFun Try.prog 90 = some (18, k_internal_stringslite_HasPrefix, s_internal_stringslite_HasPrefix) := by kernel_rfl

end Go.Proofs.Ytaoiamkloigfhaa
