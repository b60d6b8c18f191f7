/- The compiled code of the functions. -/
import Derived.Test.YthakdbpffcicfaaVp
import Derived.Test.YthakdbpffcicfaaProg
namespace Go.Proofs.Ythakdbpffcicfaa
open Go Go.V
-- envoy/envoylaw04.LexerLexes
def k_envoylaw04_LexerLexes_r0 : IC := .reg false [⟨none, some 2, .v (.mov (.c (.bool false)))⟩]
def k_envoylaw04_LexerLexes_r1 : IC := .reg false [⟨none, some 9, .v (.mov (.t 0))⟩, ⟨none, some 10, .v (.len true (.t 9))⟩, ⟨none, some 11, .v (.bin .gtr .no (.t 10) (.c (.int .i64 20000)))⟩]
def k_envoylaw04_LexerLexes_r2 : IC := .reg false [⟨none, some 12, .call (.c (.fn 8 [] [])) []⟩, ⟨none, some 2, .v (.mov (.t 12))⟩]
def k_envoylaw04_LexerLexes_r3 : IC := .reg false [⟨none, some 14, .v (.mov (.t 0))⟩, ⟨none, some 15, .call (.c (.fn 9 [] [])) [((.t 14), .id)]⟩, ⟨none, some 13, .v (.mov (.t 15))⟩, ⟨none, some 16, .v (.ext (.t 13) 0)⟩, ⟨none, some 17, .v (.ext (.t 13) 1)⟩, ⟨none, some 18, .v (.ext (.t 13) 2)⟩, ⟨none, some 3, .v (.mov (.t 16))⟩, ⟨none, some 4, .v (.mov (.t 17))⟩, ⟨none, some 5, .v (.mov (.t 18))⟩]
def k_envoylaw04_LexerLexes_r4 : IC := .reg false [⟨none, some 20, .v (.mov (.t 0))⟩, ⟨none, some 21, .call (.c (.fn 10 [] [])) [((.t 20), .id)]⟩, ⟨none, some 19, .v (.mov (.t 21))⟩, ⟨none, some 22, .v (.ext (.t 19) 0)⟩, ⟨none, some 23, .v (.ext (.t 19) 1)⟩, ⟨none, some 24, .v (.ext (.t 19) 2)⟩, ⟨none, some 6, .v (.mov (.t 22))⟩, ⟨none, some 7, .v (.mov (.t 23))⟩, ⟨none, some 8, .v (.mov (.t 24))⟩]
def k_envoylaw04_LexerLexes_r5 : IC := .reg false [⟨none, some 25, .v (.mov (.t 3))⟩, ⟨none, some 26, .v (.mov (.t 6))⟩, ⟨none, some 27, .call (.c (.fn 11 [] [])) [((.t 25), (.sl 4)), ((.t 26), (.sl 4))]⟩, ⟨none, some 28, .v (.mov (.t 27))⟩, ⟨some (28, true), some 29, .v (.mov (.t 4))⟩, ⟨some (28, true), some 30, .v (.mov (.t 7))⟩, ⟨some (28, true), some 31, .v (.bin .eql .no (.t 29) (.t 30))⟩, ⟨none, some 32, .v (.pick (.t 28) (.t 31) (.c (.bool false)))⟩, ⟨none, some 33, .v (.mov (.t 32))⟩, ⟨some (33, true), some 34, .v (.mov (.t 5))⟩, ⟨some (33, true), some 35, .v (.mov (.t 8))⟩, ⟨some (33, true), some 36, .v (.bin .eql .no (.t 34) (.t 35))⟩, ⟨none, some 37, .v (.pick (.t 33) (.t 36) (.c (.bool false)))⟩, ⟨none, some 38, .v (.mov (.t 37))⟩, ⟨some (38, true), some 39, .call (.c (.fn 8 [] [])) []⟩, ⟨none, some 40, .v (.pick (.t 38) (.t 39) (.c (.bool false)))⟩, ⟨none, some 2, .v (.mov (.t 40))⟩]
def k_envoylaw04_LexerLexes : IC := (.seq k_envoylaw04_LexerLexes_r0 (.seq (.seq k_envoylaw04_LexerLexes_r1 (.cond (.t 11) (.seq k_envoylaw04_LexerLexes_r2 .ret) .skip)) (.seq k_envoylaw04_LexerLexes_r3 (.seq k_envoylaw04_LexerLexes_r4 (.seq k_envoylaw04_LexerLexes_r5 .ret)))))
@[go_sem] def s_envoylaw04_LexerLexes : List (RV × Co) := [(.t 2, .id)]
theorem c_envoylaw04_LexerLexes : cFun Try.prog 3 = some (41, k_envoylaw04_LexerLexes, s_envoylaw04_LexerLexes) := by kernel_rfl

-- envoy/envoylaw04.LexerTexts
def k_envoylaw04_LexerTexts_r0 : IC := .reg false [⟨none, some 4, .v (.mov (.c (.bool false)))⟩]
def k_envoylaw04_LexerTexts_r1 : IC := .reg false [⟨none, some 6, .v (.mov (.t 0))⟩, ⟨none, some 7, .v (.len false (.t 6))⟩, ⟨none, some 8, .v (.bin .gtr .no (.t 7) (.c (.int .i64 200)))⟩, ⟨none, some 9, .v (.mov (.t 8))⟩, ⟨some (9, false), some 10, .v (.mov (.t 1))⟩, ⟨some (9, false), some 11, .v (.len false (.t 10))⟩, ⟨some (9, false), some 12, .v (.bin .gtr .no (.t 11) (.c (.int .i64 200)))⟩, ⟨none, some 13, .v (.pick (.t 9) (.c (.bool true)) (.t 12))⟩]
def k_envoylaw04_LexerTexts_r2 : IC := .reg false [⟨none, some 14, .call (.c (.fn 8 [] [])) []⟩, ⟨none, some 4, .v (.mov (.t 14))⟩]
def k_envoylaw04_LexerTexts_r3 : IC := .reg false [⟨none, some 5, .v (.mov (.c (.int .i64 0)))⟩]
def k_envoylaw04_LexerTexts_r5 : IC := .reg false [⟨none, some 15, .v (.mov (.t 5))⟩, ⟨none, some 16, .v (.mov (.t 0))⟩, ⟨none, some 17, .v (.len false (.t 16))⟩, ⟨none, some 18, .v (.bin .lss .no (.t 15) (.t 17))⟩]
def k_envoylaw04_LexerTexts_r6 : IC := .reg false [⟨none, some 21, .v (.mov (.t 0))⟩, ⟨none, some 22, .v (.mov (.t 5))⟩, ⟨none, some 23, .v (.iad 4 (.t 21) (.t 22))⟩, ⟨none, some 24, .v (.fad (.t 23) 3)⟩, ⟨none, some 25, .v (.ld false 1 (.t 24))⟩, ⟨none, some 26, .v (.len true (.t 25))⟩, ⟨none, some 27, .v (.bin .gtr .no (.t 26) (.c (.int .i64 1000)))⟩]
def k_envoylaw04_LexerTexts_r7 : IC := .reg false [⟨none, some 28, .call (.c (.fn 8 [] [])) []⟩, ⟨none, some 4, .v (.mov (.t 28))⟩]
def k_envoylaw04_LexerTexts_r8 : IC := .reg false [⟨none, some 19, .v (.mov (.t 5))⟩, ⟨none, some 20, .v (.bin .add .no (.t 19) (.c (.int .i64 1)))⟩, ⟨none, some 5, .v (.mov (.t 20))⟩]
def k_envoylaw04_LexerTexts_l4 : IC := (.seq (.seq k_envoylaw04_LexerTexts_r5 (.cond (.t 18) .skip (.exit 0))) (.seq (.block 1 (.seq k_envoylaw04_LexerTexts_r6 (.cond (.t 27) (.seq k_envoylaw04_LexerTexts_r7 .ret) .skip))) k_envoylaw04_LexerTexts_r8))
def k_envoylaw04_LexerTexts_r10 : IC := .reg false [⟨none, some 29, .v (.mov (.t 0))⟩, ⟨none, some 30, .call (.c (.fn 12 [] [])) [((.t 29), (.sl 4))]⟩, ⟨none, some 31, .v (.mov (.t 0))⟩, ⟨none, some 32, .call (.c (.fn 13 [] [])) [((.t 31), (.sl 4))]⟩, ⟨none, some 33, .v (.bin .eql .no (.t 30) (.t 32))⟩, ⟨none, some 34, .v (.mov (.t 33))⟩, ⟨some (34, true), some 35, .v (.mov (.t 0))⟩, ⟨some (34, true), some 36, .v (.mov (.t 1))⟩, ⟨some (34, true), some 37, .call (.c (.fn 14 [] [])) [((.t 35), (.sl 4)), ((.t 36), (.sl 4))]⟩, ⟨some (34, true), some 38, .v (.mov (.t 0))⟩, ⟨some (34, true), some 39, .v (.mov (.t 1))⟩, ⟨some (34, true), some 40, .call (.c (.fn 15 [] [])) [((.t 38), (.sl 4)), ((.t 39), (.sl 4))]⟩, ⟨some (34, true), some 41, .v (.bin .eql .bool (.t 37) (.t 40))⟩, ⟨none, some 42, .v (.pick (.t 34) (.t 41) (.c (.bool false)))⟩, ⟨none, some 43, .v (.mov (.t 42))⟩, ⟨some (43, true), some 44, .call (.c (.fn 8 [] [])) []⟩, ⟨none, some 45, .v (.pick (.t 43) (.t 44) (.c (.bool false)))⟩, ⟨none, some 4, .v (.mov (.t 45))⟩]
def k_envoylaw04_LexerTexts : IC := (.seq k_envoylaw04_LexerTexts_r0 (.seq (.seq k_envoylaw04_LexerTexts_r1 (.cond (.t 13) (.seq k_envoylaw04_LexerTexts_r2 .ret) .skip)) (.seq (.seq k_envoylaw04_LexerTexts_r3 (.block 0 (.loop k_envoylaw04_LexerTexts_l4))) (.seq k_envoylaw04_LexerTexts_r10 .ret))))
@[go_sem] def s_envoylaw04_LexerTexts : List (RV × Co) := [(.t 4, .id)]
theorem c_envoylaw04_LexerTexts : cFun Try.prog 4 = some (46, k_envoylaw04_LexerTexts, s_envoylaw04_LexerTexts) := by kernel_rfl

-- envoy/envoylaw04.LexerBack
def k_envoylaw04_LexerBack_r0 : IC := .reg false [⟨none, some 2, .v (.mov (.c (.bool false)))⟩]
def k_envoylaw04_LexerBack_r1 : IC := .reg false [⟨none, some 9, .v (.mov (.t 0))⟩, ⟨none, some 10, .v (.len true (.t 9))⟩, ⟨none, some 11, .v (.bin .gtr .no (.t 10) (.c (.int .i64 20000)))⟩]
def k_envoylaw04_LexerBack_r2 : IC := .reg false [⟨none, some 12, .call (.c (.fn 8 [] [])) []⟩, ⟨none, some 2, .v (.mov (.t 12))⟩]
def k_envoylaw04_LexerBack_r3 : IC := .reg false [⟨none, some 14, .v (.mov (.t 0))⟩, ⟨none, some 15, .call (.c (.fn 9 [] [])) [((.t 14), .id)]⟩, ⟨none, some 13, .v (.mov (.t 15))⟩, ⟨none, some 16, .v (.ext (.t 13) 0)⟩, ⟨none, some 17, .v (.ext (.t 13) 1)⟩, ⟨none, some 18, .v (.ext (.t 13) 2)⟩, ⟨none, some 3, .v (.mov (.t 16))⟩, ⟨none, some 4, .v (.mov (.t 17))⟩, ⟨none, some 5, .v (.mov (.t 18))⟩]
def k_envoylaw04_LexerBack_r4 : IC := .reg false [⟨none, some 19, .v (.mov (.t 5))⟩, ⟨none, some 20, .v (.bin .neq .no (.t 19) (.c (.int .i64 0)))⟩]
def k_envoylaw04_LexerBack_r5 : IC := .reg false [⟨none, some 21, .v (.mov (.t 3))⟩, ⟨none, some 22, .v (.len false (.t 21))⟩, ⟨none, some 23, .v (.bin .eql .no (.t 22) (.c (.int .i64 0)))⟩, ⟨none, some 24, .v (.mov (.t 23))⟩, ⟨some (24, true), some 25, .call (.c (.fn 8 [] [])) []⟩, ⟨none, some 26, .v (.pick (.t 24) (.t 25) (.c (.bool false)))⟩, ⟨none, some 2, .v (.mov (.t 26))⟩]
def k_envoylaw04_LexerBack_r6 : IC := .reg false [⟨none, some 28, .v (.mov (.t 3))⟩, ⟨none, some 29, .call (.c (.fn 12 [] [])) [((.t 28), (.sl 4))]⟩, ⟨none, some 30, .call (.c (.fn 9 [] [])) [((.t 29), .id)]⟩, ⟨none, some 27, .v (.mov (.t 30))⟩, ⟨none, some 31, .v (.ext (.t 27) 0)⟩, ⟨none, some 32, .v (.ext (.t 27) 1)⟩, ⟨none, some 33, .v (.ext (.t 27) 2)⟩, ⟨none, some 6, .v (.mov (.t 31))⟩, ⟨none, some 7, .v (.mov (.t 32))⟩, ⟨none, some 8, .v (.mov (.t 33))⟩]
def k_envoylaw04_LexerBack_r7 : IC := .reg false [⟨none, some 34, .v (.mov (.t 8))⟩, ⟨none, some 35, .v (.bin .eql .no (.t 34) (.c (.int .i64 0)))⟩, ⟨none, some 36, .v (.mov (.t 35))⟩, ⟨some (36, true), some 37, .v (.mov (.t 3))⟩, ⟨some (36, true), some 38, .v (.mov (.t 6))⟩, ⟨some (36, true), some 39, .call (.c (.fn 14 [] [])) [((.t 37), (.sl 4)), ((.t 38), (.sl 4))]⟩, ⟨none, some 40, .v (.pick (.t 36) (.t 39) (.c (.bool false)))⟩, ⟨none, some 41, .v (.mov (.t 40))⟩, ⟨some (41, true), some 42, .call (.c (.fn 8 [] [])) []⟩, ⟨none, some 43, .v (.pick (.t 41) (.t 42) (.c (.bool false)))⟩, ⟨none, some 2, .v (.mov (.t 43))⟩]
def k_envoylaw04_LexerBack : IC := (.seq k_envoylaw04_LexerBack_r0 (.seq (.seq k_envoylaw04_LexerBack_r1 (.cond (.t 11) (.seq k_envoylaw04_LexerBack_r2 .ret) .skip)) (.seq k_envoylaw04_LexerBack_r3 (.seq (.seq k_envoylaw04_LexerBack_r4 (.cond (.t 20) (.seq k_envoylaw04_LexerBack_r5 .ret) .skip)) (.seq k_envoylaw04_LexerBack_r6 (.seq k_envoylaw04_LexerBack_r7 .ret))))))
@[go_sem] def s_envoylaw04_LexerBack : List (RV × Co) := [(.t 2, .id)]
theorem c_envoylaw04_LexerBack : cFun Try.prog 5 = some (44, k_envoylaw04_LexerBack, s_envoylaw04_LexerBack) := by kernel_rfl

-- envoy/envoylaw04.LexerCovers
def k_envoylaw04_LexerCovers_r0 : IC := .reg false [⟨none, some 2, .v (.mov (.c (.bool false)))⟩]
def k_envoylaw04_LexerCovers_r1 : IC := .reg false [⟨none, some 12, .v (.mov (.t 0))⟩, ⟨none, some 13, .v (.len true (.t 12))⟩, ⟨none, some 14, .v (.bin .gtr .no (.t 13) (.c (.int .i64 5000)))⟩]
def k_envoylaw04_LexerCovers_r2 : IC := .reg false [⟨none, some 15, .call (.c (.fn 8 [] [])) []⟩, ⟨none, some 2, .v (.mov (.t 15))⟩]
def k_envoylaw04_LexerCovers_r3 : IC := .reg false [⟨none, some 17, .v (.mov (.t 0))⟩, ⟨none, some 18, .call (.c (.fn 9 [] [])) [((.t 17), .id)]⟩, ⟨none, some 16, .v (.mov (.t 18))⟩, ⟨none, some 19, .v (.ext (.t 16) 0)⟩, ⟨none, some 20, .v (.ext (.t 16) 1)⟩, ⟨none, some 21, .v (.ext (.t 16) 2)⟩, ⟨none, some 3, .v (.mov (.t 19))⟩, ⟨none, some 4, .v (.mov (.t 20))⟩, ⟨none, some 5, .v (.mov (.t 21))⟩]
def k_envoylaw04_LexerCovers_r4 : IC := .reg false [⟨none, some 22, .v (.mov (.t 5))⟩, ⟨none, some 23, .v (.bin .neq .no (.t 22) (.c (.int .i64 0)))⟩]
def k_envoylaw04_LexerCovers_r5 : IC := .reg false [⟨none, some 24, .call (.c (.fn 8 [] [])) []⟩, ⟨none, some 2, .v (.mov (.t 24))⟩]
def k_envoylaw04_LexerCovers_r6 : IC := .reg false [⟨none, some 6, .v (.mov (.c (.int .i64 0)))⟩]
def k_envoylaw04_LexerCovers_r7 : IC := .reg false [⟨none, some 7, .v (.mov (.c (.int .i64 0)))⟩]
def k_envoylaw04_LexerCovers_r9 : IC := .reg false [⟨none, some 25, .v (.mov (.t 7))⟩, ⟨none, some 26, .v (.mov (.t 3))⟩, ⟨none, some 27, .v (.len false (.t 26))⟩, ⟨none, some 28, .v (.bin .lss .no (.t 25) (.t 27))⟩]
def k_envoylaw04_LexerCovers_r10 : IC := .reg false [⟨none, some 31, .v (.mov (.t 3))⟩, ⟨none, some 32, .v (.mov (.t 7))⟩, ⟨none, some 33, .v (.iad 4 (.t 31) (.t 32))⟩, ⟨none, some 34, .v (.ld true 4 (.t 33))⟩, ⟨none, some 8, .alo [(.int .i64 0), (.int .i64 0), (.int .i64 0), (.str [])]⟩, ⟨none, none, .st 4 .id (.t 8) (.t 34)⟩]
def k_envoylaw04_LexerCovers_r11 : IC := .drw [(⟨none, some 35, .v (.fad (.t 8) 1)⟩, []), (⟨none, some 36, .v (.ld false 1 (.t 35))⟩, []), (⟨none, some 37, .v (.mov (.t 6))⟩, []), (⟨none, some 38, .v (.bin .lss .no (.t 36) (.t 37))⟩, []), (⟨none, some 39, .v (.mov (.t 38))⟩, []), (⟨some (39, false), some 40, .v (.fad (.t 8) 1)⟩, []), (⟨some (39, false), some 41, .v (.ld false 1 (.t 40))⟩, []), (⟨some (39, false), some 42, .v (.mov (.t 0))⟩, []), (⟨some (39, false), some 43, .v (.len true (.t 42))⟩, []), (⟨some (39, false), some 44, .v (.fad (.t 8) 3)⟩, []), (⟨some (39, false), some 45, .v (.ld false 1 (.t 44))⟩, []), (⟨some (39, false), some 46, .v (.len true (.t 45))⟩, []), (⟨some (39, false), some 47, .v (.bin .sub .no (.t 43) (.t 46))⟩, []), (⟨some (39, false), some 48, .v (.bin .gtr .no (.t 41) (.t 47))⟩, []), (⟨none, some 49, .v (.pick (.t 39) (.c (.bool true)) (.t 48))⟩, []), (⟨none, some 50, .v (.mov (.t 49))⟩, []), (⟨some (50, false), some 51, .v (.mov (.t 0))⟩, []), (⟨some (50, false), some 52, .v (.fad (.t 8) 1)⟩, []), (⟨some (50, false), some 53, .v (.ld false 1 (.t 52))⟩, []), (⟨some (50, false), some 54, .v (.fad (.t 8) 1)⟩, []), (⟨some (50, false), some 55, .v (.ld false 1 (.t 54))⟩, []), (⟨some (50, false), some 56, .v (.fad (.t 8) 3)⟩, []), (⟨some (50, false), some 57, .v (.ld false 1 (.t 56))⟩, []), (⟨some (50, false), some 58, .v (.len true (.t 57))⟩, []), (⟨some (50, false), some 59, .v (.bin .add .no (.t 55) (.t 58))⟩, []), (⟨some (50, false), some 60, .v (.sls (.t 51) (some (.t 53)) (some (.t 59)))⟩, []), (⟨some (50, false), some 61, .v (.fad (.t 8) 3)⟩, []), (⟨some (50, false), some 62, .v (.ld false 1 (.t 61))⟩, []), (⟨some (50, false), some 63, .v (.bin .neq .no (.t 60) (.t 62))⟩, []), (⟨none, some 64, .v (.pick (.t 50) (.c (.bool true)) (.t 63))⟩, [])]
def k_envoylaw04_LexerCovers_r12 : IC := .reg false [⟨none, some 2, .v (.mov (.c (.bool false)))⟩]
def k_envoylaw04_LexerCovers_r13 : IC := .reg false [⟨none, some 66, .v (.mov (.t 0))⟩, ⟨none, some 67, .v (.mov (.t 6))⟩, ⟨none, some 68, .v (.fad (.t 8) 1)⟩, ⟨none, some 69, .v (.ld false 1 (.t 68))⟩, ⟨none, some 70, .v (.sls (.t 66) (some (.t 67)) (some (.t 69)))⟩, ⟨none, some 71, .call (.c (.fn 9 [] [])) [((.t 70), .id)]⟩, ⟨none, some 65, .v (.mov (.t 71))⟩, ⟨none, some 72, .v (.ext (.t 65) 0)⟩, ⟨none, some 73, .v (.ext (.t 65) 1)⟩, ⟨none, some 74, .v (.ext (.t 65) 2)⟩, ⟨none, some 9, .v (.mov (.t 72))⟩, ⟨none, some 10, .v (.mov (.t 73))⟩, ⟨none, some 11, .v (.mov (.t 74))⟩]
def k_envoylaw04_LexerCovers_r14 : IC := .reg false [⟨none, some 75, .v (.mov (.t 11))⟩, ⟨none, some 76, .v (.bin .neq .no (.t 75) (.c (.int .i64 0)))⟩, ⟨none, some 77, .v (.mov (.t 76))⟩, ⟨some (77, false), some 78, .v (.mov (.t 9))⟩, ⟨some (77, false), some 79, .v (.len false (.t 78))⟩, ⟨some (77, false), some 80, .v (.bin .neq .no (.t 79) (.c (.int .i64 1)))⟩, ⟨none, some 81, .v (.pick (.t 77) (.c (.bool true)) (.t 80))⟩]
def k_envoylaw04_LexerCovers_r15 : IC := .reg false [⟨none, some 2, .v (.mov (.c (.bool false)))⟩]
def k_envoylaw04_LexerCovers_r16 : IC := .reg false [⟨none, some 82, .v (.fad (.t 8) 1)⟩, ⟨none, some 83, .v (.ld false 1 (.t 82))⟩, ⟨none, some 84, .v (.fad (.t 8) 3)⟩, ⟨none, some 85, .v (.ld false 1 (.t 84))⟩, ⟨none, some 86, .v (.len true (.t 85))⟩, ⟨none, some 87, .v (.bin .add .no (.t 83) (.t 86))⟩, ⟨none, some 6, .v (.mov (.t 87))⟩]
def k_envoylaw04_LexerCovers_r17 : IC := .reg false [⟨none, some 29, .v (.mov (.t 7))⟩, ⟨none, some 30, .v (.bin .add .no (.t 29) (.c (.int .i64 1)))⟩, ⟨none, some 7, .v (.mov (.t 30))⟩]
def k_envoylaw04_LexerCovers_l8 : IC := (.seq (.seq k_envoylaw04_LexerCovers_r9 (.cond (.t 28) .skip (.exit 0))) (.seq (.block 1 (.seq k_envoylaw04_LexerCovers_r10 (.seq (.seq k_envoylaw04_LexerCovers_r11 (.cond (.t 64) (.seq k_envoylaw04_LexerCovers_r12 .ret) .skip)) (.seq (.seq k_envoylaw04_LexerCovers_r13 (.seq k_envoylaw04_LexerCovers_r14 (.cond (.t 81) (.seq k_envoylaw04_LexerCovers_r15 .ret) .skip))) k_envoylaw04_LexerCovers_r16)))) k_envoylaw04_LexerCovers_r17))
def k_envoylaw04_LexerCovers_r19 : IC := .reg false [⟨none, some 88, .v (.mov (.t 3))⟩, ⟨none, some 89, .v (.len false (.t 88))⟩, ⟨none, some 90, .v (.bin .gtr .no (.t 89) (.c (.int .i64 0)))⟩, ⟨none, some 91, .v (.mov (.t 90))⟩, ⟨some (91, true), some 92, .v (.mov (.t 3))⟩, ⟨some (91, true), some 93, .v (.mov (.t 3))⟩, ⟨some (91, true), some 94, .v (.len false (.t 93))⟩, ⟨some (91, true), some 95, .v (.bin .sub .no (.t 94) (.c (.int .i64 1)))⟩, ⟨some (91, true), some 96, .v (.iad 4 (.t 92) (.t 95))⟩, ⟨some (91, true), some 97, .v (.fad (.t 96) 0)⟩, ⟨some (91, true), some 98, .v (.ld false 1 (.t 97))⟩, ⟨some (91, true), some 99, .v (.bin .eql .no (.t 98) (.c (.int .i64 0)))⟩, ⟨none, some 100, .v (.pick (.t 91) (.t 99) (.c (.bool false)))⟩, ⟨none, some 101, .v (.mov (.t 100))⟩, ⟨some (101, true), some 102, .v (.mov (.t 6))⟩, ⟨some (101, true), some 103, .v (.mov (.t 0))⟩, ⟨some (101, true), some 104, .v (.len true (.t 103))⟩, ⟨some (101, true), some 105, .v (.bin .eql .no (.t 102) (.t 104))⟩, ⟨none, some 106, .v (.pick (.t 101) (.t 105) (.c (.bool false)))⟩, ⟨none, some 107, .v (.mov (.t 106))⟩, ⟨some (107, true), some 108, .call (.c (.fn 8 [] [])) []⟩, ⟨none, some 109, .v (.pick (.t 107) (.t 108) (.c (.bool false)))⟩, ⟨none, some 2, .v (.mov (.t 109))⟩]
def k_envoylaw04_LexerCovers : IC := (.seq k_envoylaw04_LexerCovers_r0 (.seq (.seq k_envoylaw04_LexerCovers_r1 (.cond (.t 14) (.seq k_envoylaw04_LexerCovers_r2 .ret) .skip)) (.seq k_envoylaw04_LexerCovers_r3 (.seq (.seq k_envoylaw04_LexerCovers_r4 (.cond (.t 23) (.seq k_envoylaw04_LexerCovers_r5 .ret) .skip)) (.seq k_envoylaw04_LexerCovers_r6 (.seq (.seq k_envoylaw04_LexerCovers_r7 (.block 0 (.loop k_envoylaw04_LexerCovers_l8))) (.seq k_envoylaw04_LexerCovers_r19 .ret)))))))
@[go_sem] def s_envoylaw04_LexerCovers : List (RV × Co) := [(.t 2, .id)]
theorem c_envoylaw04_LexerCovers : cFun Try.prog 6 = some (110, k_envoylaw04_LexerCovers, s_envoylaw04_LexerCovers) := by kernel_rfl

-- envoy/envoylaw04.LexerFails
def k_envoylaw04_LexerFails_r0 : IC := .reg false [⟨none, some 2, .v (.mov (.c (.bool false)))⟩]
def k_envoylaw04_LexerFails_r1 : IC := .reg false [⟨none, some 12, .v (.mov (.t 0))⟩, ⟨none, some 13, .v (.len true (.t 12))⟩, ⟨none, some 14, .v (.bin .gtr .no (.t 13) (.c (.int .i64 5000)))⟩]
def k_envoylaw04_LexerFails_r2 : IC := .reg false [⟨none, some 15, .call (.c (.fn 8 [] [])) []⟩, ⟨none, some 2, .v (.mov (.t 15))⟩]
def k_envoylaw04_LexerFails_r3 : IC := .reg false [⟨none, some 17, .v (.mov (.t 0))⟩, ⟨none, some 18, .call (.c (.fn 9 [] [])) [((.t 17), .id)]⟩, ⟨none, some 16, .v (.mov (.t 18))⟩, ⟨none, some 19, .v (.ext (.t 16) 0)⟩, ⟨none, some 20, .v (.ext (.t 16) 1)⟩, ⟨none, some 21, .v (.ext (.t 16) 2)⟩, ⟨none, some 3, .v (.mov (.t 19))⟩, ⟨none, some 4, .v (.mov (.t 20))⟩, ⟨none, some 5, .v (.mov (.t 21))⟩]
def k_envoylaw04_LexerFails_r4 : IC := .reg false [⟨none, some 22, .v (.mov (.t 5))⟩, ⟨none, some 23, .v (.bin .eql .no (.t 22) (.c (.int .i64 0)))⟩]
def k_envoylaw04_LexerFails_r5 : IC := .reg false [⟨none, some 24, .v (.mov (.t 4))⟩, ⟨none, some 25, .v (.bin .eql .no (.t 24) (.c (.int .i64 0)))⟩, ⟨none, some 26, .v (.mov (.t 25))⟩, ⟨some (26, true), some 27, .call (.c (.fn 8 [] [])) []⟩, ⟨none, some 28, .v (.pick (.t 26) (.t 27) (.c (.bool false)))⟩, ⟨none, some 2, .v (.mov (.t 28))⟩]
def k_envoylaw04_LexerFails_r6 : IC := .reg false [⟨none, some 29, .v (.mov (.t 4))⟩, ⟨none, some 30, .v (.bin .lss .no (.t 29) (.c (.int .i64 0)))⟩, ⟨none, some 31, .v (.mov (.t 30))⟩, ⟨some (31, false), some 32, .v (.mov (.t 4))⟩, ⟨some (31, false), some 33, .v (.mov (.t 0))⟩, ⟨some (31, false), some 34, .v (.len true (.t 33))⟩, ⟨some (31, false), some 35, .v (.bin .geq .no (.t 32) (.t 34))⟩, ⟨none, some 36, .v (.pick (.t 31) (.c (.bool true)) (.t 35))⟩]
def k_envoylaw04_LexerFails_r7 : IC := .reg false [⟨none, some 2, .v (.mov (.c (.bool false)))⟩]
def k_envoylaw04_LexerFails_r8 : IC := .reg false [⟨none, some 38, .v (.mov (.t 0))⟩, ⟨none, some 39, .v (.mov (.t 4))⟩, ⟨none, some 40, .v (.sls (.t 38) none (some (.t 39)))⟩, ⟨none, some 41, .call (.c (.fn 9 [] [])) [((.t 40), .id)]⟩, ⟨none, some 37, .v (.mov (.t 41))⟩, ⟨none, some 42, .v (.ext (.t 37) 0)⟩, ⟨none, some 43, .v (.ext (.t 37) 1)⟩, ⟨none, some 44, .v (.ext (.t 37) 2)⟩, ⟨none, some 6, .v (.mov (.t 42))⟩, ⟨none, some 7, .v (.mov (.t 43))⟩, ⟨none, some 8, .v (.mov (.t 44))⟩]
def k_envoylaw04_LexerFails_r9 : IC := .reg false [⟨none, some 46, .v (.mov (.t 0))⟩, ⟨none, some 47, .v (.mov (.t 4))⟩, ⟨none, some 48, .v (.sls (.t 46) (some (.t 47)) none)⟩, ⟨none, some 49, .call (.c (.fn 9 [] [])) [((.t 48), .id)]⟩, ⟨none, some 45, .v (.mov (.t 49))⟩, ⟨none, some 50, .v (.ext (.t 45) 0)⟩, ⟨none, some 51, .v (.ext (.t 45) 1)⟩, ⟨none, some 52, .v (.ext (.t 45) 2)⟩, ⟨none, some 9, .v (.mov (.t 50))⟩, ⟨none, some 10, .v (.mov (.t 51))⟩, ⟨none, some 11, .v (.mov (.t 52))⟩]
def k_envoylaw04_LexerFails_r10 : IC := .reg false [⟨none, some 53, .v (.mov (.t 8))⟩, ⟨none, some 54, .v (.bin .eql .no (.t 53) (.c (.int .i64 0)))⟩, ⟨none, some 55, .v (.mov (.t 54))⟩, ⟨some (55, true), some 56, .v (.mov (.t 10))⟩, ⟨some (55, true), some 57, .v (.bin .eql .no (.t 56) (.c (.int .i64 0)))⟩, ⟨none, some 58, .v (.pick (.t 55) (.t 57) (.c (.bool false)))⟩, ⟨none, some 59, .v (.mov (.t 58))⟩, ⟨some (59, true), some 60, .v (.mov (.t 11))⟩, ⟨some (59, true), some 61, .v (.mov (.t 5))⟩, ⟨some (59, true), some 62, .v (.bin .eql .no (.t 60) (.t 61))⟩, ⟨none, some 63, .v (.pick (.t 59) (.t 62) (.c (.bool false)))⟩, ⟨none, some 64, .v (.mov (.t 63))⟩, ⟨some (64, true), some 65, .call (.c (.fn 8 [] [])) []⟩, ⟨none, some 66, .v (.pick (.t 64) (.t 65) (.c (.bool false)))⟩, ⟨none, some 2, .v (.mov (.t 66))⟩]
def k_envoylaw04_LexerFails : IC := (.seq k_envoylaw04_LexerFails_r0 (.seq (.seq k_envoylaw04_LexerFails_r1 (.cond (.t 14) (.seq k_envoylaw04_LexerFails_r2 .ret) .skip)) (.seq k_envoylaw04_LexerFails_r3 (.seq (.seq k_envoylaw04_LexerFails_r4 (.cond (.t 23) (.seq k_envoylaw04_LexerFails_r5 .ret) .skip)) (.seq (.seq k_envoylaw04_LexerFails_r6 (.cond (.t 36) (.seq k_envoylaw04_LexerFails_r7 .ret) .skip)) (.seq k_envoylaw04_LexerFails_r8 (.seq k_envoylaw04_LexerFails_r9 (.seq k_envoylaw04_LexerFails_r10 .ret))))))))
@[go_sem] def s_envoylaw04_LexerFails : List (RV × Co) := [(.t 2, .id)]
theorem c_envoylaw04_LexerFails : cFun Try.prog 7 = some (67, k_envoylaw04_LexerFails, s_envoylaw04_LexerFails) := by kernel_rfl

-- envoy/envoylaw04.awake
def k_envoylaw04_awake_r0 : IC := .reg false [⟨none, some 0, .v (.mov (.c (.bool false)))⟩]
def k_envoylaw04_awake_r1 : IC := .reg false [⟨none, some 14, .call (.c (.fn 9 [] [])) [((.c (.str [120, 45, 62, 49])), .id)]⟩, ⟨none, some 13, .v (.mov (.t 14))⟩, ⟨none, some 15, .v (.ext (.t 13) 0)⟩, ⟨none, some 16, .v (.ext (.t 13) 1)⟩, ⟨none, some 17, .v (.ext (.t 13) 2)⟩, ⟨none, some 1, .v (.mov (.t 15))⟩, ⟨none, some 2, .v (.mov (.t 16))⟩, ⟨none, some 3, .v (.mov (.t 17))⟩]
def k_envoylaw04_awake_r2 : IC := .reg false [⟨none, some 19, .call (.c (.fn 9 [] [])) [((.c (.str [97, 32, 63, 32, 98])), .id)]⟩, ⟨none, some 18, .v (.mov (.t 19))⟩, ⟨none, some 20, .v (.ext (.t 18) 0)⟩, ⟨none, some 21, .v (.ext (.t 18) 1)⟩, ⟨none, some 22, .v (.ext (.t 18) 2)⟩, ⟨none, some 4, .v (.mov (.t 20))⟩, ⟨none, some 5, .v (.mov (.t 21))⟩, ⟨none, some 6, .v (.mov (.t 22))⟩]
def k_envoylaw04_awake_r3 : IC := .reg false [⟨none, some 24, .call (.c (.fn 9 [] [])) [((.c (.str [97, 32, 45, 45, 32, 98, 10, 99])), .id)]⟩, ⟨none, some 23, .v (.mov (.t 24))⟩, ⟨none, some 25, .v (.ext (.t 23) 0)⟩, ⟨none, some 26, .v (.ext (.t 23) 1)⟩, ⟨none, some 27, .v (.ext (.t 23) 2)⟩, ⟨none, some 7, .v (.mov (.t 25))⟩, ⟨none, some 8, .v (.mov (.t 26))⟩, ⟨none, some 9, .v (.mov (.t 27))⟩]
def k_envoylaw04_awake_r4 : IC := .reg false [⟨none, some 29, .call (.c (.fn 9 [] [])) [((.c (.str [57, 57, 57, 57, 57, 57, 57, 57, 57, 57, 57, 57, 57, 57, 57, 57, 57, 57, 57, 57])), .id)]⟩, ⟨none, some 28, .v (.mov (.t 29))⟩, ⟨none, some 30, .v (.ext (.t 28) 0)⟩, ⟨none, some 31, .v (.ext (.t 28) 1)⟩, ⟨none, some 32, .v (.ext (.t 28) 2)⟩, ⟨none, some 10, .v (.mov (.t 30))⟩, ⟨none, some 11, .v (.mov (.t 31))⟩, ⟨none, some 12, .v (.mov (.t 32))⟩]
def k_envoylaw04_awake_r5 : IC := .reg false [⟨none, some 33, .v (.mov (.t 1))⟩, ⟨none, some 34, .v (.len false (.t 33))⟩, ⟨none, some 35, .v (.bin .neq .no (.t 34) (.c (.int .i64 4)))⟩]
def k_envoylaw04_awake_r6 : IC := .reg false [⟨none, some 0, .v (.mov (.c (.bool false)))⟩]
def k_envoylaw04_awake_r7 : IC := .reg false [⟨none, some 36, .v (.mov (.t 2))⟩, ⟨none, some 37, .v (.bin .eql .no (.t 36) (.c (.int .i64 0)))⟩, ⟨none, some 38, .v (.mov (.t 37))⟩, ⟨some (38, true), some 39, .v (.mov (.t 3))⟩, ⟨some (38, true), some 40, .v (.bin .eql .no (.t 39) (.c (.int .i64 0)))⟩, ⟨none, some 41, .v (.pick (.t 38) (.t 40) (.c (.bool false)))⟩, ⟨none, some 42, .v (.mov (.t 41))⟩, ⟨some (42, true), some 43, .v (.mov (.t 1))⟩, ⟨some (42, true), some 44, .v (.iad 4 (.t 43) (.c (.int .i64 1)))⟩, ⟨some (42, true), some 45, .v (.ld true 4 (.t 44))⟩, ⟨some (42, true), some 46, .v (.bld [(.int .i64 0), (.int .i64 0), (.int .i64 0), (.str [])] [(0, 1, (.c (.int .i64 5))), (1, 1, (.c (.int .i64 1))), (3, 1, (.c (.str [45, 62])))])⟩, ⟨some (42, true), some 47, .v (.bin .eql (.cells [(.int .i64), (.int .i64), (.int .i64), .str]) (.t 45) (.t 46))⟩, ⟨none, some 48, .v (.pick (.t 42) (.t 47) (.c (.bool false)))⟩, ⟨none, some 49, .v (.mov (.t 48))⟩, ⟨some (49, true), some 50, .v (.mov (.t 1))⟩, ⟨some (49, true), some 51, .v (.iad 4 (.t 50) (.c (.int .i64 2)))⟩, ⟨some (49, true), some 52, .v (.ld true 4 (.t 51))⟩, ⟨some (49, true), some 53, .v (.bld [(.int .i64 0), (.int .i64 0), (.int .i64 0), (.str [])] [(0, 1, (.c (.int .i64 3))), (1, 1, (.c (.int .i64 3))), (2, 1, (.c (.int .i64 1))), (3, 1, (.c (.str [49])))])⟩, ⟨some (49, true), some 54, .v (.bin .eql (.cells [(.int .i64), (.int .i64), (.int .i64), .str]) (.t 52) (.t 53))⟩, ⟨none, some 55, .v (.pick (.t 49) (.t 54) (.c (.bool false)))⟩, ⟨none, some 56, .v (.mov (.t 55))⟩, ⟨some (56, true), some 57, .v (.mov (.t 1))⟩, ⟨some (56, true), some 58, .v (.iad 4 (.t 57) (.c (.int .i64 3)))⟩, ⟨some (56, true), some 59, .v (.fad (.t 58) 1)⟩, ⟨some (56, true), some 60, .v (.ld false 1 (.t 59))⟩, ⟨some (56, true), some 61, .v (.bin .eql .no (.t 60) (.c (.int .i64 4)))⟩, ⟨none, some 62, .v (.pick (.t 56) (.t 61) (.c (.bool false)))⟩, ⟨none, some 63, .v (.mov (.t 62))⟩, ⟨some (63, true), some 64, .v (.mov (.t 5))⟩, ⟨some (63, true), some 65, .v (.bin .eql .no (.t 64) (.c (.int .i64 2)))⟩, ⟨none, some 66, .v (.pick (.t 63) (.t 65) (.c (.bool false)))⟩, ⟨none, some 67, .v (.mov (.t 66))⟩, ⟨some (67, true), some 68, .v (.mov (.t 6))⟩, ⟨some (67, true), some 69, .v (.bin .eql .no (.t 68) (.c (.int .i64 3)))⟩, ⟨none, some 70, .v (.pick (.t 67) (.t 69) (.c (.bool false)))⟩, ⟨none, some 71, .v (.mov (.t 70))⟩, ⟨some (71, true), some 72, .v (.mov (.t 7))⟩, ⟨some (71, true), some 73, .v (.len false (.t 72))⟩, ⟨some (71, true), some 74, .v (.bin .eql .no (.t 73) (.c (.int .i64 3)))⟩, ⟨none, some 75, .v (.pick (.t 71) (.t 74) (.c (.bool false)))⟩, ⟨none, some 76, .v (.mov (.t 75))⟩, ⟨some (76, true), some 77, .v (.mov (.t 9))⟩, ⟨some (76, true), some 78, .v (.bin .eql .no (.t 77) (.c (.int .i64 0)))⟩, ⟨none, some 79, .v (.pick (.t 76) (.t 78) (.c (.bool false)))⟩, ⟨none, some 80, .v (.mov (.t 79))⟩, ⟨some (80, true), some 81, .v (.mov (.t 12))⟩, ⟨some (80, true), some 82, .v (.bin .eql .no (.t 81) (.c (.int .i64 4)))⟩, ⟨none, some 83, .v (.pick (.t 80) (.t 82) (.c (.bool false)))⟩, ⟨none, some 84, .v (.mov (.t 83))⟩, ⟨some (84, true), some 85, .v (.mov (.t 1))⟩, ⟨some (84, true), some 86, .call (.c (.fn 12 [] [])) [((.t 85), (.sl 4))]⟩, ⟨some (84, true), some 87, .v (.bin .eql .no (.t 86) (.c (.str [120, 32, 45, 62, 32, 49])))⟩, ⟨none, some 88, .v (.pick (.t 84) (.t 87) (.c (.bool false)))⟩, ⟨none, some 89, .v (.mov (.t 88))⟩, ⟨some (89, true), some 90, .v (.mov (.t 1))⟩, ⟨some (89, true), some 91, .v (.mov (.t 1))⟩, ⟨some (89, true), some 92, .call (.c (.fn 14 [] [])) [((.t 90), (.sl 4)), ((.t 91), (.sl 4))]⟩, ⟨none, some 93, .v (.pick (.t 89) (.t 92) (.c (.bool false)))⟩, ⟨none, some 0, .v (.mov (.t 93))⟩]
def k_envoylaw04_awake : IC := (.seq k_envoylaw04_awake_r0 (.seq k_envoylaw04_awake_r1 (.seq k_envoylaw04_awake_r2 (.seq k_envoylaw04_awake_r3 (.seq k_envoylaw04_awake_r4 (.seq (.seq k_envoylaw04_awake_r5 (.cond (.t 35) (.seq k_envoylaw04_awake_r6 .ret) .skip)) (.seq k_envoylaw04_awake_r7 .ret)))))))
@[go_sem] def s_envoylaw04_awake : List (RV × Co) := [(.t 0, .id)]
theorem c_envoylaw04_awake : cFun Try.prog 8 = some (94, k_envoylaw04_awake, s_envoylaw04_awake) := by kernel_rfl

-- envoy/lexer.Lex
def k_lexer_Lex_r0 : IC := .reg false [⟨none, some 2, .alo [.nils]⟩, ⟨none, some 3, .alo [(.int .i64 0)]⟩, ⟨none, some 4, .alo [(.int .i64 0)]⟩]
def k_lexer_Lex_r1 : IC := .reg false [⟨none, some 8, .v (.mov (.t 0))⟩, ⟨none, some 9, .v (.len true (.t 8))⟩, ⟨none, some 10, .v (.bin .gtr .no (.t 9) (.c (.int .i64 1048576)))⟩]
def k_lexer_Lex_r2 : IC := .reg false [⟨none, none, .st 1 (.sl 4) (.t 2) (.c .nils)⟩, ⟨none, none, .st 1 .id (.t 3) (.c (.int .i64 0))⟩, ⟨none, none, .st 1 .id (.t 4) (.c (.int .i64 2))⟩]
def k_lexer_Lex_r3 : IC := .reg false [⟨none, some 5, .alo [.nils]⟩]
def k_lexer_Lex_r4 : IC := .reg false [⟨none, some 11, .v (.mov (.t 0))⟩, ⟨none, some 12, .call (.c (.fn 16 [] [])) [((.t 11), .id)]⟩]
def k_lexer_Lex_r6 : IC := .reg false [⟨none, some 15, .v (.mov (.t 7))⟩, ⟨none, some 16, .v (.bin .neq .no (.t 15) (.c (.int .i64 0)))⟩]
def k_lexer_Lex_r7 : IC := .drw [(⟨none, some 17, .v (.fad (.t 6) 1)⟩, []), (⟨none, some 18, .v (.ld false 1 (.t 17))⟩, []), (⟨none, some 19, .v (.mov (.t 7))⟩, []), (⟨none, none, .st 1 (.sl 4) (.t 2) (.c .nils)⟩, [0, 1, 2]), (⟨none, none, .st 1 .id (.t 3) (.t 18)⟩, [2]), (⟨none, none, .st 1 .id (.t 4) (.t 19)⟩, [])]
def k_lexer_Lex_r8 : IC := .reg false [⟨none, some 20, .v (.ld false 1 (.t 5))⟩, ⟨none, some 21, .v (.ld true 4 (.t 6))⟩, ⟨none, some 22, .v (.bsl 4 [((.t 21), .id)])⟩, ⟨none, some 23, .app 4 (.agg [(.int .i64 0), (.int .i64 0), (.int .i64 0), (.str [])]) 40 (.sl 4) (.t 20) (.t 22)⟩, ⟨none, none, .st 1 (.sl 4) (.t 5) (.t 23)⟩]
def k_lexer_Lex_b5 : IC := (.block 1 (.seq (.seq k_lexer_Lex_r6 (.cond (.t 16) (.seq k_lexer_Lex_r7 .ret) .skip)) k_lexer_Lex_r8))
def k_lexer_Lex_r10 : IC := .reg false [⟨none, some 6, .alo [(.int .i64 0), (.int .i64 0), (.int .i64 0), (.str [])]⟩, ⟨none, none, .st 4 .id (.t 6) (.t 13)⟩]
def k_lexer_Lex_r11 : IC := .reg false [⟨none, some 7, .v (.mov (.t 14))⟩]
def k_lexer_Lex_r12 : IC := .reg false [⟨none, some 24, .v (.ld false 1 (.t 5))⟩, ⟨none, some 25, .v (.mov (.t 0))⟩, ⟨none, some 26, .v (.len true (.t 25))⟩, ⟨none, some 27, .v (.bld [(.int .i64 0), (.int .i64 0), (.int .i64 0), (.str [])] [(0, 1, (.c (.int .i64 0))), (1, 1, (.t 26))])⟩, ⟨none, some 28, .v (.bsl 4 [((.t 27), .id)])⟩, ⟨none, some 29, .app 4 (.agg [(.int .i64 0), (.int .i64 0), (.int .i64 0), (.str [])]) 40 (.sl 4) (.t 24) (.t 28)⟩, ⟨none, none, .st 1 (.sl 4) (.t 2) (.t 29)⟩, ⟨none, none, .st 1 .id (.t 3) (.c (.int .i64 0))⟩, ⟨none, none, .st 1 .id (.t 4) (.c (.int .i64 0))⟩]
def k_lexer_Lex : IC := (.seq k_lexer_Lex_r0 (.seq (.seq k_lexer_Lex_r1 (.cond (.t 10) (.seq k_lexer_Lex_r2 .ret) .skip)) (.seq k_lexer_Lex_r3 (.seq (.seq k_lexer_Lex_r4 (.block 0 (.rng (.t 12) [13, 14] (.seq k_lexer_Lex_r10 k_lexer_Lex_r11) k_lexer_Lex_b5))) (.seq k_lexer_Lex_r12 .ret)))))
@[go_sem] def s_lexer_Lex : List (RV × Co) := [(.c false 1 2, (.sl 4)), (.c false 1 3, .id), (.c false 1 4, .id)]
theorem c_lexer_Lex : cFun Try.prog 9 = some (30, k_lexer_Lex, s_lexer_Lex) := by kernel_rfl

-- envoy/envoyref04.Lex
def k_envoyref04_Lex_r0 : IC := .reg false [⟨none, some 2, .v (.mov (.c .nils))⟩, ⟨none, some 3, .v (.mov (.c (.int .i64 0)))⟩, ⟨none, some 4, .v (.mov (.c (.int .i64 0)))⟩]
def k_envoyref04_Lex_r1 : IC := .reg false [⟨none, some 9, .v (.mov (.t 0))⟩, ⟨none, some 10, .v (.len true (.t 9))⟩, ⟨none, some 11, .v (.bin .gtr .no (.t 10) (.c (.int .i64 1048576)))⟩]
def k_envoyref04_Lex_r2 : IC := .reg false [⟨none, some 2, .v (.mov (.c .nils))⟩, ⟨none, some 3, .v (.mov (.c (.int .i64 0)))⟩, ⟨none, some 4, .v (.mov (.c (.int .i64 2)))⟩]
def k_envoyref04_Lex_r3 : IC := .reg false [⟨none, some 5, .v (.mov (.c .nils))⟩]
def k_envoyref04_Lex_r4 : IC := .reg false [⟨none, some 12, .v (.mov (.t 0))⟩, ⟨none, some 13, .call (.c (.fn 17 [] [])) [((.t 12), .id), ((.c (.int .i64 0)), .id)]⟩, ⟨none, some 6, .v (.mov (.t 13))⟩]
def k_envoyref04_Lex_r6 : IC := .reg false [⟨none, some 14, .v (.mov (.t 6))⟩, ⟨none, some 15, .v (.mov (.t 0))⟩, ⟨none, some 16, .v (.len true (.t 15))⟩, ⟨none, some 17, .v (.bin .lss .no (.t 14) (.t 16))⟩]
def k_envoyref04_Lex_r7 : IC := .reg false [⟨none, some 19, .v (.mov (.t 0))⟩, ⟨none, some 20, .v (.mov (.t 6))⟩, ⟨none, some 21, .v (.sls (.t 19) (some (.t 20)) none)⟩, ⟨none, some 22, .call (.c (.fn 18 [] [])) [((.t 21), .id)]⟩, ⟨none, some 18, .v (.mov (.t 22))⟩, ⟨none, some 23, .v (.ext (.t 18) 0)⟩, ⟨none, some 24, .v (.ext (.t 18) 1)⟩, ⟨none, some 7, .alo [(.int .i64 0), (.int .i64 0), (.int .i64 0), (.str [])]⟩, ⟨none, none, .st 4 .id (.t 7) (.t 23)⟩, ⟨none, some 8, .v (.mov (.t 24))⟩]
def k_envoyref04_Lex_r8 : IC := .reg false [⟨none, some 25, .v (.mov (.t 8))⟩, ⟨none, some 26, .v (.bin .neq .no (.t 25) (.c (.int .i64 0)))⟩]
def k_envoyref04_Lex_r9 : IC := .reg false [⟨none, some 27, .v (.mov (.t 6))⟩, ⟨none, some 28, .v (.mov (.t 8))⟩, ⟨none, some 2, .v (.mov (.c .nils))⟩, ⟨none, some 3, .v (.mov (.t 27))⟩, ⟨none, some 4, .v (.mov (.t 28))⟩]
def k_envoyref04_Lex_r10 : IC := .reg false [⟨none, some 29, .v (.mov (.t 6))⟩, ⟨none, some 30, .v (.fad (.t 7) 1)⟩, ⟨none, none, .st 1 .id (.t 30) (.t 29)⟩]
def k_envoyref04_Lex_r11 : IC := .reg false [⟨none, some 31, .v (.mov (.t 5))⟩, ⟨none, some 32, .v (.ld true 4 (.t 7))⟩, ⟨none, some 33, .v (.bsl 4 [((.t 32), .id)])⟩, ⟨none, some 34, .app 4 (.agg [(.int .i64 0), (.int .i64 0), (.int .i64 0), (.str [])]) 40 (.sl 4) (.t 31) (.t 33)⟩, ⟨none, some 5, .v (.mov (.t 34))⟩]
def k_envoyref04_Lex_r12 : IC := .reg false [⟨none, some 35, .v (.mov (.t 0))⟩, ⟨none, some 36, .v (.mov (.t 6))⟩, ⟨none, some 37, .v (.fad (.t 7) 3)⟩, ⟨none, some 38, .v (.ld false 1 (.t 37))⟩, ⟨none, some 39, .v (.len true (.t 38))⟩, ⟨none, some 40, .v (.bin .add .no (.t 36) (.t 39))⟩, ⟨none, some 41, .call (.c (.fn 17 [] [])) [((.t 35), .id), ((.t 40), .id)]⟩, ⟨none, some 6, .v (.mov (.t 41))⟩]
def k_envoyref04_Lex_l5 : IC := (.seq (.seq k_envoyref04_Lex_r6 (.cond (.t 17) .skip (.exit 0))) (.block 1 (.seq k_envoyref04_Lex_r7 (.seq (.seq k_envoyref04_Lex_r8 (.cond (.t 26) (.seq k_envoyref04_Lex_r9 .ret) .skip)) (.seq k_envoyref04_Lex_r10 (.seq k_envoyref04_Lex_r11 k_envoyref04_Lex_r12))))))
def k_envoyref04_Lex_r14 : IC := .reg false [⟨none, some 42, .v (.mov (.t 5))⟩, ⟨none, some 43, .v (.mov (.t 0))⟩, ⟨none, some 44, .v (.len true (.t 43))⟩, ⟨none, some 45, .v (.bld [(.int .i64 0), (.int .i64 0), (.int .i64 0), (.str [])] [(0, 1, (.c (.int .i64 0))), (1, 1, (.t 44))])⟩, ⟨none, some 46, .v (.bsl 4 [((.t 45), .id)])⟩, ⟨none, some 47, .app 4 (.agg [(.int .i64 0), (.int .i64 0), (.int .i64 0), (.str [])]) 40 (.sl 4) (.t 42) (.t 46)⟩, ⟨none, some 2, .v (.mov (.t 47))⟩, ⟨none, some 3, .v (.mov (.c (.int .i64 0)))⟩, ⟨none, some 4, .v (.mov (.c (.int .i64 0)))⟩]
def k_envoyref04_Lex : IC := (.seq k_envoyref04_Lex_r0 (.seq (.seq k_envoyref04_Lex_r1 (.cond (.t 11) (.seq k_envoyref04_Lex_r2 .ret) .skip)) (.seq k_envoyref04_Lex_r3 (.seq k_envoyref04_Lex_r4 (.seq (.block 0 (.loop k_envoyref04_Lex_l5)) (.seq k_envoyref04_Lex_r14 .ret))))))
@[go_sem] def s_envoyref04_Lex : List (RV × Co) := [(.t 2, (.sl 4)), (.t 3, .id), (.t 4, .id)]
theorem c_envoyref04_Lex : cFun Try.prog 10 = some (48, k_envoyref04_Lex, s_envoyref04_Lex) := by kernel_rfl

-- envoy/envoyref04.Just
def k_envoyref04_Just_r0 : IC := .reg false [⟨none, some 4, .v (.mov (.c (.bool false)))⟩]
def k_envoyref04_Just_r1 : IC := .reg false [⟨none, some 6, .v (.mov (.t 0))⟩, ⟨none, some 7, .v (.len false (.t 6))⟩, ⟨none, some 8, .v (.mov (.t 1))⟩, ⟨none, some 9, .v (.len false (.t 8))⟩, ⟨none, some 10, .v (.bin .neq .no (.t 7) (.t 9))⟩]
def k_envoyref04_Just_r2 : IC := .reg false [⟨none, some 4, .v (.mov (.c (.bool false)))⟩]
def k_envoyref04_Just_r3 : IC := .reg false [⟨none, some 5, .v (.mov (.c (.int .i64 0)))⟩]
def k_envoyref04_Just_r5 : IC := .reg false [⟨none, some 11, .v (.mov (.t 5))⟩, ⟨none, some 12, .v (.mov (.t 0))⟩, ⟨none, some 13, .v (.len false (.t 12))⟩, ⟨none, some 14, .v (.bin .lss .no (.t 11) (.t 13))⟩]
def k_envoyref04_Just_r6 : IC := .drw [(⟨none, some 17, .v (.mov (.t 0))⟩, []), (⟨none, some 18, .v (.mov (.t 5))⟩, []), (⟨none, some 19, .v (.iad 4 (.t 17) (.t 18))⟩, []), (⟨none, some 20, .v (.ld true 4 (.t 19))⟩, []), (⟨none, some 21, .v (.mov (.t 1))⟩, []), (⟨none, some 22, .v (.mov (.t 5))⟩, []), (⟨none, some 23, .v (.iad 4 (.t 21) (.t 22))⟩, []), (⟨none, some 24, .v (.ld true 4 (.t 23))⟩, []), (⟨none, some 25, .v (.bin .neq (.cells [(.int .i64), (.int .i64), (.int .i64), .str]) (.t 20) (.t 24))⟩, [])]
def k_envoyref04_Just_r7 : IC := .reg false [⟨none, some 4, .v (.mov (.c (.bool false)))⟩]
def k_envoyref04_Just_r8 : IC := .reg false [⟨none, some 15, .v (.mov (.t 5))⟩, ⟨none, some 16, .v (.bin .add .no (.t 15) (.c (.int .i64 1)))⟩, ⟨none, some 5, .v (.mov (.t 16))⟩]
def k_envoyref04_Just_l4 : IC := (.seq (.seq k_envoyref04_Just_r5 (.cond (.t 14) .skip (.exit 0))) (.seq (.block 1 (.seq k_envoyref04_Just_r6 (.cond (.t 25) (.seq k_envoyref04_Just_r7 .ret) .skip))) k_envoyref04_Just_r8))
def k_envoyref04_Just_r10 : IC := .reg false [⟨none, some 4, .v (.mov (.c (.bool true)))⟩]
def k_envoyref04_Just : IC := (.seq k_envoyref04_Just_r0 (.seq (.seq k_envoyref04_Just_r1 (.cond (.t 10) (.seq k_envoyref04_Just_r2 .ret) .skip)) (.seq (.seq k_envoyref04_Just_r3 (.block 0 (.loop k_envoyref04_Just_l4))) (.seq k_envoyref04_Just_r10 .ret))))
@[go_sem] def s_envoyref04_Just : List (RV × Co) := [(.t 4, .id)]
theorem c_envoyref04_Just : cFun Try.prog 11 = some (26, k_envoyref04_Just, s_envoyref04_Just) := by kernel_rfl

-- envoy/lexer.Text
def k_lexer_Text_r0 : IC := .reg false [⟨none, some 2, .v (.mov (.c (.str [])))⟩]
def k_lexer_Text_r1 : IC := .reg false [⟨none, some 3, .v (.mov (.c .nils))⟩]
def k_lexer_Text_r2 : IC := .reg false [⟨none, some 6, .v (.mov (.t 0))⟩, ⟨none, some 7, .v (.len false (.t 6))⟩, ⟨none, some 8, .v (.mov (.c (.int .i64 0)))⟩]
def k_lexer_Text_r4 : IC := .reg false [⟨none, some 9, .v (.bin .lss .no (.t 8) (.t 7))⟩]
def k_lexer_Text_r5 : IC := .reg false [⟨none, some 10, .v (.iad 4 (.t 6) (.t 8))⟩, ⟨none, some 11, .v (.ld true 4 (.t 10))⟩, ⟨none, some 5, .alo [(.int .i64 0), (.int .i64 0), (.int .i64 0), (.str [])]⟩, ⟨none, none, .st 4 .id (.t 5) (.t 11)⟩]
def k_lexer_Text_r6 : IC := .reg false [⟨none, some 12, .v (.fad (.t 5) 0)⟩, ⟨none, some 13, .v (.ld false 1 (.t 12))⟩, ⟨none, some 14, .v (.bin .eql .no (.t 13) (.c (.int .i64 0)))⟩]
def k_lexer_Text_r7 : IC := .reg false [⟨none, some 15, .v (.mov (.t 3))⟩, ⟨none, some 16, .v (.fad (.t 5) 3)⟩, ⟨none, some 17, .v (.ld false 1 (.t 16))⟩, ⟨none, some 18, .v (.bsl 1 [((.t 17), .id)])⟩, ⟨none, some 19, .app 1 (.str []) 16 (.sl 1) (.t 15) (.t 18)⟩, ⟨none, some 3, .v (.mov (.t 19))⟩]
def k_lexer_Text_r8 : IC := .reg false [⟨none, some 20, .v (.bin .add .no (.t 8) (.c (.int .i64 1)))⟩, ⟨none, some 8, .v (.mov (.t 20))⟩]
def k_lexer_Text_l3 : IC := (.seq k_lexer_Text_r4 (.seq (.cond (.t 9) .skip (.exit 0)) (.seq (.block 1 (.seq k_lexer_Text_r5 (.seq (.seq k_lexer_Text_r6 (.cond (.t 14) (.exit 0) .skip)) k_lexer_Text_r7))) k_lexer_Text_r8)))
def k_lexer_Text_r10 : IC := .reg false [⟨none, some 21, .v (.mov (.t 3))⟩, ⟨none, some 22, .call (.c (.fn 19 [] [])) [((.t 21), (.sl 1)), ((.c (.str [32])), .id)]⟩, ⟨none, some 2, .v (.mov (.t 22))⟩]
def k_lexer_Text : IC := (.seq k_lexer_Text_r0 (.seq k_lexer_Text_r1 (.seq (.seq k_lexer_Text_r2 (.block 0 (.loop k_lexer_Text_l3))) (.seq k_lexer_Text_r10 .ret))))
@[go_sem] def s_lexer_Text : List (RV × Co) := [(.t 2, .id)]
theorem c_lexer_Text : cFun Try.prog 12 = some (23, k_lexer_Text, s_lexer_Text) := by kernel_rfl

-- envoy/envoyref04.Text
def k_envoyref04_Text_r0 : IC := .reg false [⟨none, some 2, .v (.mov (.c (.str [])))⟩]
def k_envoyref04_Text_r1 : IC := .reg false [⟨none, some 3, .v (.mov (.c (.str [])))⟩]
def k_envoyref04_Text_r2 : IC := .reg false [⟨none, some 4, .v (.mov (.c (.int .i64 0)))⟩]
def k_envoyref04_Text_r4 : IC := .reg false [⟨none, some 5, .v (.mov (.t 4))⟩, ⟨none, some 6, .v (.mov (.t 0))⟩, ⟨none, some 7, .v (.len false (.t 6))⟩, ⟨none, some 8, .v (.bin .lss .no (.t 5) (.t 7))⟩, ⟨none, some 9, .v (.mov (.t 8))⟩, ⟨some (9, true), some 10, .v (.mov (.t 0))⟩, ⟨some (9, true), some 11, .v (.mov (.t 4))⟩, ⟨some (9, true), some 12, .v (.iad 4 (.t 10) (.t 11))⟩, ⟨some (9, true), some 13, .v (.fad (.t 12) 0)⟩, ⟨some (9, true), some 14, .v (.ld false 1 (.t 13))⟩, ⟨some (9, true), some 15, .v (.bin .neq .no (.t 14) (.c (.int .i64 0)))⟩, ⟨none, some 16, .v (.pick (.t 9) (.t 15) (.c (.bool false)))⟩]
def k_envoyref04_Text_r5 : IC := .reg false [⟨none, some 19, .v (.mov (.t 4))⟩, ⟨none, some 20, .v (.bin .gtr .no (.t 19) (.c (.int .i64 0)))⟩]
def k_envoyref04_Text_r6 : IC := .reg false [⟨none, some 21, .v (.mov (.t 3))⟩, ⟨none, some 22, .v (.bin .add .no (.t 21) (.c (.str [32])))⟩, ⟨none, some 3, .v (.mov (.t 22))⟩]
def k_envoyref04_Text_r7 : IC := .reg false [⟨none, some 23, .v (.mov (.t 3))⟩, ⟨none, some 24, .v (.mov (.t 0))⟩, ⟨none, some 25, .v (.mov (.t 4))⟩, ⟨none, some 26, .v (.iad 4 (.t 24) (.t 25))⟩, ⟨none, some 27, .v (.fad (.t 26) 3)⟩, ⟨none, some 28, .v (.ld false 1 (.t 27))⟩, ⟨none, some 29, .v (.bin .add .no (.t 23) (.t 28))⟩, ⟨none, some 3, .v (.mov (.t 29))⟩]
def k_envoyref04_Text_r8 : IC := .reg false [⟨none, some 17, .v (.mov (.t 4))⟩, ⟨none, some 18, .v (.bin .add .no (.t 17) (.c (.int .i64 1)))⟩, ⟨none, some 4, .v (.mov (.t 18))⟩]
def k_envoyref04_Text_l3 : IC := (.seq (.seq k_envoyref04_Text_r4 (.cond (.t 16) .skip (.exit 0))) (.seq (.block 1 (.seq (.seq k_envoyref04_Text_r5 (.cond (.t 20) k_envoyref04_Text_r6 .skip)) k_envoyref04_Text_r7)) k_envoyref04_Text_r8))
def k_envoyref04_Text_r10 : IC := .reg false [⟨none, some 30, .v (.mov (.t 3))⟩, ⟨none, some 2, .v (.mov (.t 30))⟩]
def k_envoyref04_Text : IC := (.seq k_envoyref04_Text_r0 (.seq k_envoyref04_Text_r1 (.seq (.seq k_envoyref04_Text_r2 (.block 0 (.loop k_envoyref04_Text_l3))) (.seq k_envoyref04_Text_r10 .ret))))
@[go_sem] def s_envoyref04_Text : List (RV × Co) := [(.t 2, .id)]
theorem c_envoyref04_Text : cFun Try.prog 13 = some (31, k_envoyref04_Text, s_envoyref04_Text) := by kernel_rfl

-- envoy/lexer.Same
def k_lexer_Same_r0 : IC := .reg false [⟨none, some 4, .v (.mov (.c (.bool false)))⟩]
def k_lexer_Same_r1 : IC := .reg false [⟨none, some 7, .v (.mov (.t 0))⟩, ⟨none, some 8, .v (.len false (.t 7))⟩, ⟨none, some 9, .v (.mov (.t 1))⟩, ⟨none, some 10, .v (.len false (.t 9))⟩, ⟨none, some 11, .v (.bin .neq .no (.t 8) (.t 10))⟩]
def k_lexer_Same_r2 : IC := .reg false [⟨none, some 4, .v (.mov (.c (.bool false)))⟩]
def k_lexer_Same_r3 : IC := .reg false [⟨none, some 12, .v (.mov (.t 0))⟩, ⟨none, some 13, .v (.len false (.t 12))⟩, ⟨none, some 14, .v (.mov (.c (.int .i64 0)))⟩]
def k_lexer_Same_r5 : IC := .reg false [⟨none, some 15, .v (.bin .lss .no (.t 14) (.t 13))⟩]
def k_lexer_Same_r6 : IC := .reg false [⟨none, some 16, .v (.mov (.t 14))⟩, ⟨none, some 17, .v (.iad 4 (.t 12) (.t 14))⟩, ⟨none, some 18, .v (.ld true 4 (.t 17))⟩, ⟨none, some 6, .alo [(.int .i64 0), (.int .i64 0), (.int .i64 0), (.str [])]⟩, ⟨none, some 5, .v (.mov (.t 16))⟩, ⟨none, none, .st 4 .id (.t 6) (.t 18)⟩]
def k_lexer_Same_r7 : IC := .reg false [⟨none, some 19, .v (.mov (.t 1))⟩, ⟨none, some 20, .v (.mov (.t 5))⟩, ⟨none, some 21, .v (.iad 4 (.t 19) (.t 20))⟩, ⟨none, some 22, .v (.fad (.t 21) 1)⟩, ⟨none, some 23, .v (.ld false 1 (.t 22))⟩, ⟨none, some 24, .v (.fad (.t 6) 1)⟩, ⟨none, none, .st 1 .id (.t 24) (.t 23)⟩]
def k_lexer_Same_r8 : IC := .drw [(⟨none, some 25, .v (.ld true 4 (.t 6))⟩, []), (⟨none, some 26, .v (.mov (.t 1))⟩, []), (⟨none, some 27, .v (.mov (.t 5))⟩, []), (⟨none, some 28, .v (.iad 4 (.t 26) (.t 27))⟩, []), (⟨none, some 29, .v (.ld true 4 (.t 28))⟩, []), (⟨none, some 30, .v (.bin .neq (.cells [(.int .i64), (.int .i64), (.int .i64), .str]) (.t 25) (.t 29))⟩, [])]
def k_lexer_Same_r9 : IC := .reg false [⟨none, some 4, .v (.mov (.c (.bool false)))⟩]
def k_lexer_Same_r10 : IC := .reg false [⟨none, some 31, .v (.bin .add .no (.t 14) (.c (.int .i64 1)))⟩, ⟨none, some 14, .v (.mov (.t 31))⟩]
def k_lexer_Same_l4 : IC := (.seq k_lexer_Same_r5 (.seq (.cond (.t 15) .skip (.exit 0)) (.seq (.block 1 (.seq k_lexer_Same_r6 (.seq k_lexer_Same_r7 (.seq k_lexer_Same_r8 (.cond (.t 30) (.seq k_lexer_Same_r9 .ret) .skip))))) k_lexer_Same_r10)))
def k_lexer_Same_r12 : IC := .reg false [⟨none, some 4, .v (.mov (.c (.bool true)))⟩]
def k_lexer_Same : IC := (.seq k_lexer_Same_r0 (.seq (.seq k_lexer_Same_r1 (.cond (.t 11) (.seq k_lexer_Same_r2 .ret) .skip)) (.seq (.seq k_lexer_Same_r3 (.block 0 (.loop k_lexer_Same_l4))) (.seq k_lexer_Same_r12 .ret))))
@[go_sem] def s_lexer_Same : List (RV × Co) := [(.t 4, .id)]
theorem c_lexer_Same : cFun Try.prog 14 = some (32, k_lexer_Same, s_lexer_Same) := by kernel_rfl

-- envoy/envoyref04.Same
def k_envoyref04_Same_r0 : IC := .reg false [⟨none, some 4, .v (.mov (.c (.bool false)))⟩]
def k_envoyref04_Same_r1 : IC := .reg false [⟨none, some 6, .v (.mov (.t 0))⟩, ⟨none, some 7, .v (.len false (.t 6))⟩, ⟨none, some 8, .v (.mov (.t 1))⟩, ⟨none, some 9, .v (.len false (.t 8))⟩, ⟨none, some 10, .v (.bin .neq .no (.t 7) (.t 9))⟩]
def k_envoyref04_Same_r2 : IC := .reg false [⟨none, some 4, .v (.mov (.c (.bool false)))⟩]
def k_envoyref04_Same_r3 : IC := .reg false [⟨none, some 5, .v (.mov (.c (.int .i64 0)))⟩]
def k_envoyref04_Same_r5 : IC := .reg false [⟨none, some 11, .v (.mov (.t 5))⟩, ⟨none, some 12, .v (.mov (.t 0))⟩, ⟨none, some 13, .v (.len false (.t 12))⟩, ⟨none, some 14, .v (.bin .lss .no (.t 11) (.t 13))⟩]
def k_envoyref04_Same_r6 : IC := .drw [(⟨none, some 17, .v (.mov (.t 0))⟩, []), (⟨none, some 18, .v (.mov (.t 5))⟩, []), (⟨none, some 19, .v (.iad 4 (.t 17) (.t 18))⟩, []), (⟨none, some 20, .v (.fad (.t 19) 0)⟩, []), (⟨none, some 21, .v (.ld false 1 (.t 20))⟩, []), (⟨none, some 22, .v (.mov (.t 1))⟩, []), (⟨none, some 23, .v (.mov (.t 5))⟩, []), (⟨none, some 24, .v (.iad 4 (.t 22) (.t 23))⟩, []), (⟨none, some 25, .v (.fad (.t 24) 0)⟩, []), (⟨none, some 26, .v (.ld false 1 (.t 25))⟩, []), (⟨none, some 27, .v (.bin .neq .no (.t 21) (.t 26))⟩, []), (⟨none, some 28, .v (.mov (.t 27))⟩, []), (⟨some (28, false), some 29, .v (.mov (.t 0))⟩, []), (⟨some (28, false), some 30, .v (.mov (.t 5))⟩, []), (⟨some (28, false), some 31, .v (.iad 4 (.t 29) (.t 30))⟩, []), (⟨some (28, false), some 32, .v (.fad (.t 31) 2)⟩, []), (⟨some (28, false), some 33, .v (.ld false 1 (.t 32))⟩, []), (⟨some (28, false), some 34, .v (.mov (.t 1))⟩, []), (⟨some (28, false), some 35, .v (.mov (.t 5))⟩, []), (⟨some (28, false), some 36, .v (.iad 4 (.t 34) (.t 35))⟩, []), (⟨some (28, false), some 37, .v (.fad (.t 36) 2)⟩, []), (⟨some (28, false), some 38, .v (.ld false 1 (.t 37))⟩, []), (⟨some (28, false), some 39, .v (.bin .neq .no (.t 33) (.t 38))⟩, []), (⟨none, some 40, .v (.pick (.t 28) (.c (.bool true)) (.t 39))⟩, []), (⟨none, some 41, .v (.mov (.t 40))⟩, []), (⟨some (41, false), some 42, .v (.mov (.t 0))⟩, []), (⟨some (41, false), some 43, .v (.mov (.t 5))⟩, []), (⟨some (41, false), some 44, .v (.iad 4 (.t 42) (.t 43))⟩, []), (⟨some (41, false), some 45, .v (.fad (.t 44) 3)⟩, []), (⟨some (41, false), some 46, .v (.ld false 1 (.t 45))⟩, []), (⟨some (41, false), some 47, .v (.mov (.t 1))⟩, []), (⟨some (41, false), some 48, .v (.mov (.t 5))⟩, []), (⟨some (41, false), some 49, .v (.iad 4 (.t 47) (.t 48))⟩, []), (⟨some (41, false), some 50, .v (.fad (.t 49) 3)⟩, []), (⟨some (41, false), some 51, .v (.ld false 1 (.t 50))⟩, []), (⟨some (41, false), some 52, .v (.bin .neq .no (.t 46) (.t 51))⟩, []), (⟨none, some 53, .v (.pick (.t 41) (.c (.bool true)) (.t 52))⟩, [])]
def k_envoyref04_Same_r7 : IC := .reg false [⟨none, some 4, .v (.mov (.c (.bool false)))⟩]
def k_envoyref04_Same_r8 : IC := .reg false [⟨none, some 15, .v (.mov (.t 5))⟩, ⟨none, some 16, .v (.bin .add .no (.t 15) (.c (.int .i64 1)))⟩, ⟨none, some 5, .v (.mov (.t 16))⟩]
def k_envoyref04_Same_l4 : IC := (.seq (.seq k_envoyref04_Same_r5 (.cond (.t 14) .skip (.exit 0))) (.seq (.block 1 (.seq k_envoyref04_Same_r6 (.cond (.t 53) (.seq k_envoyref04_Same_r7 .ret) .skip))) k_envoyref04_Same_r8))
def k_envoyref04_Same_r10 : IC := .reg false [⟨none, some 4, .v (.mov (.c (.bool true)))⟩]
def k_envoyref04_Same : IC := (.seq k_envoyref04_Same_r0 (.seq (.seq k_envoyref04_Same_r1 (.cond (.t 10) (.seq k_envoyref04_Same_r2 .ret) .skip)) (.seq (.seq k_envoyref04_Same_r3 (.block 0 (.loop k_envoyref04_Same_l4))) (.seq k_envoyref04_Same_r10 .ret))))
@[go_sem] def s_envoyref04_Same : List (RV × Co) := [(.t 4, .id)]
theorem c_envoyref04_Same : cFun Try.prog 15 = some (54, k_envoyref04_Same, s_envoyref04_Same) := by kernel_rfl

-- envoy/lexer.words
def k_lexer_words_r0 : IC := .reg false [⟨none, some 1, .box (.t 0)⟩, ⟨none, some 2, .v (.mov (.c .nilf))⟩]
def k_lexer_words_r1 : IC := .reg false [⟨none, some 3, .v (.mfn 20 [] [(.t 1)])⟩, ⟨none, some 2, .v (.mov (.t 3))⟩]
def k_lexer_words : IC := (.seq k_lexer_words_r0 (.seq k_lexer_words_r1 .ret))
@[go_sem] def s_lexer_words : List (RV × Co) := [(.t 2, .id)]
theorem c_lexer_words : cFun Try.prog 16 = some (4, k_lexer_words, s_lexer_words) := by kernel_rfl

-- envoy/envoyref04.skip
def k_envoyref04_skip_r0 : IC := .reg false [⟨none, some 4, .v (.mov (.c (.int .i64 0)))⟩]
def k_envoyref04_skip_r2 : IC := .reg false [⟨none, some 5, .v (.mov (.t 1))⟩, ⟨none, some 6, .v (.mov (.t 0))⟩, ⟨none, some 7, .v (.len true (.t 6))⟩, ⟨none, some 8, .v (.bin .lss .no (.t 5) (.t 7))⟩]
def k_envoyref04_skip_r3 : IC := .reg false [⟨none, some 11, .v (.mov (.t 0))⟩, ⟨none, some 12, .v (.mov (.t 1))⟩, ⟨none, some 13, .v (.idx (.t 11) (.t 12))⟩, ⟨none, some 14, .v (.bin .eql .no (.t 13) (.c (.int .u8 9)))⟩, ⟨none, some 15, .v (.mov (.t 14))⟩, ⟨some (15, false), some 16, .v (.mov (.t 0))⟩, ⟨some (15, false), some 17, .v (.mov (.t 1))⟩, ⟨some (15, false), some 18, .v (.idx (.t 16) (.t 17))⟩, ⟨some (15, false), some 19, .v (.bin .eql .no (.t 18) (.c (.int .u8 10)))⟩, ⟨none, some 20, .v (.pick (.t 15) (.c (.bool true)) (.t 19))⟩, ⟨none, some 21, .v (.mov (.t 20))⟩, ⟨some (21, false), some 22, .v (.mov (.t 0))⟩, ⟨some (21, false), some 23, .v (.mov (.t 1))⟩, ⟨some (21, false), some 24, .v (.idx (.t 22) (.t 23))⟩, ⟨some (21, false), some 25, .v (.bin .eql .no (.t 24) (.c (.int .u8 13)))⟩, ⟨none, some 26, .v (.pick (.t 21) (.c (.bool true)) (.t 25))⟩, ⟨none, some 27, .v (.mov (.t 26))⟩, ⟨some (27, false), some 28, .v (.mov (.t 0))⟩, ⟨some (27, false), some 29, .v (.mov (.t 1))⟩, ⟨some (27, false), some 30, .v (.idx (.t 28) (.t 29))⟩, ⟨some (27, false), some 31, .v (.bin .eql .no (.t 30) (.c (.int .u8 32)))⟩, ⟨none, some 32, .v (.pick (.t 27) (.c (.bool true)) (.t 31))⟩, ⟨none, some 10, .v (.mov (.t 32))⟩]
def k_envoyref04_skip_r4 : IC := .reg false [⟨none, some 33, .v (.mov (.t 1))⟩, ⟨none, some 34, .v (.bin .add .no (.t 33) (.c (.int .i64 1)))⟩, ⟨none, some 1, .v (.mov (.t 34))⟩]
def k_envoyref04_skip_r5 : IC := .reg false [⟨none, some 36, .v (.mov (.t 0))⟩, ⟨none, some 37, .v (.mov (.t 1))⟩, ⟨none, some 38, .v (.idx (.t 36) (.t 37))⟩, ⟨none, some 39, .v (.bin .eql .no (.t 38) (.c (.int .u8 45)))⟩, ⟨none, some 40, .v (.mov (.t 39))⟩, ⟨some (40, true), some 41, .v (.mov (.t 1))⟩, ⟨some (40, true), some 42, .v (.bin .add .no (.t 41) (.c (.int .i64 1)))⟩, ⟨some (40, true), some 43, .v (.mov (.t 0))⟩, ⟨some (40, true), some 44, .v (.len true (.t 43))⟩, ⟨some (40, true), some 45, .v (.bin .lss .no (.t 42) (.t 44))⟩, ⟨none, some 46, .v (.pick (.t 40) (.t 45) (.c (.bool false)))⟩, ⟨none, some 47, .v (.mov (.t 46))⟩, ⟨some (47, true), some 48, .v (.mov (.t 0))⟩, ⟨some (47, true), some 49, .v (.mov (.t 1))⟩, ⟨some (47, true), some 50, .v (.bin .add .no (.t 49) (.c (.int .i64 1)))⟩, ⟨some (47, true), some 51, .v (.idx (.t 48) (.t 50))⟩, ⟨some (47, true), some 52, .v (.bin .eql .no (.t 51) (.c (.int .u8 45)))⟩, ⟨none, some 53, .v (.pick (.t 47) (.t 52) (.c (.bool false)))⟩, ⟨none, some 35, .v (.mov (.t 53))⟩]
def k_envoyref04_skip_r7 : IC := .reg false [⟨none, some 54, .v (.mov (.t 1))⟩, ⟨none, some 55, .v (.mov (.t 0))⟩, ⟨none, some 56, .v (.len true (.t 55))⟩, ⟨none, some 57, .v (.bin .lss .no (.t 54) (.t 56))⟩, ⟨none, some 58, .v (.mov (.t 57))⟩, ⟨some (58, true), some 59, .v (.mov (.t 0))⟩, ⟨some (58, true), some 60, .v (.mov (.t 1))⟩, ⟨some (58, true), some 61, .v (.idx (.t 59) (.t 60))⟩, ⟨some (58, true), some 62, .v (.bin .neq .no (.t 61) (.c (.int .u8 10)))⟩, ⟨none, some 63, .v (.pick (.t 58) (.t 62) (.c (.bool false)))⟩]
def k_envoyref04_skip_r8 : IC := .reg false [⟨none, some 64, .v (.mov (.t 1))⟩, ⟨none, some 65, .v (.bin .add .no (.t 64) (.c (.int .i64 1)))⟩, ⟨none, some 1, .v (.mov (.t 65))⟩]
def k_envoyref04_skip_l6 : IC := (.seq (.seq k_envoyref04_skip_r7 (.cond (.t 63) .skip (.exit 3))) (.block 4 k_envoyref04_skip_r8))
def k_envoyref04_skip_r10 : IC := .reg false [⟨none, some 9, .v (.mov (.t 1))⟩, ⟨none, some 4, .v (.mov (.t 9))⟩]
def k_envoyref04_skip_l1 : IC := (.seq (.seq k_envoyref04_skip_r2 (.cond (.t 8) .skip (.exit 0))) (.block 1 (.block 2 (.seq k_envoyref04_skip_r3 (.cond (.t 10) k_envoyref04_skip_r4 (.seq k_envoyref04_skip_r5 (.cond (.t 35) (.block 3 (.loop k_envoyref04_skip_l6)) (.seq k_envoyref04_skip_r10 .ret))))))))
def k_envoyref04_skip_r12 : IC := .reg false [⟨none, some 66, .v (.mov (.t 1))⟩, ⟨none, some 4, .v (.mov (.t 66))⟩]
def k_envoyref04_skip : IC := (.seq k_envoyref04_skip_r0 (.seq (.block 0 (.loop k_envoyref04_skip_l1)) (.seq k_envoyref04_skip_r12 .ret)))
@[go_sem] def s_envoyref04_skip : List (RV × Co) := [(.t 4, .id)]
theorem c_envoyref04_skip : cFun Try.prog 17 = some (67, k_envoyref04_skip, s_envoyref04_skip) := by kernel_rfl

-- envoy/envoyref04.word
def k_envoyref04_word_r0 : IC := .reg false [⟨none, some 2, .alo [(.int .i64 0), (.int .i64 0), (.int .i64 0), (.str [])]⟩, ⟨none, some 3, .v (.mov (.c (.int .i64 0)))⟩]
def k_envoyref04_word_r1 : IC := .reg false [⟨none, some 4, .v (.mov (.c (.int .i64 0)))⟩]
def k_envoyref04_word_r2 : IC := .reg false [⟨none, some 10, .v (.mov (.t 0))⟩, ⟨none, some 11, .v (.idx (.t 10) (.c (.int .i64 0)))⟩, ⟨none, some 12, .call (.c (.fn 23 [] [])) [((.t 11), .id)]⟩, ⟨none, some 9, .v (.mov (.t 12))⟩]
def k_envoyref04_word_r4 : IC := .reg false [⟨none, some 13, .v (.mov (.t 4))⟩, ⟨none, some 14, .v (.mov (.t 0))⟩, ⟨none, some 15, .v (.len true (.t 14))⟩, ⟨none, some 16, .v (.bin .lss .no (.t 13) (.t 15))⟩, ⟨none, some 17, .v (.mov (.t 16))⟩, ⟨some (17, true), some 18, .v (.mov (.t 0))⟩, ⟨some (17, true), some 19, .v (.mov (.t 4))⟩, ⟨some (17, true), some 20, .v (.idx (.t 18) (.t 19))⟩, ⟨some (17, true), some 21, .call (.c (.fn 23 [] [])) [((.t 20), .id)]⟩, ⟨none, some 22, .v (.pick (.t 17) (.t 21) (.c (.bool false)))⟩]
def k_envoyref04_word_r5 : IC := .reg false [⟨none, some 23, .v (.mov (.t 4))⟩, ⟨none, some 24, .v (.bin .add .no (.t 23) (.c (.int .i64 1)))⟩, ⟨none, some 4, .v (.mov (.t 24))⟩]
def k_envoyref04_word_l3 : IC := (.seq (.seq k_envoyref04_word_r4 (.cond (.t 22) .skip (.exit 1))) (.block 2 k_envoyref04_word_r5))
def k_envoyref04_word_r7 : IC := .reg false [⟨none, some 26, .v (.mov (.t 0))⟩, ⟨none, some 27, .v (.mov (.t 4))⟩, ⟨none, some 28, .v (.sls (.t 26) none (some (.t 27)))⟩, ⟨none, some 29, .call (.c (.fn 24 [] [])) [((.t 28), .id)]⟩, ⟨none, some 25, .v (.mov (.t 29))⟩, ⟨none, some 30, .v (.ext (.t 25) 0)⟩, ⟨none, some 31, .v (.ext (.t 25) 1)⟩, ⟨none, some 5, .v (.mov (.t 30))⟩, ⟨none, some 6, .v (.mov (.t 31))⟩]
def k_envoyref04_word_r8 : IC := .reg false [⟨none, some 32, .v (.mov (.t 5))⟩, ⟨none, some 33, .v (.mov (.t 0))⟩, ⟨none, some 34, .v (.mov (.t 4))⟩, ⟨none, some 35, .v (.sls (.t 33) none (some (.t 34)))⟩, ⟨none, some 36, .v (.bld [(.int .i64 0), (.int .i64 0), (.int .i64 0), (.str [])] [(0, 1, (.c (.int .i64 3))), (2, 1, (.t 32)), (3, 1, (.t 35))])⟩, ⟨none, some 37, .v (.mov (.t 6))⟩, ⟨none, none, .st 4 .id (.t 2) (.t 36)⟩, ⟨none, some 3, .v (.mov (.t 37))⟩]
def k_envoyref04_word_r9 : IC := .reg false [⟨none, some 39, .v (.mov (.t 0))⟩, ⟨none, some 40, .v (.idx (.t 39) (.c (.int .i64 0)))⟩, ⟨none, some 41, .call (.c (.fn 25 [] [])) [((.t 40), .id)]⟩, ⟨none, some 42, .v (.mov (.t 41))⟩, ⟨some (42, false), some 43, .v (.mov (.t 0))⟩, ⟨some (42, false), some 44, .v (.idx (.t 43) (.c (.int .i64 0)))⟩, ⟨some (42, false), some 45, .call (.c (.fn 26 [] [])) [((.t 44), .id)]⟩, ⟨none, some 46, .v (.pick (.t 42) (.c (.bool true)) (.t 45))⟩, ⟨none, some 38, .v (.mov (.t 46))⟩]
def k_envoyref04_word_r11 : IC := .reg false [⟨none, some 47, .v (.mov (.t 4))⟩, ⟨none, some 48, .v (.mov (.t 0))⟩, ⟨none, some 49, .v (.len true (.t 48))⟩, ⟨none, some 50, .v (.bin .lss .no (.t 47) (.t 49))⟩, ⟨none, some 51, .v (.mov (.t 50))⟩, ⟨some (51, true), some 52, .v (.mov (.t 0))⟩, ⟨some (51, true), some 53, .v (.mov (.t 4))⟩, ⟨some (51, true), some 54, .v (.idx (.t 52) (.t 53))⟩, ⟨some (51, true), some 55, .call (.c (.fn 27 [] [])) [((.t 54), .id)]⟩, ⟨none, some 56, .v (.pick (.t 51) (.t 55) (.c (.bool false)))⟩]
def k_envoyref04_word_r12 : IC := .reg false [⟨none, some 57, .v (.mov (.t 4))⟩, ⟨none, some 58, .v (.bin .add .no (.t 57) (.c (.int .i64 1)))⟩, ⟨none, some 4, .v (.mov (.t 58))⟩]
def k_envoyref04_word_l10 : IC := (.seq (.seq k_envoyref04_word_r11 (.cond (.t 56) .skip (.exit 3))) (.block 4 k_envoyref04_word_r12))
def k_envoyref04_word_r14 : IC := .reg false [⟨none, some 59, .v (.mov (.t 0))⟩, ⟨none, some 60, .v (.mov (.t 4))⟩, ⟨none, some 61, .v (.sls (.t 59) none (some (.t 60)))⟩, ⟨none, some 62, .v (.bld [(.int .i64 0), (.int .i64 0), (.int .i64 0), (.str [])] [(0, 1, (.c (.int .i64 1))), (3, 1, (.t 61))])⟩, ⟨none, some 7, .alo [(.int .i64 0), (.int .i64 0), (.int .i64 0), (.str [])]⟩, ⟨none, none, .st 4 .id (.t 7) (.t 62)⟩]
def k_envoyref04_word_r15 : IC := .reg false [⟨none, some 64, .v (.fad (.t 7) 3)⟩, ⟨none, some 65, .v (.ld false 1 (.t 64))⟩, ⟨none, some 66, .v (.bin .eql .no (.t 65) (.c (.str [95])))⟩, ⟨none, some 63, .v (.mov (.t 66))⟩]
def k_envoyref04_word_r16 : IC := .reg false [⟨none, some 67, .v (.fad (.t 7) 0)⟩, ⟨none, none, .st 1 .id (.t 67) (.c (.int .i64 5))⟩]
def k_envoyref04_word_r17 : IC := .reg false [⟨none, some 69, .v (.fad (.t 7) 3)⟩, ⟨none, some 70, .v (.ld false 1 (.t 69))⟩, ⟨none, some 71, .call (.c (.fn 28 [] [])) [((.t 70), .id)]⟩, ⟨none, some 68, .v (.mov (.t 71))⟩]
def k_envoyref04_word_r18 : IC := .reg false [⟨none, some 72, .v (.fad (.t 7) 0)⟩, ⟨none, none, .st 1 .id (.t 72) (.c (.int .i64 4))⟩]
def k_envoyref04_word_r19 : IC := .reg false [⟨none, some 74, .v (.mov (.t 0))⟩, ⟨none, some 75, .v (.idx (.t 74) (.c (.int .i64 0)))⟩, ⟨none, some 76, .call (.c (.fn 26 [] [])) [((.t 75), .id)]⟩, ⟨none, some 73, .v (.mov (.t 76))⟩]
def k_envoyref04_word_r20 : IC := .reg false [⟨none, some 77, .v (.fad (.t 7) 0)⟩, ⟨none, none, .st 1 .id (.t 77) (.c (.int .i64 2))⟩]
def k_envoyref04_word_r21 : IC := .reg false [⟨none, some 78, .v (.ld true 4 (.t 7))⟩, ⟨none, none, .st 4 .id (.t 2) (.t 78)⟩, ⟨none, some 3, .v (.mov (.c (.int .i64 0)))⟩]
def k_envoyref04_word_r22 : IC := .reg false [⟨none, some 79, .v (.mov (.t 0))⟩, ⟨none, some 80, .call (.c (.fn 29 [] [])) [((.t 79), .id)]⟩, ⟨none, some 8, .v (.mov (.t 80))⟩]
def k_envoyref04_word_r23 : IC := .reg false [⟨none, some 81, .v (.mov (.t 8))⟩, ⟨none, some 82, .v (.bin .eql .no (.t 81) (.c (.str [])))⟩]
def k_envoyref04_word_r24 : IC := .reg false [⟨none, some 83, .v (.bld [(.int .i64 0), (.int .i64 0), (.int .i64 0), (.str [])] [])⟩, ⟨none, none, .st 4 .id (.t 2) (.t 83)⟩, ⟨none, some 3, .v (.mov (.c (.int .i64 3)))⟩]
def k_envoyref04_word_r25 : IC := .reg false [⟨none, some 84, .v (.mov (.t 8))⟩, ⟨none, some 85, .v (.bld [(.int .i64 0), (.int .i64 0), (.int .i64 0), (.str [])] [(0, 1, (.c (.int .i64 5))), (3, 1, (.t 84))])⟩, ⟨none, none, .st 4 .id (.t 2) (.t 85)⟩, ⟨none, some 3, .v (.mov (.c (.int .i64 0)))⟩]
def k_envoyref04_word : IC := (.seq k_envoyref04_word_r0 (.seq k_envoyref04_word_r1 (.seq (.block 0 (.seq k_envoyref04_word_r2 (.cond (.t 9) (.seq (.block 1 (.loop k_envoyref04_word_l3)) (.seq k_envoyref04_word_r7 (.seq k_envoyref04_word_r8 .ret))) (.seq k_envoyref04_word_r9 (.cond (.t 38) (.seq (.block 3 (.loop k_envoyref04_word_l10)) (.seq k_envoyref04_word_r14 (.seq (.block 5 (.seq k_envoyref04_word_r15 (.cond (.t 63) k_envoyref04_word_r16 (.seq k_envoyref04_word_r17 (.cond (.t 68) k_envoyref04_word_r18 (.seq k_envoyref04_word_r19 (.cond (.t 73) k_envoyref04_word_r20 .skip))))))) (.seq k_envoyref04_word_r21 .ret)))) .skip))))) (.seq k_envoyref04_word_r22 (.seq (.seq k_envoyref04_word_r23 (.cond (.t 82) (.seq k_envoyref04_word_r24 .ret) .skip)) (.seq k_envoyref04_word_r25 .ret))))))
@[go_sem] def s_envoyref04_word : List (RV × Co) := [(.c true 4 2, .id), (.t 3, .id)]
theorem c_envoyref04_word : cFun Try.prog 18 = some (86, k_envoyref04_word, s_envoyref04_word) := by kernel_rfl

-- strings_Join DOES NOT COMPILE
-- envoy/lexer.words$1
def k_lexer_words_1_r0 : IC := .reg false [⟨none, some 6, .v (.ld false 1 (.t 1))⟩, ⟨none, some 7, .call (.c (.fn 21 [] [])) [((.t 6), .id)]⟩, ⟨none, some 3, .v (.mov (.t 7))⟩]
def k_lexer_words_1_r2 : IC := .reg false [⟨none, some 8, .v (.mov (.t 3))⟩, ⟨none, some 9, .v (.ld false 1 (.t 1))⟩, ⟨none, some 10, .v (.len true (.t 9))⟩, ⟨none, some 11, .v (.bin .lss .no (.t 8) (.t 10))⟩]
def k_lexer_words_1_r3 : IC := .reg false [⟨none, some 13, .v (.ld false 1 (.t 1))⟩, ⟨none, some 14, .v (.mov (.t 3))⟩, ⟨none, some 15, .v (.sls (.t 13) (some (.t 14)) none)⟩, ⟨none, some 16, .call (.c (.fn 22 [] [])) [((.t 15), .id)]⟩, ⟨none, some 12, .v (.mov (.t 16))⟩, ⟨none, some 17, .v (.ext (.t 12) 0)⟩, ⟨none, some 18, .v (.ext (.t 12) 1)⟩, ⟨none, some 4, .alo [(.int .i64 0), (.int .i64 0), (.int .i64 0), (.str [])]⟩, ⟨none, none, .st 4 .id (.t 4) (.t 17)⟩, ⟨none, some 5, .v (.mov (.t 18))⟩]
def k_lexer_words_1_r4 : IC := .reg false [⟨none, some 19, .v (.mov (.t 3))⟩, ⟨none, some 20, .v (.fad (.t 4) 1)⟩, ⟨none, none, .st 1 .id (.t 20) (.t 19)⟩]
def k_lexer_words_1_r5 : IC := .reg false [⟨none, some 21, .v (.mov (.t 0))⟩, ⟨none, some 22, .v (.ld true 4 (.t 4))⟩, ⟨none, some 23, .v (.mov (.t 5))⟩, ⟨none, some 24, .call (.t 21) [((.t 22), .id), ((.t 23), .id)]⟩, ⟨none, some 25, .v (.un .not (.t 24))⟩]
def k_lexer_words_1_r6 : IC := .reg false [⟨none, some 26, .v (.mov (.t 3))⟩, ⟨none, some 27, .v (.fad (.t 4) 3)⟩, ⟨none, some 28, .v (.ld false 1 (.t 27))⟩, ⟨none, some 29, .v (.len true (.t 28))⟩, ⟨none, some 30, .v (.bin .add .no (.t 26) (.t 29))⟩, ⟨none, some 3, .v (.mov (.t 30))⟩]
def k_lexer_words_1_r7 : IC := .reg false [⟨none, some 31, .v (.mov (.t 3))⟩, ⟨none, some 32, .v (.ld false 1 (.t 1))⟩, ⟨none, some 33, .v (.mov (.t 3))⟩, ⟨none, some 34, .v (.sls (.t 32) (some (.t 33)) none)⟩, ⟨none, some 35, .call (.c (.fn 21 [] [])) [((.t 34), .id)]⟩, ⟨none, some 36, .v (.bin .add .no (.t 31) (.t 35))⟩, ⟨none, some 3, .v (.mov (.t 36))⟩]
def k_lexer_words_1_l1 : IC := (.seq (.seq k_lexer_words_1_r2 (.cond (.t 11) .skip (.exit 0))) (.block 1 (.seq k_lexer_words_1_r3 (.seq k_lexer_words_1_r4 (.seq (.seq k_lexer_words_1_r5 (.cond (.t 25) .ret .skip)) (.seq k_lexer_words_1_r6 k_lexer_words_1_r7))))))
def k_lexer_words_1 : IC := (.seq k_lexer_words_1_r0 (.block 0 (.loop k_lexer_words_1_l1)))
@[go_sem] def s_lexer_words_1 : List (RV × Co) := []
theorem c_lexer_words_1 : cFun Try.prog 20 = some (37, k_lexer_words_1, s_lexer_words_1) := by kernel_rfl

-- envoy/lexer.skip
def k_lexer_skip_r0 : IC := .reg false [⟨none, some 2, .v (.mov (.c (.int .i64 0)))⟩]
def k_lexer_skip_r1 : IC := .reg false [⟨none, some 3, .v (.mov (.c (.int .i64 0)))⟩]
def k_lexer_skip_r3 : IC := .reg false [⟨none, some 5, .v (.mov (.t 0))⟩, ⟨none, some 6, .v (.mov (.t 3))⟩, ⟨none, some 7, .v (.sls (.t 5) (some (.t 6)) none)⟩, ⟨none, some 8, .call (.c (.fn 33 [] [])) [((.t 7), .id), ((.c (.fn 34 [] [])), .id)]⟩, ⟨none, some 4, .v (.mov (.t 8))⟩]
def k_lexer_skip_r4 : IC := .reg false [⟨none, some 9, .v (.mov (.t 0))⟩, ⟨none, some 10, .v (.mov (.t 3))⟩, ⟨none, some 11, .v (.mov (.t 4))⟩, ⟨none, some 12, .v (.bin .add .no (.t 10) (.t 11))⟩, ⟨none, some 13, .v (.sls (.t 9) (some (.t 12)) none)⟩, ⟨none, some 14, .call (.c (.fn 35 [] [])) [((.t 13), .id), ((.c (.str [45, 45])), .id)]⟩]
def k_lexer_skip_r5 : IC := .reg false [⟨none, some 15, .v (.mov (.t 4))⟩, ⟨none, some 16, .v (.mov (.t 0))⟩, ⟨none, some 17, .v (.mov (.t 3))⟩, ⟨none, some 18, .v (.mov (.t 4))⟩, ⟨none, some 19, .v (.bin .add .no (.t 17) (.t 18))⟩, ⟨none, some 20, .v (.sls (.t 16) (some (.t 19)) none)⟩, ⟨none, some 21, .call (.c (.fn 33 [] [])) [((.t 20), .id), ((.c (.fn 36 [] [])), .id)]⟩, ⟨none, some 22, .v (.bin .add .no (.t 15) (.t 21))⟩, ⟨none, some 4, .v (.mov (.t 22))⟩]
def k_lexer_skip_r6 : IC := .reg false [⟨none, some 23, .v (.mov (.t 4))⟩, ⟨none, some 24, .v (.bin .eql .no (.t 23) (.c (.int .i64 0)))⟩]
def k_lexer_skip_r7 : IC := .reg false [⟨none, some 25, .v (.mov (.t 3))⟩, ⟨none, some 2, .v (.mov (.t 25))⟩]
def k_lexer_skip_r8 : IC := .reg false [⟨none, some 26, .v (.mov (.t 3))⟩, ⟨none, some 27, .v (.mov (.t 4))⟩, ⟨none, some 28, .v (.bin .add .no (.t 26) (.t 27))⟩, ⟨none, some 3, .v (.mov (.t 28))⟩]
def k_lexer_skip_l2 : IC := (.block 1 (.seq k_lexer_skip_r3 (.seq (.seq k_lexer_skip_r4 (.cond (.t 14) k_lexer_skip_r5 .skip)) (.seq (.seq k_lexer_skip_r6 (.cond (.t 24) (.seq k_lexer_skip_r7 .ret) .skip)) k_lexer_skip_r8))))
def k_lexer_skip : IC := (.seq k_lexer_skip_r0 (.seq k_lexer_skip_r1 (.block 0 (.loop k_lexer_skip_l2))))
@[go_sem] def s_lexer_skip : List (RV × Co) := [(.t 2, .id)]
theorem c_lexer_skip : cFun Try.prog 21 = some (29, k_lexer_skip, s_lexer_skip) := by kernel_rfl

-- envoy/lexer.word
def k_lexer_word_r0 : IC := .reg false [⟨none, some 2, .alo [(.int .i64 0), (.int .i64 0), (.int .i64 0), (.str [])]⟩, ⟨none, some 3, .v (.mov (.c (.int .i64 0)))⟩]
def k_lexer_word_r1 : IC := .reg false [⟨none, some 9, .v (.mov (.t 0))⟩, ⟨none, some 10, .v (.idx (.t 9) (.c (.int .i64 0)))⟩, ⟨none, some 4, .v (.mov (.t 10))⟩]
def k_lexer_word_r2 : IC := .reg false [⟨none, some 12, .v (.mov (.t 4))⟩, ⟨none, some 13, .call (.c (.fn 37 [] [])) [((.t 12), .id)]⟩, ⟨none, some 11, .v (.mov (.t 13))⟩]
def k_lexer_word_r3 : IC := .reg false [⟨none, some 14, .v (.mov (.t 0))⟩, ⟨none, some 15, .v (.mov (.t 0))⟩, ⟨none, some 16, .call (.c (.fn 33 [] [])) [((.t 15), .id), ((.c (.fn 37 [] [])), .id)]⟩, ⟨none, some 17, .v (.sls (.t 14) none (some (.t 16)))⟩, ⟨none, some 5, .v (.mov (.t 17))⟩]
def k_lexer_word_r4 : IC := .reg false [⟨none, some 19, .v (.mov (.t 5))⟩, ⟨none, some 20, .call (.c (.fn 38 [] [])) [((.t 19), .id)]⟩, ⟨none, some 18, .v (.mov (.t 20))⟩, ⟨none, some 21, .v (.ext (.t 18) 0)⟩, ⟨none, some 22, .v (.ext (.t 18) 1)⟩, ⟨none, some 6, .v (.mov (.t 21))⟩, ⟨none, some 7, .v (.mov (.t 22))⟩]
def k_lexer_word_r5 : IC := .reg false [⟨none, some 23, .v (.mov (.t 6))⟩, ⟨none, some 24, .v (.mov (.t 5))⟩, ⟨none, some 25, .v (.bld [(.int .i64 0), (.int .i64 0), (.int .i64 0), (.str [])] [(0, 1, (.c (.int .i64 3))), (2, 1, (.t 23)), (3, 1, (.t 24))])⟩, ⟨none, some 26, .v (.mov (.t 7))⟩, ⟨none, none, .st 4 .id (.t 2) (.t 25)⟩, ⟨none, some 3, .v (.mov (.t 26))⟩]
def k_lexer_word_r6 : IC := .reg false [⟨none, some 28, .v (.mov (.t 4))⟩, ⟨none, some 29, .call (.c (.fn 39 [] [])) [((.t 28), .id)]⟩, ⟨none, some 30, .v (.mov (.t 29))⟩, ⟨some (30, true), some 31, .v (.mov (.t 4))⟩, ⟨some (30, true), some 32, .v (.bin .neq .no (.t 31) (.c (.int .u8 39)))⟩, ⟨none, some 33, .v (.pick (.t 30) (.t 32) (.c (.bool false)))⟩, ⟨none, some 27, .v (.mov (.t 33))⟩]
def k_lexer_word_r7 : IC := .reg false [⟨none, some 34, .v (.mov (.t 0))⟩, ⟨none, some 35, .v (.mov (.t 0))⟩, ⟨none, some 36, .call (.c (.fn 33 [] [])) [((.t 35), .id), ((.c (.fn 39 [] [])), .id)]⟩, ⟨none, some 37, .v (.sls (.t 34) none (some (.t 36)))⟩, ⟨none, some 38, .call (.c (.fn 40 [] [])) [((.t 37), .id)]⟩, ⟨none, none, .st 4 .id (.t 2) (.t 38)⟩, ⟨none, some 3, .v (.mov (.c (.int .i64 0)))⟩]
def k_lexer_word_r8 : IC := .reg false [⟨none, some 39, .v (.mov (.t 0))⟩, ⟨none, some 40, .call (.c (.fn 41 [] [])) [((.t 39), .id)]⟩, ⟨none, some 8, .v (.mov (.t 40))⟩]
def k_lexer_word_r9 : IC := .reg false [⟨none, some 41, .v (.mov (.t 8))⟩, ⟨none, some 42, .v (.bin .eql .no (.t 41) (.c (.int .i64 0)))⟩]
def k_lexer_word_r10 : IC := .reg false [⟨none, some 43, .v (.bld [(.int .i64 0), (.int .i64 0), (.int .i64 0), (.str [])] [])⟩, ⟨none, none, .st 4 .id (.t 2) (.t 43)⟩, ⟨none, some 3, .v (.mov (.c (.int .i64 3)))⟩]
def k_lexer_word_r11 : IC := .reg false [⟨none, some 44, .v (.mov (.t 0))⟩, ⟨none, some 45, .v (.mov (.t 8))⟩, ⟨none, some 46, .v (.sls (.t 44) none (some (.t 45)))⟩, ⟨none, some 47, .v (.bld [(.int .i64 0), (.int .i64 0), (.int .i64 0), (.str [])] [(0, 1, (.c (.int .i64 5))), (3, 1, (.t 46))])⟩, ⟨none, none, .st 4 .id (.t 2) (.t 47)⟩, ⟨none, some 3, .v (.mov (.c (.int .i64 0)))⟩]
def k_lexer_word : IC := (.seq k_lexer_word_r0 (.seq (.seq k_lexer_word_r1 (.block 0 (.seq k_lexer_word_r2 (.cond (.t 11) (.seq k_lexer_word_r3 (.seq k_lexer_word_r4 (.seq k_lexer_word_r5 .ret))) (.seq k_lexer_word_r6 (.cond (.t 27) (.seq k_lexer_word_r7 .ret) .skip)))))) (.seq k_lexer_word_r8 (.seq (.seq k_lexer_word_r9 (.cond (.t 42) (.seq k_lexer_word_r10 .ret) .skip)) (.seq k_lexer_word_r11 .ret)))))
@[go_sem] def s_lexer_word : List (RV × Co) := [(.c true 4 2, .id), (.t 3, .id)]
theorem c_lexer_word : cFun Try.prog 22 = some (48, k_lexer_word, s_lexer_word) := by kernel_rfl

-- envoy/envoyref03.Digit
def k_envoyref03_Digit_r0 : IC := .reg false [⟨none, some 2, .v (.mov (.c (.bool false)))⟩]
def k_envoyref03_Digit_r1 : IC := .reg false [⟨none, some 3, .v (.mov (.t 0))⟩, ⟨none, some 4, .v (.bin .geq .no (.t 3) (.c (.int .u8 48)))⟩, ⟨none, some 5, .v (.mov (.t 4))⟩, ⟨some (5, true), some 6, .v (.mov (.t 0))⟩, ⟨some (5, true), some 7, .v (.bin .leq .no (.t 6) (.c (.int .u8 57)))⟩, ⟨none, some 8, .v (.pick (.t 5) (.t 7) (.c (.bool false)))⟩, ⟨none, some 2, .v (.mov (.t 8))⟩]
def k_envoyref03_Digit : IC := (.seq k_envoyref03_Digit_r0 (.seq k_envoyref03_Digit_r1 .ret))
@[go_sem] def s_envoyref03_Digit : List (RV × Co) := [(.t 2, .id)]
theorem c_envoyref03_Digit : cFun Try.prog 23 = some (9, k_envoyref03_Digit, s_envoyref03_Digit) := by kernel_rfl

-- envoy/envoyref02.Read
def k_envoyref02_Read_r0 : IC := .reg false [⟨none, some 2, .v (.mov (.c (.int .i64 0)))⟩, ⟨none, some 3, .v (.mov (.c (.int .i64 0)))⟩]
def k_envoyref02_Read_r1 : IC := .reg false [⟨none, some 8, .v (.mov (.t 0))⟩, ⟨none, some 9, .v (.bin .eql .no (.t 8) (.c (.str [])))⟩]
def k_envoyref02_Read_r2 : IC := .reg false [⟨none, some 2, .v (.mov (.c (.int .i64 0)))⟩, ⟨none, some 3, .v (.mov (.c (.int .i64 5)))⟩]
def k_envoyref02_Read_r3 : IC := .reg false [⟨none, some 4, .v (.mov (.c (.int .i64 0)))⟩]
def k_envoyref02_Read_r5 : IC := .reg false [⟨none, some 10, .v (.mov (.t 4))⟩, ⟨none, some 11, .v (.mov (.t 0))⟩, ⟨none, some 12, .v (.len true (.t 11))⟩, ⟨none, some 13, .v (.bin .lss .no (.t 10) (.t 12))⟩]
def k_envoyref02_Read_r6 : IC := .reg false [⟨none, some 16, .v (.mov (.t 0))⟩, ⟨none, some 17, .v (.mov (.t 4))⟩, ⟨none, some 18, .v (.idx (.t 16) (.t 17))⟩, ⟨none, some 19, .v (.bin .lss .no (.t 18) (.c (.int .u8 48)))⟩, ⟨none, some 20, .v (.mov (.t 19))⟩, ⟨some (20, false), some 21, .v (.mov (.t 0))⟩, ⟨some (20, false), some 22, .v (.mov (.t 4))⟩, ⟨some (20, false), some 23, .v (.idx (.t 21) (.t 22))⟩, ⟨some (20, false), some 24, .v (.bin .gtr .no (.t 23) (.c (.int .u8 57)))⟩, ⟨none, some 25, .v (.pick (.t 20) (.c (.bool true)) (.t 24))⟩]
def k_envoyref02_Read_r7 : IC := .reg false [⟨none, some 2, .v (.mov (.c (.int .i64 0)))⟩, ⟨none, some 3, .v (.mov (.c (.int .i64 5)))⟩]
def k_envoyref02_Read_r8 : IC := .reg false [⟨none, some 14, .v (.mov (.t 4))⟩, ⟨none, some 15, .v (.bin .add .no (.t 14) (.c (.int .i64 1)))⟩, ⟨none, some 4, .v (.mov (.t 15))⟩]
def k_envoyref02_Read_l4 : IC := (.seq (.seq k_envoyref02_Read_r5 (.cond (.t 13) .skip (.exit 0))) (.seq (.block 1 (.seq k_envoyref02_Read_r6 (.cond (.t 25) (.seq k_envoyref02_Read_r7 .ret) .skip))) k_envoyref02_Read_r8))
def k_envoyref02_Read_r10 : IC := .reg false [⟨none, some 5, .v (.mov (.c (.int .i64 0)))⟩]
def k_envoyref02_Read_r11 : IC := .reg false [⟨none, some 6, .v (.mov (.c (.int .i64 0)))⟩]
def k_envoyref02_Read_r13 : IC := .reg false [⟨none, some 26, .v (.mov (.t 6))⟩, ⟨none, some 27, .v (.mov (.t 0))⟩, ⟨none, some 28, .v (.len true (.t 27))⟩, ⟨none, some 29, .v (.bin .lss .no (.t 26) (.t 28))⟩]
def k_envoyref02_Read_r14 : IC := .reg false [⟨none, some 32, .v (.mov (.t 0))⟩, ⟨none, some 33, .v (.mov (.t 6))⟩, ⟨none, some 34, .v (.idx (.t 32) (.t 33))⟩, ⟨none, some 35, .v (.bin .sub .no (.t 34) (.c (.int .u8 48)))⟩, ⟨none, some 36, .v (.cvi .i64 (.t 35))⟩, ⟨none, some 7, .v (.mov (.t 36))⟩]
def k_envoyref02_Read_r15 : IC := .reg false [⟨none, some 37, .v (.mov (.t 5))⟩, ⟨none, some 38, .v (.mov (.t 7))⟩, ⟨none, some 39, .v (.bin .sub .no (.c (.int .i64 9223372036854775807)) (.t 38))⟩, ⟨none, some 40, .v (.bin .quo .no (.t 39) (.c (.int .i64 10)))⟩, ⟨none, some 41, .v (.bin .gtr .no (.t 37) (.t 40))⟩]
def k_envoyref02_Read_r16 : IC := .reg false [⟨none, some 2, .v (.mov (.c (.int .i64 0)))⟩, ⟨none, some 3, .v (.mov (.c (.int .i64 4)))⟩]
def k_envoyref02_Read_r17 : IC := .reg false [⟨none, some 42, .v (.mov (.t 5))⟩, ⟨none, some 43, .v (.bin .mul .no (.c (.int .i64 10)) (.t 42))⟩, ⟨none, some 44, .v (.mov (.t 7))⟩, ⟨none, some 45, .v (.bin .add .no (.t 43) (.t 44))⟩, ⟨none, some 5, .v (.mov (.t 45))⟩]
def k_envoyref02_Read_r18 : IC := .reg false [⟨none, some 30, .v (.mov (.t 6))⟩, ⟨none, some 31, .v (.bin .add .no (.t 30) (.c (.int .i64 1)))⟩, ⟨none, some 6, .v (.mov (.t 31))⟩]
def k_envoyref02_Read_l12 : IC := (.seq (.seq k_envoyref02_Read_r13 (.cond (.t 29) .skip (.exit 2))) (.seq (.block 3 (.seq k_envoyref02_Read_r14 (.seq (.seq k_envoyref02_Read_r15 (.cond (.t 41) (.seq k_envoyref02_Read_r16 .ret) .skip)) k_envoyref02_Read_r17))) k_envoyref02_Read_r18))
def k_envoyref02_Read_r20 : IC := .reg false [⟨none, some 46, .v (.mov (.t 5))⟩, ⟨none, some 2, .v (.mov (.t 46))⟩, ⟨none, some 3, .v (.mov (.c (.int .i64 0)))⟩]
def k_envoyref02_Read : IC := (.seq k_envoyref02_Read_r0 (.seq (.seq k_envoyref02_Read_r1 (.cond (.t 9) (.seq k_envoyref02_Read_r2 .ret) .skip)) (.seq (.seq k_envoyref02_Read_r3 (.block 0 (.loop k_envoyref02_Read_l4))) (.seq k_envoyref02_Read_r10 (.seq (.seq k_envoyref02_Read_r11 (.block 2 (.loop k_envoyref02_Read_l12))) (.seq k_envoyref02_Read_r20 .ret))))))
@[go_sem] def s_envoyref02_Read : List (RV × Co) := [(.t 2, .id), (.t 3, .id)]
theorem c_envoyref02_Read : cFun Try.prog 24 = some (47, k_envoyref02_Read, s_envoyref02_Read) := by kernel_rfl

-- envoy/envoyref03.Small
def k_envoyref03_Small_r0 : IC := .reg false [⟨none, some 2, .v (.mov (.c (.bool false)))⟩]
def k_envoyref03_Small_r1 : IC := .reg false [⟨none, some 3, .v (.mov (.t 0))⟩, ⟨none, some 4, .v (.bin .geq .no (.t 3) (.c (.int .u8 97)))⟩, ⟨none, some 5, .v (.mov (.t 4))⟩, ⟨some (5, true), some 6, .v (.mov (.t 0))⟩, ⟨some (5, true), some 7, .v (.bin .leq .no (.t 6) (.c (.int .u8 122)))⟩, ⟨none, some 8, .v (.pick (.t 5) (.t 7) (.c (.bool false)))⟩, ⟨none, some 9, .v (.mov (.t 8))⟩, ⟨some (9, false), some 10, .v (.mov (.t 0))⟩, ⟨some (9, false), some 11, .v (.bin .eql .no (.t 10) (.c (.int .u8 95)))⟩, ⟨none, some 12, .v (.pick (.t 9) (.c (.bool true)) (.t 11))⟩, ⟨none, some 2, .v (.mov (.t 12))⟩]
def k_envoyref03_Small : IC := (.seq k_envoyref03_Small_r0 (.seq k_envoyref03_Small_r1 .ret))
@[go_sem] def s_envoyref03_Small : List (RV × Co) := [(.t 2, .id)]
theorem c_envoyref03_Small : cFun Try.prog 25 = some (13, k_envoyref03_Small, s_envoyref03_Small) := by kernel_rfl

-- envoy/envoyref03.Great
def k_envoyref03_Great_r0 : IC := .reg false [⟨none, some 2, .v (.mov (.c (.bool false)))⟩]
def k_envoyref03_Great_r1 : IC := .reg false [⟨none, some 3, .v (.mov (.t 0))⟩, ⟨none, some 4, .v (.bin .geq .no (.t 3) (.c (.int .u8 65)))⟩, ⟨none, some 5, .v (.mov (.t 4))⟩, ⟨some (5, true), some 6, .v (.mov (.t 0))⟩, ⟨some (5, true), some 7, .v (.bin .leq .no (.t 6) (.c (.int .u8 90)))⟩, ⟨none, some 8, .v (.pick (.t 5) (.t 7) (.c (.bool false)))⟩, ⟨none, some 2, .v (.mov (.t 8))⟩]
def k_envoyref03_Great : IC := (.seq k_envoyref03_Great_r0 (.seq k_envoyref03_Great_r1 .ret))
@[go_sem] def s_envoyref03_Great : List (RV × Co) := [(.t 2, .id)]
theorem c_envoyref03_Great : cFun Try.prog 26 = some (9, k_envoyref03_Great, s_envoyref03_Great) := by kernel_rfl

-- envoy/envoyref03.On
def k_envoyref03_On_r0 : IC := .reg false [⟨none, some 2, .v (.mov (.c (.bool false)))⟩]
def k_envoyref03_On_r1 : IC := .reg false [⟨none, some 3, .v (.mov (.t 0))⟩, ⟨none, some 4, .call (.c (.fn 25 [] [])) [((.t 3), .id)]⟩, ⟨none, some 5, .v (.mov (.t 4))⟩, ⟨some (5, false), some 6, .v (.mov (.t 0))⟩, ⟨some (5, false), some 7, .call (.c (.fn 26 [] [])) [((.t 6), .id)]⟩, ⟨none, some 8, .v (.pick (.t 5) (.c (.bool true)) (.t 7))⟩, ⟨none, some 9, .v (.mov (.t 8))⟩, ⟨some (9, false), some 10, .v (.mov (.t 0))⟩, ⟨some (9, false), some 11, .call (.c (.fn 23 [] [])) [((.t 10), .id)]⟩, ⟨none, some 12, .v (.pick (.t 9) (.c (.bool true)) (.t 11))⟩, ⟨none, some 13, .v (.mov (.t 12))⟩, ⟨some (13, false), some 14, .v (.mov (.t 0))⟩, ⟨some (13, false), some 15, .v (.bin .eql .no (.t 14) (.c (.int .u8 39)))⟩, ⟨none, some 16, .v (.pick (.t 13) (.c (.bool true)) (.t 15))⟩, ⟨none, some 2, .v (.mov (.t 16))⟩]
def k_envoyref03_On : IC := (.seq k_envoyref03_On_r0 (.seq k_envoyref03_On_r1 .ret))
@[go_sem] def s_envoyref03_On : List (RV × Co) := [(.t 2, .id)]
theorem c_envoyref03_On : cFun Try.prog 27 = some (17, k_envoyref03_On, s_envoyref03_On) := by kernel_rfl

-- envoy/envoyref03.Reserved
def k_envoyref03_Reserved_r0 : IC := .reg false [⟨none, some 2, .v (.mov (.c (.bool false)))⟩]
def k_envoyref03_Reserved_r1 : IC := .reg false [⟨none, some 3, .v (.mov (.t 0))⟩]
def k_envoyref03_Reserved_r2 : IC := .reg false [⟨none, some 5, .v (.bin .eql .no (.t 3) (.c (.str [100, 97, 116, 97])))⟩, ⟨none, some 4, .v (.mov (.t 5))⟩]
def k_envoyref03_Reserved_r3 : IC := .reg false [⟨none, some 6, .v (.bin .eql .no (.t 3) (.c (.str [99, 108, 97, 115, 115])))⟩, ⟨none, some 4, .v (.mov (.t 6))⟩]
def k_envoyref03_Reserved_r4 : IC := .reg false [⟨none, some 7, .v (.bin .eql .no (.t 3) (.c (.str [105, 110, 115, 116, 97, 110, 99, 101])))⟩, ⟨none, some 4, .v (.mov (.t 7))⟩]
def k_envoyref03_Reserved_r5 : IC := .reg false [⟨none, some 8, .v (.bin .eql .no (.t 3) (.c (.str [119, 104, 101, 114, 101])))⟩, ⟨none, some 4, .v (.mov (.t 8))⟩]
def k_envoyref03_Reserved_r6 : IC := .reg false [⟨none, some 9, .v (.bin .eql .no (.t 3) (.c (.str [108, 101, 116])))⟩, ⟨none, some 4, .v (.mov (.t 9))⟩]
def k_envoyref03_Reserved_r7 : IC := .reg false [⟨none, some 10, .v (.bin .eql .no (.t 3) (.c (.str [105, 110])))⟩, ⟨none, some 4, .v (.mov (.t 10))⟩]
def k_envoyref03_Reserved_r8 : IC := .reg false [⟨none, some 11, .v (.bin .eql .no (.t 3) (.c (.str [99, 97, 115, 101])))⟩, ⟨none, some 4, .v (.mov (.t 11))⟩]
def k_envoyref03_Reserved_r9 : IC := .reg false [⟨none, some 12, .v (.bin .eql .no (.t 3) (.c (.str [111, 102])))⟩, ⟨none, some 4, .v (.mov (.t 12))⟩]
def k_envoyref03_Reserved_r10 : IC := .reg false [⟨none, some 13, .v (.bin .eql .no (.t 3) (.c (.str [105, 102])))⟩, ⟨none, some 4, .v (.mov (.t 13))⟩]
def k_envoyref03_Reserved_r11 : IC := .reg false [⟨none, some 14, .v (.bin .eql .no (.t 3) (.c (.str [116, 104, 101, 110])))⟩, ⟨none, some 4, .v (.mov (.t 14))⟩]
def k_envoyref03_Reserved_r12 : IC := .reg false [⟨none, some 15, .v (.bin .eql .no (.t 3) (.c (.str [101, 108, 115, 101])))⟩, ⟨none, some 4, .v (.mov (.t 15))⟩]
def k_envoyref03_Reserved_r13 : IC := .reg false [⟨none, some 2, .v (.mov (.c (.bool true)))⟩]
def k_envoyref03_Reserved_r14 : IC := .reg false [⟨none, some 2, .v (.mov (.c (.bool false)))⟩]
def k_envoyref03_Reserved : IC := (.seq k_envoyref03_Reserved_r0 (.seq (.seq k_envoyref03_Reserved_r1 (.block 0 (.seq (.seq k_envoyref03_Reserved_r2 (.cond (.t 4) .skip (.seq k_envoyref03_Reserved_r3 (.cond (.t 4) .skip (.seq k_envoyref03_Reserved_r4 (.cond (.t 4) .skip (.seq k_envoyref03_Reserved_r5 (.cond (.t 4) .skip (.seq k_envoyref03_Reserved_r6 (.cond (.t 4) .skip (.seq k_envoyref03_Reserved_r7 (.cond (.t 4) .skip (.seq k_envoyref03_Reserved_r8 (.cond (.t 4) .skip (.seq k_envoyref03_Reserved_r9 (.cond (.t 4) .skip (.seq k_envoyref03_Reserved_r10 (.cond (.t 4) .skip (.seq k_envoyref03_Reserved_r11 (.cond (.t 4) .skip k_envoyref03_Reserved_r12)))))))))))))))))))) (.cond (.t 4) (.seq k_envoyref03_Reserved_r13 .ret) .skip)))) (.seq k_envoyref03_Reserved_r14 .ret)))
@[go_sem] def s_envoyref03_Reserved : List (RV × Co) := [(.t 2, .id)]
theorem c_envoyref03_Reserved : cFun Try.prog 28 = some (16, k_envoyref03_Reserved, s_envoyref03_Reserved) := by kernel_rfl

-- envoy/envoyref04.mark
def k_envoyref04_mark_r0 : IC := .reg false [⟨none, some 2, .v (.mov (.c (.str [])))⟩]
def k_envoyref04_mark_r1 : IC := .reg false [⟨none, some 3, .v (.mov (.t 0))⟩, ⟨none, some 4, .v (.len true (.t 3))⟩, ⟨none, some 5, .v (.bin .geq .no (.t 4) (.c (.int .i64 2)))⟩]
def k_envoyref04_mark_r2 : IC := .reg false [⟨none, some 6, .v (.mov (.t 0))⟩, ⟨none, some 7, .v (.sls (.t 6) none (some (.c (.int .i64 2))))⟩]
def k_envoyref04_mark_r3 : IC := .reg false [⟨none, some 9, .v (.bin .eql .no (.t 7) (.c (.str [45, 62])))⟩, ⟨none, some 8, .v (.mov (.t 9))⟩]
def k_envoyref04_mark_r4 : IC := .reg false [⟨none, some 10, .v (.bin .eql .no (.t 7) (.c (.str [61, 62])))⟩, ⟨none, some 8, .v (.mov (.t 10))⟩]
def k_envoyref04_mark_r5 : IC := .reg false [⟨none, some 11, .v (.bin .eql .no (.t 7) (.c (.str [58, 58])))⟩, ⟨none, some 8, .v (.mov (.t 11))⟩]
def k_envoyref04_mark_r6 : IC := .reg false [⟨none, some 12, .v (.mov (.t 0))⟩, ⟨none, some 13, .v (.sls (.t 12) none (some (.c (.int .i64 2))))⟩, ⟨none, some 2, .v (.mov (.t 13))⟩]
def k_envoyref04_mark_r7 : IC := .reg false [⟨none, some 14, .v (.mov (.t 0))⟩, ⟨none, some 15, .v (.idx (.t 14) (.c (.int .i64 0)))⟩]
def k_envoyref04_mark_r8 : IC := .reg false [⟨none, some 17, .v (.bin .eql .no (.t 15) (.c (.int .u8 40)))⟩, ⟨none, some 16, .v (.mov (.t 17))⟩]
def k_envoyref04_mark_r9 : IC := .reg false [⟨none, some 18, .v (.bin .eql .no (.t 15) (.c (.int .u8 41)))⟩, ⟨none, some 16, .v (.mov (.t 18))⟩]
def k_envoyref04_mark_r10 : IC := .reg false [⟨none, some 19, .v (.bin .eql .no (.t 15) (.c (.int .u8 123)))⟩, ⟨none, some 16, .v (.mov (.t 19))⟩]
def k_envoyref04_mark_r11 : IC := .reg false [⟨none, some 20, .v (.bin .eql .no (.t 15) (.c (.int .u8 125)))⟩, ⟨none, some 16, .v (.mov (.t 20))⟩]
def k_envoyref04_mark_r12 : IC := .reg false [⟨none, some 21, .v (.bin .eql .no (.t 15) (.c (.int .u8 59)))⟩, ⟨none, some 16, .v (.mov (.t 21))⟩]
def k_envoyref04_mark_r13 : IC := .reg false [⟨none, some 22, .v (.bin .eql .no (.t 15) (.c (.int .u8 44)))⟩, ⟨none, some 16, .v (.mov (.t 22))⟩]
def k_envoyref04_mark_r14 : IC := .reg false [⟨none, some 23, .v (.bin .eql .no (.t 15) (.c (.int .u8 61)))⟩, ⟨none, some 16, .v (.mov (.t 23))⟩]
def k_envoyref04_mark_r15 : IC := .reg false [⟨none, some 24, .v (.bin .eql .no (.t 15) (.c (.int .u8 124)))⟩, ⟨none, some 16, .v (.mov (.t 24))⟩]
def k_envoyref04_mark_r16 : IC := .reg false [⟨none, some 25, .v (.bin .eql .no (.t 15) (.c (.int .u8 92)))⟩, ⟨none, some 16, .v (.mov (.t 25))⟩]
def k_envoyref04_mark_r17 : IC := .reg false [⟨none, some 26, .v (.mov (.t 0))⟩, ⟨none, some 27, .v (.sls (.t 26) none (some (.c (.int .i64 1))))⟩, ⟨none, some 2, .v (.mov (.t 27))⟩]
def k_envoyref04_mark_r18 : IC := .reg false [⟨none, some 2, .v (.mov (.c (.str [])))⟩]
def k_envoyref04_mark : IC := (.seq k_envoyref04_mark_r0 (.seq (.seq k_envoyref04_mark_r1 (.cond (.t 5) (.seq k_envoyref04_mark_r2 (.block 0 (.seq (.seq k_envoyref04_mark_r3 (.cond (.t 8) .skip (.seq k_envoyref04_mark_r4 (.cond (.t 8) .skip k_envoyref04_mark_r5)))) (.cond (.t 8) (.seq k_envoyref04_mark_r6 .ret) .skip)))) .skip)) (.seq (.seq k_envoyref04_mark_r7 (.block 1 (.seq (.seq k_envoyref04_mark_r8 (.cond (.t 16) .skip (.seq k_envoyref04_mark_r9 (.cond (.t 16) .skip (.seq k_envoyref04_mark_r10 (.cond (.t 16) .skip (.seq k_envoyref04_mark_r11 (.cond (.t 16) .skip (.seq k_envoyref04_mark_r12 (.cond (.t 16) .skip (.seq k_envoyref04_mark_r13 (.cond (.t 16) .skip (.seq k_envoyref04_mark_r14 (.cond (.t 16) .skip (.seq k_envoyref04_mark_r15 (.cond (.t 16) .skip k_envoyref04_mark_r16)))))))))))))))) (.cond (.t 16) (.seq k_envoyref04_mark_r17 .ret) .skip)))) (.seq k_envoyref04_mark_r18 .ret))))
@[go_sem] def s_envoyref04_mark : List (RV × Co) := [(.t 2, .id)]
theorem c_envoyref04_mark : cFun Try.prog 29 = some (28, k_envoyref04_mark, s_envoyref04_mark) := by kernel_rfl

-- strings_Builder_Grow DOES NOT COMPILE
-- strings_Builder_WriteString DOES NOT COMPILE
-- strings_Builder_String DOES NOT COMPILE
-- envoy/lexer.while
def k_lexer_while_r0 : IC := .reg false [⟨none, some 4, .v (.mov (.c (.int .i64 0)))⟩]
def k_lexer_while_r1 : IC := .reg false [⟨none, some 6, .v (.mov (.t 0))⟩, ⟨none, some 7, .v (.len true (.t 6))⟩, ⟨none, some 8, .v (.mov (.c (.int .i64 0)))⟩]
def k_lexer_while_r3 : IC := .reg false [⟨none, some 9, .v (.bin .lss .no (.t 8) (.t 7))⟩]
def k_lexer_while_r4 : IC := .reg false [⟨none, some 10, .v (.mov (.t 8))⟩, ⟨none, some 5, .v (.mov (.t 10))⟩]
def k_lexer_while_r5 : IC := .reg false [⟨none, some 11, .v (.mov (.t 1))⟩, ⟨none, some 12, .v (.mov (.t 0))⟩, ⟨none, some 13, .v (.mov (.t 5))⟩, ⟨none, some 14, .v (.idx (.t 12) (.t 13))⟩, ⟨none, some 15, .call (.t 11) [((.t 14), .id)]⟩, ⟨none, some 16, .v (.un .not (.t 15))⟩]
def k_lexer_while_r6 : IC := .reg false [⟨none, some 17, .v (.mov (.t 5))⟩, ⟨none, some 4, .v (.mov (.t 17))⟩]
def k_lexer_while_r7 : IC := .reg false [⟨none, some 18, .v (.bin .add .no (.t 8) (.c (.int .i64 1)))⟩, ⟨none, some 8, .v (.mov (.t 18))⟩]
def k_lexer_while_l2 : IC := (.seq k_lexer_while_r3 (.seq (.cond (.t 9) .skip (.exit 0)) (.seq (.block 1 (.seq k_lexer_while_r4 (.seq k_lexer_while_r5 (.cond (.t 16) (.seq k_lexer_while_r6 .ret) .skip)))) k_lexer_while_r7)))
def k_lexer_while_r9 : IC := .reg false [⟨none, some 19, .v (.mov (.t 0))⟩, ⟨none, some 20, .v (.len true (.t 19))⟩, ⟨none, some 4, .v (.mov (.t 20))⟩]
def k_lexer_while : IC := (.seq k_lexer_while_r0 (.seq (.seq k_lexer_while_r1 (.block 0 (.loop k_lexer_while_l2))) (.seq k_lexer_while_r9 .ret)))
@[go_sem] def s_lexer_while : List (RV × Co) := [(.t 4, .id)]
theorem c_lexer_while : cFun Try.prog 33 = some (21, k_lexer_while, s_lexer_while) := by kernel_rfl

-- envoy/lexer.blank
def k_lexer_blank_r0 : IC := .reg false [⟨none, some 2, .v (.mov (.c (.bool false)))⟩]
def k_lexer_blank_r1 : IC := .reg false [⟨none, some 3, .v (.mov (.t 0))⟩, ⟨none, some 4, .v (.bin .eql .no (.t 3) (.c (.int .u8 9)))⟩, ⟨none, some 5, .v (.mov (.t 4))⟩, ⟨some (5, false), some 6, .v (.mov (.t 0))⟩, ⟨some (5, false), some 7, .v (.bin .eql .no (.t 6) (.c (.int .u8 10)))⟩, ⟨none, some 8, .v (.pick (.t 5) (.c (.bool true)) (.t 7))⟩, ⟨none, some 9, .v (.mov (.t 8))⟩, ⟨some (9, false), some 10, .v (.mov (.t 0))⟩, ⟨some (9, false), some 11, .v (.bin .eql .no (.t 10) (.c (.int .u8 13)))⟩, ⟨none, some 12, .v (.pick (.t 9) (.c (.bool true)) (.t 11))⟩, ⟨none, some 13, .v (.mov (.t 12))⟩, ⟨some (13, false), some 14, .v (.mov (.t 0))⟩, ⟨some (13, false), some 15, .v (.bin .eql .no (.t 14) (.c (.int .u8 32)))⟩, ⟨none, some 16, .v (.pick (.t 13) (.c (.bool true)) (.t 15))⟩, ⟨none, some 2, .v (.mov (.t 16))⟩]
def k_lexer_blank : IC := (.seq k_lexer_blank_r0 (.seq k_lexer_blank_r1 .ret))
@[go_sem] def s_lexer_blank : List (RV × Co) := [(.t 2, .id)]
theorem c_lexer_blank : cFun Try.prog 34 = some (17, k_lexer_blank, s_lexer_blank) := by kernel_rfl

-- strings.HasPrefix
def k_strings_HasPrefix_r0 : IC := .reg false [⟨none, some 4, .v (.mov (.c (.bool false)))⟩]
def k_strings_HasPrefix_r1 : IC := .reg false [⟨none, some 5, .v (.mov (.t 0))⟩, ⟨none, some 6, .v (.mov (.t 1))⟩, ⟨none, some 7, .call (.c (.fn 44 [] [])) [((.t 5), .id), ((.t 6), .id)]⟩, ⟨none, some 4, .v (.mov (.t 7))⟩]
def k_strings_HasPrefix : IC := (.seq k_strings_HasPrefix_r0 (.seq k_strings_HasPrefix_r1 .ret))
@[go_sem] def s_strings_HasPrefix : List (RV × Co) := [(.t 4, .id)]
theorem c_strings_HasPrefix : cFun Try.prog 35 = some (8, k_strings_HasPrefix, s_strings_HasPrefix) := by kernel_rfl

-- envoy/lexer.skip$1
def k_lexer_skip_1_r0 : IC := .reg false [⟨none, some 2, .v (.mov (.c (.bool false)))⟩]
def k_lexer_skip_1_r1 : IC := .reg false [⟨none, some 3, .v (.mov (.t 0))⟩, ⟨none, some 4, .v (.bin .neq .no (.t 3) (.c (.int .u8 10)))⟩, ⟨none, some 2, .v (.mov (.t 4))⟩]
def k_lexer_skip_1 : IC := (.seq k_lexer_skip_1_r0 (.seq k_lexer_skip_1_r1 .ret))
@[go_sem] def s_lexer_skip_1 : List (RV × Co) := [(.t 2, .id)]
theorem c_lexer_skip_1 : cFun Try.prog 36 = some (5, k_lexer_skip_1, s_lexer_skip_1) := by kernel_rfl

-- envoy/lexer.digit
def k_lexer_digit_r0 : IC := .reg false [⟨none, some 2, .v (.mov (.c (.bool false)))⟩]
def k_lexer_digit_r1 : IC := .reg false [⟨none, some 3, .v (.mov (.t 0))⟩, ⟨none, some 4, .v (.bin .geq .no (.t 3) (.c (.int .u8 48)))⟩, ⟨none, some 5, .v (.mov (.t 4))⟩, ⟨some (5, true), some 6, .v (.mov (.t 0))⟩, ⟨some (5, true), some 7, .v (.bin .leq .no (.t 6) (.c (.int .u8 57)))⟩, ⟨none, some 8, .v (.pick (.t 5) (.t 7) (.c (.bool false)))⟩, ⟨none, some 2, .v (.mov (.t 8))⟩]
def k_lexer_digit : IC := (.seq k_lexer_digit_r0 (.seq k_lexer_digit_r1 .ret))
@[go_sem] def s_lexer_digit : List (RV × Co) := [(.t 2, .id)]
theorem c_lexer_digit : cFun Try.prog 37 = some (9, k_lexer_digit, s_lexer_digit) := by kernel_rfl

-- envoy/ints.Read
def k_ints_Read_r0 : IC := .reg false [⟨none, some 2, .v (.mov (.c (.int .i64 0)))⟩, ⟨none, some 3, .v (.mov (.c (.int .i64 0)))⟩]
def k_ints_Read_r1 : IC := .reg false [⟨none, some 8, .v (.mov (.t 0))⟩, ⟨none, some 9, .v (.len true (.t 8))⟩, ⟨none, some 10, .v (.mov (.c (.int .i64 0)))⟩]
def k_ints_Read_r3 : IC := .reg false [⟨none, some 11, .v (.bin .lss .no (.t 10) (.t 9))⟩]
def k_ints_Read_r4 : IC := .reg false [⟨none, some 12, .v (.mov (.t 10))⟩, ⟨none, some 4, .v (.mov (.t 12))⟩]
def k_ints_Read_r5 : IC := .reg false [⟨none, some 13, .v (.mov (.t 0))⟩, ⟨none, some 14, .v (.mov (.t 4))⟩, ⟨none, some 15, .v (.idx (.t 13) (.t 14))⟩, ⟨none, some 16, .v (.bin .lss .no (.t 15) (.c (.int .u8 48)))⟩, ⟨none, some 17, .v (.mov (.t 16))⟩, ⟨some (17, false), some 18, .v (.mov (.t 0))⟩, ⟨some (17, false), some 19, .v (.mov (.t 4))⟩, ⟨some (17, false), some 20, .v (.idx (.t 18) (.t 19))⟩, ⟨some (17, false), some 21, .v (.bin .gtr .no (.t 20) (.c (.int .u8 57)))⟩, ⟨none, some 22, .v (.pick (.t 17) (.c (.bool true)) (.t 21))⟩]
def k_ints_Read_r6 : IC := .reg false [⟨none, some 2, .v (.mov (.c (.int .i64 0)))⟩, ⟨none, some 3, .v (.mov (.c (.int .i64 5)))⟩]
def k_ints_Read_r7 : IC := .reg false [⟨none, some 23, .v (.bin .add .no (.t 10) (.c (.int .i64 1)))⟩, ⟨none, some 10, .v (.mov (.t 23))⟩]
def k_ints_Read_l2 : IC := (.seq k_ints_Read_r3 (.seq (.cond (.t 11) .skip (.exit 0)) (.seq (.block 1 (.seq k_ints_Read_r4 (.seq k_ints_Read_r5 (.cond (.t 22) (.seq k_ints_Read_r6 .ret) .skip)))) k_ints_Read_r7)))
def k_ints_Read_r9 : IC := .reg false [⟨none, some 24, .v (.mov (.t 0))⟩, ⟨none, some 25, .v (.bin .eql .no (.t 24) (.c (.str [])))⟩]
def k_ints_Read_r10 : IC := .reg false [⟨none, some 2, .v (.mov (.c (.int .i64 0)))⟩, ⟨none, some 3, .v (.mov (.c (.int .i64 5)))⟩]
def k_ints_Read_r11 : IC := .reg false [⟨none, some 5, .v (.mov (.c (.int .i64 0)))⟩, ⟨none, some 6, .v (.mov (.c (.int .i64 0)))⟩]
def k_ints_Read_r12 : IC := .reg false [⟨none, some 26, .v (.mov (.t 0))⟩, ⟨none, some 27, .v (.mov (.t 6))⟩, ⟨none, some 28, .v (.idx (.t 26) (.t 27))⟩, ⟨none, some 29, .v (.bin .sub .no (.t 28) (.c (.int .u8 48)))⟩, ⟨none, some 30, .v (.cvi .i64 (.t 29))⟩, ⟨none, some 7, .v (.mov (.t 30))⟩]
def k_ints_Read_r13 : IC := .reg false [⟨none, some 31, .v (.mov (.t 5))⟩, ⟨none, some 32, .v (.mov (.t 7))⟩, ⟨none, some 33, .v (.bin .sub .no (.c (.int .i64 9223372036854775807)) (.t 32))⟩, ⟨none, some 34, .v (.bin .quo .no (.t 33) (.c (.int .i64 10)))⟩, ⟨none, some 35, .v (.bin .gtr .no (.t 31) (.t 34))⟩]
def k_ints_Read_r14 : IC := .reg false [⟨none, some 2, .v (.mov (.c (.int .i64 0)))⟩, ⟨none, some 3, .v (.mov (.c (.int .i64 4)))⟩]
def k_ints_Read_r15 : IC := .reg false [⟨none, some 36, .v (.mov (.t 5))⟩, ⟨none, some 37, .v (.bin .mul .no (.c (.int .i64 10)) (.t 36))⟩, ⟨none, some 38, .v (.mov (.t 7))⟩, ⟨none, some 39, .v (.bin .add .no (.t 37) (.t 38))⟩, ⟨none, some 5, .v (.mov (.t 39))⟩]
def k_ints_Read_r16 : IC := .reg false [⟨none, some 40, .v (.mov (.t 6))⟩, ⟨none, some 41, .v (.bin .add .no (.t 40) (.c (.int .i64 1)))⟩, ⟨none, some 6, .v (.mov (.t 41))⟩]
def k_ints_Read_r17 : IC := .reg false [⟨none, some 42, .v (.mov (.t 6))⟩, ⟨none, some 43, .v (.mov (.t 0))⟩, ⟨none, some 44, .v (.len true (.t 43))⟩, ⟨none, some 45, .v (.bin .lss .no (.t 42) (.t 44))⟩]
def k_ints_Read_r18 : IC := .reg false [⟨none, some 46, .v (.mov (.t 5))⟩, ⟨none, some 2, .v (.mov (.t 46))⟩, ⟨none, some 3, .v (.mov (.c (.int .i64 0)))⟩]
def k_ints_Read : IC := (.seq k_ints_Read_r0 (.scope (.seq (.seq k_ints_Read_r1 (.block 0 (.loop k_ints_Read_l2))) (.seq (.seq k_ints_Read_r9 (.cond (.t 25) (.seq k_ints_Read_r10 .ret) .skip)) (.seq k_ints_Read_r11 (.seq (.label 0) (.seq k_ints_Read_r12 (.seq (.seq k_ints_Read_r13 (.cond (.t 35) (.seq k_ints_Read_r14 .ret) .skip)) (.seq k_ints_Read_r15 (.seq (.seq k_ints_Read_r16 (.seq k_ints_Read_r17 (.cond (.t 45) (.goto 0) .skip))) (.seq k_ints_Read_r18 .ret)))))))))))
@[go_sem] def s_ints_Read : List (RV × Co) := [(.t 2, .id), (.t 3, .id)]
theorem c_ints_Read : cFun Try.prog 38 = some (47, k_ints_Read, s_ints_Read) := by kernel_rfl

-- envoy/lexer.on
def k_lexer_on_r0 : IC := .reg false [⟨none, some 2, .v (.mov (.c (.bool false)))⟩]
def k_lexer_on_r1 : IC := .reg false [⟨none, some 3, .v (.mov (.t 0))⟩, ⟨none, some 4, .v (.bin .geq .no (.t 3) (.c (.int .u8 97)))⟩, ⟨none, some 5, .v (.mov (.t 4))⟩, ⟨some (5, true), some 6, .v (.mov (.t 0))⟩, ⟨some (5, true), some 7, .v (.bin .leq .no (.t 6) (.c (.int .u8 122)))⟩, ⟨none, some 8, .v (.pick (.t 5) (.t 7) (.c (.bool false)))⟩, ⟨none, some 9, .v (.mov (.t 8))⟩, ⟨some (9, false), some 10, .v (.mov (.t 0))⟩, ⟨some (9, false), some 11, .v (.bin .geq .no (.t 10) (.c (.int .u8 65)))⟩, ⟨some (9, false), some 12, .v (.mov (.t 11))⟩, ⟨some (12, true), some 13, .v (.mov (.t 0))⟩, ⟨some (12, true), some 14, .v (.bin .leq .no (.t 13) (.c (.int .u8 90)))⟩, ⟨some (9, false), some 15, .v (.pick (.t 12) (.t 14) (.c (.bool false)))⟩, ⟨none, some 16, .v (.pick (.t 9) (.c (.bool true)) (.t 15))⟩, ⟨none, some 17, .v (.mov (.t 16))⟩, ⟨some (17, false), some 18, .v (.mov (.t 0))⟩, ⟨some (17, false), some 19, .v (.bin .eql .no (.t 18) (.c (.int .u8 95)))⟩, ⟨none, some 20, .v (.pick (.t 17) (.c (.bool true)) (.t 19))⟩, ⟨none, some 21, .v (.mov (.t 20))⟩, ⟨some (21, false), some 22, .v (.mov (.t 0))⟩, ⟨some (21, false), some 23, .v (.bin .eql .no (.t 22) (.c (.int .u8 39)))⟩, ⟨none, some 24, .v (.pick (.t 21) (.c (.bool true)) (.t 23))⟩, ⟨none, some 25, .v (.mov (.t 24))⟩, ⟨some (25, false), some 26, .v (.mov (.t 0))⟩, ⟨some (25, false), some 27, .call (.c (.fn 37 [] [])) [((.t 26), .id)]⟩, ⟨none, some 28, .v (.pick (.t 25) (.c (.bool true)) (.t 27))⟩, ⟨none, some 2, .v (.mov (.t 28))⟩]
def k_lexer_on : IC := (.seq k_lexer_on_r0 (.seq k_lexer_on_r1 .ret))
@[go_sem] def s_lexer_on : List (RV × Co) := [(.t 2, .id)]
theorem c_lexer_on : cFun Try.prog 39 = some (29, k_lexer_on, s_lexer_on) := by kernel_rfl

-- envoy/lexer.name
def k_lexer_name_r0 : IC := .reg false [⟨none, some 2, .alo [(.int .i64 0), (.int .i64 0), (.int .i64 0), (.str [])]⟩]
def k_lexer_name_r1 : IC := .reg false [⟨none, some 4, .v (.mov (.t 0))⟩, ⟨none, some 5, .v (.bld [(.int .i64 0), (.int .i64 0), (.int .i64 0), (.str [])] [(0, 1, (.c (.int .i64 1))), (3, 1, (.t 4))])⟩, ⟨none, some 3, .alo [(.int .i64 0), (.int .i64 0), (.int .i64 0), (.str [])]⟩, ⟨none, none, .st 4 .id (.t 3) (.t 5)⟩]
def k_lexer_name_r2 : IC := .reg false [⟨none, some 7, .v (.mov (.t 0))⟩, ⟨none, some 8, .v (.bin .eql .no (.t 7) (.c (.str [95])))⟩, ⟨none, some 6, .v (.mov (.t 8))⟩]
def k_lexer_name_r3 : IC := .reg false [⟨none, some 9, .v (.fad (.t 3) 0)⟩, ⟨none, none, .st 1 .id (.t 9) (.c (.int .i64 5))⟩]
def k_lexer_name_r4 : IC := .reg false [⟨none, some 11, .v (.mov (.t 0))⟩, ⟨none, some 12, .call (.c (.fn 45 [] [])) [((.t 11), .id)]⟩, ⟨none, some 10, .v (.mov (.t 12))⟩]
def k_lexer_name_r5 : IC := .reg false [⟨none, some 13, .v (.fad (.t 3) 0)⟩, ⟨none, none, .st 1 .id (.t 13) (.c (.int .i64 4))⟩]
def k_lexer_name_r6 : IC := .reg false [⟨none, some 15, .v (.mov (.t 0))⟩, ⟨none, some 16, .call (.c (.fn 46 [] [])) [((.t 15), .id)]⟩, ⟨none, some 14, .v (.mov (.t 16))⟩]
def k_lexer_name_r7 : IC := .reg false [⟨none, some 17, .v (.fad (.t 3) 0)⟩, ⟨none, none, .st 1 .id (.t 17) (.c (.int .i64 2))⟩]
def k_lexer_name_r8 : IC := .reg false [⟨none, some 18, .v (.ld true 4 (.t 3))⟩, ⟨none, none, .st 4 .id (.t 2) (.t 18)⟩]
def k_lexer_name : IC := (.seq k_lexer_name_r0 (.seq k_lexer_name_r1 (.seq (.block 0 (.seq k_lexer_name_r2 (.cond (.t 6) k_lexer_name_r3 (.seq k_lexer_name_r4 (.cond (.t 10) k_lexer_name_r5 (.seq k_lexer_name_r6 (.cond (.t 14) k_lexer_name_r7 .skip))))))) (.seq k_lexer_name_r8 .ret))))
@[go_sem] def s_lexer_name : List (RV × Co) := [(.c true 4 2, .id)]
theorem c_lexer_name : cFun Try.prog 40 = some (19, k_lexer_name, s_lexer_name) := by kernel_rfl

-- envoy/lexer.mark
def k_lexer_mark_r0 : IC := .reg false [⟨none, some 2, .v (.mov (.c (.int .i64 0)))⟩]
def k_lexer_mark_r1 : IC := .reg false [⟨none, some 5, .v (.bld [(.str []), (.str []), (.str []), (.str []), (.str []), (.str []), (.str []), (.str []), (.str []), (.str []), (.str []), (.str [])] [(0, 1, (.c (.str [45, 62]))), (1, 1, (.c (.str [61, 62]))), (2, 1, (.c (.str [58, 58]))), (3, 1, (.c (.str [40]))), (4, 1, (.c (.str [41]))), (5, 1, (.c (.str [123]))), (6, 1, (.c (.str [125]))), (7, 1, (.c (.str [59]))), (8, 1, (.c (.str [44]))), (9, 1, (.c (.str [61]))), (10, 1, (.c (.str [124]))), (11, 1, (.c (.str [92])))])⟩, ⟨none, some 6, .v (.mov (.c (.int .i64 0)))⟩]
def k_lexer_mark_r3 : IC := .reg false [⟨none, some 7, .v (.bin .lss .no (.t 6) (.c (.int .i64 12)))⟩]
def k_lexer_mark_r4 : IC := .reg false [⟨none, some 8, .v (.ida false 1 12 (.t 5) (.t 6))⟩, ⟨none, some 4, .v (.mov (.t 8))⟩]
def k_lexer_mark_r5 : IC := .reg false [⟨none, some 9, .v (.mov (.t 0))⟩, ⟨none, some 10, .v (.mov (.t 4))⟩, ⟨none, some 11, .call (.c (.fn 35 [] [])) [((.t 9), .id), ((.t 10), .id)]⟩]
def k_lexer_mark_r6 : IC := .reg false [⟨none, some 12, .v (.mov (.t 4))⟩, ⟨none, some 13, .v (.len true (.t 12))⟩, ⟨none, some 2, .v (.mov (.t 13))⟩]
def k_lexer_mark_r7 : IC := .reg false [⟨none, some 14, .v (.bin .add .no (.t 6) (.c (.int .i64 1)))⟩, ⟨none, some 6, .v (.mov (.t 14))⟩]
def k_lexer_mark_l2 : IC := (.seq k_lexer_mark_r3 (.seq (.cond (.t 7) .skip (.exit 0)) (.seq (.block 1 (.seq k_lexer_mark_r4 (.seq k_lexer_mark_r5 (.cond (.t 11) (.seq k_lexer_mark_r6 .ret) .skip)))) k_lexer_mark_r7)))
def k_lexer_mark_r9 : IC := .reg false [⟨none, some 2, .v (.mov (.c (.int .i64 0)))⟩]
def k_lexer_mark : IC := (.seq k_lexer_mark_r0 (.seq (.seq k_lexer_mark_r1 (.block 0 (.loop k_lexer_mark_l2))) (.seq k_lexer_mark_r9 .ret)))
@[go_sem] def s_lexer_mark : List (RV × Co) := [(.t 2, .id)]
theorem c_lexer_mark : cFun Try.prog 41 = some (15, k_lexer_mark, s_lexer_mark) := by kernel_rfl

-- strings_Builder_copyCheck DOES NOT COMPILE
-- strings_Builder_grow DOES NOT COMPILE
-- internal/stringslite.HasPrefix
def k_internal_stringslite_HasPrefix_r0 : IC := .reg false [⟨none, some 4, .v (.mov (.c (.bool false)))⟩]
def k_internal_stringslite_HasPrefix_r1 : IC := .reg false [⟨none, some 5, .v (.mov (.t 0))⟩, ⟨none, some 6, .v (.len true (.t 5))⟩, ⟨none, some 7, .v (.mov (.t 1))⟩, ⟨none, some 8, .v (.len true (.t 7))⟩, ⟨none, some 9, .v (.bin .geq .no (.t 6) (.t 8))⟩, ⟨none, some 10, .v (.mov (.t 9))⟩, ⟨some (10, true), some 11, .v (.mov (.t 0))⟩, ⟨some (10, true), some 12, .v (.mov (.t 1))⟩, ⟨some (10, true), some 13, .v (.len true (.t 12))⟩, ⟨some (10, true), some 14, .v (.sls (.t 11) none (some (.t 13)))⟩, ⟨some (10, true), some 15, .v (.mov (.t 1))⟩, ⟨some (10, true), some 16, .v (.bin .eql .no (.t 14) (.t 15))⟩, ⟨none, some 17, .v (.pick (.t 10) (.t 16) (.c (.bool false)))⟩, ⟨none, some 4, .v (.mov (.t 17))⟩]
def k_internal_stringslite_HasPrefix : IC := (.seq k_internal_stringslite_HasPrefix_r0 (.seq k_internal_stringslite_HasPrefix_r1 .ret))
@[go_sem] def s_internal_stringslite_HasPrefix : List (RV × Co) := [(.t 4, .id)]
theorem c_internal_stringslite_HasPrefix : cFun Try.prog 44 = some (18, k_internal_stringslite_HasPrefix, s_internal_stringslite_HasPrefix) := by kernel_rfl

-- envoy/names.Reserved
def k_names_Reserved_r0 : IC := .reg false [⟨none, some 2, .v (.mov (.c (.bool false)))⟩]
def k_names_Reserved_r1 : IC := .reg false [⟨none, some 3, .v (.mov (.c (.bool false)))⟩]
def k_names_Reserved_r2 : IC := .reg false [⟨none, some 6, .v (.bld [(.str []), (.str []), (.str []), (.str []), (.str []), (.str []), (.str []), (.str []), (.str []), (.str []), (.str [])] [(0, 1, (.c (.str [100, 97, 116, 97]))), (1, 1, (.c (.str [99, 108, 97, 115, 115]))), (2, 1, (.c (.str [105, 110, 115, 116, 97, 110, 99, 101]))), (3, 1, (.c (.str [119, 104, 101, 114, 101]))), (4, 1, (.c (.str [108, 101, 116]))), (5, 1, (.c (.str [105, 110]))), (6, 1, (.c (.str [99, 97, 115, 101]))), (7, 1, (.c (.str [111, 102]))), (8, 1, (.c (.str [105, 102]))), (9, 1, (.c (.str [116, 104, 101, 110]))), (10, 1, (.c (.str [101, 108, 115, 101])))])⟩, ⟨none, some 7, .v (.mov (.c (.int .i64 0)))⟩]
def k_names_Reserved_r4 : IC := .reg false [⟨none, some 8, .v (.bin .lss .no (.t 7) (.c (.int .i64 11)))⟩]
def k_names_Reserved_r5 : IC := .reg false [⟨none, some 9, .v (.ida false 1 11 (.t 6) (.t 7))⟩, ⟨none, some 5, .v (.mov (.t 9))⟩]
def k_names_Reserved_r6 : IC := .reg false [⟨none, some 10, .v (.mov (.t 5))⟩, ⟨none, some 11, .v (.mov (.t 0))⟩, ⟨none, some 12, .v (.bin .neq .no (.t 10) (.t 11))⟩]
def k_names_Reserved_r7 : IC := .reg false [⟨none, some 3, .v (.mov (.c (.bool true)))⟩]
def k_names_Reserved_r8 : IC := .reg false [⟨none, some 13, .v (.bin .add .no (.t 7) (.c (.int .i64 1)))⟩, ⟨none, some 7, .v (.mov (.t 13))⟩]
def k_names_Reserved_l3 : IC := (.seq k_names_Reserved_r4 (.seq (.cond (.t 8) .skip (.exit 0)) (.seq (.block 1 (.seq k_names_Reserved_r5 (.seq (.seq k_names_Reserved_r6 (.cond (.t 12) (.exit 1) .skip)) (.seq k_names_Reserved_r7 (.exit 0))))) k_names_Reserved_r8)))
def k_names_Reserved_r10 : IC := .reg false [⟨none, some 14, .v (.mov (.t 3))⟩, ⟨none, some 2, .v (.mov (.t 14))⟩]
def k_names_Reserved : IC := (.seq k_names_Reserved_r0 (.scope (.seq k_names_Reserved_r1 (.seq (.label 0) (.seq (.seq k_names_Reserved_r2 (.block 0 (.loop k_names_Reserved_l3))) (.seq k_names_Reserved_r10 .ret))))))
@[go_sem] def s_names_Reserved : List (RV × Co) := [(.t 2, .id)]
theorem c_names_Reserved : cFun Try.prog 45 = some (15, k_names_Reserved, s_names_Reserved) := by kernel_rfl

-- envoy/names.Con
def k_names_Con_r0 : IC := .reg false [⟨none, some 2, .v (.mov (.c (.bool false)))⟩]
def k_names_Con_r1 : IC := .reg false [⟨none, some 3, .v (.mov (.t 0))⟩, ⟨none, some 4, .v (.bin .neq .no (.t 3) (.c (.str [])))⟩, ⟨none, some 5, .v (.mov (.t 4))⟩, ⟨some (5, true), some 6, .v (.mov (.t 0))⟩, ⟨some (5, true), some 7, .v (.idx (.t 6) (.c (.int .i64 0)))⟩, ⟨some (5, true), some 8, .call (.c (.fn 49 [] [])) [((.t 7), .id)]⟩, ⟨none, some 9, .v (.pick (.t 5) (.t 8) (.c (.bool false)))⟩, ⟨none, some 10, .v (.mov (.t 9))⟩, ⟨some (10, true), some 11, .v (.mov (.t 0))⟩, ⟨some (10, true), some 12, .call (.c (.fn 50 [] [])) [((.t 11), .id)]⟩, ⟨none, some 13, .v (.pick (.t 10) (.t 12) (.c (.bool false)))⟩, ⟨none, some 2, .v (.mov (.t 13))⟩]
def k_names_Con : IC := (.seq k_names_Con_r0 (.seq k_names_Con_r1 .ret))
@[go_sem] def s_names_Con : List (RV × Co) := [(.t 2, .id)]
theorem c_names_Con : cFun Try.prog 46 = some (14, k_names_Con, s_names_Con) := by kernel_rfl

-- envoy/names.great
def k_names_great_r0 : IC := .reg false [⟨none, some 2, .v (.mov (.c (.bool false)))⟩]
def k_names_great_r1 : IC := .reg false [⟨none, some 3, .v (.mov (.t 0))⟩, ⟨none, some 4, .v (.bin .geq .no (.t 3) (.c (.int .u8 65)))⟩, ⟨none, some 5, .v (.mov (.t 4))⟩, ⟨some (5, true), some 6, .v (.mov (.t 0))⟩, ⟨some (5, true), some 7, .v (.bin .leq .no (.t 6) (.c (.int .u8 90)))⟩, ⟨none, some 8, .v (.pick (.t 5) (.t 7) (.c (.bool false)))⟩, ⟨none, some 2, .v (.mov (.t 8))⟩]
def k_names_great : IC := (.seq k_names_great_r0 (.seq k_names_great_r1 .ret))
@[go_sem] def s_names_great : List (RV × Co) := [(.t 2, .id)]
theorem c_names_great : cFun Try.prog 49 = some (9, k_names_great, s_names_great) := by kernel_rfl

-- envoy/names.goes
def k_names_goes_r0 : IC := .reg false [⟨none, some 2, .v (.mov (.c (.bool false)))⟩]
def k_names_goes_r1 : IC := .reg false [⟨none, some 5, .v (.mov (.t 0))⟩, ⟨none, some 6, .v (.len true (.t 5))⟩, ⟨none, some 7, .v (.mov (.c (.int .i64 0)))⟩]
def k_names_goes_r3 : IC := .reg false [⟨none, some 8, .v (.bin .lss .no (.t 7) (.t 6))⟩]
def k_names_goes_r4 : IC := .reg false [⟨none, some 9, .v (.mov (.t 7))⟩, ⟨none, some 3, .v (.mov (.t 9))⟩]
def k_names_goes_r5 : IC := .reg false [⟨none, some 10, .v (.mov (.t 0))⟩, ⟨none, some 11, .v (.mov (.t 3))⟩, ⟨none, some 12, .v (.idx (.t 10) (.t 11))⟩, ⟨none, some 4, .v (.mov (.t 12))⟩]
def k_names_goes_r6 : IC := .reg false [⟨none, some 13, .v (.mov (.t 4))⟩, ⟨none, some 14, .call (.c (.fn 51 [] [])) [((.t 13), .id)]⟩, ⟨none, some 15, .v (.un .not (.t 14))⟩, ⟨none, some 16, .v (.mov (.t 15))⟩, ⟨some (16, true), some 17, .v (.mov (.t 4))⟩, ⟨some (16, true), some 18, .call (.c (.fn 49 [] [])) [((.t 17), .id)]⟩, ⟨some (16, true), some 19, .v (.un .not (.t 18))⟩, ⟨none, some 20, .v (.pick (.t 16) (.t 19) (.c (.bool false)))⟩, ⟨none, some 21, .v (.mov (.t 20))⟩, ⟨some (21, true), some 22, .v (.mov (.t 4))⟩, ⟨some (21, true), some 23, .v (.bin .lss .no (.t 22) (.c (.int .u8 48)))⟩, ⟨some (21, true), some 24, .v (.mov (.t 23))⟩, ⟨some (24, false), some 25, .v (.mov (.t 4))⟩, ⟨some (24, false), some 26, .v (.bin .gtr .no (.t 25) (.c (.int .u8 57)))⟩, ⟨some (21, true), some 27, .v (.pick (.t 24) (.c (.bool true)) (.t 26))⟩, ⟨none, some 28, .v (.pick (.t 21) (.t 27) (.c (.bool false)))⟩, ⟨none, some 29, .v (.mov (.t 28))⟩, ⟨some (29, true), some 30, .v (.mov (.t 4))⟩, ⟨some (29, true), some 31, .v (.bin .neq .no (.t 30) (.c (.int .u8 39)))⟩, ⟨none, some 32, .v (.pick (.t 29) (.t 31) (.c (.bool false)))⟩]
def k_names_goes_r7 : IC := .reg false [⟨none, some 2, .v (.mov (.c (.bool false)))⟩]
def k_names_goes_r8 : IC := .reg false [⟨none, some 33, .v (.bin .add .no (.t 7) (.c (.int .i64 1)))⟩, ⟨none, some 7, .v (.mov (.t 33))⟩]
def k_names_goes_l2 : IC := (.seq k_names_goes_r3 (.seq (.cond (.t 8) .skip (.exit 0)) (.seq (.block 1 (.seq k_names_goes_r4 (.seq k_names_goes_r5 (.seq k_names_goes_r6 (.cond (.t 32) (.seq k_names_goes_r7 .ret) .skip))))) k_names_goes_r8)))
def k_names_goes_r10 : IC := .reg false [⟨none, some 2, .v (.mov (.c (.bool true)))⟩]
def k_names_goes : IC := (.seq k_names_goes_r0 (.seq (.seq k_names_goes_r1 (.block 0 (.loop k_names_goes_l2))) (.seq k_names_goes_r10 .ret)))
@[go_sem] def s_names_goes : List (RV × Co) := [(.t 2, .id)]
theorem c_names_goes : cFun Try.prog 50 = some (34, k_names_goes, s_names_goes) := by kernel_rfl

-- envoy/names.small
def k_names_small_r0 : IC := .reg false [⟨none, some 2, .v (.mov (.c (.bool false)))⟩]
def k_names_small_r1 : IC := .reg false [⟨none, some 3, .v (.mov (.t 0))⟩, ⟨none, some 4, .v (.bin .geq .no (.t 3) (.c (.int .u8 97)))⟩, ⟨none, some 5, .v (.mov (.t 4))⟩, ⟨some (5, true), some 6, .v (.mov (.t 0))⟩, ⟨some (5, true), some 7, .v (.bin .leq .no (.t 6) (.c (.int .u8 122)))⟩, ⟨none, some 8, .v (.pick (.t 5) (.t 7) (.c (.bool false)))⟩, ⟨none, some 9, .v (.mov (.t 8))⟩, ⟨some (9, false), some 10, .v (.mov (.t 0))⟩, ⟨some (9, false), some 11, .v (.bin .eql .no (.t 10) (.c (.int .u8 95)))⟩, ⟨none, some 12, .v (.pick (.t 9) (.c (.bool true)) (.t 11))⟩, ⟨none, some 2, .v (.mov (.t 12))⟩]
def k_names_small : IC := (.seq k_names_small_r0 (.seq k_names_small_r1 .ret))
@[go_sem] def s_names_small : List (RV × Co) := [(.t 2, .id)]
theorem c_names_small : cFun Try.prog 51 = some (13, k_names_small, s_names_small) := by kernel_rfl

-- strings_Builder_Reset DOES NOT COMPILE
end Go.Proofs.Ythakdbpffcicfaa
