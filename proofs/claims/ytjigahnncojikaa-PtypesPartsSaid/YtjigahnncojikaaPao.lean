/- A text of this proof. -/
import Derived.Test.YtjigahnncojikaaPad
import Derived.Test.YtjigahnncojikaaProg
/- The compiled code of the functions. -/
namespace Go.Proofs.Ytjigahnncojikaa
open Go Go.V
@[reducible] def zm (d s : Nat) : GI := ⟨none, some d, .v (.mov (.t s))⟩
@[reducible] def zv (d : Nat) (x : IV) : GI := ⟨none, some d, .v x⟩
@[reducible] def zi (d : Nat) (i : I) : GI := ⟨none, some d, i⟩
@[reducible] def zn (i : I) : GI := ⟨none, none, i⟩
@[reducible] def zw (j : Nat) (b : Bool) (d : Nat) (x : IV) : GI := ⟨some (j, b), some d, .v x⟩
@[reducible] def zp (g : GI) : GI × List Nat := (g, [])
def k0a_r0 : IC := .reg false [zv 4 (.mov (.c (.bool false)))]
def k0a_r1 : IC := .reg false [zm 16 0, zv 17 (.len false (.t 16)), zv 18 (.bin .gtr .no (.t 17) (.c (.int .i64 500)))]
def k0a_r2 : IC := .reg false [zi 19 (.call (.c (.fn 8 [] [])) []), zm 4 19]
def k0a_r3 : IC := .reg false [zm 20 0, zi 21 (.call (.c (.fn 14 [] [])) [((.t 20), (.sl 4))]), zm 22 0, zi 23 (.call (.c (.fn 15 [] [])) [((.t 22), (.sl 4))]), zi 6 (.alo [.nils, (.int .i64 0), (.int .i64 0), (.int .i64 0), (.str []), (.int .i64 0), (.int .i64 0), (.int .i64 0)]), zm 5 21, zn (.st 8 (.agg [(.sl 4), .id, .id, .id, .id, .id, .id, .id]) (.t 6) (.t 23))]
def k0a_r4 : IC := .reg false [zv 7 (.mov (.c (.bool false)))]
def k0a_r5 : IC := .reg false [zi 8 (.alo [(.int .i64 0), (.int .i64 0), (.int .i64 0), (.str []), .nils]), zi 9 (.alo [(.int .i64 0), (.int .i64 0), (.int .i64 0), (.str []), .nils])]
def k0a_r6 : IC := .reg false [zv 10 (.mov (.c .nils)), zv 11 (.mov (.c .nils))]
def k0a_r7 : IC := .reg false [zm 24 1, zv 25 (.cvi .u64 (.t 24)), zv 26 (.bin .rem .no (.t 25) (.c (.int .u64 4)))]
def k0a_r8 : IC := .reg false [zv 28 (.bin .eql .no (.t 26) (.c (.int .u64 0))), zm 27 28]
def k0a_r9 : IC := .reg false [zm 30 5, zi 31 (.call (.c (.fn 16 [] [])) [((.t 30), .id)]), zm 29 31, zv 32 (.ext (.t 29) 0), zv 33 (.ext (.t 29) 1), zn (.st 5 (.agg [.id, .id, .id, .id, (.sl 5)]) (.t 8) (.t 32)), zm 7 33]
def k0a_r10 : IC := .reg false [zv 35 (.ld true 8 (.t 6)), zi 36 (.call (.c (.fn 17 [] [])) [((.t 35), (.agg [(.sl 4), .id, .id, .id, .id, .id, .id, .id]))]), zm 34 36, zv 37 (.ext (.t 34) 0), zv 38 (.ext (.t 34) 1), zn (.st 8 (.agg [(.sl 4), .id, .id, .id, .id, .id, .id, .id]) (.t 6) (.t 37)), zn (.st 5 (.agg [.id, .id, .id, .id, (.sl 5)]) (.t 9) (.t 38))]
def k0a_r11 : IC := .reg false [zv 40 (.bin .eql .no (.t 26) (.c (.int .u64 1))), zm 39 40]
def k0a_r12 : IC := .reg false [zm 42 5, zi 43 (.call (.c (.fn 18 [] [])) [((.t 42), .id)]), zm 41 43, zv 44 (.ext (.t 41) 0), zv 45 (.ext (.t 41) 1), zm 10 44, zm 7 45]
def k0a_r13 : IC := .reg false [zv 47 (.ld true 8 (.t 6)), zi 48 (.call (.c (.fn 19 [] [])) [((.t 47), (.agg [(.sl 4), .id, .id, .id, .id, .id, .id, .id]))]), zm 46 48, zv 49 (.ext (.t 46) 0), zv 50 (.ext (.t 46) 1), zn (.st 8 (.agg [(.sl 4), .id, .id, .id, .id, .id, .id, .id]) (.t 6) (.t 49)), zm 11 50]
def k0a_r14 : IC := .reg false [zv 52 (.bin .eql .no (.t 26) (.c (.int .u64 2))), zm 51 52]
def k0a_r15 : IC := .reg false [zm 54 5, zi 55 (.call (.c (.fn 20 [] [])) [((.t 54), .id)]), zm 53 55, zv 56 (.ext (.t 53) 0), zv 57 (.ext (.t 53) 1), zn (.st 5 (.agg [.id, .id, .id, .id, (.sl 5)]) (.t 8) (.t 56)), zm 7 57]
def k0a_r16 : IC := .reg false [zv 59 (.ld true 8 (.t 6)), zi 60 (.call (.c (.fn 21 [] [])) [((.t 59), (.agg [(.sl 4), .id, .id, .id, .id, .id, .id, .id]))]), zm 58 60, zv 61 (.ext (.t 58) 0), zv 62 (.ext (.t 58) 1), zn (.st 8 (.agg [(.sl 4), .id, .id, .id, .id, .id, .id, .id]) (.t 6) (.t 61)), zn (.st 5 (.agg [.id, .id, .id, .id, (.sl 5)]) (.t 9) (.t 62))]
def k0a_r17 : IC := .reg false [zv 64 (.bin .eql .no (.t 26) (.c (.int .u64 3))), zm 63 64]
def k0a_r18 : IC := .reg false [zm 66 5, zi 67 (.call (.c (.fn 22 [] [])) [((.t 66), .id)]), zm 65 67, zv 68 (.ext (.t 65) 0), zv 69 (.ext (.t 65) 1), zn (.st 5 (.agg [.id, .id, .id, .id, (.sl 5)]) (.t 8) (.t 68)), zm 7 69]
def k0a_r19 : IC := .reg false [zv 71 (.ld true 8 (.t 6)), zi 72 (.call (.c (.fn 23 [] [])) [((.t 71), (.agg [(.sl 4), .id, .id, .id, .id, .id, .id, .id]))]), zm 70 72, zv 73 (.ext (.t 70) 0), zv 74 (.ext (.t 70) 1), zn (.st 8 (.agg [(.sl 4), .id, .id, .id, .id, .id, .id, .id]) (.t 6) (.t 73)), zn (.st 5 (.agg [.id, .id, .id, .id, (.sl 5)]) (.t 9) (.t 74))]
def k0a_r20 : IC := .reg false [zm 76 5, zi 77 (.call (.c (.fn 24 [] [])) [((.t 76), .id)]), zm 75 77, zv 78 (.ext (.t 75) 0), zv 79 (.ext (.t 75) 1), zm 12 78, zm 13 79]
def k0a_r21 : IC := .reg false [zv 81 (.ld true 8 (.t 6)), zi 82 (.call (.c (.fn 25 [] [])) [((.t 81), (.agg [(.sl 4), .id, .id, .id, .id, .id, .id, .id]))]), zm 80 82, zv 83 (.ext (.t 80) 0), zv 84 (.ext (.t 80) 1), zm 14 83, zm 15 84]
def k0a_r22 : IC := .drw [zp (zm 85 7), zp (zv 86 (.fad (.t 6) 6)), zp (zv 87 (.ld false 1 (.t 86))), zp (zv 88 (.bin .eql .no (.t 87) (.c (.int .i64 0)))), zp (zv 89 (.bin .neq .bool (.t 85) (.t 88))), zp (zm 90 89), zp (zw 90 false 91 (.mov (.t 12))), zp (zw 90 false 92 (.mov (.t 14))), zp (zw 90 false 93 (.bin .neq .no (.t 91) (.t 92))), zp (zv 94 (.pick (.t 90) (.c (.bool true)) (.t 93))), zp (zm 95 94), zp (zw 95 false 96 (.mov (.t 13))), zp (zw 95 false 97 (.mov (.t 15))), zp (zw 95 false 98 (.bin .neq .no (.t 96) (.t 97))), zp (zv 99 (.pick (.t 95) (.c (.bool true)) (.t 98))), zp (zm 100 99), zp (zw 100 false 101 (.mov (.t 5))), (⟨some (100, false), some 102, .call (.c (.fn 26 [] [])) [((.t 101), .id)]⟩, []), zp (zw 100 false 103 (.ld true 8 (.t 6))), (⟨some (100, false), some 104, .call (.c (.fn 27 [] [])) [((.t 103), (.agg [(.sl 4), .id, .id, .id, .id, .id, .id, .id]))]⟩, []), (zw 100 false 105 (.bin .neq (.cells [(.int .i64), (.int .i64), (.int .i64), .str]) (.t 102) (.t 104)), []), zp (zv 106 (.pick (.t 100) (.c (.bool true)) (.t 105)))]
def k0a_r23 : IC := .reg false [zv 4 (.mov (.c (.bool false)))]
def k0a_r24 : IC := .reg false [zm 107 7, zv 108 (.un .not (.t 107))]
def k0a_r25 : IC := .reg false [zv 109 (.ld true 5 (.t 8)), zv 110 (.bld [(.int .i64 0), (.int .i64 0), (.int .i64 0), (.str []), .nils] []), zi 111 (.call (.c (.fn 11 [] [])) [((.t 109), (.agg [.id, .id, .id, .id, (.sl 5)])), ((.t 110), (.agg [.id, .id, .id, .id, (.sl 5)]))]), zm 112 111, zw 112 true 113 (.mov (.t 10)), zw 112 true 114 (.len false (.t 113)), zw 112 true 115 (.bin .eql .no (.t 114) (.c (.int .i64 0))), zv 116 (.pick (.t 112) (.t 115) (.c (.bool false))), zm 117 116, ⟨some (117, true), some 118, .call (.c (.fn 8 [] [])) []⟩, zv 119 (.pick (.t 117) (.t 118) (.c (.bool false))), zm 4 119]
def k0a_r26 : IC := .reg false [zv 120 (.ld true 5 (.t 8)), zv 121 (.ld true 5 (.t 9)), zi 122 (.call (.c (.fn 11 [] [])) [((.t 120), (.agg [.id, .id, .id, .id, (.sl 5)])), ((.t 121), (.agg [.id, .id, .id, .id, (.sl 5)]))]), zm 123 122, zw 123 true 124 (.mov (.t 10)), zw 123 true 125 (.bld [(.int .i64 0), (.int .i64 0), (.int .i64 0), (.str []), .nils] [(4, 1, (.t 124))]), zw 123 true 126 (.mov (.t 11)), zw 123 true 127 (.bld [(.int .i64 0), (.int .i64 0), (.int .i64 0), (.str []), .nils] [(4, 1, (.t 126))]), ⟨some (123, true), some 128, .call (.c (.fn 11 [] [])) [((.t 125), (.agg [.id, .id, .id, .id, (.sl 5)])), ((.t 127), (.agg [.id, .id, .id, .id, (.sl 5)]))]⟩, zv 129 (.pick (.t 123) (.t 128) (.c (.bool false))), zm 130 129, ⟨some (130, true), some 131, .call (.c (.fn 8 [] [])) []⟩, zv 132 (.pick (.t 130) (.t 131) (.c (.bool false))), zm 4 132]
def k0a : IC := (.seq k0a_r0 (.seq (.seq k0a_r1 (.cond (.t 18) (.seq k0a_r2 .ret) .skip)) (.seq k0a_r3 (.seq k0a_r4 (.seq k0a_r5 (.seq k0a_r6 (.seq (.seq k0a_r7 (.block 0 (.seq k0a_r8 (.cond (.t 27) (.seq k0a_r9 k0a_r10) (.seq k0a_r11 (.cond (.t 39) (.seq k0a_r12 k0a_r13) (.seq k0a_r14 (.cond (.t 51) (.seq k0a_r15 k0a_r16) (.seq k0a_r17 (.cond (.t 63) (.seq k0a_r18 k0a_r19) .skip)))))))))) (.seq k0a_r20 (.seq k0a_r21 (.seq (.seq k0a_r22 (.cond (.t 106) (.seq k0a_r23 .ret) .skip)) (.seq (.seq k0a_r24 (.cond (.t 108) (.seq k0a_r25 .ret) .skip)) (.seq k0a_r26 .ret))))))))))))
@[go_sem] def s0a : List (RV × Co) := [(.t 4, .id)]
theorem c0a : cFun Try.prog 5 = some (133, k0a, s0a) := by kernel_rfl

def k0c_r0 : IC := .reg false [zv 0 (.mov (.c (.bool false)))]
def k0c_r1 : IC := .reg false [zi 14 (.call (.c (.fn 9 [] [])) [((.c (.str [97, 32, 45, 62, 32, 84, 32, 98])), .id)]), zm 13 14, zv 15 (.ext (.t 13) 0), zv 16 (.ext (.t 13) 1), zv 17 (.ext (.t 13) 2), zi 1 (.alo [(.int .i64 0), (.int .i64 0), (.int .i64 0), (.str []), .nils]), zn (.st 5 (.agg [.id, .id, .id, .id, (.sl 5)]) (.t 1) (.t 15)), zm 2 16, zm 3 17]
def k0c_r2 : IC := .reg false [zi 19 (.call (.c (.fn 12 [] [])) [((.c (.str [40, 67, 32, 97, 44, 32, 68, 32, 98, 41, 32, 61, 62, 32, 97])), .id)]), zm 18 19, zv 20 (.ext (.t 18) 0), zv 21 (.ext (.t 18) 1), zv 22 (.ext (.t 18) 2), zi 4 (.alo [(.int .i64 0), (.int .i64 0), (.int .i64 0), (.str []), .nils]), zn (.st 5 (.agg [.id, .id, .id, .id, (.sl 5)]) (.t 4) (.t 20)), zm 5 21, zm 6 22]
def k0c_r3 : IC := .reg false [zi 24 (.call (.c (.fn 9 [] [])) [((.c (.str [97, 32, 45, 62])), .id)]), zm 23 24, zv 25 (.ext (.t 23) 0), zv 26 (.ext (.t 23) 1), zv 27 (.ext (.t 23) 2), zi 7 (.alo [(.int .i64 0), (.int .i64 0), (.int .i64 0), (.str []), .nils]), zn (.st 5 (.agg [.id, .id, .id, .id, (.sl 5)]) (.t 7) (.t 25)), zm 8 26, zm 9 27]
def k0c_r4 : IC := .reg false [zi 29 (.call (.c (.fn 9 [] [])) [((.c (.str [97, 32, 41])), .id)]), zm 28 29, zv 30 (.ext (.t 28) 0), zv 31 (.ext (.t 28) 1), zv 32 (.ext (.t 28) 2), zi 10 (.alo [(.int .i64 0), (.int .i64 0), (.int .i64 0), (.str []), .nils]), zn (.st 5 (.agg [.id, .id, .id, .id, (.sl 5)]) (.t 10) (.t 30)), zm 11 31, zm 12 32]
def k0c_r5 : IC := .reg false [zv 33 (.fad (.t 1) 4), zv 34 (.ld false 1 (.t 33)), zv 35 (.len false (.t 34)), zv 36 (.bin .neq .no (.t 35) (.c (.int .i64 2))), zm 37 36, zw 37 false 38 (.fad (.t 4) 4), zw 37 false 39 (.ld false 1 (.t 38)), zw 37 false 40 (.len false (.t 39)), zw 37 false 41 (.bin .neq .no (.t 40) (.c (.int .i64 3))), zv 42 (.pick (.t 37) (.c (.bool true)) (.t 41))]
def k0c_r6 : IC := .reg false [zv 0 (.mov (.c (.bool false)))]
def k0c_r7 : IC := .reg false [zv 43 (.fad (.t 1) 3), zv 44 (.ld false 1 (.t 43)), zv 45 (.bin .eql .no (.t 44) (.c (.str [45, 62]))), zm 46 45, zw 46 true 47 (.fad (.t 1) 1), zw 46 true 48 (.ld false 1 (.t 47)), zw 46 true 49 (.bin .eql .no (.t 48) (.c (.int .i64 0))), zv 50 (.pick (.t 46) (.t 49) (.c (.bool false))), zm 51 50, zw 51 true 52 (.fad (.t 1) 4), zw 51 true 53 (.ld false 1 (.t 52)), zw 51 true 54 (.iad 5 (.t 53) (.c (.int .i64 1))), zw 51 true 55 (.fad (.t 54) 1), zw 51 true 56 (.ld false 1 (.t 55)), zw 51 true 57 (.bin .eql .no (.t 56) (.c (.int .i64 5))), zv 58 (.pick (.t 51) (.t 57) (.c (.bool false))), zm 59 58, zw 59 true 60 (.fad (.t 1) 4), zw 59 true 61 (.ld false 1 (.t 60)), zw 59 true 62 (.iad 5 (.t 61) (.c (.int .i64 1))), zw 59 true 63 (.fad (.t 62) 4), zw 59 true 64 (.ld false 1 (.t 63)), zw 59 true 65 (.len false (.t 64)), zw 59 true 66 (.bin .eql .no (.t 65) (.c (.int .i64 1))), zv 67 (.pick (.t 59) (.t 66) (.c (.bool false))), zm 68 67, zw 68 true 69 (.mov (.t 2)), zw 68 true 70 (.bin .eql .no (.t 69) (.c (.int .i64 0))), zv 71 (.pick (.t 68) (.t 70) (.c (.bool false))), zm 72 71, zw 72 true 73 (.mov (.t 3)), zw 72 true 74 (.bin .eql .no (.t 73) (.c (.int .i64 0))), zv 75 (.pick (.t 72) (.t 74) (.c (.bool false))), zm 76 75, zw 76 true 77 (.fad (.t 4) 4), zw 76 true 78 (.ld false 1 (.t 77)), zw 76 true 79 (.iad 5 (.t 78) (.c (.int .i64 1))), zw 76 true 80 (.fad (.t 79) 3), zw 76 true 81 (.ld false 1 (.t 80)), zw 76 true 82 (.bin .eql .no (.t 81) (.c (.str [68]))), zv 83 (.pick (.t 76) (.t 82) (.c (.bool false))), zm 84 83, zw 84 true 85 (.mov (.t 6)), zw 84 true 86 (.bin .eql .no (.t 85) (.c (.int .i64 0))), zv 87 (.pick (.t 84) (.t 86) (.c (.bool false))), zm 88 87, zw 88 true 89 (.mov (.t 8)), zw 88 true 90 (.bin .eql .no (.t 89) (.c (.int .i64 4))), zv 91 (.pick (.t 88) (.t 90) (.c (.bool false))), zm 92 91, zw 92 true 93 (.mov (.t 9)), zw 92 true 94 (.bin .eql .no (.t 93) (.c (.int .i64 5))), zv 95 (.pick (.t 92) (.t 94) (.c (.bool false))), zm 96 95, zw 96 true 97 (.mov (.t 11)), zw 96 true 98 (.bin .eql .no (.t 97) (.c (.int .i64 2))), zv 99 (.pick (.t 96) (.t 98) (.c (.bool false))), zm 100 99, zw 100 true 101 (.mov (.t 12)), zw 100 true 102 (.bin .eql .no (.t 101) (.c (.int .i64 5))), zv 103 (.pick (.t 100) (.t 102) (.c (.bool false))), zm 0 103]
def k0c : IC := (.seq k0c_r0 (.seq k0c_r1 (.seq k0c_r2 (.seq k0c_r3 (.seq k0c_r4 (.seq (.seq k0c_r5 (.cond (.t 42) (.seq k0c_r6 .ret) .skip)) (.seq k0c_r7 .ret)))))))
@[go_sem] def s0c : List (RV × Co) := [(.t 0, .id)]
theorem c0c : cFun Try.prog 8 = some (104, k0c, s0c) := by kernel_rfl

def k0m_r0 : IC := .reg false [zi 2 (.alo [(.int .i64 0), (.int .i64 0), (.int .i64 0), (.str []), .nils]), zv 3 (.mov (.c (.int .i64 0))), zv 4 (.mov (.c (.int .i64 0)))]
def k0m_r1 : IC := .reg false [zv 6 (.bld [(.bool false)] []), zv 7 (.mfn 34 [(.t 6)] []), zm 5 7]
def k0m_r2 : IC := .reg false [zm 8 0, zm 9 5, zi 10 (.call (.c (.fn 35 [] [])) [((.t 8), .id), ((.t 9), .id)]), zv 11 (.ext (.t 10) 0), zv 12 (.ext (.t 10) 1), zv 13 (.ext (.t 10) 2), zn (.st 5 (.agg [.id, .id, .id, .id, (.sl 5)]) (.t 2) (.t 11)), zm 3 12, zm 4 13]
def k0m : IC := (.seq k0m_r0 (.seq k0m_r1 (.seq k0m_r2 .ret)))
@[go_sem] def s0m : List (RV × Co) := [(.c true 5 2, (.agg [.id, .id, .id, .id, (.sl 5)])), (.t 3, .id), (.t 4, .id)]
theorem c0m : cFun Try.prog 9 = some (14, k0m, s0m) := by kernel_rfl

def k0cq_r0 : IC := .reg false [zi 2 (.box (.t 0)), zi 3 (.box (.t 1)), zv 4 (.mov (.c (.bool false)))]
def k0cq_r1 : IC := .reg false [zv 6 (.fad (.t 2) 1), zv 7 (.ld false 1 (.t 6)), zv 8 (.fad (.t 3) 1), zv 9 (.ld false 1 (.t 8)), zv 10 (.bin .neq .no (.t 7) (.t 9)), zm 11 10, zw 11 false 12 (.fad (.t 2) 0), zw 11 false 13 (.ld false 1 (.t 12)), zw 11 false 14 (.fad (.t 3) 0), zw 11 false 15 (.ld false 1 (.t 14)), zw 11 false 16 (.bin .neq .no (.t 13) (.t 15)), zv 17 (.pick (.t 11) (.c (.bool true)) (.t 16)), zm 18 17, zw 18 false 19 (.fad (.t 2) 3), zw 18 false 20 (.ld false 1 (.t 19)), zw 18 false 21 (.fad (.t 3) 3), zw 18 false 22 (.ld false 1 (.t 21)), zw 18 false 23 (.bin .neq .no (.t 20) (.t 22)), zv 24 (.pick (.t 18) (.c (.bool true)) (.t 23)), zm 25 24, zw 25 false 26 (.fad (.t 2) 2), zw 25 false 27 (.ld false 1 (.t 26)), zw 25 false 28 (.fad (.t 3) 2), zw 25 false 29 (.ld false 1 (.t 28)), zw 25 false 30 (.bin .neq .no (.t 27) (.t 29)), zv 31 (.pick (.t 25) (.c (.bool true)) (.t 30)), zm 32 31, zw 32 false 33 (.fad (.t 2) 4), zw 32 false 34 (.ld false 1 (.t 33)), zw 32 false 35 (.len false (.t 34)), zw 32 false 36 (.fad (.t 3) 4), zw 32 false 37 (.ld false 1 (.t 36)), zw 32 false 38 (.len false (.t 37)), zw 32 false 39 (.bin .neq .no (.t 35) (.t 38)), zv 40 (.pick (.t 32) (.c (.bool true)) (.t 39))]
def k0cq_r2 : IC := .reg false [zv 4 (.mov (.c (.bool false)))]
def k0cq_r3 : IC := .reg false [zv 5 (.mov (.c (.int .i64 0)))]
def k0cq_r5 : IC := .reg false [zm 41 5, zv 42 (.fad (.t 2) 4), zv 43 (.ld false 1 (.t 42)), zv 44 (.len false (.t 43)), zv 45 (.bin .lss .no (.t 41) (.t 44))]
def k0cq_r6 : IC := .drw [zp (zv 48 (.fad (.t 2) 4)), zp (zv 49 (.ld false 1 (.t 48))), zp (zm 50 5), zp (zv 51 (.iad 5 (.t 49) (.t 50))), zp (zv 52 (.ld true 5 (.t 51))), zp (zv 53 (.fad (.t 3) 4)), zp (zv 54 (.ld false 1 (.t 53))), zp (zm 55 5), zp (zv 56 (.iad 5 (.t 54) (.t 55))), zp (zv 57 (.ld true 5 (.t 56))), (zi 58 (.call (.c (.fn 11 [] [])) [((.t 52), (.agg [.id, .id, .id, .id, (.sl 5)])), ((.t 57), (.agg [.id, .id, .id, .id, (.sl 5)]))]), []), zp (zv 59 (.un .not (.t 58)))]
def k0cq_r7 : IC := .reg false [zv 4 (.mov (.c (.bool false)))]
def k0cq_r8 : IC := .reg false [zm 46 5, zv 47 (.bin .add .no (.t 46) (.c (.int .i64 1))), zm 5 47]
def k0cq_l4 : IC := (.seq (.seq k0cq_r5 (.cond (.t 45) .skip (.exit 0))) (.seq (.block 1 (.seq k0cq_r6 (.cond (.t 59) (.seq k0cq_r7 .ret) .skip))) k0cq_r8))
def k0cq_r10 : IC := .reg false [zv 4 (.mov (.c (.bool true)))]
def k0cq : IC := (.seq k0cq_r0 (.seq (.seq k0cq_r1 (.cond (.t 40) (.seq k0cq_r2 .ret) .skip)) (.seq (.seq k0cq_r3 (.block 0 (.loop k0cq_l4))) (.seq k0cq_r10 .ret))))
@[go_sem] def s0cq : List (RV × Co) := [(.t 4, .id)]
theorem c0cq : cFun Try.prog 11 = some (60, k0cq, s0cq) := by kernel_rfl

def k0n_r0 : IC := .reg false [zi 2 (.alo [(.int .i64 0), (.int .i64 0), (.int .i64 0), (.str []), .nils]), zv 3 (.mov (.c (.int .i64 0))), zv 4 (.mov (.c (.int .i64 0)))]
def k0n_r1 : IC := .reg false [zv 6 (.bld [(.bool false)] [(0, 1, (.c (.bool true)))]), zv 7 (.mfn 34 [(.t 6)] []), zm 5 7]
def k0n_r2 : IC := .reg false [zm 8 0, zm 9 5, zi 10 (.call (.c (.fn 35 [] [])) [((.t 8), .id), ((.t 9), .id)]), zv 11 (.ext (.t 10) 0), zv 12 (.ext (.t 10) 1), zv 13 (.ext (.t 10) 2), zn (.st 5 (.agg [.id, .id, .id, .id, (.sl 5)]) (.t 2) (.t 11)), zm 3 12, zm 4 13]
def k0n : IC := (.seq k0n_r0 (.seq k0n_r1 (.seq k0n_r2 .ret)))
@[go_sem] def s0n : List (RV × Co) := [(.c true 5 2, (.agg [.id, .id, .id, .id, (.sl 5)])), (.t 3, .id), (.t 4, .id)]
theorem c0n : cFun Try.prog 12 = some (14, k0n, s0n) := by kernel_rfl

def k0bi_r0 : IC := .reg false [zv 2 (.mov (.c .nilp))]
def k0bi_r1 : IC := .reg false [zv 6 (.bld [.nils, (.int .i64 0), (.int .i64 0), (.int .i64 0), (.str []), (.int .i64 0), (.int .i64 0), (.int .i64 0), (.int .i64 0)] []), zi 7 (.box (.t 6)), zm 3 7]
def k0bi_r2 : IC := .reg false [zm 8 0, zv 9 (.len false (.t 8)), zv 10 (.mov (.c (.int .i64 0)))]
def k0bi_r4 : IC := .reg false [zv 11 (.bin .lss .no (.t 10) (.t 9))]
def k0bi_r5 : IC := .reg false [zv 12 (.iad 4 (.t 8) (.t 10)), zv 13 (.ld true 4 (.t 12)), zi 5 (.alo [(.int .i64 0), (.int .i64 0), (.int .i64 0), (.str [])]), zn (.st 4 .id (.t 5) (.t 13))]
def k0bi_r6 : IC := .reg false [zv 14 (.fad (.t 5) 0), zv 15 (.ld false 1 (.t 14)), zv 16 (.bin .eql .no (.t 15) (.c (.int .i64 0)))]
def k0bi_r7 : IC := .reg false [zm 17 3, zv 18 (.fad (.t 5) 1), zv 19 (.ld false 1 (.t 18)), zv 20 (.nck (.t 17)), zv 21 (.fad (.t 20) 1), zv 22 (.fad (.t 21) 1), zn (.st 1 .id (.t 22) (.t 19))]
def k0bi_r8 : IC := .drw [zp (zm 23 3), zp (zm 24 3), zp (zv 25 (.nck (.t 24))), zp (zv 26 (.fad (.t 25) 0)), zp (zv 27 (.ld false 1 (.t 26))), zp (zv 28 (.ld true 4 (.t 5))), (zv 29 (.bsl 4 [((.t 28), .id)]), []), (zi 30 (.app 4 (.agg [(.int .i64 0), (.int .i64 0), (.int .i64 0), (.str [])]) 40 (.sl 4) (.t 27) (.t 29)), [0]), zp (zv 31 (.nck (.t 23))), zp (zv 32 (.fad (.t 31) 0)), (zn (.st 1 (.sl 4) (.t 32) (.t 30)), [])]
def k0bi_r9 : IC := .reg false [zv 33 (.bin .add .no (.t 10) (.c (.int .i64 1))), zm 10 33]
def k0bi_l3 : IC := (.seq k0bi_r4 (.seq (.cond (.t 11) .skip (.exit 0)) (.seq (.block 1 (.seq k0bi_r5 (.seq (.seq k0bi_r6 (.cond (.t 16) (.seq k0bi_r7 (.exit 0)) .skip)) k0bi_r8))) k0bi_r9)))
def k0bi_r11 : IC := .reg false [zm 34 3, zm 2 34]
def k0bi : IC := (.seq k0bi_r0 (.seq k0bi_r1 (.seq (.seq k0bi_r2 (.block 0 (.loop k0bi_l3))) (.seq k0bi_r11 .ret))))
@[go_sem] def s0bi : List (RV × Co) := [(.t 2, .id)]
theorem c0bi : cFun Try.prog 14 = some (35, k0bi, s0bi) := by kernel_rfl

def k0bh_r0 : IC := .reg false [zi 2 (.alo [.nils, (.int .i64 0), (.int .i64 0), (.int .i64 0), (.str []), (.int .i64 0), (.int .i64 0), (.int .i64 0)])]
def k0bh_r1 : IC := .reg false [zv 3 (.mov (.c (.int .i64 0)))]
def k0bh_r3 : IC := .reg false [zm 4 3, zm 5 0, zv 6 (.len false (.t 5)), zv 7 (.bin .lss .no (.t 4) (.t 6))]
def k0bh_r4 : IC := .reg false [zm 10 0, zm 11 3, zv 12 (.iad 4 (.t 10) (.t 11)), zv 13 (.fad (.t 12) 0), zv 14 (.ld false 1 (.t 13)), zv 15 (.bin .eql .no (.t 14) (.c (.int .i64 0)))]
def k0bh_r5 : IC := .drw [zp (zm 16 0), zp (zm 17 3), zp (zv 18 (.slv 4 (.t 16) none (some (.t 17)) none)), zp (zm 19 0), zp (zm 20 3), zp (zv 21 (.iad 4 (.t 19) (.t 20))), zp (zv 22 (.fad (.t 21) 1)), zp (zv 23 (.ld false 1 (.t 22))), (zv 24 (.bld [(.int .i64 0), (.int .i64 0), (.int .i64 0), (.str [])] [(0, 1, (.c (.int .i64 0))), (1, 1, (.t 23))]), []), (zv 25 (.bld [.nils, (.int .i64 0), (.int .i64 0), (.int .i64 0), (.str []), (.int .i64 0), (.int .i64 0), (.int .i64 0)] [(0, 1, (.t 18)), (1, 4, (.t 24))]), []), (zn (.st 8 (.agg [(.sl 4), .id, .id, .id, .id, .id, .id, .id]) (.t 2) (.t 25)), [])]
def k0bh_r6 : IC := .reg false [zm 8 3, zv 9 (.bin .add .no (.t 8) (.c (.int .i64 1))), zm 3 9]
def k0bh_l2 : IC := (.seq (.seq k0bh_r3 (.cond (.t 7) .skip (.exit 0))) (.seq (.block 1 (.seq k0bh_r4 (.cond (.t 15) (.seq k0bh_r5 .ret) .skip))) k0bh_r6))
def k0bh_r8 : IC := .reg false [zm 26 0, zv 27 (.bld [.nils, (.int .i64 0), (.int .i64 0), (.int .i64 0), (.str []), (.int .i64 0), (.int .i64 0), (.int .i64 0)] [(0, 1, (.t 26))]), zn (.st 8 (.agg [(.sl 4), .id, .id, .id, .id, .id, .id, .id]) (.t 2) (.t 27))]
def k0bh : IC := (.seq k0bh_r0 (.seq (.seq k0bh_r1 (.block 0 (.loop k0bh_l2))) (.seq k0bh_r8 .ret)))
@[go_sem] def s0bh : List (RV × Co) := [(.c true 8 2, (.agg [(.sl 4), .id, .id, .id, .id, .id, .id, .id]))]
theorem c0bh : cFun Try.prog 15 = some (28, k0bh, s0bh) := by kernel_rfl

def k0u_r0 : IC := .reg false [zi 2 (.alo [(.int .i64 0), (.int .i64 0), (.int .i64 0), (.str []), .nils]), zv 3 (.mov (.c (.bool false)))]
def k0u_r1 : IC := .reg false [zm 7 0, zi 8 (.call (.c (.fn 26 [] [])) [((.t 7), .id)]), zi 4 (.alo [(.int .i64 0), (.int .i64 0), (.int .i64 0), (.str [])]), zn (.st 4 .id (.t 4) (.t 8))]
def k0u_r2 : IC := .reg false [zv 10 (.fad (.t 4) 0), zv 11 (.ld false 1 (.t 10)), zv 12 (.bin .eql .no (.t 11) (.c (.int .i64 1))), zm 9 12]
def k0u_r3 : IC := .reg false [zm 13 0, zi 14 (.call (.c (.fn 37 [] [])) [((.t 13), .id)])]
def k0u_r4 : IC := .reg false [zv 15 (.fad (.t 4) 1), zv 16 (.ld false 1 (.t 15)), zv 17 (.fad (.t 4) 3), zv 18 (.ld false 1 (.t 17)), zv 19 (.bld [(.int .i64 0), (.int .i64 0), (.int .i64 0), (.str []), .nils] [(0, 1, (.c (.int .i64 1))), (1, 1, (.t 16)), (3, 1, (.t 18))]), zn (.st 5 (.agg [.id, .id, .id, .id, (.sl 5)]) (.t 2) (.t 19)), zv 3 (.mov (.c (.bool true)))]
def k0u_r5 : IC := .reg false [zv 21 (.fad (.t 4) 0), zv 22 (.ld false 1 (.t 21)), zv 23 (.bin .eql .no (.t 22) (.c (.int .i64 2))), zm 20 23]
def k0u_r6 : IC := .reg false [zm 24 0, zi 25 (.call (.c (.fn 37 [] [])) [((.t 24), .id)])]
def k0u_r7 : IC := .reg false [zv 26 (.fad (.t 4) 1), zv 27 (.ld false 1 (.t 26)), zv 28 (.fad (.t 4) 3), zv 29 (.ld false 1 (.t 28)), zv 30 (.bld [(.int .i64 0), (.int .i64 0), (.int .i64 0), (.str []), .nils] [(0, 1, (.c (.int .i64 2))), (1, 1, (.t 27)), (3, 1, (.t 29))]), zn (.st 5 (.agg [.id, .id, .id, .id, (.sl 5)]) (.t 2) (.t 30)), zv 3 (.mov (.c (.bool true)))]
def k0u_r8 : IC := .reg false [zm 32 0, zi 33 (.call (.c (.fn 38 [] [])) [((.t 32), .id), ((.c (.str [40])), .id)]), zv 34 (.un .not (.t 33)), zm 31 34]
def k0u_r9 : IC := .reg false [zv 35 (.bld [(.int .i64 0), (.int .i64 0), (.int .i64 0), (.str []), .nils] []), zm 36 0, zi 37 (.call (.c (.fn 39 [] [])) [((.t 36), .id), ((.c (.int .i64 5)), .id)]), zn (.st 5 (.agg [.id, .id, .id, .id, (.sl 5)]) (.t 2) (.t 35)), zm 3 37]
def k0u_r10 : IC := .reg false [zm 38 0, zi 39 (.call (.c (.fn 40 [] [])) [((.t 38), .id)]), zv 40 (.un .not (.t 39))]
def k0u_r11 : IC := .reg false [zv 41 (.bld [(.int .i64 0), (.int .i64 0), (.int .i64 0), (.str []), .nils] []), zn (.st 5 (.agg [.id, .id, .id, .id, (.sl 5)]) (.t 2) (.t 41)), zv 3 (.mov (.c (.bool false)))]
def k0u_r12 : IC := .reg false [zm 42 0, zi 43 (.call (.c (.fn 37 [] [])) [((.t 42), .id)])]
def k0u_r13 : IC := .reg false [zm 45 0, zi 46 (.call (.c (.fn 20 [] [])) [((.t 45), .id)]), zm 44 46, zv 47 (.ext (.t 44) 0), zv 48 (.ext (.t 44) 1), zi 5 (.alo [(.int .i64 0), (.int .i64 0), (.int .i64 0), (.str []), .nils]), zn (.st 5 (.agg [.id, .id, .id, .id, (.sl 5)]) (.t 5) (.t 47)), zm 6 48]
def k0u_r14 : IC := .reg false [zm 49 6, zm 50 49, zw 50 true 51 (.mov (.t 0)), ⟨some (50, true), some 52, .call (.c (.fn 41 [] [])) [((.t 51), .id), ((.c (.str [41])), .id)]⟩, zv 53 (.pick (.t 50) (.t 52) (.c (.bool false))), zm 6 53]
def k0u_r15 : IC := .reg false [zm 54 0, zi 55 (.call (.c (.fn 42 [] [])) [((.t 54), .id)])]
def k0u_r16 : IC := .reg false [zm 56 0, zv 57 (.ld true 5 (.t 5)), zm 58 6, zi 59 (.call (.c (.fn 43 [] [])) [((.t 56), .id), ((.t 57), (.agg [.id, .id, .id, .id, (.sl 5)])), ((.t 58), .id)]), zv 60 (.ext (.t 59) 0), zv 61 (.ext (.t 59) 1), zn (.st 5 (.agg [.id, .id, .id, .id, (.sl 5)]) (.t 2) (.t 60)), zm 3 61]
def k0u : IC := (.seq k0u_r0 (.seq (.seq k0u_r1 (.block 0 (.seq k0u_r2 (.cond (.t 9) (.seq k0u_r3 (.seq k0u_r4 .ret)) (.seq k0u_r5 (.cond (.t 20) (.seq k0u_r6 (.seq k0u_r7 .ret)) (.seq k0u_r8 (.cond (.t 31) (.seq k0u_r9 .ret) .skip)))))))) (.seq (.seq k0u_r10 (.cond (.t 40) (.seq k0u_r11 .ret) .skip)) (.seq k0u_r12 (.seq k0u_r13 (.seq k0u_r14 (.seq k0u_r15 (.seq k0u_r16 .ret))))))))
@[go_sem] def s0u : List (RV × Co) := [(.c true 5 2, (.agg [.id, .id, .id, .id, (.sl 5)])), (.t 3, .id)]
theorem c0u : cFun Try.prog 16 = some (62, k0u, s0u) := by kernel_rfl

def k0h_r0 : IC := .reg false [zi 1 (.box (.t 0)), zi 2 (.alo [.nils, (.int .i64 0), (.int .i64 0), (.int .i64 0), (.str []), (.int .i64 0), (.int .i64 0), (.int .i64 0)]), zi 3 (.alo [(.int .i64 0), (.int .i64 0), (.int .i64 0), (.str []), .nils])]
def k0h_r1 : IC := .reg false [zv 6 (.ld true 8 (.t 1)), zi 7 (.call (.c (.fn 27 [] [])) [((.t 6), (.agg [(.sl 4), .id, .id, .id, .id, .id, .id, .id]))]), zi 4 (.alo [(.int .i64 0), (.int .i64 0), (.int .i64 0), (.str [])]), zn (.st 4 .id (.t 4) (.t 7))]
def k0h_r2 : IC := .reg false [zv 9 (.fad (.t 1) 6), zv 10 (.ld false 1 (.t 9)), zv 11 (.bin .neq .no (.t 10) (.c (.int .i64 0))), zm 8 11]
def k0h_r3 : IC := .reg false [zv 12 (.ld true 8 (.t 1)), zv 13 (.bld [(.int .i64 0), (.int .i64 0), (.int .i64 0), (.str []), .nils] []), zn (.st 8 (.agg [(.sl 4), .id, .id, .id, .id, .id, .id, .id]) (.t 2) (.t 12)), zn (.st 5 (.agg [.id, .id, .id, .id, (.sl 5)]) (.t 3) (.t 13))]
def k0h_r4 : IC := .reg false [zv 15 (.fad (.t 4) 0), zv 16 (.ld false 1 (.t 15)), zv 17 (.bin .eql .no (.t 16) (.c (.int .i64 1))), zm 14 17]
def k0h_r5 : IC := .reg false [zv 19 (.ld true 8 (.t 1)), zi 20 (.call (.c (.fn 44 [] [])) [((.t 19), (.agg [(.sl 4), .id, .id, .id, .id, .id, .id, .id]))]), zm 18 20, zv 21 (.ext (.t 18) 0), zv 22 (.ext (.t 18) 1), zn (.st 8 (.agg [(.sl 4), .id, .id, .id, .id, .id, .id, .id]) (.t 1) (.t 21))]
def k0h_r6 : IC := .drw [zp (zv 23 (.ld true 8 (.t 1))), zp (zv 24 (.fad (.t 4) 1)), zp (zv 25 (.ld false 1 (.t 24))), zp (zv 26 (.fad (.t 4) 3)), zp (zv 27 (.ld false 1 (.t 26))), (zv 28 (.bld [(.int .i64 0), (.int .i64 0), (.int .i64 0), (.str []), .nils] [(0, 1, (.c (.int .i64 1))), (1, 1, (.t 25)), (3, 1, (.t 27))]), []), (zn (.st 8 (.agg [(.sl 4), .id, .id, .id, .id, .id, .id, .id]) (.t 2) (.t 23)), [1, 2, 3, 4, 5]), (zn (.st 5 (.agg [.id, .id, .id, .id, (.sl 5)]) (.t 3) (.t 28)), [])]
def k0h_r7 : IC := .reg false [zv 30 (.fad (.t 4) 0), zv 31 (.ld false 1 (.t 30)), zv 32 (.bin .eql .no (.t 31) (.c (.int .i64 2))), zm 29 32]
def k0h_r8 : IC := .reg false [zv 34 (.ld true 8 (.t 1)), zi 35 (.call (.c (.fn 44 [] [])) [((.t 34), (.agg [(.sl 4), .id, .id, .id, .id, .id, .id, .id]))]), zm 33 35, zv 36 (.ext (.t 33) 0), zv 37 (.ext (.t 33) 1), zn (.st 8 (.agg [(.sl 4), .id, .id, .id, .id, .id, .id, .id]) (.t 1) (.t 36))]
def k0h_r9 : IC := .drw [zp (zv 38 (.ld true 8 (.t 1))), zp (zv 39 (.fad (.t 4) 1)), zp (zv 40 (.ld false 1 (.t 39))), zp (zv 41 (.fad (.t 4) 3)), zp (zv 42 (.ld false 1 (.t 41))), (zv 43 (.bld [(.int .i64 0), (.int .i64 0), (.int .i64 0), (.str []), .nils] [(0, 1, (.c (.int .i64 2))), (1, 1, (.t 40)), (3, 1, (.t 42))]), []), (zn (.st 8 (.agg [(.sl 4), .id, .id, .id, .id, .id, .id, .id]) (.t 2) (.t 38)), [1, 2, 3, 4, 5]), (zn (.st 5 (.agg [.id, .id, .id, .id, (.sl 5)]) (.t 3) (.t 43)), [])]
def k0h_r10 : IC := .reg false [zv 45 (.ld true 8 (.t 1)), zi 46 (.call (.c (.fn 45 [] [])) [((.t 45), (.agg [(.sl 4), .id, .id, .id, .id, .id, .id, .id])), ((.c (.str [40])), .id)]), zv 47 (.un .not (.t 46)), zm 44 47]
def k0h_r11 : IC := .reg false [zv 48 (.ld true 8 (.t 1)), zi 49 (.call (.c (.fn 46 [] [])) [((.t 48), (.agg [(.sl 4), .id, .id, .id, .id, .id, .id, .id])), ((.c (.int .i64 5)), .id)]), zv 50 (.bld [(.int .i64 0), (.int .i64 0), (.int .i64 0), (.str []), .nils] []), zn (.st 8 (.agg [(.sl 4), .id, .id, .id, .id, .id, .id, .id]) (.t 2) (.t 49)), zn (.st 5 (.agg [.id, .id, .id, .id, (.sl 5)]) (.t 3) (.t 50))]
def k0h_r12 : IC := .reg false [zv 52 (.ld true 8 (.t 1)), zi 53 (.call (.c (.fn 47 [] [])) [((.t 52), (.agg [(.sl 4), .id, .id, .id, .id, .id, .id, .id]))]), zm 51 53, zv 54 (.ext (.t 51) 0), zv 55 (.ext (.t 51) 1), zn (.st 8 (.agg [(.sl 4), .id, .id, .id, .id, .id, .id, .id]) (.t 1) (.t 54))]
def k0h_r13 : IC := .reg false [zv 57 (.ld true 8 (.t 1)), zi 58 (.call (.c (.fn 48 [] [])) [((.t 57), (.agg [(.sl 4), .id, .id, .id, .id, .id, .id, .id])), ((.c (.str [40])), .id)]), zm 56 58, zv 59 (.ext (.t 56) 0), zv 60 (.ext (.t 56) 1), zn (.st 8 (.agg [(.sl 4), .id, .id, .id, .id, .id, .id, .id]) (.t 1) (.t 59))]
def k0h_r14 : IC := .reg false [zv 62 (.ld true 8 (.t 1)), zi 63 (.call (.c (.fn 21 [] [])) [((.t 62), (.agg [(.sl 4), .id, .id, .id, .id, .id, .id, .id]))]), zm 61 63, zv 64 (.ext (.t 61) 0), zv 65 (.ext (.t 61) 1), zi 5 (.alo [(.int .i64 0), (.int .i64 0), (.int .i64 0), (.str []), .nils]), zn (.st 8 (.agg [(.sl 4), .id, .id, .id, .id, .id, .id, .id]) (.t 1) (.t 64)), zn (.st 5 (.agg [.id, .id, .id, .id, (.sl 5)]) (.t 5) (.t 65))]
def k0h_r15 : IC := .reg false [zv 67 (.ld true 8 (.t 1)), zi 68 (.call (.c (.fn 48 [] [])) [((.t 67), (.agg [(.sl 4), .id, .id, .id, .id, .id, .id, .id])), ((.c (.str [41])), .id)]), zm 66 68, zv 69 (.ext (.t 66) 0), zv 70 (.ext (.t 66) 1), zn (.st 8 (.agg [(.sl 4), .id, .id, .id, .id, .id, .id, .id]) (.t 1) (.t 69))]
def k0h_r16 : IC := .drw [zp (zv 71 (.ld true 8 (.t 1))), (zi 72 (.call (.c (.fn 49 [] [])) [((.t 71), (.agg [(.sl 4), .id, .id, .id, .id, .id, .id, .id]))]), []), zp (zv 73 (.ld true 5 (.t 5))), (zn (.st 8 (.agg [(.sl 4), .id, .id, .id, .id, .id, .id, .id]) (.t 2) (.t 72)), [2]), (zn (.st 5 (.agg [.id, .id, .id, .id, (.sl 5)]) (.t 3) (.t 73)), [])]
def k0h : IC := (.seq k0h_r0 (.seq k0h_r1 (.seq (.block 0 (.seq k0h_r2 (.cond (.t 8) (.seq k0h_r3 .ret) (.seq k0h_r4 (.cond (.t 14) (.seq k0h_r5 (.seq k0h_r6 .ret)) (.seq k0h_r7 (.cond (.t 29) (.seq k0h_r8 (.seq k0h_r9 .ret)) (.seq k0h_r10 (.cond (.t 44) (.seq k0h_r11 .ret) .skip))))))))) (.seq k0h_r12 (.seq k0h_r13 (.seq k0h_r14 (.seq k0h_r15 (.seq k0h_r16 .ret))))))))
@[go_sem] def s0h : List (RV × Co) := [(.c true 8 2, (.agg [(.sl 4), .id, .id, .id, .id, .id, .id, .id])), (.c true 5 3, (.agg [.id, .id, .id, .id, (.sl 5)]))]
theorem c0h : cFun Try.prog 17 = some (74, k0h, s0h) := by kernel_rfl

def k0p_r0 : IC := .reg false [zv 2 (.mov (.c .nils)), zv 3 (.mov (.c (.bool false)))]
def k0p_r1 : IC := .reg false [zm 9 0, zi 10 (.call (.c (.fn 50 [] [])) [((.t 9), .id), ((.c (.str [61, 62])), .id)]), zv 11 (.un .not (.t 10))]
def k0p_r2 : IC := .reg false [zm 12 0, zi 13 (.call (.c (.fn 51 [] [])) [((.t 12), .id)]), zv 14 (.un .not (.t 13)), zv 2 (.mov (.c .nils)), zm 3 14]
def k0p_r3 : IC := .reg false [zv 4 (.mov (.c .nils))]
def k0p_r4 : IC := .reg false [zm 15 0, zi 16 (.call (.c (.fn 52 [] [])) [((.t 15), .id), ((.c (.str [40])), .id)]), zm 5 16]
def k0p_r5 : IC := .reg false [zm 17 5, zv 18 (.un .not (.t 17)), zm 19 18, zw 19 false 20 (.mov (.t 0)), ⟨some (19, false), some 21, .call (.c (.fn 38 [] [])) [((.t 20), .id), ((.c (.str [41])), .id)]⟩, zw 19 false 22 (.un .not (.t 21)), zv 23 (.pick (.t 19) (.c (.bool true)) (.t 22)), zm 6 23]
def k0p_r7 : IC := .reg false [zm 24 6]
def k0p_r8 : IC := .reg false [zm 26 0, zi 27 (.call (.c (.fn 53 [] [])) [((.t 26), .id)]), zm 25 27, zv 28 (.ext (.t 25) 0), zv 29 (.ext (.t 25) 1), zi 7 (.alo [(.int .i64 0), (.int .i64 0), (.int .i64 0), (.str []), .nils]), zn (.st 5 (.agg [.id, .id, .id, .id, (.sl 5)]) (.t 7) (.t 28)), zm 8 29]
def k0p_r9 : IC := .reg false [zm 30 8, zv 31 (.un .not (.t 30))]
def k0p_r10 : IC := .reg false [zv 2 (.mov (.c .nils)), zv 3 (.mov (.c (.bool false)))]
def k0p_r11 : IC := .reg false [zm 32 4, zv 33 (.ld true 5 (.t 7)), zv 34 (.bsl 5 [((.t 33), (.agg [.id, .id, .id, .id, (.sl 5)]))]), zi 35 (.app 5 (.agg [(.int .i64 0), (.int .i64 0), (.int .i64 0), (.str []), .nils]) 64 (.sl 5) (.t 32) (.t 34)), zm 4 35]
def k0p_r12 : IC := .reg false [zm 36 5, zm 37 36, zw 37 true 38 (.mov (.t 0)), ⟨some (37, true), some 39, .call (.c (.fn 52 [] [])) [((.t 38), .id), ((.c (.str [44])), .id)]⟩, zv 40 (.pick (.t 37) (.t 39) (.c (.bool false))), zm 6 40]
def k0p_l6 : IC := (.seq (.seq k0p_r7 (.cond (.t 24) .skip (.exit 0))) (.block 1 (.seq k0p_r8 (.seq (.seq k0p_r9 (.cond (.t 31) (.seq k0p_r10 .ret) .skip)) (.seq k0p_r11 k0p_r12)))))
def k0p_r14 : IC := .reg false [zm 41 5, zm 42 41, zw 42 true 43 (.mov (.t 0)), ⟨some (42, true), some 44, .call (.c (.fn 41 [] [])) [((.t 43), .id), ((.c (.str [41])), .id)]⟩, zw 42 true 45 (.un .not (.t 44)), zv 46 (.pick (.t 42) (.t 45) (.c (.bool false))), zm 47 46, zw 47 false 48 (.mov (.t 0)), ⟨some (47, false), some 49, .call (.c (.fn 41 [] [])) [((.t 48), .id), ((.c (.str [61, 62])), .id)]⟩, zw 47 false 50 (.un .not (.t 49)), zv 51 (.pick (.t 47) (.c (.bool true)) (.t 50))]
def k0p_r15 : IC := .reg false [zv 2 (.mov (.c .nils)), zv 3 (.mov (.c (.bool false)))]
def k0p_r16 : IC := .reg false [zm 52 4, zm 2 52, zv 3 (.mov (.c (.bool true)))]
def k0p : IC := (.seq k0p_r0 (.seq (.seq k0p_r1 (.cond (.t 11) (.seq k0p_r2 .ret) .skip)) (.seq k0p_r3 (.seq k0p_r4 (.seq (.seq k0p_r5 (.block 0 (.loop k0p_l6))) (.seq (.seq k0p_r14 (.cond (.t 51) (.seq k0p_r15 .ret) .skip)) (.seq k0p_r16 .ret)))))))
@[go_sem] def s0p : List (RV × Co) := [(.t 2, (.sl 5)), (.t 3, .id)]
theorem c0p : cFun Try.prog 18 = some (53, k0p, s0p) := by kernel_rfl

def k0e_r0 : IC := .reg false [zi 1 (.box (.t 0)), zi 2 (.alo [.nils, (.int .i64 0), (.int .i64 0), (.int .i64 0), (.str []), (.int .i64 0), (.int .i64 0), (.int .i64 0)]), zv 3 (.mov (.c .nils))]
def k0e_r1 : IC := .reg false [zv 12 (.ld true 8 (.t 1)), zi 13 (.call (.c (.fn 54 [] [])) [((.t 12), (.agg [(.sl 4), .id, .id, .id, .id, .id, .id, .id])), ((.c (.str [61, 62])), .id)]), zv 14 (.un .not (.t 13))]
def k0e_r2 : IC := .reg false [zv 15 (.ld true 8 (.t 1)), zn (.st 8 (.agg [(.sl 4), .id, .id, .id, .id, .id, .id, .id]) (.t 2) (.t 15)), zv 3 (.mov (.c .nils))]
def k0e_r3 : IC := .reg false [zv 4 (.mov (.c .nils))]
def k0e_r4 : IC := .reg false [zv 17 (.ld true 8 (.t 1)), zi 18 (.call (.c (.fn 55 [] [])) [((.t 17), (.agg [(.sl 4), .id, .id, .id, .id, .id, .id, .id])), ((.c (.str [40])), .id)]), zm 16 18, zv 19 (.ext (.t 16) 0), zv 20 (.ext (.t 16) 1), zi 5 (.alo [.nils, (.int .i64 0), (.int .i64 0), (.int .i64 0), (.str []), (.int .i64 0), (.int .i64 0), (.int .i64 0)]), zn (.st 8 (.agg [(.sl 4), .id, .id, .id, .id, .id, .id, .id]) (.t 5) (.t 19)), zm 6 20]
def k0e_r5 : IC := .reg false [zm 21 6, zv 22 (.un .not (.t 21))]
def k0e_r6 : IC := .reg false [zv 24 (.ld true 8 (.t 1)), zi 25 (.call (.c (.fn 56 [] [])) [((.t 24), (.agg [(.sl 4), .id, .id, .id, .id, .id, .id, .id]))]), zm 23 25, zv 26 (.ext (.t 23) 0), zv 27 (.ext (.t 23) 1), zi 7 (.alo [.nils, (.int .i64 0), (.int .i64 0), (.int .i64 0), (.str []), (.int .i64 0), (.int .i64 0), (.int .i64 0)]), zi 8 (.alo [(.int .i64 0), (.int .i64 0), (.int .i64 0), (.str []), .nils]), zn (.st 8 (.agg [(.sl 4), .id, .id, .id, .id, .id, .id, .id]) (.t 7) (.t 26)), zn (.st 5 (.agg [.id, .id, .id, .id, (.sl 5)]) (.t 8) (.t 27))]
def k0e_r7 : IC := .reg false [zv 29 (.ld true 8 (.t 7)), zi 30 (.call (.c (.fn 48 [] [])) [((.t 29), (.agg [(.sl 4), .id, .id, .id, .id, .id, .id, .id])), ((.c (.str [61, 62])), .id)]), zm 28 30, zv 31 (.ext (.t 28) 0), zv 32 (.ext (.t 28) 1), zn (.st 8 (.agg [(.sl 4), .id, .id, .id, .id, .id, .id, .id]) (.t 7) (.t 31))]
def k0e_r8 : IC := .drw [zp (zv 33 (.ld true 8 (.t 7))), zp (zv 34 (.ld true 5 (.t 8))), (zv 35 (.bsl 5 [((.t 34), (.agg [.id, .id, .id, .id, (.sl 5)]))]), []), (zn (.st 8 (.agg [(.sl 4), .id, .id, .id, .id, .id, .id, .id]) (.t 2) (.t 33)), [1, 2]), zp (zm 3 35)]
def k0e_r9 : IC := .reg false [zv 36 (.ld true 8 (.t 5)), zi 37 (.call (.c (.fn 45 [] [])) [((.t 36), (.agg [(.sl 4), .id, .id, .id, .id, .id, .id, .id])), ((.c (.str [41])), .id)]), zv 38 (.un .not (.t 37))]
def k0e_r10 : IC := .reg false [zv 9 (.mov (.c (.bool true)))]
def k0e_r12 : IC := .reg false [zm 39 9]
def k0e_r13 : IC := .reg false [zv 41 (.ld true 8 (.t 5)), zi 42 (.call (.c (.fn 56 [] [])) [((.t 41), (.agg [(.sl 4), .id, .id, .id, .id, .id, .id, .id]))]), zm 40 42, zv 43 (.ext (.t 40) 0), zv 44 (.ext (.t 40) 1), zi 10 (.alo [.nils, (.int .i64 0), (.int .i64 0), (.int .i64 0), (.str []), (.int .i64 0), (.int .i64 0), (.int .i64 0)]), zi 11 (.alo [(.int .i64 0), (.int .i64 0), (.int .i64 0), (.str []), .nils]), zn (.st 8 (.agg [(.sl 4), .id, .id, .id, .id, .id, .id, .id]) (.t 10) (.t 43)), zn (.st 5 (.agg [.id, .id, .id, .id, (.sl 5)]) (.t 11) (.t 44))]
def k0e_r14 : IC := .reg false [zm 45 4, zv 46 (.ld true 5 (.t 11)), zv 47 (.bsl 5 [((.t 46), (.agg [.id, .id, .id, .id, (.sl 5)]))]), zi 48 (.app 5 (.agg [(.int .i64 0), (.int .i64 0), (.int .i64 0), (.str []), .nils]) 64 (.sl 5) (.t 45) (.t 47)), zm 4 48]
def k0e_r15 : IC := .reg false [zv 50 (.ld true 8 (.t 10)), zi 51 (.call (.c (.fn 55 [] [])) [((.t 50), (.agg [(.sl 4), .id, .id, .id, .id, .id, .id, .id])), ((.c (.str [44])), .id)]), zm 49 51, zv 52 (.ext (.t 49) 0), zv 53 (.ext (.t 49) 1), zn (.st 8 (.agg [(.sl 4), .id, .id, .id, .id, .id, .id, .id]) (.t 5) (.t 52)), zm 9 53]
def k0e_l11 : IC := (.seq (.seq k0e_r12 (.cond (.t 39) .skip (.exit 0))) (.block 1 (.seq k0e_r13 (.seq k0e_r14 k0e_r15))))
def k0e_r17 : IC := .reg false [zv 55 (.ld true 8 (.t 5)), zi 56 (.call (.c (.fn 48 [] [])) [((.t 55), (.agg [(.sl 4), .id, .id, .id, .id, .id, .id, .id])), ((.c (.str [41])), .id)]), zm 54 56, zv 57 (.ext (.t 54) 0), zv 58 (.ext (.t 54) 1), zn (.st 8 (.agg [(.sl 4), .id, .id, .id, .id, .id, .id, .id]) (.t 5) (.t 57))]
def k0e_r18 : IC := .reg false [zv 60 (.ld true 8 (.t 5)), zi 61 (.call (.c (.fn 48 [] [])) [((.t 60), (.agg [(.sl 4), .id, .id, .id, .id, .id, .id, .id])), ((.c (.str [61, 62])), .id)]), zm 59 61, zv 62 (.ext (.t 59) 0), zv 63 (.ext (.t 59) 1), zn (.st 8 (.agg [(.sl 4), .id, .id, .id, .id, .id, .id, .id]) (.t 5) (.t 62))]
def k0e_r19 : IC := .reg false [zv 64 (.ld true 8 (.t 5)), zm 65 4, zn (.st 8 (.agg [(.sl 4), .id, .id, .id, .id, .id, .id, .id]) (.t 2) (.t 64)), zm 3 65]
def k0e : IC := (.seq k0e_r0 (.seq (.seq k0e_r1 (.cond (.t 14) (.seq k0e_r2 .ret) .skip)) (.seq k0e_r3 (.seq k0e_r4 (.seq (.seq k0e_r5 (.cond (.t 22) (.seq k0e_r6 (.seq k0e_r7 (.seq k0e_r8 .ret))) .skip)) (.seq (.seq k0e_r9 (.cond (.t 38) (.seq k0e_r10 (.block 0 (.loop k0e_l11))) .skip)) (.seq k0e_r17 (.seq k0e_r18 (.seq k0e_r19 .ret)))))))))
@[go_sem] def s0e : List (RV × Co) := [(.c true 8 2, (.agg [(.sl 4), .id, .id, .id, .id, .id, .id, .id])), (.t 3, (.sl 5))]
theorem c0e : cFun Try.prog 19 = some (66, k0e, s0e) := by kernel_rfl

def k0w_r0 : IC := .reg false [zi 2 (.alo [(.int .i64 0), (.int .i64 0), (.int .i64 0), (.str []), .nils]), zv 3 (.mov (.c (.bool false)))]
def k0w_r1 : IC := .reg false [zm 8 0, zi 9 (.call (.c (.fn 40 [] [])) [((.t 8), .id)]), zv 10 (.un .not (.t 9))]
def k0w_r2 : IC := .reg false [zv 11 (.bld [(.int .i64 0), (.int .i64 0), (.int .i64 0), (.str []), .nils] []), zn (.st 5 (.agg [.id, .id, .id, .id, (.sl 5)]) (.t 2) (.t 11)), zv 3 (.mov (.c (.bool false)))]
def k0w_r3 : IC := .reg false [zm 13 0, zi 14 (.call (.c (.fn 57 [] [])) [((.t 13), .id)]), zm 12 14, zv 15 (.ext (.t 12) 0), zv 16 (.ext (.t 12) 1), zi 4 (.alo [(.int .i64 0), (.int .i64 0), (.int .i64 0), (.str []), .nils]), zn (.st 5 (.agg [.id, .id, .id, .id, (.sl 5)]) (.t 4) (.t 15)), zm 5 16]
def k0w_r4 : IC := .reg false [zm 17 5, zm 18 17, zw 18 true 19 (.mov (.t 0)), ⟨some (18, true), some 20, .call (.c (.fn 52 [] [])) [((.t 19), .id), ((.c (.str [45, 62])), .id)]⟩, zv 21 (.pick (.t 18) (.t 20) (.c (.bool false)))]
def k0w_r5 : IC := .reg false [zm 23 0, zi 24 (.call (.c (.fn 20 [] [])) [((.t 23), .id)]), zm 22 24, zv 25 (.ext (.t 22) 0), zv 26 (.ext (.t 22) 1), zi 6 (.alo [(.int .i64 0), (.int .i64 0), (.int .i64 0), (.str []), .nils]), zn (.st 5 (.agg [.id, .id, .id, .id, (.sl 5)]) (.t 6) (.t 25)), zm 7 26]
def k0w_r6 : IC := .reg false [zv 27 (.fad (.t 4) 1), zv 28 (.ld false 1 (.t 27)), zv 29 (.ld true 5 (.t 4)), zv 30 (.ld true 5 (.t 6)), zv 31 (.bsl 5 [((.t 29), (.agg [.id, .id, .id, .id, (.sl 5)])), ((.t 30), (.agg [.id, .id, .id, .id, (.sl 5)]))]), zv 32 (.bld [(.int .i64 0), (.int .i64 0), (.int .i64 0), (.str []), .nils] [(0, 1, (.c (.int .i64 2))), (1, 1, (.t 28)), (3, 1, (.c (.str [45, 62]))), (4, 1, (.t 31))]), zm 33 7, zn (.st 5 (.agg [.id, .id, .id, .id, (.sl 5)]) (.t 4) (.t 32)), zm 5 33]
def k0w_r7 : IC := .reg false [zm 34 0, zi 35 (.call (.c (.fn 42 [] [])) [((.t 34), .id)])]
def k0w_r8 : IC := .reg false [zm 36 0, zv 37 (.ld true 5 (.t 4)), zm 38 5, zi 39 (.call (.c (.fn 43 [] [])) [((.t 36), .id), ((.t 37), (.agg [.id, .id, .id, .id, (.sl 5)])), ((.t 38), .id)]), zv 40 (.ext (.t 39) 0), zv 41 (.ext (.t 39) 1), zn (.st 5 (.agg [.id, .id, .id, .id, (.sl 5)]) (.t 2) (.t 40)), zm 3 41]
def k0w : IC := (.seq k0w_r0 (.seq (.seq k0w_r1 (.cond (.t 10) (.seq k0w_r2 .ret) .skip)) (.seq k0w_r3 (.seq (.seq k0w_r4 (.cond (.t 21) (.seq k0w_r5 k0w_r6) .skip)) (.seq k0w_r7 (.seq k0w_r8 .ret))))))
@[go_sem] def s0w : List (RV × Co) := [(.c true 5 2, (.agg [.id, .id, .id, .id, (.sl 5)])), (.t 3, .id)]
theorem c0w : cFun Try.prog 20 = some (42, k0w, s0w) := by kernel_rfl

def k0j_r0 : IC := .reg false [zi 1 (.box (.t 0)), zi 2 (.alo [.nils, (.int .i64 0), (.int .i64 0), (.int .i64 0), (.str []), (.int .i64 0), (.int .i64 0), (.int .i64 0)]), zi 3 (.alo [(.int .i64 0), (.int .i64 0), (.int .i64 0), (.str []), .nils])]
def k0j_r1 : IC := .reg false [zv 10 (.ld true 8 (.t 1)), zi 11 (.call (.c (.fn 47 [] [])) [((.t 10), (.agg [(.sl 4), .id, .id, .id, .id, .id, .id, .id]))]), zm 9 11, zv 12 (.ext (.t 9) 0), zv 13 (.ext (.t 9) 1), zn (.st 8 (.agg [(.sl 4), .id, .id, .id, .id, .id, .id, .id]) (.t 1) (.t 12))]
def k0j_r2 : IC := .reg false [zv 15 (.ld true 8 (.t 1)), zi 16 (.call (.c (.fn 58 [] [])) [((.t 15), (.agg [(.sl 4), .id, .id, .id, .id, .id, .id, .id]))]), zm 14 16, zv 17 (.ext (.t 14) 0), zv 18 (.ext (.t 14) 1), zi 4 (.alo [(.int .i64 0), (.int .i64 0), (.int .i64 0), (.str []), .nils]), zn (.st 8 (.agg [(.sl 4), .id, .id, .id, .id, .id, .id, .id]) (.t 1) (.t 17)), zn (.st 5 (.agg [.id, .id, .id, .id, (.sl 5)]) (.t 4) (.t 18))]
def k0j_r3 : IC := .reg false [zv 20 (.ld true 8 (.t 1)), zi 21 (.call (.c (.fn 55 [] [])) [((.t 20), (.agg [(.sl 4), .id, .id, .id, .id, .id, .id, .id])), ((.c (.str [45, 62])), .id)]), zm 19 21, zv 22 (.ext (.t 19) 0), zv 23 (.ext (.t 19) 1), zi 5 (.alo [.nils, (.int .i64 0), (.int .i64 0), (.int .i64 0), (.str []), (.int .i64 0), (.int .i64 0), (.int .i64 0)]), zn (.st 8 (.agg [(.sl 4), .id, .id, .id, .id, .id, .id, .id]) (.t 5) (.t 22)), zm 6 23]
def k0j_r4 : IC := .reg false [zm 24 6]
def k0j_r5 : IC := .reg false [zv 26 (.ld true 8 (.t 5)), zi 27 (.call (.c (.fn 21 [] [])) [((.t 26), (.agg [(.sl 4), .id, .id, .id, .id, .id, .id, .id]))]), zm 25 27, zv 28 (.ext (.t 25) 0), zv 29 (.ext (.t 25) 1), zi 7 (.alo [.nils, (.int .i64 0), (.int .i64 0), (.int .i64 0), (.str []), (.int .i64 0), (.int .i64 0), (.int .i64 0)]), zi 8 (.alo [(.int .i64 0), (.int .i64 0), (.int .i64 0), (.str []), .nils]), zn (.st 8 (.agg [(.sl 4), .id, .id, .id, .id, .id, .id, .id]) (.t 7) (.t 28)), zn (.st 5 (.agg [.id, .id, .id, .id, (.sl 5)]) (.t 8) (.t 29))]
def k0j_r6 : IC := .reg false [zv 30 (.ld true 8 (.t 7)), zn (.st 8 (.agg [(.sl 4), .id, .id, .id, .id, .id, .id, .id]) (.t 5) (.t 30))]
def k0j_r7 : IC := .reg false [zv 31 (.fad (.t 4) 1), zv 32 (.ld false 1 (.t 31)), zv 33 (.ld true 5 (.t 4)), zv 34 (.ld true 5 (.t 8)), zv 35 (.bsl 5 [((.t 33), (.agg [.id, .id, .id, .id, (.sl 5)])), ((.t 34), (.agg [.id, .id, .id, .id, (.sl 5)]))]), zv 36 (.bld [(.int .i64 0), (.int .i64 0), (.int .i64 0), (.str []), .nils] [(0, 1, (.c (.int .i64 2))), (1, 1, (.t 32)), (3, 1, (.c (.str [45, 62]))), (4, 1, (.t 35))]), zn (.st 5 (.agg [.id, .id, .id, .id, (.sl 5)]) (.t 4) (.t 36))]
def k0j_r8 : IC := .drw [zp (zv 37 (.ld true 8 (.t 5))), (zi 38 (.call (.c (.fn 49 [] [])) [((.t 37), (.agg [(.sl 4), .id, .id, .id, .id, .id, .id, .id]))]), []), zp (zv 39 (.ld true 5 (.t 4))), (zn (.st 8 (.agg [(.sl 4), .id, .id, .id, .id, .id, .id, .id]) (.t 2) (.t 38)), [2]), (zn (.st 5 (.agg [.id, .id, .id, .id, (.sl 5)]) (.t 3) (.t 39)), [])]
def k0j : IC := (.seq k0j_r0 (.seq k0j_r1 (.seq k0j_r2 (.seq k0j_r3 (.seq (.seq k0j_r4 (.cond (.t 24) (.seq k0j_r5 (.seq k0j_r6 k0j_r7)) .skip)) (.seq k0j_r8 .ret))))))
@[go_sem] def s0j : List (RV × Co) := [(.c true 8 2, (.agg [(.sl 4), .id, .id, .id, .id, .id, .id, .id])), (.c true 5 3, (.agg [.id, .id, .id, .id, (.sl 5)]))]
theorem c0j : cFun Try.prog 21 = some (40, k0j, s0j) := by kernel_rfl

def k0o_r0 : IC := .reg false [zi 2 (.alo [(.int .i64 0), (.int .i64 0), (.int .i64 0), (.str []), .nils]), zv 3 (.mov (.c (.bool false)))]
def k0o_r1 : IC := .reg false [zm 8 0, zi 9 (.call (.c (.fn 26 [] [])) [((.t 8), .id)]), zv 10 (.fld false 1 1 (.t 9)), zv 11 (.bld [(.int .i64 0), (.int .i64 0), (.int .i64 0), (.str []), .nils] [(0, 1, (.c (.int .i64 4))), (1, 1, (.t 10))]), zi 4 (.alo [(.int .i64 0), (.int .i64 0), (.int .i64 0), (.str []), .nils]), zn (.st 5 (.agg [.id, .id, .id, .id, (.sl 5)]) (.t 4) (.t 11))]
def k0o_r2 : IC := .reg false [zm 13 0, zi 14 (.call (.c (.fn 18 [] [])) [((.t 13), .id)]), zm 12 14, zv 15 (.ext (.t 12) 0), zv 16 (.ext (.t 12) 1), zm 5 15, zm 6 16]
def k0o_r3 : IC := .reg false [zm 17 6, zv 18 (.un .not (.t 17))]
def k0o_r4 : IC := .reg false [zv 19 (.bld [(.int .i64 0), (.int .i64 0), (.int .i64 0), (.str []), .nils] []), zn (.st 5 (.agg [.id, .id, .id, .id, (.sl 5)]) (.t 2) (.t 19)), zv 3 (.mov (.c (.bool false)))]
def k0o_r5 : IC := .reg false [zm 21 0, zi 22 (.call (.c (.fn 20 [] [])) [((.t 21), .id)]), zm 20 22, zv 23 (.ext (.t 20) 0), zv 24 (.ext (.t 20) 1), zi 7 (.alo [(.int .i64 0), (.int .i64 0), (.int .i64 0), (.str []), .nils]), zn (.st 5 (.agg [.id, .id, .id, .id, (.sl 5)]) (.t 7) (.t 23)), zm 6 24]
def k0o_r6 : IC := .reg false [zm 25 5, zv 26 (.ld true 5 (.t 7)), zv 27 (.bsl 5 [((.t 26), (.agg [.id, .id, .id, .id, (.sl 5)]))]), zi 28 (.app 5 (.agg [(.int .i64 0), (.int .i64 0), (.int .i64 0), (.str []), .nils]) 64 (.sl 5) (.t 25) (.t 27)), zv 29 (.fad (.t 4) 4), zn (.st 1 (.sl 5) (.t 29) (.t 28))]
def k0o_r7 : IC := .reg false [zm 30 0, zv 31 (.ld true 5 (.t 4)), zm 32 6, zi 33 (.call (.c (.fn 43 [] [])) [((.t 30), .id), ((.t 31), (.agg [.id, .id, .id, .id, (.sl 5)])), ((.t 32), .id)]), zv 34 (.ext (.t 33) 0), zv 35 (.ext (.t 33) 1), zn (.st 5 (.agg [.id, .id, .id, .id, (.sl 5)]) (.t 2) (.t 34)), zm 3 35]
def k0o : IC := (.seq k0o_r0 (.seq k0o_r1 (.seq k0o_r2 (.seq (.seq k0o_r3 (.cond (.t 18) (.seq k0o_r4 .ret) .skip)) (.seq k0o_r5 (.seq k0o_r6 (.seq k0o_r7 .ret)))))))
@[go_sem] def s0o : List (RV × Co) := [(.c true 5 2, (.agg [.id, .id, .id, .id, (.sl 5)])), (.t 3, .id)]
theorem c0o : cFun Try.prog 22 = some (36, k0o, s0o) := by kernel_rfl

def k0f_r0 : IC := .reg false [zi 1 (.box (.t 0)), zi 2 (.alo [.nils, (.int .i64 0), (.int .i64 0), (.int .i64 0), (.str []), (.int .i64 0), (.int .i64 0), (.int .i64 0)]), zi 3 (.alo [(.int .i64 0), (.int .i64 0), (.int .i64 0), (.str []), .nils])]
def k0f_r1 : IC := .reg false [zv 7 (.ld true 8 (.t 1)), zi 8 (.call (.c (.fn 27 [] [])) [((.t 7), (.agg [(.sl 4), .id, .id, .id, .id, .id, .id, .id]))]), zv 9 (.fld false 1 1 (.t 8)), zm 4 9]
def k0f_r2 : IC := .reg false [zv 11 (.ld true 8 (.t 1)), zi 12 (.call (.c (.fn 19 [] [])) [((.t 11), (.agg [(.sl 4), .id, .id, .id, .id, .id, .id, .id]))]), zm 10 12, zv 13 (.ext (.t 10) 0), zv 14 (.ext (.t 10) 1), zn (.st 8 (.agg [(.sl 4), .id, .id, .id, .id, .id, .id, .id]) (.t 1) (.t 13)), zm 5 14]
def k0f_r3 : IC := .reg false [zv 16 (.ld true 8 (.t 1)), zi 17 (.call (.c (.fn 21 [] [])) [((.t 16), (.agg [(.sl 4), .id, .id, .id, .id, .id, .id, .id]))]), zm 15 17, zv 18 (.ext (.t 15) 0), zv 19 (.ext (.t 15) 1), zi 6 (.alo [(.int .i64 0), (.int .i64 0), (.int .i64 0), (.str []), .nils]), zn (.st 8 (.agg [(.sl 4), .id, .id, .id, .id, .id, .id, .id]) (.t 1) (.t 18)), zn (.st 5 (.agg [.id, .id, .id, .id, (.sl 5)]) (.t 6) (.t 19))]
def k0f_r4 : IC := .drw [zp (zv 20 (.ld true 8 (.t 1))), zp (zm 21 4), zp (zm 22 5), (zi 23 (.app 5 (.agg [(.int .i64 0), (.int .i64 0), (.int .i64 0), (.str []), .nils]) 64 (.sl 5) (.c .nils) (.t 22)), [0, 1]), (zv 24 (.ld true 5 (.t 6)), [3]), (zv 25 (.bsl 5 [((.t 24), (.agg [.id, .id, .id, .id, (.sl 5)]))]), [3]), (zi 26 (.app 5 (.agg [(.int .i64 0), (.int .i64 0), (.int .i64 0), (.str []), .nils]) 64 (.sl 5) (.t 23) (.t 25)), [0, 1]), (zv 27 (.bld [(.int .i64 0), (.int .i64 0), (.int .i64 0), (.str []), .nils] [(0, 1, (.c (.int .i64 4))), (1, 1, (.t 21)), (4, 1, (.t 26))]), []), (zn (.st 8 (.agg [(.sl 4), .id, .id, .id, .id, .id, .id, .id]) (.t 2) (.t 20)), [1, 7]), (zn (.st 5 (.agg [.id, .id, .id, .id, (.sl 5)]) (.t 3) (.t 27)), [])]
def k0f : IC := (.seq k0f_r0 (.seq k0f_r1 (.seq k0f_r2 (.seq k0f_r3 (.seq k0f_r4 .ret)))))
@[go_sem] def s0f : List (RV × Co) := [(.c true 8 2, (.agg [(.sl 4), .id, .id, .id, .id, .id, .id, .id])), (.c true 5 3, (.agg [.id, .id, .id, .id, (.sl 5)]))]
theorem c0f : cFun Try.prog 23 = some (28, k0f, s0f) := by kernel_rfl

def k0bt_r0 : IC := .reg false [zv 2 (.mov (.c (.int .i64 0))), zv 3 (.mov (.c (.int .i64 0)))]
def k0bt_r1 : IC := .reg false [zm 5 0, zv 6 (.bin .eql .ptr (.t 5) (.c .nilp)), zm 4 6]
def k0bt_r2 : IC := .reg false [zv 2 (.mov (.c (.int .i64 0))), zv 3 (.mov (.c (.int .i64 1)))]
def k0bt_r3 : IC := .reg false [zm 8 0, zv 9 (.nck (.t 8)), zv 10 (.fad (.t 9) 7), zv 11 (.ld false 1 (.t 10)), zv 12 (.bin .neq .no (.t 11) (.c (.int .i64 0))), zm 7 12]
def k0bt_r4 : IC := .drw [zp (zm 13 0), zp (zv 14 (.nck (.t 13))), zp (zv 15 (.fad (.t 14) 8)), zp (zv 16 (.ld false 1 (.t 15))), zp (zm 17 0), zp (zv 18 (.nck (.t 17))), zp (zv 19 (.fad (.t 18) 7)), zp (zv 20 (.ld false 1 (.t 19))), zp (zm 2 16), zp (zm 3 20)]
def k0bt_r5 : IC := .drw [zp (zm 22 0), zp (zv 23 (.nck (.t 22))), zp (zv 24 (.fad (.t 23) 5)), zp (zv 25 (.ld false 1 (.t 24))), zp (zm 26 0), zp (zv 27 (.nck (.t 26))), zp (zv 28 (.fad (.t 27) 0)), zp (zv 29 (.ld false 1 (.t 28))), zp (zv 30 (.len false (.t 29))), zp (zv 31 (.bin .lss .no (.t 25) (.t 30))), zp (zm 21 31)]
def k0bt_r6 : IC := .drw [zp (zm 32 0), zp (zv 33 (.nck (.t 32))), zp (zv 34 (.fad (.t 33) 0)), zp (zv 35 (.ld false 1 (.t 34))), zp (zm 36 0), zp (zv 37 (.nck (.t 36))), zp (zv 38 (.fad (.t 37) 5)), zp (zv 39 (.ld false 1 (.t 38))), zp (zv 40 (.iad 4 (.t 35) (.t 39))), zp (zv 41 (.fad (.t 40) 1)), zp (zv 42 (.ld false 1 (.t 41))), zp (zm 2 42), zp (zv 3 (.mov (.c (.int .i64 5))))]
def k0bt_r7 : IC := .reg false [zm 43 0, zv 44 (.nck (.t 43)), zv 45 (.fad (.t 44) 1), zv 46 (.fad (.t 45) 1), zv 47 (.ld false 1 (.t 46)), zm 2 47, zv 3 (.mov (.c (.int .i64 0)))]
def k0bt : IC := (.seq k0bt_r0 (.seq (.block 0 (.seq k0bt_r1 (.cond (.t 4) (.seq k0bt_r2 .ret) (.seq k0bt_r3 (.cond (.t 7) (.seq k0bt_r4 .ret) (.seq k0bt_r5 (.cond (.t 21) (.seq k0bt_r6 .ret) .skip))))))) (.seq k0bt_r7 .ret)))
@[go_sem] def s0bt : List (RV × Co) := [(.t 2, .id), (.t 3, .id)]
theorem c0bt : cFun Try.prog 24 = some (48, k0bt, s0bt) := by kernel_rfl

def k0bg_r0 : IC := .reg false [zi 1 (.box (.t 0)), zv 2 (.mov (.c (.int .i64 0))), zv 3 (.mov (.c (.int .i64 0)))]
def k0bg_r1 : IC := .reg false [zv 5 (.fad (.t 1) 6), zv 6 (.ld false 1 (.t 5)), zv 7 (.bin .neq .no (.t 6) (.c (.int .i64 0))), zm 4 7]
def k0bg_r2 : IC := .drw [zp (zv 8 (.fad (.t 1) 7)), zp (zv 9 (.ld false 1 (.t 8))), zp (zv 10 (.fad (.t 1) 6)), zp (zv 11 (.ld false 1 (.t 10))), zp (zm 2 9), zp (zm 3 11)]
def k0bg_r3 : IC := .reg false [zv 13 (.fad (.t 1) 0), zv 14 (.ld false 1 (.t 13)), zv 15 (.len false (.t 14)), zv 16 (.bin .gtr .no (.t 15) (.c (.int .i64 0))), zm 12 16]
def k0bg_r4 : IC := .reg false [zv 17 (.fad (.t 1) 0), zv 18 (.ld false 1 (.t 17)), zv 19 (.iad 4 (.t 18) (.c (.int .i64 0))), zv 20 (.fad (.t 19) 1), zv 21 (.ld false 1 (.t 20)), zm 2 21, zv 3 (.mov (.c (.int .i64 5)))]
def k0bg_r5 : IC := .reg false [zv 22 (.fad (.t 1) 1), zv 23 (.fad (.t 22) 1), zv 24 (.ld false 1 (.t 23)), zm 2 24, zv 3 (.mov (.c (.int .i64 0)))]
def k0bg : IC := (.seq k0bg_r0 (.seq (.block 0 (.seq k0bg_r1 (.cond (.t 4) (.seq k0bg_r2 .ret) (.seq k0bg_r3 (.cond (.t 12) (.seq k0bg_r4 .ret) .skip))))) (.seq k0bg_r5 .ret)))
@[go_sem] def s0bg : List (RV × Co) := [(.t 2, .id), (.t 3, .id)]
theorem c0bg : cFun Try.prog 25 = some (25, k0bg, s0bg) := by kernel_rfl

def k0bk_r0 : IC := .reg false [zi 2 (.alo [(.int .i64 0), (.int .i64 0), (.int .i64 0), (.str [])])]
def k0bk_r1 : IC := .reg false [zm 4 0, zi 5 (.call (.c (.fn 59 [] [])) [((.t 4), .id)]), zm 3 5]
def k0bk_r2 : IC := .reg false [zv 6 (.bld [(.int .i64 0), (.int .i64 0), (.int .i64 0), (.str [])] []), zn (.st 4 .id (.t 2) (.t 6))]
def k0bk_r3 : IC := .drw [zp (zm 8 0), zp (zv 9 (.nck (.t 8))), zp (zv 10 (.fad (.t 9) 5)), zp (zv 11 (.ld false 1 (.t 10))), zp (zm 12 0), zp (zv 13 (.nck (.t 12))), zp (zv 14 (.fad (.t 13) 0)), zp (zv 15 (.ld false 1 (.t 14))), zp (zv 16 (.len false (.t 15))), zp (zv 17 (.bin .lss .no (.t 11) (.t 16))), zp (zm 7 17)]
def k0bk_r4 : IC := .drw [zp (zm 18 0), zp (zv 19 (.nck (.t 18))), zp (zv 20 (.fad (.t 19) 0)), zp (zv 21 (.ld false 1 (.t 20))), zp (zm 22 0), zp (zv 23 (.nck (.t 22))), zp (zv 24 (.fad (.t 23) 5)), zp (zv 25 (.ld false 1 (.t 24))), zp (zv 26 (.iad 4 (.t 21) (.t 25))), zp (zv 27 (.ld true 4 (.t 26))), (zn (.st 4 .id (.t 2) (.t 27)), [])]
def k0bk_r5 : IC := .reg false [zm 28 0, zv 29 (.nck (.t 28)), zv 30 (.fad (.t 29) 1), zv 31 (.ld true 4 (.t 30)), zn (.st 4 .id (.t 2) (.t 31))]
def k0bk : IC := (.seq k0bk_r0 (.seq (.block 0 (.seq k0bk_r1 (.cond (.t 3) (.seq k0bk_r2 .ret) (.seq k0bk_r3 (.cond (.t 7) (.seq k0bk_r4 .ret) .skip))))) (.seq k0bk_r5 .ret)))
@[go_sem] def s0bk : List (RV × Co) := [(.c true 4 2, .id)]
theorem c0bk : cFun Try.prog 26 = some (32, k0bk, s0bk) := by kernel_rfl

def k0x_r0 : IC := .reg false [zi 1 (.box (.t 0)), zi 2 (.alo [(.int .i64 0), (.int .i64 0), (.int .i64 0), (.str [])])]
def k0x_r1 : IC := .reg false [zv 4 (.fad (.t 1) 6), zv 5 (.ld false 1 (.t 4)), zv 6 (.bin .neq .no (.t 5) (.c (.int .i64 0))), zm 3 6]
def k0x_r2 : IC := .reg false [zv 7 (.bld [(.int .i64 0), (.int .i64 0), (.int .i64 0), (.str [])] []), zn (.st 4 .id (.t 2) (.t 7))]
def k0x_r3 : IC := .reg false [zv 9 (.fad (.t 1) 0), zv 10 (.ld false 1 (.t 9)), zv 11 (.len false (.t 10)), zv 12 (.bin .eql .no (.t 11) (.c (.int .i64 0))), zm 8 12]
def k0x_r4 : IC := .reg false [zv 13 (.fad (.t 1) 1), zv 14 (.ld true 4 (.t 13)), zn (.st 4 .id (.t 2) (.t 14))]
def k0x_r5 : IC := .reg false [zv 15 (.fad (.t 1) 0), zv 16 (.ld false 1 (.t 15)), zv 17 (.iad 4 (.t 16) (.c (.int .i64 0))), zv 18 (.ld true 4 (.t 17)), zn (.st 4 .id (.t 2) (.t 18))]
def k0x : IC := (.seq k0x_r0 (.seq (.block 0 (.seq k0x_r1 (.cond (.t 3) (.seq k0x_r2 .ret) (.seq k0x_r3 (.cond (.t 8) (.seq k0x_r4 .ret) .skip))))) (.seq k0x_r5 .ret)))
@[go_sem] def s0x : List (RV × Co) := [(.c true 4 2, .id)]
theorem c0x : cFun Try.prog 27 = some (19, k0x, s0x) := by kernel_rfl

def k0cr_r0 : IC := .reg false [zi 1 (.box (.t 0)), zv 2 (.mov (.c (.int .i64 0)))]
def k0cr_r1 : IC := .reg false [zv 3 (.mov (.c (.int .i64 0)))]
def k0cr_r2 : IC := .reg false [zv 4 (.mov (.c (.int .i64 0)))]
def k0cr_r4 : IC := .reg false [zm 5 4, zv 6 (.fad (.t 1) 4), zv 7 (.ld false 1 (.t 6)), zv 8 (.len false (.t 7)), zv 9 (.bin .lss .no (.t 5) (.t 8))]
def k0cr_r5 : IC := .reg false [zm 12 3, zv 13 (.fad (.t 1) 4), zv 14 (.ld false 1 (.t 13)), zm 15 4, zv 16 (.iad 5 (.t 14) (.t 15)), zv 17 (.ld true 5 (.t 16)), zi 18 (.call (.c (.fn 31 [] [])) [((.t 17), (.agg [.id, .id, .id, .id, (.sl 5)]))]), zv 19 (.mm true (.t 12) (.t 18)), zm 3 19]
def k0cr_r6 : IC := .reg false [zm 10 4, zv 11 (.bin .add .no (.t 10) (.c (.int .i64 1))), zm 4 11]
def k0cr_l3 : IC := (.seq (.seq k0cr_r4 (.cond (.t 9) .skip (.exit 0))) (.seq (.block 1 k0cr_r5) k0cr_r6))
def k0cr_r8 : IC := .reg false [zm 20 3, zv 21 (.bin .add .no (.t 20) (.c (.int .i64 1))), zm 2 21]
def k0cr : IC := (.seq k0cr_r0 (.seq k0cr_r1 (.seq (.seq k0cr_r2 (.block 0 (.loop k0cr_l3))) (.seq k0cr_r8 .ret))))
@[go_sem] def s0cr : List (RV × Co) := [(.t 2, .id)]
theorem c0cr : cFun Try.prog 31 = some (22, k0cr, s0cr) := by kernel_rfl

def k0l_r0 : IC := .reg false [zi 2 (.box (.t 0)), zi 4 (.alo [(.int .i64 0), (.int .i64 0), (.int .i64 0), (.str []), .nils]), zv 5 (.mov (.c (.bool false)))]
def k0l_r1 : IC := .reg false [zv 6 (.fad (.t 2) 0), zv 7 (.ld false 1 (.t 6))]
def k0l_r2 : IC := .reg false [zm 8 1, zi 9 (.call (.c (.fn 22 [] [])) [((.t 8), .id)]), zv 10 (.ext (.t 9) 0), zv 11 (.ext (.t 9) 1), zn (.st 5 (.agg [.id, .id, .id, .id, (.sl 5)]) (.t 4) (.t 10)), zm 5 11]
def k0l_r3 : IC := .reg false [zm 12 1, zi 13 (.call (.c (.fn 20 [] [])) [((.t 12), .id)]), zv 14 (.ext (.t 13) 0), zv 15 (.ext (.t 13) 1), zn (.st 5 (.agg [.id, .id, .id, .id, (.sl 5)]) (.t 4) (.t 14)), zm 5 15]
def k0l : IC := (.seq k0l_r0 (.seq (.seq k0l_r1 (.cond (.t 7) (.seq k0l_r2 .ret) .skip)) (.seq k0l_r3 .ret)))
@[go_sem] def s0l : List (RV × Co) := [(.c true 5 4, (.agg [.id, .id, .id, .id, (.sl 5)])), (.t 5, .id)]
theorem c0l : cFun Try.prog 34 = some (16, k0l, s0l) := by kernel_rfl

def k0k_r0 : IC := .reg false [zi 4 (.alo [(.int .i64 0), (.int .i64 0), (.int .i64 0), (.str []), .nils]), zv 5 (.mov (.c (.int .i64 0))), zv 6 (.mov (.c (.int .i64 0)))]
def k0k_r1 : IC := .reg false [zm 16 0, zi 17 (.call (.c (.fn 71 [] [])) [((.t 16), .id)]), zm 15 17, zv 18 (.ext (.t 15) 0), zv 19 (.ext (.t 15) 1), zv 20 (.ext (.t 15) 2), zm 7 18, zm 8 19, zm 9 20]
def k0k_r2 : IC := .reg false [zm 21 9, zv 22 (.bin .neq .no (.t 21) (.c (.int .i64 0)))]
def k0k_r3 : IC := .reg false [zv 23 (.bld [(.int .i64 0), (.int .i64 0), (.int .i64 0), (.str []), .nils] []), zm 24 8, zm 25 9, zn (.st 5 (.agg [.id, .id, .id, .id, (.sl 5)]) (.t 4) (.t 23)), zm 5 24, zm 6 25]
def k0k_r4 : IC := .reg false [zm 26 7, zi 27 (.call (.c (.fn 14 [] [])) [((.t 26), (.sl 4))]), zm 10 27]
def k0k_r5 : IC := .reg false [zm 29 1, zm 30 10, zi 31 (.call (.t 29) [((.t 30), .id)]), zm 28 31, zv 32 (.ext (.t 28) 0), zv 33 (.ext (.t 28) 1), zi 11 (.alo [(.int .i64 0), (.int .i64 0), (.int .i64 0), (.str []), .nils]), zn (.st 5 (.agg [.id, .id, .id, .id, (.sl 5)]) (.t 11) (.t 32)), zm 12 33]
def k0k_r6 : IC := .reg false [zm 35 10, zi 36 (.call (.c (.fn 24 [] [])) [((.t 35), .id)]), zm 34 36, zv 37 (.ext (.t 34) 0), zv 38 (.ext (.t 34) 1), zm 13 37, zm 14 38]
def k0k_r7 : IC := .reg false [zm 40 14, zv 41 (.bin .neq .no (.t 40) (.c (.int .i64 0))), zm 39 41]
def k0k_r8 : IC := .reg false [zv 42 (.bld [(.int .i64 0), (.int .i64 0), (.int .i64 0), (.str []), .nils] []), zm 43 13, zm 44 14, zn (.st 5 (.agg [.id, .id, .id, .id, (.sl 5)]) (.t 4) (.t 42)), zm 5 43, zm 6 44]
def k0k_r9 : IC := .reg false [zv 46 (.ld true 5 (.t 11)), zi 47 (.call (.c (.fn 72 [] [])) [((.t 46), (.agg [.id, .id, .id, .id, (.sl 5)]))]), zv 48 (.bin .gtr .no (.t 47) (.c (.int .i64 100))), zm 45 48]
def k0k_r10 : IC := .drw [(zv 49 (.bld [(.int .i64 0), (.int .i64 0), (.int .i64 0), (.str []), .nils] []), []), zp (zv 50 (.fad (.t 11) 1)), zp (zv 51 (.ld false 1 (.t 50))), (zn (.st 5 (.agg [.id, .id, .id, .id, (.sl 5)]) (.t 4) (.t 49)), [1, 2]), zp (zm 5 51), zp (zv 6 (.mov (.c (.int .i64 2))))]
def k0k_r11 : IC := .reg false [zv 52 (.ld true 5 (.t 11)), zn (.st 5 (.agg [.id, .id, .id, .id, (.sl 5)]) (.t 4) (.t 52)), zv 5 (.mov (.c (.int .i64 0))), zv 6 (.mov (.c (.int .i64 0)))]
def k0k : IC := (.seq k0k_r0 (.seq k0k_r1 (.seq (.seq k0k_r2 (.cond (.t 22) (.seq k0k_r3 .ret) .skip)) (.seq k0k_r4 (.seq k0k_r5 (.seq (.seq k0k_r6 (.block 0 (.seq k0k_r7 (.cond (.t 39) (.seq k0k_r8 .ret) (.seq k0k_r9 (.cond (.t 45) (.seq k0k_r10 .ret) .skip)))))) (.seq k0k_r11 .ret)))))))
@[go_sem] def s0k : List (RV × Co) := [(.c true 5 4, (.agg [.id, .id, .id, .id, (.sl 5)])), (.t 5, .id), (.t 6, .id)]
theorem c0k : cFun Try.prog 35 = some (53, k0k, s0k) := by kernel_rfl

def k0b_r0 : IC := .reg false [zi 2 (.box (.t 0)), zi 3 (.box (.t 1)), zi 4 (.alo [(.int .i64 0), (.int .i64 0), (.int .i64 0), (.str []), .nils]), zv 5 (.mov (.c (.int .i64 0))), zv 6 (.mov (.c (.int .i64 0)))]
def k0b_r1 : IC := .reg false [zv 10 (.ld true 8 (.t 2)), zi 11 (.call (.c (.fn 25 [] [])) [((.t 10), (.agg [(.sl 4), .id, .id, .id, .id, .id, .id, .id]))]), zm 9 11, zv 12 (.ext (.t 9) 0), zv 13 (.ext (.t 9) 1), zm 7 12, zm 8 13]
def k0b_r2 : IC := .reg false [zm 14 8, zv 15 (.bin .neq .no (.t 14) (.c (.int .i64 0)))]
def k0b_r3 : IC := .reg false [zv 16 (.bld [(.int .i64 0), (.int .i64 0), (.int .i64 0), (.str []), .nils] []), zm 17 7, zm 18 8, zn (.st 5 (.agg [.id, .id, .id, .id, (.sl 5)]) (.t 4) (.t 16)), zm 5 17, zm 6 18]
def k0b_r4 : IC := .reg false [zv 19 (.ld true 5 (.t 3)), zi 20 (.call (.c (.fn 31 [] [])) [((.t 19), (.agg [.id, .id, .id, .id, (.sl 5)]))]), zv 21 (.bin .gtr .no (.t 20) (.c (.int .i64 100)))]
def k0b_r5 : IC := .drw [(zv 22 (.bld [(.int .i64 0), (.int .i64 0), (.int .i64 0), (.str []), .nils] []), []), zp (zv 23 (.fad (.t 3) 1)), zp (zv 24 (.ld false 1 (.t 23))), (zn (.st 5 (.agg [.id, .id, .id, .id, (.sl 5)]) (.t 4) (.t 22)), [1, 2]), zp (zm 5 24), zp (zv 6 (.mov (.c (.int .i64 2))))]
def k0b_r6 : IC := .reg false [zv 25 (.ld true 5 (.t 3)), zn (.st 5 (.agg [.id, .id, .id, .id, (.sl 5)]) (.t 4) (.t 25)), zv 5 (.mov (.c (.int .i64 0))), zv 6 (.mov (.c (.int .i64 0)))]
def k0b : IC := (.seq k0b_r0 (.seq k0b_r1 (.seq (.seq k0b_r2 (.cond (.t 15) (.seq k0b_r3 .ret) .skip)) (.seq (.seq k0b_r4 (.cond (.t 21) (.seq k0b_r5 .ret) .skip)) (.seq k0b_r6 .ret)))))
@[go_sem] def s0b : List (RV × Co) := [(.c true 5 4, (.agg [.id, .id, .id, .id, (.sl 5)])), (.t 5, .id), (.t 6, .id)]
theorem c0b : cFun Try.prog 36 = some (26, k0b, s0b) := by kernel_rfl

def k0bm_r0 : IC := .reg false [zi 2 (.alo [(.int .i64 0), (.int .i64 0), (.int .i64 0), (.str [])])]
def k0bm_r1 : IC := .reg false [zm 4 0, zi 5 (.call (.c (.fn 26 [] [])) [((.t 4), .id)]), zi 3 (.alo [(.int .i64 0), (.int .i64 0), (.int .i64 0), (.str [])]), zn (.st 4 .id (.t 3) (.t 5))]
def k0bm_r2 : IC := .drw [zp (zm 6 0), (zi 7 (.call (.c (.fn 59 [] [])) [((.t 6), .id)]), []), zp (zv 8 (.un .not (.t 7))), zp (zm 9 8), zp (zw 9 true 10 (.mov (.t 0))), zp (zw 9 true 11 (.nck (.t 10))), zp (zw 9 true 12 (.fad (.t 11) 5)), zp (zw 9 true 13 (.ld false 1 (.t 12))), zp (zw 9 true 14 (.mov (.t 0))), zp (zw 9 true 15 (.nck (.t 14))), zp (zw 9 true 16 (.fad (.t 15) 0)), zp (zw 9 true 17 (.ld false 1 (.t 16))), zp (zw 9 true 18 (.len false (.t 17))), zp (zw 9 true 19 (.bin .lss .no (.t 13) (.t 18))), zp (zv 20 (.pick (.t 9) (.t 19) (.c (.bool false))))]
def k0bm_r3 : IC := .reg false [zm 21 0, zv 22 (.nck (.t 21)), zv 23 (.fad (.t 22) 5), zv 24 (.ld false 1 (.t 23)), zv 25 (.bin .add .no (.t 24) (.c (.int .i64 1))), zv 26 (.nck (.t 21)), zv 27 (.fad (.t 26) 5), zn (.st 1 .id (.t 27) (.t 25))]
def k0bm_r4 : IC := .reg false [zv 28 (.ld true 4 (.t 3)), zn (.st 4 .id (.t 2) (.t 28))]
def k0bm : IC := (.seq k0bm_r0 (.seq k0bm_r1 (.seq (.seq k0bm_r2 (.cond (.t 20) k0bm_r3 .skip)) (.seq k0bm_r4 .ret))))
@[go_sem] def s0bm : List (RV × Co) := [(.c true 4 2, .id)]
theorem c0bm : cFun Try.prog 37 = some (29, k0bm, s0bm) := by kernel_rfl

def k0bn_r0 : IC := .reg false [zv 4 (.mov (.c (.bool false)))]
def k0bn_r1 : IC := .reg false [zm 5 0, zi 6 (.call (.c (.fn 59 [] [])) [((.t 5), .id)]), zv 7 (.un .not (.t 6)), zm 8 7, zw 8 true 9 (.mov (.t 0)), ⟨some (8, true), some 10, .call (.c (.fn 26 [] [])) [((.t 9), .id)]⟩, zw 8 true 11 (.mov (.t 1)), zw 8 true 12 (.bsl 1 [((.t 11), .id)]), ⟨some (8, true), some 13, .call (.c (.fn 73 [] [])) [((.t 10), .id), ((.t 12), (.sl 1))]⟩, zv 14 (.pick (.t 8) (.t 13) (.c (.bool false))), zm 4 14]
def k0bn : IC := (.seq k0bn_r0 (.seq k0bn_r1 .ret))
@[go_sem] def s0bn : List (RV × Co) := [(.t 4, .id)]
theorem c0bn : cFun Try.prog 38 = some (15, k0bn, s0bn) := by kernel_rfl

def k0bo_r0 : IC := .reg false [zv 4 (.mov (.c (.bool false)))]
def k0bo_r1 : IC := .reg false [zm 5 0, zi 6 (.call (.c (.fn 59 [] [])) [((.t 5), .id)]), zv 7 (.un .not (.t 6))]
def k0bo_r2 : IC := .reg false [zm 8 1, zv 9 (.bin .eql .no (.t 8) (.c (.int .i64 0)))]
def k0bo_r3 : IC := .reg false [zv 1 (.mov (.c (.int .i64 1)))]
def k0bo_r4 : IC := .reg false [zm 10 0, zm 11 0, zi 12 (.call (.c (.fn 26 [] [])) [((.t 11), .id)]), zv 13 (.fld false 1 1 (.t 12)), zv 14 (.nck (.t 10)), zv 15 (.fad (.t 14) 8), zn (.st 1 .id (.t 15) (.t 13))]
def k0bo_r5 : IC := .reg false [zm 16 0, zm 17 1, zv 18 (.nck (.t 16)), zv 19 (.fad (.t 18) 7), zn (.st 1 .id (.t 19) (.t 17))]
def k0bo_r6 : IC := .reg false [zv 4 (.mov (.c (.bool false)))]
def k0bo : IC := (.seq k0bo_r0 (.seq (.seq k0bo_r1 (.cond (.t 7) (.seq (.seq k0bo_r2 (.cond (.t 9) k0bo_r3 .skip)) (.seq k0bo_r4 k0bo_r5)) .skip)) (.seq k0bo_r6 .ret)))
@[go_sem] def s0bo : List (RV × Co) := [(.t 4, .id)]
theorem c0bo : cFun Try.prog 39 = some (20, k0bo, s0bo) := by kernel_rfl

def k0br_r0 : IC := .reg false [zv 2 (.mov (.c (.bool false)))]
def k0br_r1 : IC := .reg false [zm 3 0, zi 4 (.call (.c (.fn 59 [] [])) [((.t 3), .id)]), zm 5 4, zw 5 false 6 (.mov (.t 0)), zw 5 false 7 (.nck (.t 6)), zw 5 false 8 (.fad (.t 7) 6), zw 5 false 9 (.ld false 1 (.t 8)), zw 5 false 10 (.bin .geq .no (.t 9) (.c (.int .i64 200))), zv 11 (.pick (.t 5) (.c (.bool true)) (.t 10))]
def k0br_r2 : IC := .reg false [zm 12 0, zi 13 (.call (.c (.fn 39 [] [])) [((.t 12), .id), ((.c (.int .i64 2)), .id)]), zm 2 13]
def k0br_r3 : IC := .reg false [zm 14 0, zv 15 (.nck (.t 14)), zv 16 (.fad (.t 15) 6), zv 17 (.ld false 1 (.t 16)), zv 18 (.bin .add .no (.t 17) (.c (.int .i64 1))), zv 19 (.nck (.t 14)), zv 20 (.fad (.t 19) 6), zn (.st 1 .id (.t 20) (.t 18))]
def k0br_r4 : IC := .reg false [zv 2 (.mov (.c (.bool true)))]
def k0br : IC := (.seq k0br_r0 (.seq (.seq k0br_r1 (.cond (.t 11) (.seq k0br_r2 .ret) .skip)) (.seq k0br_r3 (.seq k0br_r4 .ret))))
@[go_sem] def s0br : List (RV × Co) := [(.t 2, .id)]
theorem c0br : cFun Try.prog 40 = some (21, k0br, s0br) := by kernel_rfl

def k0bq_r0 : IC := .reg false [zv 4 (.mov (.c (.bool false)))]
def k0bq_r1 : IC := .reg false [zm 5 0, zm 6 1, zi 7 (.call (.c (.fn 52 [] [])) [((.t 5), .id), ((.t 6), .id)]), zm 8 7, zw 8 false 9 (.mov (.t 0)), ⟨some (8, false), some 10, .call (.c (.fn 39 [] [])) [((.t 9), .id), ((.c (.int .i64 5)), .id)]⟩, zv 11 (.pick (.t 8) (.c (.bool true)) (.t 10)), zm 4 11]
def k0bq : IC := (.seq k0bq_r0 (.seq k0bq_r1 .ret))
@[go_sem] def s0bq : List (RV × Co) := [(.t 4, .id)]
theorem c0bq : cFun Try.prog 41 = some (12, k0bq, s0bq) := by kernel_rfl

def k0bs_r0 : IC := .reg false [zm 2 0, zi 3 (.call (.c (.fn 59 [] [])) [((.t 2), .id)]), zv 4 (.un .not (.t 3)), zm 5 4, zw 5 true 6 (.mov (.t 0)), zw 5 true 7 (.nck (.t 6)), zw 5 true 8 (.fad (.t 7) 6), zw 5 true 9 (.ld false 1 (.t 8)), zw 5 true 10 (.bin .gtr .no (.t 9) (.c (.int .i64 0))), zv 11 (.pick (.t 5) (.t 10) (.c (.bool false)))]
def k0bs_r1 : IC := .reg false [zm 12 0, zv 13 (.nck (.t 12)), zv 14 (.fad (.t 13) 6), zv 15 (.ld false 1 (.t 14)), zv 16 (.bin .sub .no (.t 15) (.c (.int .i64 1))), zv 17 (.nck (.t 12)), zv 18 (.fad (.t 17) 6), zn (.st 1 .id (.t 18) (.t 16))]
def k0bs : IC := (.seq k0bs_r0 (.cond (.t 11) k0bs_r1 .skip))
@[go_sem] def s0bs : List (RV × Co) := []
theorem c0bs : cFun Try.prog 42 = some (19, k0bs, s0bs) := by kernel_rfl

def k0s_r0 : IC := .reg false [zi 4 (.box (.t 1)), zi 6 (.alo [(.int .i64 0), (.int .i64 0), (.int .i64 0), (.str []), .nils]), zv 7 (.mov (.c (.bool false)))]
def k0s_r1 : IC := .reg false [zm 8 2, zv 9 (.un .not (.t 8))]
def k0s_r2 : IC := .reg false [zv 10 (.bld [(.int .i64 0), (.int .i64 0), (.int .i64 0), (.str []), .nils] []), zn (.st 5 (.agg [.id, .id, .id, .id, (.sl 5)]) (.t 6) (.t 10)), zv 7 (.mov (.c (.bool false)))]
def k0s_r3 : IC := .reg false [zv 11 (.ld true 5 (.t 4)), zn (.st 5 (.agg [.id, .id, .id, .id, (.sl 5)]) (.t 6) (.t 11)), zv 7 (.mov (.c (.bool true)))]
def k0s : IC := (.seq k0s_r0 (.seq (.seq k0s_r1 (.cond (.t 9) (.seq k0s_r2 .ret) .skip)) (.seq k0s_r3 .ret)))
@[go_sem] def s0s : List (RV × Co) := [(.c true 5 6, (.agg [.id, .id, .id, .id, (.sl 5)])), (.t 7, .id)]
theorem c0s : cFun Try.prog 43 = some (12, k0s, s0s) := by kernel_rfl

def k0y_r0 : IC := .reg false [zi 1 (.box (.t 0)), zi 2 (.alo [.nils, (.int .i64 0), (.int .i64 0), (.int .i64 0), (.str []), (.int .i64 0), (.int .i64 0), (.int .i64 0)]), zi 3 (.alo [(.int .i64 0), (.int .i64 0), (.int .i64 0), (.str [])])]
def k0y_r1 : IC := .reg false [zv 5 (.ld true 8 (.t 1)), zi 6 (.call (.c (.fn 27 [] [])) [((.t 5), (.agg [(.sl 4), .id, .id, .id, .id, .id, .id, .id]))]), zi 4 (.alo [(.int .i64 0), (.int .i64 0), (.int .i64 0), (.str [])]), zn (.st 4 .id (.t 4) (.t 6))]
def k0y_r2 : IC := .reg false [zv 7 (.fad (.t 1) 6), zv 8 (.ld false 1 (.t 7)), zv 9 (.bin .eql .no (.t 8) (.c (.int .i64 0))), zm 10 9, zw 10 true 11 (.fad (.t 1) 0), zw 10 true 12 (.ld false 1 (.t 11)), zw 10 true 13 (.len false (.t 12)), zw 10 true 14 (.bin .gtr .no (.t 13) (.c (.int .i64 0))), zv 15 (.pick (.t 10) (.t 14) (.c (.bool false)))]
def k0y_r3 : IC := .reg false [zv 16 (.fad (.t 1) 0), zv 17 (.ld false 1 (.t 16)), zv 18 (.slv 4 (.t 17) (some (.c (.int .i64 1))) none none), zv 19 (.fad (.t 1) 0), zn (.st 1 (.sl 4) (.t 19) (.t 18))]
def k0y_r4 : IC := .drw [zp (zv 20 (.ld true 8 (.t 1))), zp (zv 21 (.ld true 4 (.t 4))), (zn (.st 8 (.agg [(.sl 4), .id, .id, .id, .id, .id, .id, .id]) (.t 2) (.t 20)), [1]), (zn (.st 4 .id (.t 3) (.t 21)), [])]
def k0y : IC := (.seq k0y_r0 (.seq k0y_r1 (.seq (.seq k0y_r2 (.cond (.t 15) k0y_r3 .skip)) (.seq k0y_r4 .ret))))
@[go_sem] def s0y : List (RV × Co) := [(.c true 8 2, (.agg [(.sl 4), .id, .id, .id, .id, .id, .id, .id])), (.c true 4 3, .id)]
theorem c0y : cFun Try.prog 44 = some (22, k0y, s0y) := by kernel_rfl

def k0ba_r0 : IC := .reg false [zi 2 (.box (.t 0)), zv 4 (.mov (.c (.bool false)))]
def k0ba_r1 : IC := .reg false [zv 5 (.fad (.t 2) 6), zv 6 (.ld false 1 (.t 5)), zv 7 (.bin .eql .no (.t 6) (.c (.int .i64 0))), zm 8 7, zw 8 true 9 (.ld true 8 (.t 2)), ⟨some (8, true), some 10, .call (.c (.fn 27 [] [])) [((.t 9), (.agg [(.sl 4), .id, .id, .id, .id, .id, .id, .id]))]⟩, zw 8 true 11 (.mov (.t 1)), ⟨some (8, true), some 12, .call (.c (.fn 74 [] [])) [((.t 10), .id), ((.t 11), .id)]⟩, zv 13 (.pick (.t 8) (.t 12) (.c (.bool false))), zm 4 13]
def k0ba : IC := (.seq k0ba_r0 (.seq k0ba_r1 .ret))
@[go_sem] def s0ba : List (RV × Co) := [(.t 4, .id)]
theorem c0ba : cFun Try.prog 45 = some (14, k0ba, s0ba) := by kernel_rfl

def k0bc_r0 : IC := .reg false [zi 2 (.box (.t 0)), zi 4 (.alo [.nils, (.int .i64 0), (.int .i64 0), (.int .i64 0), (.str []), (.int .i64 0), (.int .i64 0), (.int .i64 0)])]
def k0bc_r1 : IC := .reg false [zv 6 (.fad (.t 2) 6), zv 7 (.ld false 1 (.t 6)), zv 8 (.bin .neq .no (.t 7) (.c (.int .i64 0)))]
def k0bc_r2 : IC := .reg false [zv 9 (.ld true 8 (.t 2)), zn (.st 8 (.agg [(.sl 4), .id, .id, .id, .id, .id, .id, .id]) (.t 4) (.t 9))]
def k0bc_r3 : IC := .reg false [zv 10 (.ld true 8 (.t 2)), zi 11 (.call (.c (.fn 27 [] [])) [((.t 10), (.agg [(.sl 4), .id, .id, .id, .id, .id, .id, .id]))]), zv 12 (.fld false 1 1 (.t 11)), zm 5 12]
def k0bc_r4 : IC := .reg false [zm 13 1, zv 14 (.bin .eql .no (.t 13) (.c (.int .i64 0)))]
def k0bc_r5 : IC := .reg false [zv 1 (.mov (.c (.int .i64 1)))]
def k0bc_r6 : IC := .reg false [zm 15 1, zv 16 (.fad (.t 2) 6), zn (.st 1 .id (.t 16) (.t 15))]
def k0bc_r7 : IC := .reg false [zm 17 5, zv 18 (.fad (.t 2) 7), zn (.st 1 .id (.t 18) (.t 17))]
def k0bc_r8 : IC := .reg false [zv 19 (.ld true 8 (.t 2)), zn (.st 8 (.agg [(.sl 4), .id, .id, .id, .id, .id, .id, .id]) (.t 4) (.t 19))]
def k0bc : IC := (.seq k0bc_r0 (.seq (.seq k0bc_r1 (.cond (.t 8) (.seq k0bc_r2 .ret) .skip)) (.seq k0bc_r3 (.seq (.seq k0bc_r4 (.cond (.t 14) k0bc_r5 .skip)) (.seq k0bc_r6 (.seq k0bc_r7 (.seq k0bc_r8 .ret)))))))
@[go_sem] def s0bc : List (RV × Co) := [(.c true 8 4, (.agg [(.sl 4), .id, .id, .id, .id, .id, .id, .id]))]
theorem c0bc : cFun Try.prog 46 = some (20, k0bc, s0bc) := by kernel_rfl

def k0be_r0 : IC := .reg false [zi 1 (.box (.t 0)), zi 2 (.alo [.nils, (.int .i64 0), (.int .i64 0), (.int .i64 0), (.str []), (.int .i64 0), (.int .i64 0), (.int .i64 0)]), zv 3 (.mov (.c (.bool false)))]
def k0be_r1 : IC := .reg false [zv 4 (.fad (.t 1) 6), zv 5 (.ld false 1 (.t 4)), zv 6 (.bin .neq .no (.t 5) (.c (.int .i64 0)))]
def k0be_r2 : IC := .reg false [zv 7 (.ld true 8 (.t 1)), zn (.st 8 (.agg [(.sl 4), .id, .id, .id, .id, .id, .id, .id]) (.t 2) (.t 7)), zv 3 (.mov (.c (.bool false)))]
def k0be_r3 : IC := .reg false [zv 8 (.fad (.t 1) 5), zv 9 (.ld false 1 (.t 8)), zv 10 (.bin .geq .no (.t 9) (.c (.int .i64 200)))]
def k0be_r4 : IC := .reg false [zv 11 (.ld true 8 (.t 1)), zi 12 (.call (.c (.fn 46 [] [])) [((.t 11), (.agg [(.sl 4), .id, .id, .id, .id, .id, .id, .id])), ((.c (.int .i64 2)), .id)]), zn (.st 8 (.agg [(.sl 4), .id, .id, .id, .id, .id, .id, .id]) (.t 2) (.t 12)), zv 3 (.mov (.c (.bool false)))]
def k0be_r5 : IC := .reg false [zv 13 (.fad (.t 1) 5), zv 14 (.ld false 1 (.t 13)), zv 15 (.bin .add .no (.t 14) (.c (.int .i64 1))), zv 16 (.fad (.t 1) 5), zn (.st 1 .id (.t 16) (.t 15))]
def k0be_r6 : IC := .reg false [zv 17 (.ld true 8 (.t 1)), zn (.st 8 (.agg [(.sl 4), .id, .id, .id, .id, .id, .id, .id]) (.t 2) (.t 17)), zv 3 (.mov (.c (.bool true)))]
def k0be : IC := (.seq k0be_r0 (.seq (.seq k0be_r1 (.cond (.t 6) (.seq k0be_r2 .ret) .skip)) (.seq (.seq k0be_r3 (.cond (.t 10) (.seq k0be_r4 .ret) .skip)) (.seq k0be_r5 (.seq k0be_r6 .ret)))))
@[go_sem] def s0be : List (RV × Co) := [(.c true 8 2, (.agg [(.sl 4), .id, .id, .id, .id, .id, .id, .id])), (.t 3, .id)]
theorem c0be : cFun Try.prog 47 = some (18, k0be, s0be) := by kernel_rfl

def k0bd_r0 : IC := .reg false [zi 2 (.box (.t 0)), zi 4 (.alo [.nils, (.int .i64 0), (.int .i64 0), (.int .i64 0), (.str []), (.int .i64 0), (.int .i64 0), (.int .i64 0)]), zv 5 (.mov (.c (.bool false)))]
def k0bd_r1 : IC := .reg false [zv 9 (.ld true 8 (.t 2)), zm 10 1, zi 11 (.call (.c (.fn 55 [] [])) [((.t 9), (.agg [(.sl 4), .id, .id, .id, .id, .id, .id, .id])), ((.t 10), .id)]), zm 8 11, zv 12 (.ext (.t 8) 0), zv 13 (.ext (.t 8) 1), zi 6 (.alo [.nils, (.int .i64 0), (.int .i64 0), (.int .i64 0), (.str []), (.int .i64 0), (.int .i64 0), (.int .i64 0)]), zn (.st 8 (.agg [(.sl 4), .id, .id, .id, .id, .id, .id, .id]) (.t 6) (.t 12)), zm 7 13]
def k0bd_r2 : IC := .reg false [zm 14 7, zv 15 (.un .not (.t 14))]
def k0bd_r3 : IC := .reg false [zv 16 (.ld true 8 (.t 2)), zi 17 (.call (.c (.fn 46 [] [])) [((.t 16), (.agg [(.sl 4), .id, .id, .id, .id, .id, .id, .id])), ((.c (.int .i64 5)), .id)]), zn (.st 8 (.agg [(.sl 4), .id, .id, .id, .id, .id, .id, .id]) (.t 4) (.t 17)), zv 5 (.mov (.c (.bool false)))]
def k0bd_r4 : IC := .reg false [zv 18 (.ld true 8 (.t 6)), zn (.st 8 (.agg [(.sl 4), .id, .id, .id, .id, .id, .id, .id]) (.t 4) (.t 18)), zv 5 (.mov (.c (.bool true)))]
def k0bd : IC := (.seq k0bd_r0 (.seq k0bd_r1 (.seq (.seq k0bd_r2 (.cond (.t 15) (.seq k0bd_r3 .ret) .skip)) (.seq k0bd_r4 .ret))))
@[go_sem] def s0bd : List (RV × Co) := [(.c true 8 4, (.agg [(.sl 4), .id, .id, .id, .id, .id, .id, .id])), (.t 5, .id)]
theorem c0bd : cFun Try.prog 48 = some (19, k0bd, s0bd) := by kernel_rfl

def k0bf_r0 : IC := .reg false [zi 1 (.box (.t 0)), zi 2 (.alo [.nils, (.int .i64 0), (.int .i64 0), (.int .i64 0), (.str []), (.int .i64 0), (.int .i64 0), (.int .i64 0)])]
def k0bf_r1 : IC := .reg false [zv 3 (.fad (.t 1) 6), zv 4 (.ld false 1 (.t 3)), zv 5 (.bin .eql .no (.t 4) (.c (.int .i64 0))), zm 6 5, zw 6 true 7 (.fad (.t 1) 5), zw 6 true 8 (.ld false 1 (.t 7)), zw 6 true 9 (.bin .gtr .no (.t 8) (.c (.int .i64 0))), zv 10 (.pick (.t 6) (.t 9) (.c (.bool false)))]
def k0bf_r2 : IC := .reg false [zv 11 (.fad (.t 1) 5), zv 12 (.ld false 1 (.t 11)), zv 13 (.bin .sub .no (.t 12) (.c (.int .i64 1))), zv 14 (.fad (.t 1) 5), zn (.st 1 .id (.t 14) (.t 13))]
def k0bf_r3 : IC := .reg false [zv 15 (.ld true 8 (.t 1)), zn (.st 8 (.agg [(.sl 4), .id, .id, .id, .id, .id, .id, .id]) (.t 2) (.t 15))]
def k0bf : IC := (.seq k0bf_r0 (.seq (.seq k0bf_r1 (.cond (.t 10) k0bf_r2 .skip)) (.seq k0bf_r3 .ret)))
@[go_sem] def s0bf : List (RV × Co) := [(.c true 8 2, (.agg [(.sl 4), .id, .id, .id, .id, .id, .id, .id]))]
theorem c0bf : cFun Try.prog 49 = some (16, k0bf, s0bf) := by kernel_rfl

def k0cs_r0 : IC := .reg false [zv 4 (.mov (.c (.bool false)))]
def k0cs_r1 : IC := .reg false [zm 8 0, zi 9 (.call (.c (.fn 59 [] [])) [((.t 8), .id)])]
def k0cs_r2 : IC := .reg false [zv 4 (.mov (.c (.bool false)))]
def k0cs_r3 : IC := .reg false [zv 5 (.mov (.c (.int .i64 0)))]
def k0cs_r4 : IC := .drw [zp (zm 10 0), zp (zv 11 (.nck (.t 10))), zp (zv 12 (.fad (.t 11) 0)), zp (zv 13 (.ld false 1 (.t 12))), zp (zm 14 0), zp (zv 15 (.nck (.t 14))), zp (zv 16 (.fad (.t 15) 5)), zp (zv 17 (.ld false 1 (.t 16))), zp (zv 18 (.slv 4 (.t 13) (some (.t 17)) none none)), zp (zv 19 (.len false (.t 18))), zp (zv 20 (.mov (.c (.int .i64 0))))]
def k0cs_r6 : IC := .reg false [zv 21 (.bin .lss .no (.t 20) (.t 19))]
def k0cs_r7 : IC := .reg false [zv 22 (.iad 4 (.t 18) (.t 20)), zv 23 (.ld true 4 (.t 22)), zi 7 (.alo [(.int .i64 0), (.int .i64 0), (.int .i64 0), (.str [])]), zn (.st 4 .id (.t 7) (.t 23))]
def k0cs_r8 : IC := .reg false [zv 25 (.ld true 4 (.t 7)), zv 26 (.bsl 1 [((.c (.str [40])), .id), ((.c (.str [123])), .id)]), zi 27 (.call (.c (.fn 73 [] [])) [((.t 25), .id), ((.t 26), (.sl 1))]), zm 24 27]
def k0cs_r9 : IC := .reg false [zm 28 5, zv 29 (.bin .add .no (.t 28) (.c (.int .i64 1))), zm 5 29]
def k0cs_r10 : IC := .reg false [zv 31 (.ld true 4 (.t 7)), zv 32 (.bsl 1 [((.c (.str [41])), .id), ((.c (.str [125])), .id)]), zi 33 (.call (.c (.fn 73 [] [])) [((.t 31), .id), ((.t 32), (.sl 1))]), zm 30 33]
def k0cs_r11 : IC := .reg false [zm 34 5, zv 35 (.bin .sub .no (.t 34) (.c (.int .i64 1))), zm 5 35]
def k0cs_r12 : IC := .reg false [zm 36 5, zv 37 (.bin .lss .no (.t 36) (.c (.int .i64 0)))]
def k0cs_r13 : IC := .reg false [zv 4 (.mov (.c (.bool false)))]
def k0cs_r14 : IC := .reg false [zm 39 5, zv 40 (.bin .gtr .no (.t 39) (.c (.int .i64 0))), zm 38 40]
def k0cs_r15 : IC := .reg false [zv 42 (.ld true 4 (.t 7)), zv 43 (.bsl 1 [((.c (.str [59])), .id)]), zi 44 (.call (.c (.fn 73 [] [])) [((.t 42), .id), ((.t 43), (.sl 1))]), zm 41 44]
def k0cs_r16 : IC := .reg false [zv 4 (.mov (.c (.bool false)))]
def k0cs_r17 : IC := .reg false [zv 46 (.ld true 4 (.t 7)), zm 47 1, zv 48 (.bsl 1 [((.t 47), .id)]), zi 49 (.call (.c (.fn 73 [] [])) [((.t 46), .id), ((.t 48), (.sl 1))]), zm 45 49]
def k0cs_r18 : IC := .reg false [zv 4 (.mov (.c (.bool true)))]
def k0cs_r19 : IC := .reg false [zv 50 (.bin .add .no (.t 20) (.c (.int .i64 1))), zm 20 50]
def k0cs_l5 : IC := (.seq k0cs_r6 (.seq (.cond (.t 21) .skip (.exit 0)) (.seq (.block 1 (.seq k0cs_r7 (.block 2 (.seq k0cs_r8 (.cond (.t 24) k0cs_r9 (.seq k0cs_r10 (.cond (.t 30) (.seq k0cs_r11 (.seq k0cs_r12 (.cond (.t 37) (.seq k0cs_r13 .ret) .skip))) (.seq k0cs_r14 (.cond (.t 38) .skip (.seq k0cs_r15 (.cond (.t 41) (.seq k0cs_r16 .ret) (.seq k0cs_r17 (.cond (.t 45) (.seq k0cs_r18 .ret) .skip))))))))))))) k0cs_r19)))
def k0cs_r21 : IC := .reg false [zv 4 (.mov (.c (.bool false)))]
def k0cs : IC := (.seq k0cs_r0 (.seq (.seq k0cs_r1 (.cond (.t 9) (.seq k0cs_r2 .ret) .skip)) (.seq k0cs_r3 (.seq (.seq k0cs_r4 (.block 0 (.loop k0cs_l5))) (.seq k0cs_r21 .ret)))))
@[go_sem] def s0cs : List (RV × Co) := [(.t 4, .id)]
theorem c0cs : cFun Try.prog 50 = some (51, k0cs, s0cs) := by kernel_rfl

def k0q_r0 : IC := .reg false [zv 2 (.mov (.c (.bool false)))]
def k0q_r1 : IC := .reg false [zm 6 0, zi 7 (.call (.c (.fn 24 [] [])) [((.t 6), .id)]), zm 5 7, zv 8 (.ext (.t 5) 0), zv 9 (.ext (.t 5) 1), zm 3 8, zm 4 9]
def k0q_r2 : IC := .reg false [zm 10 4, zv 11 (.bin .neq .no (.t 10) (.c (.int .i64 0))), zm 12 11, zw 12 true 13 (.mov (.t 4)), zw 12 true 14 (.bin .neq .no (.t 13) (.c (.int .i64 5))), zw 12 true 15 (.mov (.t 14)), zw 15 false 16 (.mov (.t 0)), ⟨some (15, false), some 17, .call (.c (.fn 26 [] [])) [((.t 16), .id)]⟩, zw 15 false 18 (.fld false 1 0 (.t 17)), zw 15 false 19 (.bin .eql .no (.t 18) (.c (.int .i64 0))), zw 12 true 20 (.pick (.t 15) (.c (.bool true)) (.t 19)), zv 21 (.pick (.t 12) (.t 20) (.c (.bool false))), zm 2 21]
def k0q : IC := (.seq k0q_r0 (.seq k0q_r1 (.seq k0q_r2 .ret)))
@[go_sem] def s0q : List (RV × Co) := [(.t 2, .id)]
theorem c0q : cFun Try.prog 51 = some (22, k0q, s0q) := by kernel_rfl

def k0bp_r0 : IC := .reg false [zv 4 (.mov (.c (.bool false)))]
def k0bp_r1 : IC := .reg false [zm 5 0, zm 6 1, zi 7 (.call (.c (.fn 38 [] [])) [((.t 5), .id), ((.t 6), .id)]), zv 8 (.un .not (.t 7))]
def k0bp_r2 : IC := .reg false [zv 4 (.mov (.c (.bool false)))]
def k0bp_r3 : IC := .reg false [zm 9 0, zi 10 (.call (.c (.fn 37 [] [])) [((.t 9), .id)])]
def k0bp_r4 : IC := .reg false [zv 4 (.mov (.c (.bool true)))]
def k0bp : IC := (.seq k0bp_r0 (.seq (.seq k0bp_r1 (.cond (.t 8) (.seq k0bp_r2 .ret) .skip)) (.seq k0bp_r3 (.seq k0bp_r4 .ret))))
@[go_sem] def s0bp : List (RV × Co) := [(.t 4, .id)]
theorem c0bp : cFun Try.prog 52 = some (11, k0bp, s0bp) := by kernel_rfl

def k0r_r0 : IC := .reg false [zi 2 (.alo [(.int .i64 0), (.int .i64 0), (.int .i64 0), (.str []), .nils]), zv 3 (.mov (.c (.bool false)))]
def k0r_r1 : IC := .reg false [zm 8 0, zi 9 (.call (.c (.fn 75 [] [])) [((.t 8), .id), ((.c (.int .i64 2)), .id)]), zm 7 9, zv 10 (.ext (.t 7) 0), zv 11 (.ext (.t 7) 1), zi 4 (.alo [(.int .i64 0), (.int .i64 0), (.int .i64 0), (.str [])]), zn (.st 4 .id (.t 4) (.t 10)), zm 5 11]
def k0r_r2 : IC := .reg false [zm 12 5, zv 13 (.un .not (.t 12))]
def k0r_r3 : IC := .reg false [zv 14 (.bld [(.int .i64 0), (.int .i64 0), (.int .i64 0), (.str []), .nils] []), zn (.st 5 (.agg [.id, .id, .id, .id, (.sl 5)]) (.t 2) (.t 14)), zv 3 (.mov (.c (.bool false)))]
def k0r_r4 : IC := .reg false [zm 16 0, zi 17 (.call (.c (.fn 16 [] [])) [((.t 16), .id)]), zm 15 17, zv 18 (.ext (.t 15) 0), zv 19 (.ext (.t 15) 1), zi 6 (.alo [(.int .i64 0), (.int .i64 0), (.int .i64 0), (.str []), .nils]), zn (.st 5 (.agg [.id, .id, .id, .id, (.sl 5)]) (.t 6) (.t 18)), zm 5 19]
def k0r_r5 : IC := .reg false [zm 20 0, zv 21 (.fad (.t 4) 1), zv 22 (.ld false 1 (.t 21)), zv 23 (.fad (.t 4) 3), zv 24 (.ld false 1 (.t 23)), zv 25 (.ld true 5 (.t 6)), zv 26 (.bsl 5 [((.t 25), (.agg [.id, .id, .id, .id, (.sl 5)]))]), zv 27 (.bld [(.int .i64 0), (.int .i64 0), (.int .i64 0), (.str []), .nils] [(0, 1, (.c (.int .i64 3))), (1, 1, (.t 22)), (3, 1, (.t 24)), (4, 1, (.t 26))]), zm 28 5, zi 29 (.call (.c (.fn 43 [] [])) [((.t 20), .id), ((.t 27), (.agg [.id, .id, .id, .id, (.sl 5)])), ((.t 28), .id)]), zv 30 (.ext (.t 29) 0), zv 31 (.ext (.t 29) 1), zn (.st 5 (.agg [.id, .id, .id, .id, (.sl 5)]) (.t 2) (.t 30)), zm 3 31]
def k0r : IC := (.seq k0r_r0 (.seq k0r_r1 (.seq (.seq k0r_r2 (.cond (.t 13) (.seq k0r_r3 .ret) .skip)) (.seq k0r_r4 (.seq k0r_r5 .ret)))))
@[go_sem] def s0r : List (RV × Co) := [(.c true 5 2, (.agg [.id, .id, .id, .id, (.sl 5)])), (.t 3, .id)]
theorem c0r : cFun Try.prog 53 = some (32, k0r, s0r) := by kernel_rfl

def k0ct_r0 : IC := .reg false [zi 2 (.box (.t 0)), zv 4 (.mov (.c (.bool false)))]
def k0ct_r1 : IC := .reg false [zv 8 (.fad (.t 2) 6), zv 9 (.ld false 1 (.t 8)), zv 10 (.bin .neq .no (.t 9) (.c (.int .i64 0)))]
def k0ct_r2 : IC := .reg false [zv 4 (.mov (.c (.bool false)))]
def k0ct_r3 : IC := .reg false [zv 5 (.mov (.c (.int .i64 0)))]
def k0ct_r4 : IC := .reg false [zv 6 (.mov (.c (.int .i64 0)))]
def k0ct_r6 : IC := .reg false [zm 11 6, zv 12 (.fad (.t 2) 0), zv 13 (.ld false 1 (.t 12)), zv 14 (.len false (.t 13)), zv 15 (.bin .lss .no (.t 11) (.t 14))]
def k0ct_r7 : IC := .reg false [zv 18 (.fad (.t 2) 0), zv 19 (.ld false 1 (.t 18)), zm 20 6, zv 21 (.iad 4 (.t 19) (.t 20)), zv 22 (.ld true 4 (.t 21)), zi 7 (.alo [(.int .i64 0), (.int .i64 0), (.int .i64 0), (.str [])]), zn (.st 4 .id (.t 7) (.t 22))]
def k0ct_r8 : IC := .reg false [zv 24 (.ld true 4 (.t 7)), zi 25 (.call (.c (.fn 74 [] [])) [((.t 24), .id), ((.c (.str [40])), .id)]), zm 26 25, zw 26 false 27 (.ld true 4 (.t 7)), ⟨some (26, false), some 28, .call (.c (.fn 74 [] [])) [((.t 27), .id), ((.c (.str [123])), .id)]⟩, zv 29 (.pick (.t 26) (.c (.bool true)) (.t 28)), zm 23 29]
def k0ct_r9 : IC := .reg false [zm 30 5, zv 31 (.bin .add .no (.t 30) (.c (.int .i64 1))), zm 5 31]
def k0ct_r10 : IC := .reg false [zv 33 (.ld true 4 (.t 7)), zi 34 (.call (.c (.fn 74 [] [])) [((.t 33), .id), ((.c (.str [41])), .id)]), zm 35 34, zw 35 false 36 (.ld true 4 (.t 7)), ⟨some (35, false), some 37, .call (.c (.fn 74 [] [])) [((.t 36), .id), ((.c (.str [125])), .id)]⟩, zv 38 (.pick (.t 35) (.c (.bool true)) (.t 37)), zm 32 38]
def k0ct_r11 : IC := .reg false [zm 39 5, zv 40 (.bin .sub .no (.t 39) (.c (.int .i64 1))), zm 5 40]
def k0ct_r12 : IC := .reg false [zm 42 5, zv 43 (.bin .eql .no (.t 42) (.c (.int .i64 0))), zm 44 43, zw 44 true 45 (.ld true 4 (.t 7)), ⟨some (44, true), some 46, .call (.c (.fn 74 [] [])) [((.t 45), .id), ((.c (.str [59])), .id)]⟩, zv 47 (.pick (.t 44) (.t 46) (.c (.bool false))), zm 41 47]
def k0ct_r13 : IC := .reg false [zv 4 (.mov (.c (.bool false)))]
def k0ct_r14 : IC := .reg false [zm 49 5, zv 50 (.bin .eql .no (.t 49) (.c (.int .i64 0))), zm 51 50, zw 51 true 52 (.ld true 4 (.t 7)), zw 51 true 53 (.mov (.t 1)), ⟨some (51, true), some 54, .call (.c (.fn 74 [] [])) [((.t 52), .id), ((.t 53), .id)]⟩, zv 55 (.pick (.t 51) (.t 54) (.c (.bool false))), zm 48 55]
def k0ct_r15 : IC := .reg false [zv 4 (.mov (.c (.bool true)))]
def k0ct_r16 : IC := .reg false [zm 56 5, zv 57 (.bin .lss .no (.t 56) (.c (.int .i64 0)))]
def k0ct_r17 : IC := .reg false [zv 4 (.mov (.c (.bool false)))]
def k0ct_r18 : IC := .reg false [zm 16 6, zv 17 (.bin .add .no (.t 16) (.c (.int .i64 1))), zm 6 17]
def k0ct_l5 : IC := (.seq (.seq k0ct_r6 (.cond (.t 15) .skip (.exit 0))) (.seq (.block 1 (.seq k0ct_r7 (.seq (.block 2 (.seq k0ct_r8 (.cond (.t 23) k0ct_r9 (.seq k0ct_r10 (.cond (.t 32) k0ct_r11 (.seq k0ct_r12 (.cond (.t 41) (.seq k0ct_r13 .ret) (.seq k0ct_r14 (.cond (.t 48) (.seq k0ct_r15 .ret) .skip))))))))) (.seq k0ct_r16 (.cond (.t 57) (.seq k0ct_r17 .ret) .skip))))) k0ct_r18))
def k0ct_r20 : IC := .reg false [zv 4 (.mov (.c (.bool false)))]
def k0ct : IC := (.seq k0ct_r0 (.seq (.seq k0ct_r1 (.cond (.t 10) (.seq k0ct_r2 .ret) .skip)) (.seq k0ct_r3 (.seq (.seq k0ct_r4 (.block 0 (.loop k0ct_l5))) (.seq k0ct_r20 .ret)))))
@[go_sem] def s0ct : List (RV × Co) := [(.t 4, .id)]
theorem c0ct : cFun Try.prog 54 = some (58, k0ct, s0ct) := by kernel_rfl

def k0bb_r0 : IC := .reg false [zi 2 (.box (.t 0)), zi 4 (.alo [.nils, (.int .i64 0), (.int .i64 0), (.int .i64 0), (.str []), (.int .i64 0), (.int .i64 0), (.int .i64 0)]), zv 5 (.mov (.c (.bool false)))]
def k0bb_r1 : IC := .reg false [zv 8 (.ld true 8 (.t 2)), zm 9 1, zi 10 (.call (.c (.fn 45 [] [])) [((.t 8), (.agg [(.sl 4), .id, .id, .id, .id, .id, .id, .id])), ((.t 9), .id)]), zv 11 (.un .not (.t 10))]
def k0bb_r2 : IC := .reg false [zv 12 (.ld true 8 (.t 2)), zn (.st 8 (.agg [(.sl 4), .id, .id, .id, .id, .id, .id, .id]) (.t 4) (.t 12)), zv 5 (.mov (.c (.bool false)))]
def k0bb_r3 : IC := .reg false [zv 14 (.ld true 8 (.t 2)), zi 15 (.call (.c (.fn 44 [] [])) [((.t 14), (.agg [(.sl 4), .id, .id, .id, .id, .id, .id, .id]))]), zm 13 15, zv 16 (.ext (.t 13) 0), zv 17 (.ext (.t 13) 1), zi 6 (.alo [.nils, (.int .i64 0), (.int .i64 0), (.int .i64 0), (.str []), (.int .i64 0), (.int .i64 0), (.int .i64 0)]), zi 7 (.alo [(.int .i64 0), (.int .i64 0), (.int .i64 0), (.str [])]), zn (.st 8 (.agg [(.sl 4), .id, .id, .id, .id, .id, .id, .id]) (.t 6) (.t 16)), zn (.st 4 .id (.t 7) (.t 17))]
def k0bb_r4 : IC := .reg false [zv 18 (.ld true 8 (.t 6)), zn (.st 8 (.agg [(.sl 4), .id, .id, .id, .id, .id, .id, .id]) (.t 4) (.t 18)), zv 5 (.mov (.c (.bool true)))]
def k0bb : IC := (.seq k0bb_r0 (.seq (.seq k0bb_r1 (.cond (.t 11) (.seq k0bb_r2 .ret) .skip)) (.seq k0bb_r3 (.seq k0bb_r4 .ret))))
@[go_sem] def s0bb : List (RV × Co) := [(.c true 8 4, (.agg [(.sl 4), .id, .id, .id, .id, .id, .id, .id])), (.t 5, .id)]
theorem c0bb : cFun Try.prog 55 = some (19, k0bb, s0bb) := by kernel_rfl

def k0d_r0 : IC := .reg false [zi 1 (.box (.t 0)), zi 2 (.alo [.nils, (.int .i64 0), (.int .i64 0), (.int .i64 0), (.str []), (.int .i64 0), (.int .i64 0), (.int .i64 0)]), zi 3 (.alo [(.int .i64 0), (.int .i64 0), (.int .i64 0), (.str []), .nils])]
def k0d_r1 : IC := .reg false [zv 8 (.ld true 8 (.t 1)), zi 9 (.call (.c (.fn 76 [] [])) [((.t 8), (.agg [(.sl 4), .id, .id, .id, .id, .id, .id, .id])), ((.c (.int .i64 2)), .id)]), zm 7 9, zv 10 (.ext (.t 7) 0), zv 11 (.ext (.t 7) 1), zv 12 (.ext (.t 7) 2), zi 4 (.alo [(.int .i64 0), (.int .i64 0), (.int .i64 0), (.str [])]), zn (.st 8 (.agg [(.sl 4), .id, .id, .id, .id, .id, .id, .id]) (.t 1) (.t 10)), zn (.st 4 .id (.t 4) (.t 11)), zm 5 12]
def k0d_r2 : IC := .reg false [zv 14 (.ld true 8 (.t 1)), zi 15 (.call (.c (.fn 17 [] [])) [((.t 14), (.agg [(.sl 4), .id, .id, .id, .id, .id, .id, .id]))]), zm 13 15, zv 16 (.ext (.t 13) 0), zv 17 (.ext (.t 13) 1), zi 6 (.alo [(.int .i64 0), (.int .i64 0), (.int .i64 0), (.str []), .nils]), zn (.st 8 (.agg [(.sl 4), .id, .id, .id, .id, .id, .id, .id]) (.t 1) (.t 16)), zn (.st 5 (.agg [.id, .id, .id, .id, (.sl 5)]) (.t 6) (.t 17))]
def k0d_r3 : IC := .drw [zp (zv 18 (.ld true 8 (.t 1))), zp (zv 19 (.fad (.t 4) 1)), zp (zv 20 (.ld false 1 (.t 19))), zp (zv 21 (.fad (.t 4) 3)), zp (zv 22 (.ld false 1 (.t 21))), zp (zv 23 (.ld true 5 (.t 6))), (zv 24 (.bsl 5 [((.t 23), (.agg [.id, .id, .id, .id, (.sl 5)]))]), []), (zv 25 (.bld [(.int .i64 0), (.int .i64 0), (.int .i64 0), (.str []), .nils] [(0, 1, (.c (.int .i64 3))), (1, 1, (.t 20)), (3, 1, (.t 22)), (4, 1, (.t 24))]), []), (zn (.st 8 (.agg [(.sl 4), .id, .id, .id, .id, .id, .id, .id]) (.t 2) (.t 18)), [1, 2, 3, 4, 5, 6, 7]), (zn (.st 5 (.agg [.id, .id, .id, .id, (.sl 5)]) (.t 3) (.t 25)), [])]
def k0d : IC := (.seq k0d_r0 (.seq k0d_r1 (.seq k0d_r2 (.seq k0d_r3 .ret))))
@[go_sem] def s0d : List (RV × Co) := [(.c true 8 2, (.agg [(.sl 4), .id, .id, .id, .id, .id, .id, .id])), (.c true 5 3, (.agg [.id, .id, .id, .id, (.sl 5)]))]
theorem c0d : cFun Try.prog 56 = some (26, k0d, s0d) := by kernel_rfl

def k0v_r0 : IC := .reg false [zi 2 (.alo [(.int .i64 0), (.int .i64 0), (.int .i64 0), (.str []), .nils]), zv 3 (.mov (.c (.bool false)))]
def k0v_r1 : IC := .reg false [zm 8 0, zi 9 (.call (.c (.fn 26 [] [])) [((.t 8), .id)]), zv 10 (.fld false 1 0 (.t 9)), zv 11 (.bin .neq .no (.t 10) (.c (.int .i64 2)))]
def k0v_r2 : IC := .reg false [zm 12 0, zi 13 (.call (.c (.fn 16 [] [])) [((.t 12), .id)]), zv 14 (.ext (.t 13) 0), zv 15 (.ext (.t 13) 1), zn (.st 5 (.agg [.id, .id, .id, .id, (.sl 5)]) (.t 2) (.t 14)), zm 3 15]
def k0v_r3 : IC := .reg false [zm 16 0, zi 17 (.call (.c (.fn 37 [] [])) [((.t 16), .id)]), zi 4 (.alo [(.int .i64 0), (.int .i64 0), (.int .i64 0), (.str [])]), zn (.st 4 .id (.t 4) (.t 17))]
def k0v_r4 : IC := .reg false [zv 18 (.fad (.t 4) 1), zv 19 (.ld false 1 (.t 18)), zv 20 (.fad (.t 4) 3), zv 21 (.ld false 1 (.t 20)), zv 22 (.bld [(.int .i64 0), (.int .i64 0), (.int .i64 0), (.str []), .nils] [(0, 1, (.c (.int .i64 2))), (1, 1, (.t 19)), (3, 1, (.t 21))]), zi 5 (.alo [(.int .i64 0), (.int .i64 0), (.int .i64 0), (.str []), .nils]), zn (.st 5 (.agg [.id, .id, .id, .id, (.sl 5)]) (.t 5) (.t 22))]
def k0v_r6 : IC := .reg false [zm 23 0, zi 24 (.call (.c (.fn 77 [] [])) [((.t 23), .id)])]
def k0v_r7 : IC := .reg false [zm 26 0, zi 27 (.call (.c (.fn 16 [] [])) [((.t 26), .id)]), zm 25 27, zv 28 (.ext (.t 25) 0), zv 29 (.ext (.t 25) 1), zi 6 (.alo [(.int .i64 0), (.int .i64 0), (.int .i64 0), (.str []), .nils]), zn (.st 5 (.agg [.id, .id, .id, .id, (.sl 5)]) (.t 6) (.t 28)), zm 7 29]
def k0v_r8 : IC := .reg false [zm 30 7, zv 31 (.un .not (.t 30))]
def k0v_r9 : IC := .reg false [zv 32 (.bld [(.int .i64 0), (.int .i64 0), (.int .i64 0), (.str []), .nils] []), zn (.st 5 (.agg [.id, .id, .id, .id, (.sl 5)]) (.t 2) (.t 32)), zv 3 (.mov (.c (.bool false)))]
def k0v_r10 : IC := .reg false [zv 33 (.fad (.t 5) 4), zv 34 (.ld false 1 (.t 33)), zv 35 (.ld true 5 (.t 6)), zv 36 (.bsl 5 [((.t 35), (.agg [.id, .id, .id, .id, (.sl 5)]))]), zi 37 (.app 5 (.agg [(.int .i64 0), (.int .i64 0), (.int .i64 0), (.str []), .nils]) 64 (.sl 5) (.t 34) (.t 36)), zv 38 (.fad (.t 5) 4), zn (.st 1 (.sl 5) (.t 38) (.t 37))]
def k0v_l5 : IC := (.seq (.seq k0v_r6 (.cond (.t 24) .skip (.exit 0))) (.block 1 (.seq k0v_r7 (.seq (.seq k0v_r8 (.cond (.t 31) (.seq k0v_r9 .ret) .skip)) k0v_r10))))
def k0v_r12 : IC := .reg false [zv 39 (.ld true 5 (.t 5)), zn (.st 5 (.agg [.id, .id, .id, .id, (.sl 5)]) (.t 2) (.t 39)), zv 3 (.mov (.c (.bool true)))]
def k0v : IC := (.seq k0v_r0 (.seq (.seq k0v_r1 (.cond (.t 11) (.seq k0v_r2 .ret) .skip)) (.seq k0v_r3 (.seq k0v_r4 (.seq (.block 0 (.loop k0v_l5)) (.seq k0v_r12 .ret))))))
@[go_sem] def s0v : List (RV × Co) := [(.c true 5 2, (.agg [.id, .id, .id, .id, (.sl 5)])), (.t 3, .id)]
theorem c0v : cFun Try.prog 57 = some (40, k0v, s0v) := by kernel_rfl

def k0i_r0 : IC := .reg false [zi 1 (.box (.t 0)), zi 2 (.alo [.nils, (.int .i64 0), (.int .i64 0), (.int .i64 0), (.str []), (.int .i64 0), (.int .i64 0), (.int .i64 0)]), zi 3 (.alo [(.int .i64 0), (.int .i64 0), (.int .i64 0), (.str []), .nils])]
def k0i_r1 : IC := .reg false [zv 8 (.ld true 8 (.t 1)), zi 9 (.call (.c (.fn 27 [] [])) [((.t 8), (.agg [(.sl 4), .id, .id, .id, .id, .id, .id, .id]))]), zi 4 (.alo [(.int .i64 0), (.int .i64 0), (.int .i64 0), (.str [])]), zn (.st 4 .id (.t 4) (.t 9))]
def k0i_r2 : IC := .reg false [zv 10 (.fad (.t 4) 0), zv 11 (.ld false 1 (.t 10)), zv 12 (.bin .neq .no (.t 11) (.c (.int .i64 2)))]
def k0i_r3 : IC := .reg false [zv 13 (.ld true 8 (.t 1)), zi 14 (.call (.c (.fn 17 [] [])) [((.t 13), (.agg [(.sl 4), .id, .id, .id, .id, .id, .id, .id]))]), zv 15 (.ext (.t 14) 0), zv 16 (.ext (.t 14) 1), zn (.st 8 (.agg [(.sl 4), .id, .id, .id, .id, .id, .id, .id]) (.t 2) (.t 15)), zn (.st 5 (.agg [.id, .id, .id, .id, (.sl 5)]) (.t 3) (.t 16))]
def k0i_r4 : IC := .reg false [zv 18 (.ld true 8 (.t 1)), zi 19 (.call (.c (.fn 44 [] [])) [((.t 18), (.agg [(.sl 4), .id, .id, .id, .id, .id, .id, .id]))]), zm 17 19, zv 20 (.ext (.t 17) 0), zv 21 (.ext (.t 17) 1), zn (.st 8 (.agg [(.sl 4), .id, .id, .id, .id, .id, .id, .id]) (.t 1) (.t 20))]
def k0i_r5 : IC := .reg false [zv 22 (.fad (.t 4) 1), zv 23 (.ld false 1 (.t 22)), zv 24 (.fad (.t 4) 3), zv 25 (.ld false 1 (.t 24)), zv 26 (.bld [(.int .i64 0), (.int .i64 0), (.int .i64 0), (.str []), .nils] [(0, 1, (.c (.int .i64 2))), (1, 1, (.t 23)), (3, 1, (.t 25))]), zi 5 (.alo [(.int .i64 0), (.int .i64 0), (.int .i64 0), (.str []), .nils]), zn (.st 5 (.agg [.id, .id, .id, .id, (.sl 5)]) (.t 5) (.t 26))]
def k0i_r7 : IC := .reg false [zv 27 (.ld true 8 (.t 1)), zi 28 (.call (.c (.fn 78 [] [])) [((.t 27), (.agg [(.sl 4), .id, .id, .id, .id, .id, .id, .id]))])]
def k0i_r8 : IC := .reg false [zv 30 (.ld true 8 (.t 1)), zi 31 (.call (.c (.fn 17 [] [])) [((.t 30), (.agg [(.sl 4), .id, .id, .id, .id, .id, .id, .id]))]), zm 29 31, zv 32 (.ext (.t 29) 0), zv 33 (.ext (.t 29) 1), zi 6 (.alo [.nils, (.int .i64 0), (.int .i64 0), (.int .i64 0), (.str []), (.int .i64 0), (.int .i64 0), (.int .i64 0)]), zi 7 (.alo [(.int .i64 0), (.int .i64 0), (.int .i64 0), (.str []), .nils]), zn (.st 8 (.agg [(.sl 4), .id, .id, .id, .id, .id, .id, .id]) (.t 6) (.t 32)), zn (.st 5 (.agg [.id, .id, .id, .id, (.sl 5)]) (.t 7) (.t 33))]
def k0i_r9 : IC := .reg false [zv 34 (.ld true 8 (.t 6)), zn (.st 8 (.agg [(.sl 4), .id, .id, .id, .id, .id, .id, .id]) (.t 1) (.t 34))]
def k0i_r10 : IC := .reg false [zv 35 (.fad (.t 5) 4), zv 36 (.ld false 1 (.t 35)), zv 37 (.ld true 5 (.t 7)), zv 38 (.bsl 5 [((.t 37), (.agg [.id, .id, .id, .id, (.sl 5)]))]), zi 39 (.app 5 (.agg [(.int .i64 0), (.int .i64 0), (.int .i64 0), (.str []), .nils]) 64 (.sl 5) (.t 36) (.t 38)), zv 40 (.fad (.t 5) 4), zn (.st 1 (.sl 5) (.t 40) (.t 39))]
def k0i_l6 : IC := (.seq (.seq k0i_r7 (.cond (.t 28) .skip (.exit 0))) (.block 1 (.seq k0i_r8 (.seq k0i_r9 k0i_r10))))
def k0i_r12 : IC := .drw [zp (zv 41 (.ld true 8 (.t 1))), zp (zv 42 (.ld true 5 (.t 5))), (zn (.st 8 (.agg [(.sl 4), .id, .id, .id, .id, .id, .id, .id]) (.t 2) (.t 41)), [1]), (zn (.st 5 (.agg [.id, .id, .id, .id, (.sl 5)]) (.t 3) (.t 42)), [])]
def k0i : IC := (.seq k0i_r0 (.seq k0i_r1 (.seq (.seq k0i_r2 (.cond (.t 12) (.seq k0i_r3 .ret) .skip)) (.seq k0i_r4 (.seq k0i_r5 (.seq (.block 0 (.loop k0i_l6)) (.seq k0i_r12 .ret)))))))
@[go_sem] def s0i : List (RV × Co) := [(.c true 8 2, (.agg [(.sl 4), .id, .id, .id, .id, .id, .id, .id])), (.c true 5 3, (.agg [.id, .id, .id, .id, (.sl 5)]))]
theorem c0i : cFun Try.prog 58 = some (43, k0i, s0i) := by kernel_rfl

def k0bj_r0 : IC := .reg false [zv 2 (.mov (.c (.bool false)))]
def k0bj_r1 : IC := .reg false [zm 3 0, zv 4 (.bin .eql .ptr (.t 3) (.c .nilp)), zm 5 4, zw 5 false 6 (.mov (.t 0)), zw 5 false 7 (.nck (.t 6)), zw 5 false 8 (.fad (.t 7) 7), zw 5 false 9 (.ld false 1 (.t 8)), zw 5 false 10 (.bin .neq .no (.t 9) (.c (.int .i64 0))), zv 11 (.pick (.t 5) (.c (.bool true)) (.t 10)), zm 2 11]
def k0bj : IC := (.seq k0bj_r0 (.seq k0bj_r1 .ret))
@[go_sem] def s0bj : List (RV × Co) := [(.t 2, .id)]
theorem c0bj : cFun Try.prog 59 = some (12, k0bj, s0bj) := by kernel_rfl

def k0bx_r0 : IC := .reg false [zv 4 (.mov (.c (.int .i64 0)))]
def k0bx_r2 : IC := .reg false [zm 5 1, zm 6 0, zv 7 (.len true (.t 6)), zv 8 (.bin .lss .no (.t 5) (.t 7))]
def k0bx_r3 : IC := .reg false [zm 11 0, zm 12 1, zv 13 (.idx (.t 11) (.t 12)), zv 14 (.bin .eql .no (.t 13) (.c (.int .u8 9))), zm 15 14, zw 15 false 16 (.mov (.t 0)), zw 15 false 17 (.mov (.t 1)), zw 15 false 18 (.idx (.t 16) (.t 17)), zw 15 false 19 (.bin .eql .no (.t 18) (.c (.int .u8 10))), zv 20 (.pick (.t 15) (.c (.bool true)) (.t 19)), zm 21 20, zw 21 false 22 (.mov (.t 0)), zw 21 false 23 (.mov (.t 1)), zw 21 false 24 (.idx (.t 22) (.t 23)), zw 21 false 25 (.bin .eql .no (.t 24) (.c (.int .u8 13))), zv 26 (.pick (.t 21) (.c (.bool true)) (.t 25)), zm 27 26, zw 27 false 28 (.mov (.t 0)), zw 27 false 29 (.mov (.t 1)), zw 27 false 30 (.idx (.t 28) (.t 29)), zw 27 false 31 (.bin .eql .no (.t 30) (.c (.int .u8 32))), zv 32 (.pick (.t 27) (.c (.bool true)) (.t 31)), zm 10 32]
def k0bx_r4 : IC := .reg false [zm 33 1, zv 34 (.bin .add .no (.t 33) (.c (.int .i64 1))), zm 1 34]
def k0bx_r5 : IC := .reg false [zm 36 0, zm 37 1, zv 38 (.idx (.t 36) (.t 37)), zv 39 (.bin .eql .no (.t 38) (.c (.int .u8 45))), zm 40 39, zw 40 true 41 (.mov (.t 1)), zw 40 true 42 (.bin .add .no (.t 41) (.c (.int .i64 1))), zw 40 true 43 (.mov (.t 0)), zw 40 true 44 (.len true (.t 43)), zw 40 true 45 (.bin .lss .no (.t 42) (.t 44)), zv 46 (.pick (.t 40) (.t 45) (.c (.bool false))), zm 47 46, zw 47 true 48 (.mov (.t 0)), zw 47 true 49 (.mov (.t 1)), zw 47 true 50 (.bin .add .no (.t 49) (.c (.int .i64 1))), zw 47 true 51 (.idx (.t 48) (.t 50)), zw 47 true 52 (.bin .eql .no (.t 51) (.c (.int .u8 45))), zv 53 (.pick (.t 47) (.t 52) (.c (.bool false))), zm 35 53]
def k0bx_r7 : IC := .reg false [zm 54 1, zm 55 0, zv 56 (.len true (.t 55)), zv 57 (.bin .lss .no (.t 54) (.t 56)), zm 58 57, zw 58 true 59 (.mov (.t 0)), zw 58 true 60 (.mov (.t 1)), zw 58 true 61 (.idx (.t 59) (.t 60)), zw 58 true 62 (.bin .neq .no (.t 61) (.c (.int .u8 10))), zv 63 (.pick (.t 58) (.t 62) (.c (.bool false)))]
def k0bx_r8 : IC := .reg false [zm 64 1, zv 65 (.bin .add .no (.t 64) (.c (.int .i64 1))), zm 1 65]
def k0bx_l6 : IC := (.seq (.seq k0bx_r7 (.cond (.t 63) .skip (.exit 3))) (.block 4 k0bx_r8))
def k0bx_r10 : IC := .reg false [zm 9 1, zm 4 9]
def k0bx_l1 : IC := (.seq (.seq k0bx_r2 (.cond (.t 8) .skip (.exit 0))) (.block 1 (.block 2 (.seq k0bx_r3 (.cond (.t 10) k0bx_r4 (.seq k0bx_r5 (.cond (.t 35) (.block 3 (.loop k0bx_l6)) (.seq k0bx_r10 .ret))))))))
def k0bx_r12 : IC := .reg false [zm 66 1, zm 4 66]
def k0bx : IC := (.seq k0bx_r0 (.seq (.block 0 (.loop k0bx_l1)) (.seq k0bx_r12 .ret)))
@[go_sem] def s0bx : List (RV × Co) := [(.t 4, .id)]
theorem c0bx : cFun Try.prog 60 = some (67, k0bx, s0bx) := by kernel_rfl

def k0bv_r0 : IC := .reg false [zi 2 (.alo [.nils]), zi 3 (.alo [(.int .i64 0)]), zi 4 (.alo [(.int .i64 0)])]
def k0bv_r1 : IC := .reg false [zm 8 0, zv 9 (.len true (.t 8)), zv 10 (.bin .gtr .no (.t 9) (.c (.int .i64 1048576)))]
def k0bv_r2 : IC := .reg false [zn (.st 1 (.sl 4) (.t 2) (.c .nils)), zn (.st 1 .id (.t 3) (.c (.int .i64 0))), zn (.st 1 .id (.t 4) (.c (.int .i64 2)))]
def k0bv_r3 : IC := .reg false [zi 5 (.alo [.nils])]
def k0bv_r4 : IC := .reg false [zm 11 0, zi 12 (.call (.c (.fn 92 [] [])) [((.t 11), .id)])]
def k0bv_r6 : IC := .reg false [zm 15 7, zv 16 (.bin .neq .no (.t 15) (.c (.int .i64 0)))]
def k0bv_r7 : IC := .drw [zp (zv 17 (.fad (.t 6) 1)), zp (zv 18 (.ld false 1 (.t 17))), zp (zm 19 7), (zn (.st 1 (.sl 4) (.t 2) (.c .nils)), [0, 1, 2]), (zn (.st 1 .id (.t 3) (.t 18)), [2]), (zn (.st 1 .id (.t 4) (.t 19)), [])]
def k0bv_r8 : IC := .reg false [zv 20 (.ld false 1 (.t 5)), zv 21 (.ld true 4 (.t 6)), zv 22 (.bsl 4 [((.t 21), .id)]), zi 23 (.app 4 (.agg [(.int .i64 0), (.int .i64 0), (.int .i64 0), (.str [])]) 40 (.sl 4) (.t 20) (.t 22)), zn (.st 1 (.sl 4) (.t 5) (.t 23))]
def k0bv_b5 : IC := (.block 1 (.seq (.seq k0bv_r6 (.cond (.t 16) (.seq k0bv_r7 .ret) .skip)) k0bv_r8))
def k0bv_r10 : IC := .reg false [zi 6 (.alo [(.int .i64 0), (.int .i64 0), (.int .i64 0), (.str [])]), zn (.st 4 .id (.t 6) (.t 13))]
def k0bv_r11 : IC := .reg false [zm 7 14]
def k0bv_r12 : IC := .reg false [zv 24 (.ld false 1 (.t 5)), zm 25 0, zv 26 (.len true (.t 25)), zv 27 (.bld [(.int .i64 0), (.int .i64 0), (.int .i64 0), (.str [])] [(0, 1, (.c (.int .i64 0))), (1, 1, (.t 26))]), zv 28 (.bsl 4 [((.t 27), .id)]), zi 29 (.app 4 (.agg [(.int .i64 0), (.int .i64 0), (.int .i64 0), (.str [])]) 40 (.sl 4) (.t 24) (.t 28)), zn (.st 1 (.sl 4) (.t 2) (.t 29)), zn (.st 1 .id (.t 3) (.c (.int .i64 0))), zn (.st 1 .id (.t 4) (.c (.int .i64 0)))]
def k0bv : IC := (.seq k0bv_r0 (.seq (.seq k0bv_r1 (.cond (.t 10) (.seq k0bv_r2 .ret) .skip)) (.seq k0bv_r3 (.seq (.seq k0bv_r4 (.block 0 (.rng (.t 12) [13, 14] (.seq k0bv_r10 k0bv_r11) k0bv_b5))) (.seq k0bv_r12 .ret)))))
@[go_sem] def s0bv : List (RV × Co) := [(.c false 1 2, (.sl 4)), (.c false 1 3, .id), (.c false 1 4, .id)]
theorem c0bv : cFun Try.prog 71 = some (30, k0bv, s0bv) := by kernel_rfl

def k0cu_r0 : IC := .reg false [zi 1 (.box (.t 0)), zv 2 (.mov (.c (.int .i64 0)))]
def k0cu_r1 : IC := .reg false [zi 3 (.alo [(.int .i64 0)]), zn (.st 1 .id (.t 3) (.c (.int .i64 0)))]
def k0cu_r2 : IC := .reg false [zv 5 (.ld true 5 (.t 1)), zi 6 (.call (.c (.fn 83 [] [])) [((.t 5), (.agg [.id, .id, .id, .id, (.sl 5)])), ((.c (.int .i64 1)), .id)])]
def k0cu_r4 : IC := .reg false [zv 9 (.ld false 1 (.t 3)), zm 10 4, zv 11 (.mm true (.t 9) (.t 10)), zn (.st 1 .id (.t 3) (.t 11))]
def k0cu_b3 : IC := (.block 1 k0cu_r4)
def k0cu_r6 : IC := .reg false [zm 4 7]
def k0cu_r7 : IC := .reg false [zv 12 (.ld false 1 (.t 3)), zm 2 12]
def k0cu : IC := (.seq k0cu_r0 (.seq k0cu_r1 (.seq (.seq k0cu_r2 (.block 0 (.rng (.t 6) [7, 8] k0cu_r6 k0cu_b3))) (.seq k0cu_r7 .ret))))
@[go_sem] def s0cu : List (RV × Co) := [(.t 2, .id)]
theorem c0cu : cFun Try.prog 72 = some (13, k0cu, s0cu) := by kernel_rfl

def k0bl_r0 : IC := .reg false [zi 2 (.box (.t 0)), zv 4 (.mov (.c (.bool false)))]
def k0bl_r1 : IC := .reg false [zv 7 (.fad (.t 2) 0), zv 8 (.ld false 1 (.t 7)), zv 9 (.bin .neq .no (.t 8) (.c (.int .i64 4))), zm 10 9, zw 10 true 11 (.fad (.t 2) 0), zw 10 true 12 (.ld false 1 (.t 11)), zw 10 true 13 (.bin .neq .no (.t 12) (.c (.int .i64 5))), zv 14 (.pick (.t 10) (.t 13) (.c (.bool false)))]
def k0bl_r2 : IC := .reg false [zv 4 (.mov (.c (.bool false)))]
def k0bl_r3 : IC := .reg false [zm 15 1, zv 16 (.len false (.t 15)), zv 17 (.mov (.c (.int .i64 0)))]
def k0bl_r5 : IC := .reg false [zv 18 (.bin .lss .no (.t 17) (.t 16))]
def k0bl_r6 : IC := .reg false [zv 19 (.iad 1 (.t 15) (.t 17)), zv 20 (.ld false 1 (.t 19)), zm 6 20]
def k0bl_r7 : IC := .reg false [zv 21 (.fad (.t 2) 3), zv 22 (.ld false 1 (.t 21)), zm 23 6, zv 24 (.bin .eql .no (.t 22) (.t 23))]
def k0bl_r8 : IC := .reg false [zv 4 (.mov (.c (.bool true)))]
def k0bl_r9 : IC := .reg false [zv 25 (.bin .add .no (.t 17) (.c (.int .i64 1))), zm 17 25]
def k0bl_l4 : IC := (.seq k0bl_r5 (.seq (.cond (.t 18) .skip (.exit 0)) (.seq (.block 1 (.seq k0bl_r6 (.seq k0bl_r7 (.cond (.t 24) (.seq k0bl_r8 .ret) .skip)))) k0bl_r9)))
def k0bl_r11 : IC := .reg false [zv 4 (.mov (.c (.bool false)))]
def k0bl : IC := (.seq k0bl_r0 (.seq (.seq k0bl_r1 (.cond (.t 14) (.seq k0bl_r2 .ret) .skip)) (.seq (.seq k0bl_r3 (.block 0 (.loop k0bl_l4))) (.seq k0bl_r11 .ret))))
@[go_sem] def s0bl : List (RV × Co) := [(.t 4, .id)]
theorem c0bl : cFun Try.prog 73 = some (26, k0bl, s0bl) := by kernel_rfl

def k0z_r0 : IC := .reg false [zi 2 (.box (.t 0)), zv 4 (.mov (.c (.bool false)))]
def k0z_r1 : IC := .reg false [zv 5 (.fad (.t 2) 0), zv 6 (.ld false 1 (.t 5)), zv 7 (.bin .eql .no (.t 6) (.c (.int .i64 4))), zm 8 7, zw 8 false 9 (.fad (.t 2) 0), zw 8 false 10 (.ld false 1 (.t 9)), zw 8 false 11 (.bin .eql .no (.t 10) (.c (.int .i64 5))), zv 12 (.pick (.t 8) (.c (.bool true)) (.t 11)), zm 13 12, zw 13 true 14 (.fad (.t 2) 3), zw 13 true 15 (.ld false 1 (.t 14)), zw 13 true 16 (.mov (.t 1)), zw 13 true 17 (.bin .eql .no (.t 15) (.t 16)), zv 18 (.pick (.t 13) (.t 17) (.c (.bool false))), zm 4 18]
def k0z : IC := (.seq k0z_r0 (.seq k0z_r1 .ret))
@[go_sem] def s0z : List (RV × Co) := [(.t 4, .id)]
theorem c0z : cFun Try.prog 74 = some (19, k0z, s0z) := by kernel_rfl

def k0cv_r0 : IC := .reg false [zi 4 (.alo [(.int .i64 0), (.int .i64 0), (.int .i64 0), (.str [])]), zv 5 (.mov (.c (.bool false)))]
def k0cv_r1 : IC := .reg false [zm 6 0, zi 7 (.call (.c (.fn 59 [] [])) [((.t 6), .id)]), zm 8 7, zw 8 false 9 (.mov (.t 0)), ⟨some (8, false), some 10, .call (.c (.fn 26 [] [])) [((.t 9), .id)]⟩, zw 8 false 11 (.fld false 1 0 (.t 10)), zw 8 false 12 (.mov (.t 1)), zw 8 false 13 (.bin .neq .no (.t 11) (.t 12)), zv 14 (.pick (.t 8) (.c (.bool true)) (.t 13))]
def k0cv_r2 : IC := .reg false [zv 15 (.bld [(.int .i64 0), (.int .i64 0), (.int .i64 0), (.str [])] []), zm 16 0, zi 17 (.call (.c (.fn 39 [] [])) [((.t 16), .id), ((.c (.int .i64 5)), .id)]), zn (.st 4 .id (.t 4) (.t 15)), zm 5 17]
def k0cv_r3 : IC := .reg false [zm 18 0, zi 19 (.call (.c (.fn 37 [] [])) [((.t 18), .id)]), zn (.st 4 .id (.t 4) (.t 19)), zv 5 (.mov (.c (.bool true)))]
def k0cv : IC := (.seq k0cv_r0 (.seq (.seq k0cv_r1 (.cond (.t 14) (.seq k0cv_r2 .ret) .skip)) (.seq k0cv_r3 .ret)))
@[go_sem] def s0cv : List (RV × Co) := [(.c true 4 4, .id), (.t 5, .id)]
theorem c0cv : cFun Try.prog 75 = some (20, k0cv, s0cv) := by kernel_rfl

def k0cw_r0 : IC := .reg false [zi 2 (.box (.t 0)), zi 4 (.alo [.nils, (.int .i64 0), (.int .i64 0), (.int .i64 0), (.str []), (.int .i64 0), (.int .i64 0), (.int .i64 0)]), zi 5 (.alo [(.int .i64 0), (.int .i64 0), (.int .i64 0), (.str [])]), zv 6 (.mov (.c (.bool false)))]
def k0cw_r1 : IC := .reg false [zv 9 (.fad (.t 2) 6), zv 10 (.ld false 1 (.t 9)), zv 11 (.bin .neq .no (.t 10) (.c (.int .i64 0))), zm 12 11, zw 12 false 13 (.ld true 8 (.t 2)), ⟨some (12, false), some 14, .call (.c (.fn 27 [] [])) [((.t 13), (.agg [(.sl 4), .id, .id, .id, .id, .id, .id, .id]))]⟩, zw 12 false 15 (.fld false 1 0 (.t 14)), zw 12 false 16 (.mov (.t 1)), zw 12 false 17 (.bin .neq .no (.t 15) (.t 16)), zv 18 (.pick (.t 12) (.c (.bool true)) (.t 17))]
def k0cw_r2 : IC := .reg false [zv 19 (.ld true 8 (.t 2)), zi 20 (.call (.c (.fn 46 [] [])) [((.t 19), (.agg [(.sl 4), .id, .id, .id, .id, .id, .id, .id])), ((.c (.int .i64 5)), .id)]), zv 21 (.bld [(.int .i64 0), (.int .i64 0), (.int .i64 0), (.str [])] []), zn (.st 8 (.agg [(.sl 4), .id, .id, .id, .id, .id, .id, .id]) (.t 4) (.t 20)), zn (.st 4 .id (.t 5) (.t 21)), zv 6 (.mov (.c (.bool false)))]
def k0cw_r3 : IC := .reg false [zv 23 (.ld true 8 (.t 2)), zi 24 (.call (.c (.fn 44 [] [])) [((.t 23), (.agg [(.sl 4), .id, .id, .id, .id, .id, .id, .id]))]), zm 22 24, zv 25 (.ext (.t 22) 0), zv 26 (.ext (.t 22) 1), zi 7 (.alo [.nils, (.int .i64 0), (.int .i64 0), (.int .i64 0), (.str []), (.int .i64 0), (.int .i64 0), (.int .i64 0)]), zi 8 (.alo [(.int .i64 0), (.int .i64 0), (.int .i64 0), (.str [])]), zn (.st 8 (.agg [(.sl 4), .id, .id, .id, .id, .id, .id, .id]) (.t 7) (.t 25)), zn (.st 4 .id (.t 8) (.t 26))]
def k0cw_r4 : IC := .drw [zp (zv 27 (.ld true 8 (.t 7))), zp (zv 28 (.ld true 4 (.t 8))), (zn (.st 8 (.agg [(.sl 4), .id, .id, .id, .id, .id, .id, .id]) (.t 4) (.t 27)), [1]), (zn (.st 4 .id (.t 5) (.t 28)), []), zp (zv 6 (.mov (.c (.bool true))))]
def k0cw : IC := (.seq k0cw_r0 (.seq (.seq k0cw_r1 (.cond (.t 18) (.seq k0cw_r2 .ret) .skip)) (.seq k0cw_r3 (.seq k0cw_r4 .ret))))
@[go_sem] def s0cw : List (RV × Co) := [(.c true 8 4, (.agg [(.sl 4), .id, .id, .id, .id, .id, .id, .id])), (.c true 4 5, .id), (.t 6, .id)]
theorem c0cw : cFun Try.prog 76 = some (29, k0cw, s0cw) := by kernel_rfl

def k0t_r0 : IC := .reg false [zv 2 (.mov (.c (.bool false)))]
def k0t_r1 : IC := .reg false [zm 4 0, zi 5 (.call (.c (.fn 26 [] [])) [((.t 4), .id)]), zv 6 (.fld false 1 0 (.t 5)), zm 3 6]
def k0t_r2 : IC := .reg false [zm 7 3, zv 8 (.bin .eql .no (.t 7) (.c (.int .i64 1))), zm 9 8, zw 9 false 10 (.mov (.t 3)), zw 9 false 11 (.bin .eql .no (.t 10) (.c (.int .i64 2))), zv 12 (.pick (.t 9) (.c (.bool true)) (.t 11)), zm 13 12, zw 13 false 14 (.mov (.t 0)), ⟨some (13, false), some 15, .call (.c (.fn 38 [] [])) [((.t 14), .id), ((.c (.str [40])), .id)]⟩, zv 16 (.pick (.t 13) (.c (.bool true)) (.t 15)), zm 2 16]
def k0t : IC := (.seq k0t_r0 (.seq k0t_r1 (.seq k0t_r2 .ret)))
@[go_sem] def s0t : List (RV × Co) := [(.t 2, .id)]
theorem c0t : cFun Try.prog 77 = some (17, k0t, s0t) := by kernel_rfl

def k0g_r0 : IC := .reg false [zi 1 (.box (.t 0)), zv 2 (.mov (.c (.bool false)))]
def k0g_r1 : IC := .reg false [zv 4 (.ld true 8 (.t 1)), zi 5 (.call (.c (.fn 27 [] [])) [((.t 4), (.agg [(.sl 4), .id, .id, .id, .id, .id, .id, .id]))]), zv 6 (.fld false 1 0 (.t 5)), zm 3 6]
def k0g_r2 : IC := .reg false [zv 7 (.fad (.t 1) 6), zv 8 (.ld false 1 (.t 7)), zv 9 (.bin .eql .no (.t 8) (.c (.int .i64 0))), zm 10 9, zw 10 true 11 (.mov (.t 3)), zw 10 true 12 (.bin .eql .no (.t 11) (.c (.int .i64 1))), zw 10 true 13 (.mov (.t 12)), zw 13 false 14 (.mov (.t 3)), zw 13 false 15 (.bin .eql .no (.t 14) (.c (.int .i64 2))), zw 10 true 16 (.pick (.t 13) (.c (.bool true)) (.t 15)), zw 10 true 17 (.mov (.t 16)), zw 17 false 18 (.ld true 8 (.t 1)), ⟨some (17, false), some 19, .call (.c (.fn 45 [] [])) [((.t 18), (.agg [(.sl 4), .id, .id, .id, .id, .id, .id, .id])), ((.c (.str [40])), .id)]⟩, zw 10 true 20 (.pick (.t 17) (.c (.bool true)) (.t 19)), zv 21 (.pick (.t 10) (.t 20) (.c (.bool false))), zm 2 21]
def k0g : IC := (.seq k0g_r0 (.seq k0g_r1 (.seq k0g_r2 .ret)))
@[go_sem] def s0g : List (RV × Co) := [(.t 2, .id)]
theorem c0g : cFun Try.prog 78 = some (22, k0g, s0g) := by kernel_rfl

def k0cj_r0 : IC := .reg false [zv 2 (.mov (.c (.int .i64 0))), zv 3 (.mov (.c (.int .i64 0)))]
def k0cj_r1 : IC := .reg false [zm 8 0, zv 9 (.bin .eql .no (.t 8) (.c (.str [])))]
def k0cj_r2 : IC := .reg false [zv 2 (.mov (.c (.int .i64 0))), zv 3 (.mov (.c (.int .i64 5)))]
def k0cj_r3 : IC := .reg false [zv 4 (.mov (.c (.int .i64 0)))]
def k0cj_r5 : IC := .reg false [zm 10 4, zm 11 0, zv 12 (.len true (.t 11)), zv 13 (.bin .lss .no (.t 10) (.t 12))]
def k0cj_r6 : IC := .reg false [zm 16 0, zm 17 4, zv 18 (.idx (.t 16) (.t 17)), zv 19 (.bin .lss .no (.t 18) (.c (.int .u8 48))), zm 20 19, zw 20 false 21 (.mov (.t 0)), zw 20 false 22 (.mov (.t 4)), zw 20 false 23 (.idx (.t 21) (.t 22)), zw 20 false 24 (.bin .gtr .no (.t 23) (.c (.int .u8 57))), zv 25 (.pick (.t 20) (.c (.bool true)) (.t 24))]
def k0cj_r7 : IC := .reg false [zv 2 (.mov (.c (.int .i64 0))), zv 3 (.mov (.c (.int .i64 5)))]
def k0cj_r8 : IC := .reg false [zm 14 4, zv 15 (.bin .add .no (.t 14) (.c (.int .i64 1))), zm 4 15]
def k0cj_l4 : IC := (.seq (.seq k0cj_r5 (.cond (.t 13) .skip (.exit 0))) (.seq (.block 1 (.seq k0cj_r6 (.cond (.t 25) (.seq k0cj_r7 .ret) .skip))) k0cj_r8))
def k0cj_r10 : IC := .reg false [zv 5 (.mov (.c (.int .i64 0)))]
def k0cj_r11 : IC := .reg false [zv 6 (.mov (.c (.int .i64 0)))]
def k0cj_r13 : IC := .reg false [zm 26 6, zm 27 0, zv 28 (.len true (.t 27)), zv 29 (.bin .lss .no (.t 26) (.t 28))]
def k0cj_r14 : IC := .reg false [zm 32 0, zm 33 6, zv 34 (.idx (.t 32) (.t 33)), zv 35 (.bin .sub .no (.t 34) (.c (.int .u8 48))), zv 36 (.cvi .i64 (.t 35)), zm 7 36]
def k0cj_r15 : IC := .reg false [zm 37 5, zm 38 7, zv 39 (.bin .sub .no (.c (.int .i64 9223372036854775807)) (.t 38)), zv 40 (.bin .quo .no (.t 39) (.c (.int .i64 10))), zv 41 (.bin .gtr .no (.t 37) (.t 40))]
def k0cj_r16 : IC := .reg false [zv 2 (.mov (.c (.int .i64 0))), zv 3 (.mov (.c (.int .i64 4)))]
def k0cj_r17 : IC := .reg false [zm 42 5, zv 43 (.bin .mul .no (.c (.int .i64 10)) (.t 42)), zm 44 7, zv 45 (.bin .add .no (.t 43) (.t 44)), zm 5 45]
def k0cj_r18 : IC := .reg false [zm 30 6, zv 31 (.bin .add .no (.t 30) (.c (.int .i64 1))), zm 6 31]
def k0cj_l12 : IC := (.seq (.seq k0cj_r13 (.cond (.t 29) .skip (.exit 2))) (.seq (.block 3 (.seq k0cj_r14 (.seq (.seq k0cj_r15 (.cond (.t 41) (.seq k0cj_r16 .ret) .skip)) k0cj_r17))) k0cj_r18))
def k0cj_r20 : IC := .reg false [zm 46 5, zm 2 46, zv 3 (.mov (.c (.int .i64 0)))]
def k0cj : IC := (.seq k0cj_r0 (.seq (.seq k0cj_r1 (.cond (.t 9) (.seq k0cj_r2 .ret) .skip)) (.seq (.seq k0cj_r3 (.block 0 (.loop k0cj_l4))) (.seq k0cj_r10 (.seq (.seq k0cj_r11 (.block 2 (.loop k0cj_l12))) (.seq k0cj_r20 .ret))))))
@[go_sem] def s0cj : List (RV × Co) := [(.t 2, .id), (.t 3, .id)]
theorem c0cj : cFun Try.prog 80 = some (47, k0cj, s0cj) := by kernel_rfl

def k0cx_r0 : IC := .reg false [zi 2 (.box (.t 0)), zi 3 (.box (.t 1)), zv 4 (.mov (.c .nilf))]
def k0cx_r1 : IC := .reg false [zv 5 (.mfn 93 [] [(.t 2), (.t 3)]), zm 4 5]
def k0cx : IC := (.seq k0cx_r0 (.seq k0cx_r1 .ret))
@[go_sem] def s0cx : List (RV × Co) := [(.t 4, .id)]
theorem c0cx : cFun Try.prog 83 = some (6, k0cx, s0cx) := by kernel_rfl

def k0cp_r0 : IC := .reg false [zv 2 (.mov (.c (.bool false)))]
def k0cp_r1 : IC := .reg false [zm 3 0, zv 4 (.bin .neq .no (.t 3) (.c (.str []))), zm 5 4, zw 5 true 6 (.mov (.t 0)), zw 5 true 7 (.idx (.t 6) (.c (.int .i64 0))), ⟨some (5, true), some 8, .call (.c (.fn 97 [] [])) [((.t 7), .id)]⟩, zv 9 (.pick (.t 5) (.t 8) (.c (.bool false))), zm 10 9, zw 10 true 11 (.mov (.t 0)), ⟨some (10, true), some 12, .call (.c (.fn 98 [] [])) [((.t 11), .id)]⟩, zv 13 (.pick (.t 10) (.t 12) (.c (.bool false))), zm 2 13]
def k0cp : IC := (.seq k0cp_r0 (.seq k0cp_r1 .ret))
@[go_sem] def s0cp : List (RV × Co) := [(.t 2, .id)]
theorem c0cp : cFun Try.prog 86 = some (14, k0cp, s0cp) := by kernel_rfl

def k0bu_r0 : IC := .reg false [zi 1 (.box (.t 0)), zv 2 (.mov (.c .nilf))]
def k0bu_r1 : IC := .reg false [zv 3 (.mfn 101 [] [(.t 1)]), zm 2 3]
def k0bu : IC := (.seq k0bu_r0 (.seq k0bu_r1 .ret))
@[go_sem] def s0bu : List (RV × Co) := [(.t 2, .id)]
theorem c0bu : cFun Try.prog 92 = some (4, k0bu, s0bu) := by kernel_rfl

def k0cy_r0 : IC := .reg false [zv 4 (.ld true 5 (.t 1)), zv 5 (.ld false 1 (.t 2)), zm 6 0, zi 7 (.call (.c (.fn 94 [] [])) [((.t 4), (.agg [.id, .id, .id, .id, (.sl 5)])), ((.t 5), .id), ((.t 6), .id)])]
def k0cy : IC := k0cy_r0
@[go_sem] def s0cy : List (RV × Co) := []
theorem c0cy : cFun Try.prog 93 = some (8, k0cy, s0cy) := by kernel_rfl

def k0cz_r0 : IC := .reg false [zi 3 (.box (.t 0)), zv 6 (.mov (.c (.bool false)))]
def k0cz_r1 : IC := .reg false [zm 9 2, zm 10 1, zv 11 (.ld true 5 (.t 3)), zi 12 (.call (.t 9) [((.t 10), .id), ((.t 11), (.agg [.id, .id, .id, .id, (.sl 5)]))]), zv 13 (.un .not (.t 12))]
def k0cz_r2 : IC := .reg false [zv 6 (.mov (.c (.bool false)))]
def k0cz_r3 : IC := .reg false [zv 14 (.fad (.t 3) 4), zv 15 (.ld false 1 (.t 14)), zv 16 (.len false (.t 15)), zv 17 (.mov (.c (.int .i64 0)))]
def k0cz_r5 : IC := .reg false [zv 18 (.bin .lss .no (.t 17) (.t 16))]
def k0cz_r6 : IC := .reg false [zv 19 (.iad 5 (.t 15) (.t 17)), zv 20 (.ld true 5 (.t 19)), zi 8 (.alo [(.int .i64 0), (.int .i64 0), (.int .i64 0), (.str []), .nils]), zn (.st 5 (.agg [.id, .id, .id, .id, (.sl 5)]) (.t 8) (.t 20))]
def k0cz_r7 : IC := .reg false [zv 21 (.ld true 5 (.t 8)), zm 22 1, zv 23 (.bin .add .no (.t 22) (.c (.int .i64 1))), zm 24 2, zi 25 (.call (.c (.fn 94 [] [])) [((.t 21), (.agg [.id, .id, .id, .id, (.sl 5)])), ((.t 23), .id), ((.t 24), .id)]), zv 26 (.un .not (.t 25))]
def k0cz_r8 : IC := .reg false [zv 6 (.mov (.c (.bool false)))]
def k0cz_r9 : IC := .reg false [zv 27 (.bin .add .no (.t 17) (.c (.int .i64 1))), zm 17 27]
def k0cz_l4 : IC := (.seq k0cz_r5 (.seq (.cond (.t 18) .skip (.exit 0)) (.seq (.block 1 (.seq k0cz_r6 (.seq k0cz_r7 (.cond (.t 26) (.seq k0cz_r8 .ret) .skip)))) k0cz_r9)))
def k0cz_r11 : IC := .reg false [zv 6 (.mov (.c (.bool true)))]
def k0cz : IC := (.seq k0cz_r0 (.seq (.seq k0cz_r1 (.cond (.t 13) (.seq k0cz_r2 .ret) .skip)) (.seq (.seq k0cz_r3 (.block 0 (.loop k0cz_l4))) (.seq k0cz_r11 .ret))))
@[go_sem] def s0cz : List (RV × Co) := [(.t 6, .id)]
theorem c0cz : cFun Try.prog 94 = some (28, k0cz, s0cz) := by kernel_rfl

def k0cm_r0 : IC := .reg false [zv 2 (.mov (.c (.bool false)))]
def k0cm_r1 : IC := .reg false [zm 3 0, zv 4 (.bin .geq .no (.t 3) (.c (.int .u8 65))), zm 5 4, zw 5 true 6 (.mov (.t 0)), zw 5 true 7 (.bin .leq .no (.t 6) (.c (.int .u8 90))), zv 8 (.pick (.t 5) (.t 7) (.c (.bool false))), zm 2 8]
def k0cm : IC := (.seq k0cm_r0 (.seq k0cm_r1 .ret))
@[go_sem] def s0cm : List (RV × Co) := [(.t 2, .id)]
theorem c0cm : cFun Try.prog 97 = some (9, k0cm, s0cm) := by kernel_rfl

def k0cn_r0 : IC := .reg false [zv 2 (.mov (.c (.bool false)))]
def k0cn_r1 : IC := .reg false [zm 5 0, zv 6 (.len true (.t 5)), zv 7 (.mov (.c (.int .i64 0)))]
def k0cn_r3 : IC := .reg false [zv 8 (.bin .lss .no (.t 7) (.t 6))]
def k0cn_r4 : IC := .reg false [zm 9 7, zm 3 9]
def k0cn_r5 : IC := .reg false [zm 10 0, zm 11 3, zv 12 (.idx (.t 10) (.t 11)), zm 4 12]
def k0cn_r6 : IC := .reg false [zm 13 4, zi 14 (.call (.c (.fn 99 [] [])) [((.t 13), .id)]), zv 15 (.un .not (.t 14)), zm 16 15, zw 16 true 17 (.mov (.t 4)), ⟨some (16, true), some 18, .call (.c (.fn 97 [] [])) [((.t 17), .id)]⟩, zw 16 true 19 (.un .not (.t 18)), zv 20 (.pick (.t 16) (.t 19) (.c (.bool false))), zm 21 20, zw 21 true 22 (.mov (.t 4)), zw 21 true 23 (.bin .lss .no (.t 22) (.c (.int .u8 48))), zw 21 true 24 (.mov (.t 23)), zw 24 false 25 (.mov (.t 4)), zw 24 false 26 (.bin .gtr .no (.t 25) (.c (.int .u8 57))), zw 21 true 27 (.pick (.t 24) (.c (.bool true)) (.t 26)), zv 28 (.pick (.t 21) (.t 27) (.c (.bool false))), zm 29 28, zw 29 true 30 (.mov (.t 4)), zw 29 true 31 (.bin .neq .no (.t 30) (.c (.int .u8 39))), zv 32 (.pick (.t 29) (.t 31) (.c (.bool false)))]
def k0cn_r7 : IC := .reg false [zv 2 (.mov (.c (.bool false)))]
def k0cn_r8 : IC := .reg false [zv 33 (.bin .add .no (.t 7) (.c (.int .i64 1))), zm 7 33]
def k0cn_l2 : IC := (.seq k0cn_r3 (.seq (.cond (.t 8) .skip (.exit 0)) (.seq (.block 1 (.seq k0cn_r4 (.seq k0cn_r5 (.seq k0cn_r6 (.cond (.t 32) (.seq k0cn_r7 .ret) .skip))))) k0cn_r8)))
def k0cn_r10 : IC := .reg false [zv 2 (.mov (.c (.bool true)))]
def k0cn : IC := (.seq k0cn_r0 (.seq (.seq k0cn_r1 (.block 0 (.loop k0cn_l2))) (.seq k0cn_r10 .ret)))
@[go_sem] def s0cn : List (RV × Co) := [(.t 2, .id)]
theorem c0cn : cFun Try.prog 98 = some (34, k0cn, s0cn) := by kernel_rfl

def k0cl_r0 : IC := .reg false [zv 2 (.mov (.c (.bool false)))]
def k0cl_r1 : IC := .reg false [zm 3 0, zv 4 (.bin .geq .no (.t 3) (.c (.int .u8 97))), zm 5 4, zw 5 true 6 (.mov (.t 0)), zw 5 true 7 (.bin .leq .no (.t 6) (.c (.int .u8 122))), zv 8 (.pick (.t 5) (.t 7) (.c (.bool false))), zm 9 8, zw 9 false 10 (.mov (.t 0)), zw 9 false 11 (.bin .eql .no (.t 10) (.c (.int .u8 95))), zv 12 (.pick (.t 9) (.c (.bool true)) (.t 11)), zm 2 12]
def k0cl : IC := (.seq k0cl_r0 (.seq k0cl_r1 .ret))
@[go_sem] def s0cl : List (RV × Co) := [(.t 2, .id)]
theorem c0cl : cFun Try.prog 99 = some (13, k0cl, s0cl) := by kernel_rfl

def k0co_r0 : IC := .reg false [zv 2 (.mov (.c (.bool false)))]
def k0co_r1 : IC := .reg false [zv 3 (.mov (.c (.bool false)))]
def k0co_r2 : IC := .reg false [zv 6 (.bld [(.str []), (.str []), (.str []), (.str []), (.str []), (.str []), (.str []), (.str []), (.str []), (.str []), (.str [])] [(0, 1, (.c (.str [100, 97, 116, 97]))), (1, 1, (.c (.str [99, 108, 97, 115, 115]))), (2, 1, (.c (.str [105, 110, 115, 116, 97, 110, 99, 101]))), (3, 1, (.c (.str [119, 104, 101, 114, 101]))), (4, 1, (.c (.str [108, 101, 116]))), (5, 1, (.c (.str [105, 110]))), (6, 1, (.c (.str [99, 97, 115, 101]))), (7, 1, (.c (.str [111, 102]))), (8, 1, (.c (.str [105, 102]))), (9, 1, (.c (.str [116, 104, 101, 110]))), (10, 1, (.c (.str [101, 108, 115, 101])))]), zv 7 (.mov (.c (.int .i64 0)))]
def k0co_r4 : IC := .reg false [zv 8 (.bin .lss .no (.t 7) (.c (.int .i64 11)))]
def k0co_r5 : IC := .reg false [zv 9 (.ida false 1 11 (.t 6) (.t 7)), zm 5 9]
def k0co_r6 : IC := .reg false [zm 10 5, zm 11 0, zv 12 (.bin .neq .no (.t 10) (.t 11))]
def k0co_r7 : IC := .reg false [zv 3 (.mov (.c (.bool true)))]
def k0co_r8 : IC := .reg false [zv 13 (.bin .add .no (.t 7) (.c (.int .i64 1))), zm 7 13]
def k0co_l3 : IC := (.seq k0co_r4 (.seq (.cond (.t 8) .skip (.exit 0)) (.seq (.block 1 (.seq k0co_r5 (.seq (.seq k0co_r6 (.cond (.t 12) (.exit 1) .skip)) (.seq k0co_r7 (.exit 0))))) k0co_r8)))
def k0co_r10 : IC := .reg false [zm 14 3, zm 2 14]
def k0co : IC := (.seq k0co_r0 (.scope (.seq k0co_r1 (.seq (.label 0) (.seq (.seq k0co_r2 (.block 0 (.loop k0co_l3))) (.seq k0co_r10 .ret))))))
@[go_sem] def s0co : List (RV × Co) := [(.t 2, .id)]
theorem c0co : cFun Try.prog 100 = some (15, k0co, s0co) := by kernel_rfl

def k0bw_r0 : IC := .reg false [zv 6 (.ld false 1 (.t 1)), zi 7 (.call (.c (.fn 102 [] [])) [((.t 6), .id)]), zm 3 7]
def k0bw_r2 : IC := .reg false [zm 8 3, zv 9 (.ld false 1 (.t 1)), zv 10 (.len true (.t 9)), zv 11 (.bin .lss .no (.t 8) (.t 10))]
def k0bw_r3 : IC := .reg false [zv 13 (.ld false 1 (.t 1)), zm 14 3, zv 15 (.sls (.t 13) (some (.t 14)) none), zi 16 (.call (.c (.fn 103 [] [])) [((.t 15), .id)]), zm 12 16, zv 17 (.ext (.t 12) 0), zv 18 (.ext (.t 12) 1), zi 4 (.alo [(.int .i64 0), (.int .i64 0), (.int .i64 0), (.str [])]), zn (.st 4 .id (.t 4) (.t 17)), zm 5 18]
def k0bw_r4 : IC := .reg false [zm 19 3, zv 20 (.fad (.t 4) 1), zn (.st 1 .id (.t 20) (.t 19))]
def k0bw_r5 : IC := .reg false [zm 21 0, zv 22 (.ld true 4 (.t 4)), zm 23 5, zi 24 (.call (.t 21) [((.t 22), .id), ((.t 23), .id)]), zv 25 (.un .not (.t 24))]
def k0bw_r6 : IC := .reg false [zm 26 3, zv 27 (.fad (.t 4) 3), zv 28 (.ld false 1 (.t 27)), zv 29 (.len true (.t 28)), zv 30 (.bin .add .no (.t 26) (.t 29)), zm 3 30]
def k0bw_r7 : IC := .reg false [zm 31 3, zv 32 (.ld false 1 (.t 1)), zm 33 3, zv 34 (.sls (.t 32) (some (.t 33)) none), zi 35 (.call (.c (.fn 102 [] [])) [((.t 34), .id)]), zv 36 (.bin .add .no (.t 31) (.t 35)), zm 3 36]
def k0bw_l1 : IC := (.seq (.seq k0bw_r2 (.cond (.t 11) .skip (.exit 0))) (.block 1 (.seq k0bw_r3 (.seq k0bw_r4 (.seq (.seq k0bw_r5 (.cond (.t 25) .ret .skip)) (.seq k0bw_r6 k0bw_r7))))))
def k0bw : IC := (.seq k0bw_r0 (.block 0 (.loop k0bw_l1)))
@[go_sem] def s0bw : List (RV × Co) := []
theorem c0bw : cFun Try.prog 101 = some (37, k0bw, s0bw) := by kernel_rfl

def k0ci_r0 : IC := .reg false [zv 2 (.mov (.c (.int .i64 0)))]
def k0ci_r1 : IC := .reg false [zv 3 (.mov (.c (.int .i64 0)))]
def k0ci_r3 : IC := .reg false [zm 5 0, zm 6 3, zv 7 (.sls (.t 5) (some (.t 6)) none), zi 8 (.call (.c (.fn 106 [] [])) [((.t 7), .id), ((.c (.fn 107 [] [])), .id)]), zm 4 8]
def k0ci_r4 : IC := .reg false [zm 9 0, zm 10 3, zm 11 4, zv 12 (.bin .add .no (.t 10) (.t 11)), zv 13 (.sls (.t 9) (some (.t 12)) none), zi 14 (.call (.c (.fn 108 [] [])) [((.t 13), .id), ((.c (.str [45, 45])), .id)])]
def k0ci_r5 : IC := .reg false [zm 15 4, zm 16 0, zm 17 3, zm 18 4, zv 19 (.bin .add .no (.t 17) (.t 18)), zv 20 (.sls (.t 16) (some (.t 19)) none), zi 21 (.call (.c (.fn 106 [] [])) [((.t 20), .id), ((.c (.fn 109 [] [])), .id)]), zv 22 (.bin .add .no (.t 15) (.t 21)), zm 4 22]
def k0ci_r6 : IC := .reg false [zm 23 4, zv 24 (.bin .eql .no (.t 23) (.c (.int .i64 0)))]
def k0ci_r7 : IC := .reg false [zm 25 3, zm 2 25]
def k0ci_r8 : IC := .reg false [zm 26 3, zm 27 4, zv 28 (.bin .add .no (.t 26) (.t 27)), zm 3 28]
def k0ci_l2 : IC := (.block 1 (.seq k0ci_r3 (.seq (.seq k0ci_r4 (.cond (.t 14) k0ci_r5 .skip)) (.seq (.seq k0ci_r6 (.cond (.t 24) (.seq k0ci_r7 .ret) .skip)) k0ci_r8))))
def k0ci : IC := (.seq k0ci_r0 (.seq k0ci_r1 (.block 0 (.loop k0ci_l2))))
@[go_sem] def s0ci : List (RV × Co) := [(.t 2, .id)]
theorem c0ci : cFun Try.prog 102 = some (29, k0ci, s0ci) := by kernel_rfl

def k0ca_r0 : IC := .reg false [zi 2 (.alo [(.int .i64 0), (.int .i64 0), (.int .i64 0), (.str [])]), zv 3 (.mov (.c (.int .i64 0)))]
def k0ca_r1 : IC := .reg false [zm 9 0, zv 10 (.idx (.t 9) (.c (.int .i64 0))), zm 4 10]
def k0ca_r2 : IC := .reg false [zm 12 4, zi 13 (.call (.c (.fn 110 [] [])) [((.t 12), .id)]), zm 11 13]
def k0ca_r3 : IC := .reg false [zm 14 0, zm 15 0, zi 16 (.call (.c (.fn 106 [] [])) [((.t 15), .id), ((.c (.fn 110 [] [])), .id)]), zv 17 (.sls (.t 14) none (some (.t 16))), zm 5 17]
def k0ca_r4 : IC := .reg false [zm 19 5, zi 20 (.call (.c (.fn 111 [] [])) [((.t 19), .id)]), zm 18 20, zv 21 (.ext (.t 18) 0), zv 22 (.ext (.t 18) 1), zm 6 21, zm 7 22]
def k0ca_r5 : IC := .reg false [zm 23 6, zm 24 5, zv 25 (.bld [(.int .i64 0), (.int .i64 0), (.int .i64 0), (.str [])] [(0, 1, (.c (.int .i64 3))), (2, 1, (.t 23)), (3, 1, (.t 24))]), zm 26 7, zn (.st 4 .id (.t 2) (.t 25)), zm 3 26]
def k0ca_r6 : IC := .reg false [zm 28 4, zi 29 (.call (.c (.fn 112 [] [])) [((.t 28), .id)]), zm 30 29, zw 30 true 31 (.mov (.t 4)), zw 30 true 32 (.bin .neq .no (.t 31) (.c (.int .u8 39))), zv 33 (.pick (.t 30) (.t 32) (.c (.bool false))), zm 27 33]
def k0ca_r7 : IC := .reg false [zm 34 0, zm 35 0, zi 36 (.call (.c (.fn 106 [] [])) [((.t 35), .id), ((.c (.fn 112 [] [])), .id)]), zv 37 (.sls (.t 34) none (some (.t 36))), zi 38 (.call (.c (.fn 113 [] [])) [((.t 37), .id)]), zn (.st 4 .id (.t 2) (.t 38)), zv 3 (.mov (.c (.int .i64 0)))]
def k0ca_r8 : IC := .reg false [zm 39 0, zi 40 (.call (.c (.fn 114 [] [])) [((.t 39), .id)]), zm 8 40]
def k0ca_r9 : IC := .reg false [zm 41 8, zv 42 (.bin .eql .no (.t 41) (.c (.int .i64 0)))]
def k0ca_r10 : IC := .reg false [zv 43 (.bld [(.int .i64 0), (.int .i64 0), (.int .i64 0), (.str [])] []), zn (.st 4 .id (.t 2) (.t 43)), zv 3 (.mov (.c (.int .i64 3)))]
def k0ca_r11 : IC := .reg false [zm 44 0, zm 45 8, zv 46 (.sls (.t 44) none (some (.t 45))), zv 47 (.bld [(.int .i64 0), (.int .i64 0), (.int .i64 0), (.str [])] [(0, 1, (.c (.int .i64 5))), (3, 1, (.t 46))]), zn (.st 4 .id (.t 2) (.t 47)), zv 3 (.mov (.c (.int .i64 0)))]
def k0ca : IC := (.seq k0ca_r0 (.seq (.seq k0ca_r1 (.block 0 (.seq k0ca_r2 (.cond (.t 11) (.seq k0ca_r3 (.seq k0ca_r4 (.seq k0ca_r5 .ret))) (.seq k0ca_r6 (.cond (.t 27) (.seq k0ca_r7 .ret) .skip)))))) (.seq k0ca_r8 (.seq (.seq k0ca_r9 (.cond (.t 42) (.seq k0ca_r10 .ret) .skip)) (.seq k0ca_r11 .ret)))))
@[go_sem] def s0ca : List (RV × Co) := [(.c true 4 2, .id), (.t 3, .id)]
theorem c0ca : cFun Try.prog 103 = some (48, k0ca, s0ca) := by kernel_rfl

def k0cf_r0 : IC := .reg false [zv 4 (.mov (.c (.int .i64 0)))]
def k0cf_r1 : IC := .reg false [zm 6 0, zv 7 (.len true (.t 6)), zv 8 (.mov (.c (.int .i64 0)))]
def k0cf_r3 : IC := .reg false [zv 9 (.bin .lss .no (.t 8) (.t 7))]
def k0cf_r4 : IC := .reg false [zm 10 8, zm 5 10]
def k0cf_r5 : IC := .reg false [zm 11 1, zm 12 0, zm 13 5, zv 14 (.idx (.t 12) (.t 13)), zi 15 (.call (.t 11) [((.t 14), .id)]), zv 16 (.un .not (.t 15))]
def k0cf_r6 : IC := .reg false [zm 17 5, zm 4 17]
def k0cf_r7 : IC := .reg false [zv 18 (.bin .add .no (.t 8) (.c (.int .i64 1))), zm 8 18]
def k0cf_l2 : IC := (.seq k0cf_r3 (.seq (.cond (.t 9) .skip (.exit 0)) (.seq (.block 1 (.seq k0cf_r4 (.seq k0cf_r5 (.cond (.t 16) (.seq k0cf_r6 .ret) .skip)))) k0cf_r7)))
def k0cf_r9 : IC := .reg false [zm 19 0, zv 20 (.len true (.t 19)), zm 4 20]
def k0cf : IC := (.seq k0cf_r0 (.seq (.seq k0cf_r1 (.block 0 (.loop k0cf_l2))) (.seq k0cf_r9 .ret)))
@[go_sem] def s0cf : List (RV × Co) := [(.t 4, .id)]
theorem c0cf : cFun Try.prog 106 = some (21, k0cf, s0cf) := by kernel_rfl

def k0cd_r0 : IC := .reg false [zv 2 (.mov (.c (.bool false)))]
def k0cd_r1 : IC := .reg false [zm 3 0, zv 4 (.bin .eql .no (.t 3) (.c (.int .u8 9))), zm 5 4, zw 5 false 6 (.mov (.t 0)), zw 5 false 7 (.bin .eql .no (.t 6) (.c (.int .u8 10))), zv 8 (.pick (.t 5) (.c (.bool true)) (.t 7)), zm 9 8, zw 9 false 10 (.mov (.t 0)), zw 9 false 11 (.bin .eql .no (.t 10) (.c (.int .u8 13))), zv 12 (.pick (.t 9) (.c (.bool true)) (.t 11)), zm 13 12, zw 13 false 14 (.mov (.t 0)), zw 13 false 15 (.bin .eql .no (.t 14) (.c (.int .u8 32))), zv 16 (.pick (.t 13) (.c (.bool true)) (.t 15)), zm 2 16]
def k0cd : IC := (.seq k0cd_r0 (.seq k0cd_r1 .ret))
@[go_sem] def s0cd : List (RV × Co) := [(.t 2, .id)]
theorem c0cd : cFun Try.prog 107 = some (17, k0cd, s0cd) := by kernel_rfl

def k0ch_r0 : IC := .reg false [zv 4 (.mov (.c (.bool false)))]
def k0ch_r1 : IC := .reg false [zm 5 0, zm 6 1, zi 7 (.call (.c (.fn 116 [] [])) [((.t 5), .id), ((.t 6), .id)]), zm 4 7]
def k0ch : IC := (.seq k0ch_r0 (.seq k0ch_r1 .ret))
@[go_sem] def s0ch : List (RV × Co) := [(.t 4, .id)]
theorem c0ch : cFun Try.prog 108 = some (8, k0ch, s0ch) := by kernel_rfl

def k0ce_r0 : IC := .reg false [zv 2 (.mov (.c (.bool false)))]
def k0ce_r1 : IC := .reg false [zm 3 0, zv 4 (.bin .neq .no (.t 3) (.c (.int .u8 10))), zm 2 4]
def k0ce : IC := (.seq k0ce_r0 (.seq k0ce_r1 .ret))
@[go_sem] def s0ce : List (RV × Co) := [(.t 2, .id)]
theorem c0ce : cFun Try.prog 109 = some (5, k0ce, s0ce) := by kernel_rfl

def k0cb_r0 : IC := .reg false [zv 2 (.mov (.c (.bool false)))]
def k0cb_r1 : IC := .reg false [zm 3 0, zv 4 (.bin .geq .no (.t 3) (.c (.int .u8 48))), zm 5 4, zw 5 true 6 (.mov (.t 0)), zw 5 true 7 (.bin .leq .no (.t 6) (.c (.int .u8 57))), zv 8 (.pick (.t 5) (.t 7) (.c (.bool false))), zm 2 8]
def k0cb : IC := (.seq k0cb_r0 (.seq k0cb_r1 .ret))
@[go_sem] def s0cb : List (RV × Co) := [(.t 2, .id)]
theorem c0cb : cFun Try.prog 110 = some (9, k0cb, s0cb) := by kernel_rfl

def k0ck_r0 : IC := .reg false [zv 2 (.mov (.c (.int .i64 0))), zv 3 (.mov (.c (.int .i64 0)))]
def k0ck_r1 : IC := .reg false [zm 8 0, zv 9 (.len true (.t 8)), zv 10 (.mov (.c (.int .i64 0)))]
def k0ck_r3 : IC := .reg false [zv 11 (.bin .lss .no (.t 10) (.t 9))]
def k0ck_r4 : IC := .reg false [zm 12 10, zm 4 12]
def k0ck_r5 : IC := .reg false [zm 13 0, zm 14 4, zv 15 (.idx (.t 13) (.t 14)), zv 16 (.bin .lss .no (.t 15) (.c (.int .u8 48))), zm 17 16, zw 17 false 18 (.mov (.t 0)), zw 17 false 19 (.mov (.t 4)), zw 17 false 20 (.idx (.t 18) (.t 19)), zw 17 false 21 (.bin .gtr .no (.t 20) (.c (.int .u8 57))), zv 22 (.pick (.t 17) (.c (.bool true)) (.t 21))]
def k0ck_r6 : IC := .reg false [zv 2 (.mov (.c (.int .i64 0))), zv 3 (.mov (.c (.int .i64 5)))]
def k0ck_r7 : IC := .reg false [zv 23 (.bin .add .no (.t 10) (.c (.int .i64 1))), zm 10 23]
def k0ck_l2 : IC := (.seq k0ck_r3 (.seq (.cond (.t 11) .skip (.exit 0)) (.seq (.block 1 (.seq k0ck_r4 (.seq k0ck_r5 (.cond (.t 22) (.seq k0ck_r6 .ret) .skip)))) k0ck_r7)))
def k0ck_r9 : IC := .reg false [zm 24 0, zv 25 (.bin .eql .no (.t 24) (.c (.str [])))]
def k0ck_r10 : IC := .reg false [zv 2 (.mov (.c (.int .i64 0))), zv 3 (.mov (.c (.int .i64 5)))]
def k0ck_r11 : IC := .reg false [zv 5 (.mov (.c (.int .i64 0))), zv 6 (.mov (.c (.int .i64 0)))]
def k0ck_r12 : IC := .reg false [zm 26 0, zm 27 6, zv 28 (.idx (.t 26) (.t 27)), zv 29 (.bin .sub .no (.t 28) (.c (.int .u8 48))), zv 30 (.cvi .i64 (.t 29)), zm 7 30]
def k0ck_r13 : IC := .reg false [zm 31 5, zm 32 7, zv 33 (.bin .sub .no (.c (.int .i64 9223372036854775807)) (.t 32)), zv 34 (.bin .quo .no (.t 33) (.c (.int .i64 10))), zv 35 (.bin .gtr .no (.t 31) (.t 34))]
def k0ck_r14 : IC := .reg false [zv 2 (.mov (.c (.int .i64 0))), zv 3 (.mov (.c (.int .i64 4)))]
def k0ck_r15 : IC := .reg false [zm 36 5, zv 37 (.bin .mul .no (.c (.int .i64 10)) (.t 36)), zm 38 7, zv 39 (.bin .add .no (.t 37) (.t 38)), zm 5 39]
def k0ck_r16 : IC := .reg false [zm 40 6, zv 41 (.bin .add .no (.t 40) (.c (.int .i64 1))), zm 6 41]
def k0ck_r17 : IC := .reg false [zm 42 6, zm 43 0, zv 44 (.len true (.t 43)), zv 45 (.bin .lss .no (.t 42) (.t 44))]
def k0ck_r18 : IC := .reg false [zm 46 5, zm 2 46, zv 3 (.mov (.c (.int .i64 0)))]
def k0ck : IC := (.seq k0ck_r0 (.scope (.seq (.seq k0ck_r1 (.block 0 (.loop k0ck_l2))) (.seq (.seq k0ck_r9 (.cond (.t 25) (.seq k0ck_r10 .ret) .skip)) (.seq k0ck_r11 (.seq (.label 0) (.seq k0ck_r12 (.seq (.seq k0ck_r13 (.cond (.t 35) (.seq k0ck_r14 .ret) .skip)) (.seq k0ck_r15 (.seq (.seq k0ck_r16 (.seq k0ck_r17 (.cond (.t 45) (.goto 0) .skip))) (.seq k0ck_r18 .ret)))))))))))
@[go_sem] def s0ck : List (RV × Co) := [(.t 2, .id), (.t 3, .id)]
theorem c0ck : cFun Try.prog 111 = some (47, k0ck, s0ck) := by kernel_rfl

def k0cc_r0 : IC := .reg false [zv 2 (.mov (.c (.bool false)))]
def k0cc_r1 : IC := .reg false [zm 3 0, zv 4 (.bin .geq .no (.t 3) (.c (.int .u8 97))), zm 5 4, zw 5 true 6 (.mov (.t 0)), zw 5 true 7 (.bin .leq .no (.t 6) (.c (.int .u8 122))), zv 8 (.pick (.t 5) (.t 7) (.c (.bool false))), zm 9 8, zw 9 false 10 (.mov (.t 0)), zw 9 false 11 (.bin .geq .no (.t 10) (.c (.int .u8 65))), zw 9 false 12 (.mov (.t 11)), zw 12 true 13 (.mov (.t 0)), zw 12 true 14 (.bin .leq .no (.t 13) (.c (.int .u8 90))), zw 9 false 15 (.pick (.t 12) (.t 14) (.c (.bool false))), zv 16 (.pick (.t 9) (.c (.bool true)) (.t 15)), zm 17 16, zw 17 false 18 (.mov (.t 0)), zw 17 false 19 (.bin .eql .no (.t 18) (.c (.int .u8 95))), zv 20 (.pick (.t 17) (.c (.bool true)) (.t 19)), zm 21 20, zw 21 false 22 (.mov (.t 0)), zw 21 false 23 (.bin .eql .no (.t 22) (.c (.int .u8 39))), zv 24 (.pick (.t 21) (.c (.bool true)) (.t 23)), zm 25 24, zw 25 false 26 (.mov (.t 0)), ⟨some (25, false), some 27, .call (.c (.fn 110 [] [])) [((.t 26), .id)]⟩, zv 28 (.pick (.t 25) (.c (.bool true)) (.t 27)), zm 2 28]
def k0cc : IC := (.seq k0cc_r0 (.seq k0cc_r1 .ret))
@[go_sem] def s0cc : List (RV × Co) := [(.t 2, .id)]
theorem c0cc : cFun Try.prog 112 = some (29, k0cc, s0cc) := by kernel_rfl

def k0by_r0 : IC := .reg false [zi 2 (.alo [(.int .i64 0), (.int .i64 0), (.int .i64 0), (.str [])])]
def k0by_r1 : IC := .reg false [zm 4 0, zv 5 (.bld [(.int .i64 0), (.int .i64 0), (.int .i64 0), (.str [])] [(0, 1, (.c (.int .i64 1))), (3, 1, (.t 4))]), zi 3 (.alo [(.int .i64 0), (.int .i64 0), (.int .i64 0), (.str [])]), zn (.st 4 .id (.t 3) (.t 5))]
def k0by_r2 : IC := .reg false [zm 7 0, zv 8 (.bin .eql .no (.t 7) (.c (.str [95]))), zm 6 8]
def k0by_r3 : IC := .reg false [zv 9 (.fad (.t 3) 0), zn (.st 1 .id (.t 9) (.c (.int .i64 5)))]
def k0by_r4 : IC := .reg false [zm 11 0, zi 12 (.call (.c (.fn 100 [] [])) [((.t 11), .id)]), zm 10 12]
def k0by_r5 : IC := .reg false [zv 13 (.fad (.t 3) 0), zn (.st 1 .id (.t 13) (.c (.int .i64 4)))]
def k0by_r6 : IC := .reg false [zm 15 0, zi 16 (.call (.c (.fn 86 [] [])) [((.t 15), .id)]), zm 14 16]
def k0by_r7 : IC := .reg false [zv 17 (.fad (.t 3) 0), zn (.st 1 .id (.t 17) (.c (.int .i64 2)))]
def k0by_r8 : IC := .reg false [zv 18 (.ld true 4 (.t 3)), zn (.st 4 .id (.t 2) (.t 18))]
def k0by : IC := (.seq k0by_r0 (.seq k0by_r1 (.seq (.block 0 (.seq k0by_r2 (.cond (.t 6) k0by_r3 (.seq k0by_r4 (.cond (.t 10) k0by_r5 (.seq k0by_r6 (.cond (.t 14) k0by_r7 .skip))))))) (.seq k0by_r8 .ret))))
@[go_sem] def s0by : List (RV × Co) := [(.c true 4 2, .id)]
theorem c0by : cFun Try.prog 113 = some (19, k0by, s0by) := by kernel_rfl

def k0bz_r0 : IC := .reg false [zv 2 (.mov (.c (.int .i64 0)))]
def k0bz_r1 : IC := .reg false [zv 5 (.bld [(.str []), (.str []), (.str []), (.str []), (.str []), (.str []), (.str []), (.str []), (.str []), (.str []), (.str []), (.str [])] [(0, 1, (.c (.str [45, 62]))), (1, 1, (.c (.str [61, 62]))), (2, 1, (.c (.str [58, 58]))), (3, 1, (.c (.str [40]))), (4, 1, (.c (.str [41]))), (5, 1, (.c (.str [123]))), (6, 1, (.c (.str [125]))), (7, 1, (.c (.str [59]))), (8, 1, (.c (.str [44]))), (9, 1, (.c (.str [61]))), (10, 1, (.c (.str [124]))), (11, 1, (.c (.str [92])))]), zv 6 (.mov (.c (.int .i64 0)))]
def k0bz_r3 : IC := .reg false [zv 7 (.bin .lss .no (.t 6) (.c (.int .i64 12)))]
def k0bz_r4 : IC := .reg false [zv 8 (.ida false 1 12 (.t 5) (.t 6)), zm 4 8]
def k0bz_r5 : IC := .reg false [zm 9 0, zm 10 4, zi 11 (.call (.c (.fn 108 [] [])) [((.t 9), .id), ((.t 10), .id)])]
def k0bz_r6 : IC := .reg false [zm 12 4, zv 13 (.len true (.t 12)), zm 2 13]
def k0bz_r7 : IC := .reg false [zv 14 (.bin .add .no (.t 6) (.c (.int .i64 1))), zm 6 14]
def k0bz_l2 : IC := (.seq k0bz_r3 (.seq (.cond (.t 7) .skip (.exit 0)) (.seq (.block 1 (.seq k0bz_r4 (.seq k0bz_r5 (.cond (.t 11) (.seq k0bz_r6 .ret) .skip)))) k0bz_r7)))
def k0bz_r9 : IC := .reg false [zv 2 (.mov (.c (.int .i64 0)))]
def k0bz : IC := (.seq k0bz_r0 (.seq (.seq k0bz_r1 (.block 0 (.loop k0bz_l2))) (.seq k0bz_r9 .ret)))
@[go_sem] def s0bz : List (RV × Co) := [(.t 2, .id)]
theorem c0bz : cFun Try.prog 114 = some (15, k0bz, s0bz) := by kernel_rfl

def k0cg_r0 : IC := .reg false [zv 4 (.mov (.c (.bool false)))]
def k0cg_r1 : IC := .reg false [zm 5 0, zv 6 (.len true (.t 5)), zm 7 1, zv 8 (.len true (.t 7)), zv 9 (.bin .geq .no (.t 6) (.t 8)), zm 10 9, zw 10 true 11 (.mov (.t 0)), zw 10 true 12 (.mov (.t 1)), zw 10 true 13 (.len true (.t 12)), zw 10 true 14 (.sls (.t 11) none (some (.t 13))), zw 10 true 15 (.mov (.t 1)), zw 10 true 16 (.bin .eql .no (.t 14) (.t 15)), zv 17 (.pick (.t 10) (.t 16) (.c (.bool false))), zm 4 17]
def k0cg : IC := (.seq k0cg_r0 (.seq k0cg_r1 .ret))
@[go_sem] def s0cg : List (RV × Co) := [(.t 4, .id)]
theorem c0cg : cFun Try.prog 116 = some (18, k0cg, s0cg) := by kernel_rfl

end Go.Proofs.Ytjigahnncojikaa
