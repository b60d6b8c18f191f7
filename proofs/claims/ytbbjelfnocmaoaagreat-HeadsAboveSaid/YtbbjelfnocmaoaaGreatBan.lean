/- A text of this proof. -/
import Derived.Test.YtbbjelfnocmaoaaGreatBaf
import Derived.Test.YtbbjelfnocmaoaaGreatProg
/- The compiled code of the functions. -/
namespace Go.Proofs.YtbbjelfnocmaoaaGreat
open Go Go.V
@[reducible] def zm (d s : Nat) : GI := ⟨none, some d, .v (.mov (.t s))⟩
@[reducible] def zv (d : Nat) (x : IV) : GI := ⟨none, some d, .v x⟩
@[reducible] def zi (d : Nat) (i : I) : GI := ⟨none, some d, i⟩
@[reducible] def zn (i : I) : GI := ⟨none, none, i⟩
@[reducible] def zw (j : Nat) (b : Bool) (d : Nat) (x : IV) : GI := ⟨some (j, b), some d, .v x⟩
@[reducible] def zp (g : GI) : GI × List Nat := (g, [])
@[reducible] def zN : Co := .agg [.id, .id, .id, .id, (.sl 5)]
@[reducible] def zC : Co := .agg [(.sl 4), .id, .id, .id, .id, .id, .id, .id]
@[reducible] def zaN : I := .alo [(.int .i64 0), (.int .i64 0), (.int .i64 0), (.str []), .nils]
@[reducible] def zaC : I := .alo [.nils, (.int .i64 0), (.int .i64 0), (.int .i64 0), (.str []), (.int .i64 0), (.int .i64 0), (.int .i64 0)]
@[reducible] def zaT : I := .alo [(.int .i64 0), (.int .i64 0), (.int .i64 0), (.str [])]
@[reducible] def zZ : AV := .agg [(.int .i64 0), (.int .i64 0), (.int .i64 0), (.str []), .nils]
@[reducible] def zc (n : Int) : Opd := .c (.int .i64 n)
@[reducible] def zf : IV := .mov (.c (.bool false))
@[reducible] def zr (l : List GI) : IC := .reg false l
def qbqb : IC := zr [zi 3 (.box (.t 1)), zv 4 zf]
def qbnx : IC := zr [zm 11 0, zi 12 (.call (.c (.fn 6 [] [])) [((.t 11), (.sl 4))]), zv 13 (.bin .eql .no (.t 12) (zc 0)), zm 14 13, zw 14 false 15 (.ld true 4 (.t 3)), zw 14 false 16 (.bsl 4 [((.t 15), (.agg [.id, .id, .id, (.sl 3)]))]), ⟨some (14, false), some 17, .call (.c (.fn 16 [] [])) [((.t 16), (.sl 4))]⟩, zw 14 false 18 (.bin .eql .no (.t 17) (zc 0)), zv 19 (.pick (.t 14) (.c (.bool true)) (.t 18))]
def qboh : IC := zr [zi 20 (.call (.c (.fn 7 [] [])) []), zm 4 20]
def qbk3 : IC := zr [zm 22 0, zv 23 (.ld true 4 (.t 3)), zi 24 (.call (.c (.fn 17 [] [])) [((.t 22), (.sl 4)), ((.t 23), (.agg [.id, .id, .id, (.sl 3)]))]), zm 21 24, zv 25 (.ext (.t 21) 0), zv 26 (.ext (.t 21) 1), zv 27 (.ext (.t 21) 2), zm 5 25, zm 6 26, zm 7 27]
def qbra : IC := zr [zm 29 0, zv 30 (.ld true 4 (.t 3)), zi 31 (.call (.c (.fn 18 [] [])) [((.t 29), (.sl 4)), ((.t 30), (.agg [.id, .id, .id, (.sl 3)]))]), zm 28 31, zv 32 (.ext (.t 28) 0), zv 33 (.ext (.t 28) 1), zv 34 (.ext (.t 28) 2), zm 8 32, zm 9 33, zm 10 34]
def qbpm : IC := zr [zm 35 5, zm 36 8, zv 37 (.bin .eql .no (.t 35) (.t 36)), zm 38 37, zw 38 true 39 (.mov (.t 6)), zw 38 true 40 (.mov (.t 9)), ⟨some (38, true), some 41, .call (.c (.fn 19 [] [])) [((.t 39), (.sl 4)), ((.t 40), (.sl 4))]⟩, zv 42 (.pick (.t 38) (.t 41) (.c (.bool false))), zm 43 42, zw 43 true 44 (.mov (.t 7)), zw 43 true 45 (.mov (.t 10)), zw 43 true 46 (.bin .eql .bool (.t 44) (.t 45)), zv 47 (.pick (.t 43) (.t 46) (.c (.bool false))), zm 48 47, ⟨some (48, true), some 49, .call (.c (.fn 7 [] [])) []⟩, zv 50 (.pick (.t 48) (.t 49) (.c (.bool false))), zm 4 50]
def k0a : IC := (.seq qbqb (.seq (.seq qbnx (.cond (.t 19) (.seq qboh .ret) .skip)) (.seq qbk3 (.seq qbra (.seq qbpm .ret)))))
@[go_sem] def s0a : List (RV × Co) := [(.t 4, .id)]
theorem c0a : cFun Tryz.prog 4 = some (51, k0a, s0a) := by kernel_rfl

def qbn8 : IC := zr [zi 3 (.box (.t 1)), zv 4 zf]
def qbny : IC := zr [zm 9 0, zi 10 (.call (.c (.fn 6 [] [])) [((.t 9), (.sl 4))]), zv 11 (.bin .eql .no (.t 10) (zc 0)), zm 12 11, zw 12 false 13 (.ld true 4 (.t 3)), zw 12 false 14 (.bsl 4 [((.t 13), (.agg [.id, .id, .id, (.sl 3)]))]), ⟨some (12, false), some 15, .call (.c (.fn 16 [] [])) [((.t 14), (.sl 4))]⟩, zw 12 false 16 (.bin .eql .no (.t 15) (zc 0)), zv 17 (.pick (.t 12) (.c (.bool true)) (.t 16)), zm 18 17, zw 18 false 19 (.fad (.t 3) 1), zw 18 false 20 (.ld true 3 (.t 19)), ⟨some (18, false), some 21, .call (.c (.fn 20 [] [])) [((.t 20), (.agg [.id, .id, (.sl 3)]))]⟩, zw 18 false 22 (.un .not (.t 21)), zv 23 (.pick (.t 18) (.c (.bool true)) (.t 22))]
def qbo4 : IC := zr [zi 24 (.call (.c (.fn 7 [] [])) []), zm 4 24]
def qbs1 : IC := zr [zm 26 0, zv 27 (.ld true 4 (.t 3)), zi 28 (.call (.c (.fn 17 [] [])) [((.t 26), (.sl 4)), ((.t 27), (.agg [.id, .id, .id, (.sl 3)]))]), zm 25 28, zv 29 (.ext (.t 25) 0), zv 30 (.ext (.t 25) 1), zv 31 (.ext (.t 25) 2), zm 5 29, zm 6 30, zm 7 31]
def qbl4 : IC := zr [zm 32 7, zv 33 (.un .not (.t 32))]
def qbon : IC := zr [zm 34 5, zv 35 (.bin .eql .no (.t 34) (zc 0)), zm 36 35, zw 36 true 37 (.mov (.t 6)), zw 36 true 38 (.len false (.t 37)), zw 36 true 39 (.bin .eql .no (.t 38) (zc 0)), zv 40 (.pick (.t 36) (.t 39) (.c (.bool false))), zm 41 40, ⟨some (41, true), some 42, .call (.c (.fn 7 [] [])) []⟩, zv 43 (.pick (.t 41) (.t 42) (.c (.bool false))), zm 4 43]
def qbnq : IC := .drw [zp (zm 44 5), zp (zv 45 (.bin .lss .no (.t 44) (zc 0))), zp (zm 46 45), zp (zw 46 false 47 (.mov (.t 5))), zp (zw 46 false 48 (.mov (.t 0))), zp (zw 46 false 49 (.len false (.t 48))), zp (zw 46 false 50 (.bin .geq .no (.t 47) (.t 49))), zp (zv 51 (.pick (.t 46) (.c (.bool true)) (.t 50))), zp (zm 52 51), zp (zw 52 false 53 (.mov (.t 0))), zp (zw 52 false 54 (.mov (.t 5))), zp (zw 52 false 55 (.iad 4 (.t 53) (.t 54))), zp (zw 52 false 56 (.fad (.t 55) 0)), zp (zw 52 false 57 (.ld false 1 (.t 56))), zp (zw 52 false 58 (.fad (.t 3) 0)), zp (zw 52 false 59 (.ld false 1 (.t 58))), zp (zw 52 false 60 (.bin .neq .no (.t 57) (.t 59))), zp (zv 61 (.pick (.t 52) (.c (.bool true)) (.t 60))), zp (zm 62 61), zp (zw 62 false 63 (.mov (.t 0))), zp (zw 62 false 64 (.mov (.t 5))), zp (zw 62 false 65 (.iad 4 (.t 63) (.t 64))), zp (zw 62 false 66 (.ld true 4 (.t 65))), (⟨some (62, false), some 67, .call (.c (.fn 13 [] [])) [((.t 66), (.agg [.id, .id, .id, (.sl 4)]))]⟩, []), zp (zw 62 false 68 (.bin .eql .no (.t 67) (zc 0))), zp (zw 62 false 69 (.mov (.t 68))), zp (zw 69 true 70 (.mov (.t 0))), zp (zw 69 true 71 (.mov (.t 5))), zp (zw 69 true 72 (.iad 4 (.t 70) (.t 71))), zp (zw 69 true 73 (.ld true 4 (.t 72))), (⟨some (69, true), some 74, .call (.c (.fn 22 [] [])) [((.t 73), (.agg [.id, .id, .id, (.sl 4)]))]⟩, []), zp (zw 69 true 75 (.fad (.t 3) 1)), (zw 69 true 76 (.ld true 3 (.t 75)), [30]), (⟨some (69, true), some 77, .call (.c (.fn 21 [] [])) [((.t 74), (.agg [.id, .id, (.sl 3)])), ((.t 76), (.agg [.id, .id, (.sl 3)]))]⟩, []), zp (zw 69 true 78 (.un .not (.t 77))), zp (zw 69 true 79 (.mov (.t 78))), zp (zw 79 false 80 (.mov (.t 6))), zp (zw 79 false 81 (.len false (.t 80))), zp (zw 79 false 82 (.mov (.t 0))), zp (zw 79 false 83 (.mov (.t 5))), zp (zw 79 false 84 (.iad 4 (.t 82) (.t 83))), zp (zw 79 false 85 (.fad (.t 84) 3)), zp (zw 79 false 86 (.ld false 1 (.t 85))), zp (zw 79 false 87 (.len false (.t 86))), zp (zw 79 false 88 (.bin .neq .no (.t 81) (.t 87))), zp (zw 69 true 89 (.pick (.t 79) (.c (.bool true)) (.t 88))), zp (zw 62 false 90 (.pick (.t 69) (.t 89) (.c (.bool false)))), zp (zv 91 (.pick (.t 62) (.c (.bool true)) (.t 90)))]
def qbmv : IC := zr [zv 4 zf]
def qbmi : IC := zr [zv 8 (.mov (zc 0))]
def q48 : IC := zr [zm 92 8, zm 93 6, zv 94 (.len false (.t 93)), zv 95 (.bin .lss .no (.t 92) (.t 94))]
def qbec : IC := .drw [zp (zm 98 0), zp (zm 99 5), zp (zv 100 (.iad 4 (.t 98) (.t 99))), zp (zv 101 (.ld true 4 (.t 100))), (zi 102 (.call (.c (.fn 13 [] [])) [((.t 101), (.agg [.id, .id, .id, (.sl 4)]))]), []), zp (zv 103 (.bin .eql .no (.t 102) (zc 0))), zp (zm 104 103), zp (zw 104 true 105 (.mov (.t 6))), zp (zw 104 true 106 (.mov (.t 8))), zp (zw 104 true 107 (.iad 4 (.t 105) (.t 106))), zp (zw 104 true 108 (.fad (.t 107) 1)), zp (zw 104 true 109 (.ld true 3 (.t 108))), (⟨some (104, true), some 110, .call (.c (.fn 23 [] [])) [((.t 109), (.agg [.id, .id, (.sl 3)]))]⟩, []), zp (zw 104 true 111 (.fad (.t 3) 1)), (zw 104 true 112 (.ld true 3 (.t 111)), [12]), (⟨some (104, true), some 113, .call (.c (.fn 23 [] [])) [((.t 112), (.agg [.id, .id, (.sl 3)]))]⟩, []), zp (zw 104 true 114 (.bin .geq .no (.t 110) (.t 113))), zp (zv 115 (.pick (.t 104) (.t 114) (.c (.bool false))))]
def qbex : IC := zr [zv 4 zf]
def qbi9 : IC := zr [zm 96 8, zv 97 (.bin .add .no (.t 96) (zc 1)), zm 8 97]
def qbpj : IC := (.seq (.seq q48 (.cond (.t 95) .skip (.exit 0))) (.seq (.block 1 (.seq qbec (.cond (.t 115) (.seq qbex .ret) .skip))) qbi9))
def qbjc : IC := zr [zi 116 (.call (.c (.fn 7 [] [])) []), zm 4 116]
def k0b : IC := (.seq qbn8 (.seq (.seq qbny (.cond (.t 23) (.seq qbo4 .ret) .skip)) (.seq qbs1 (.seq (.seq qbl4 (.cond (.t 33) (.seq qbon .ret) .skip)) (.seq (.seq qbnq (.cond (.t 91) (.seq qbmv .ret) .skip)) (.seq (.seq qbmi (.block 0 (.loop qbpj))) (.seq qbjc .ret)))))))
@[go_sem] def s0b : List (RV × Co) := [(.t 4, .id)]
theorem c0b : cFun Tryz.prog 5 = some (117, k0b, s0b) := by kernel_rfl

def qbrw : IC := zr [zv 2 (.mov (zc 0))]
def qbkk : IC := zr [zm 4 0, zv 5 (.len false (.t 4)), zv 6 (.bin .gtr .no (.t 5) (zc 12))]
def qbl9 : IC := zr [zv 2 (.mov (zc 0))]
def qbke : IC := zr [zv 3 (.mov (zc 0))]
def qbry : IC := zr [zm 7 3, zm 8 0, zv 9 (.len false (.t 8)), zv 10 (.bin .lss .no (.t 7) (.t 9))]
def qbqe : IC := zr [zm 13 0, zm 14 3, zv 15 (.iad 4 (.t 13) (.t 14)), zv 16 (.fad (.t 15) 3), zv 17 (.ld false 1 (.t 16)), zi 18 (.call (.c (.fn 16 [] [])) [((.t 17), (.sl 4))]), zv 19 (.bin .eql .no (.t 18) (zc 0)), zm 20 19, zw 20 false 21 (.mov (.t 0)), zw 20 false 22 (.mov (.t 3)), zw 20 false 23 (.iad 4 (.t 21) (.t 22)), zw 20 false 24 (.fad (.t 23) 2), zw 20 false 25 (.ld false 1 (.t 24)), zw 20 false 26 (.bin .gtr .no (.t 25) (zc 200)), zv 27 (.pick (.t 20) (.c (.bool true)) (.t 26))]
def qbkp : IC := zr [zv 2 (.mov (zc 0))]
def qboo : IC := zr [zm 11 3, zv 12 (.bin .add .no (.t 11) (zc 1)), zm 3 12]
def qbrj : IC := (.seq (.seq qbry (.cond (.t 10) .skip (.exit 0))) (.seq (.block 1 (.seq qbqe (.cond (.t 27) (.seq qbkp .ret) .skip))) qboo))
def qbim : IC := zr [zv 2 (.mov (zc 1))]
def k0c : IC := (.seq qbrw (.seq (.seq qbkk (.cond (.t 6) (.seq qbl9 .ret) .skip)) (.seq (.seq qbke (.block 0 (.loop qbrj))) (.seq qbim .ret))))
@[go_sem] def s0c : List (RV × Co) := [(.t 2, .id)]
theorem c0c : cFun Tryz.prog 6 = some (28, k0c, s0c) := by kernel_rfl

def qbqg : IC := zr [zv 0 zf]
def qblv : IC := zr [zv 12 (.bld [(.str []), (.str []), (.int .i64 0), .nils] [(0, 1, (.c (.str [67])))]), zv 13 (.bsl 4 [((.t 12), (.agg [.id, .id, .id, (.sl 3)]))]), zv 14 (.bld [(.str []), (.str []), (.int .i64 0), .nils] [(0, 1, (.c (.str [68]))), (1, 1, (.c (.str [84]))), (2, 1, (zc 1)), (3, 1, (.t 13))]), zi 1 (.alo [(.str []), (.str []), (.int .i64 0), .nils]), zn (.st 4 (.agg [.id, .id, .id, (.sl 4)]) (.t 1) (.t 14))]
def qbku : IC := zr [zi 16 (.call (.c (.fn 24 [] [])) [((.c (.str [84, 32, 73, 110, 116])), .id)]), zm 15 16, zv 17 (.ext (.t 15) 0), zv 18 (.ext (.t 15) 1), zi 2 (.alo [(.str []), (.int .i64 0), .nils]), zn (.st 3 (.agg [.id, .id, (.sl 3)]) (.t 2) (.t 17)), zm 3 18]
def qbr1 : IC := zr [zv 20 (.ld true 4 (.t 1)), zv 21 (.bsl 4 [((.t 20), (.agg [.id, .id, .id, (.sl 4)]))]), zv 22 (.ld true 3 (.t 2)), zv 23 (.bld [(.str []), (.str []), (.int .i64 0), .nils] [(0, 1, (.c (.str [68]))), (1, 3, (.t 22))]), zi 24 (.call (.c (.fn 17 [] [])) [((.t 21), (.sl 4)), ((.t 23), (.agg [.id, .id, .id, (.sl 3)]))]), zm 19 24, zv 25 (.ext (.t 19) 0), zv 26 (.ext (.t 19) 1), zv 27 (.ext (.t 19) 2), zm 4 25, zm 5 26, zm 6 27]
def qbn0 : IC := zr [zv 29 (.ld true 4 (.t 1)), zv 30 (.bld [(.str []), (.str []), (.int .i64 0), .nils] [(0, 1, (.c (.str [67]))), (1, 1, (.c (.str [84])))]), zv 31 (.ld true 4 (.t 1)), zv 32 (.bsl 4 [((.t 29), (.agg [.id, .id, .id, (.sl 4)])), ((.t 30), (.agg [.id, .id, .id, (.sl 4)])), ((.t 31), (.agg [.id, .id, .id, (.sl 4)]))]), zi 33 (.call (.c (.fn 8 [] [])) [((.t 32), (.sl 4))]), zm 28 33, zv 34 (.ext (.t 28) 0), zv 35 (.ext (.t 28) 1), zv 36 (.ext (.t 28) 2), zm 7 34, zm 8 35, zm 9 36]
def qbqi : IC := zr [zv 38 (.ld true 4 (.t 1)), zv 39 (.bsl 4 [((.t 38), (.agg [.id, .id, .id, (.sl 4)]))]), zi 40 (.call (.c (.fn 10 [] [])) [((.t 39), (.sl 4)), ((.c (.str [68])), .id), ((.c (.str [84])), .id)]), zm 37 40, zv 41 (.ext (.t 37) 0), zv 42 (.ext (.t 37) 1), zm 10 41, zm 11 42]
def qbq4 : IC := zr [zm 43 4, zv 44 (.bin .eql .no (.t 43) (zc 0)), zm 45 44, zw 45 true 46 (.mov (.t 5)), zw 45 true 47 (.len false (.t 46)), zw 45 true 48 (.bin .eql .no (.t 47) (zc 1)), zv 49 (.pick (.t 45) (.t 48) (.c (.bool false))), zm 50 49, zw 50 true 51 (.mov (.t 5)), zw 50 true 52 (.iad 4 (.t 51) (zc 0)), zw 50 true 53 (.fad (.t 52) 0), zw 50 true 54 (.ld false 1 (.t 53)), zw 50 true 55 (.bin .eql .no (.t 54) (.c (.str [67]))), zv 56 (.pick (.t 50) (.t 55) (.c (.bool false))), zm 57 56, zw 57 true 58 (.mov (.t 5)), zw 57 true 59 (.iad 4 (.t 58) (zc 0)), zw 57 true 60 (.fad (.t 59) 1), zw 57 true 61 (.fad (.t 60) 0), zw 57 true 62 (.ld false 1 (.t 61)), zw 57 true 63 (.bin .eql .no (.t 62) (.c (.str [73, 110, 116]))), zv 64 (.pick (.t 57) (.t 63) (.c (.bool false))), zm 65 64, zw 65 true 66 (.mov (.t 6)), zv 67 (.pick (.t 65) (.t 66) (.c (.bool false))), zm 68 67, zw 68 true 69 (.mov (.t 7)), zw 68 true 70 (.bin .eql .no (.t 69) (zc 0)), zv 71 (.pick (.t 68) (.t 70) (.c (.bool false))), zm 72 71, zw 72 true 73 (.mov (.t 8)), zw 72 true 74 (.bin .eql .no (.t 73) (zc 2)), zv 75 (.pick (.t 72) (.t 74) (.c (.bool false))), zm 76 75, zw 76 true 77 (.mov (.t 9)), zv 78 (.pick (.t 76) (.t 77) (.c (.bool false))), zm 79 78, zw 79 true 80 (.mov (.t 10)), zw 79 true 81 (.bin .eql .no (.t 80) (zc 0)), zv 82 (.pick (.t 79) (.t 81) (.c (.bool false))), zm 83 82, zw 83 true 84 (.mov (.t 11)), zv 85 (.pick (.t 83) (.t 84) (.c (.bool false))), zm 86 85, zw 86 true 87 (.ld true 4 (.t 1)), ⟨some (86, true), some 88, .call (.c (.fn 12 [] [])) [((.t 87), (.agg [.id, .id, .id, (.sl 4)]))]⟩, zw 86 true 89 (.bin .eql .no (.t 88) (zc 0)), zv 90 (.pick (.t 86) (.t 89) (.c (.bool false))), zm 91 90, zw 91 true 92 (.bld [(.str []), (.str []), (.int .i64 0), .nils] []), ⟨some (91, true), some 93, .call (.c (.fn 12 [] [])) [((.t 92), (.agg [.id, .id, .id, (.sl 4)]))]⟩, zw 91 true 94 (.bin .eql .no (.t 93) (zc 10)), zv 95 (.pick (.t 91) (.t 94) (.c (.bool false))), zm 96 95, zw 96 true 97 (.ld true 4 (.t 1)), ⟨some (96, true), some 98, .call (.c (.fn 14 [] [])) [((.t 97), (.agg [.id, .id, .id, (.sl 4)]))]⟩, zw 96 true 99 (.bin .eql .no (.t 98) (.c (.str [105, 110, 115, 116, 97, 110, 99, 101, 32, 67, 32, 97, 32, 61, 62, 32, 68, 32, 40, 84, 32, 97, 41]))), zv 100 (.pick (.t 96) (.t 99) (.c (.bool false))), zm 0 100]
def k0d : IC := (.seq qbqg (.seq qblv (.seq qbku (.seq qbr1 (.seq qbn0 (.seq qbqi (.seq qbq4 .ret)))))))
@[go_sem] def s0d : List (RV × Co) := [(.t 0, .id)]
theorem c0d : cFun Tryz.prog 7 = some (101, k0d, s0d) := by kernel_rfl

def qbly : IC := zr [zv 2 (.mov (zc 0)), zv 3 (.mov (zc 0)), zv 4 zf]
def qboq : IC := zr [zv 5 (.mov (zc 0)), zv 6 (.mov (zc 0)), zv 7 zf]
def qbmw : IC := zr [zm 12 0, zv 13 (.len false (.t 12)), zv 14 (.mov (zc 0))]
def qboz : IC := zr [zv 15 (.bin .lss .no (.t 14) (.t 13))]
def qbky : IC := zr [zm 16 14, zv 17 (.iad 4 (.t 12) (.t 14)), zv 18 (.ld true 4 (.t 17)), zi 9 (.alo [(.str []), (.str []), (.int .i64 0), .nils]), zm 8 16, zn (.st 4 (.agg [.id, .id, .id, (.sl 4)]) (.t 9) (.t 18))]
def qbn7 : IC := zr [zm 19 0, zm 20 8, zv 21 (.slv 4 (.t 19) none (some (.t 20)) none), zv 22 (.len false (.t 21)), zv 23 (.mov (zc 0))]
def qbq9 : IC := zr [zv 24 (.bin .lss .no (.t 23) (.t 22))]
def qbkx : IC := zr [zm 25 23, zv 26 (.iad 4 (.t 21) (.t 23)), zv 27 (.ld true 4 (.t 26)), zi 11 (.alo [(.str []), (.str []), (.int .i64 0), .nils]), zm 10 25, zn (.st 4 (.agg [.id, .id, .id, (.sl 4)]) (.t 11) (.t 27))]
def q5b : IC := zr [zv 28 (.fad (.t 9) 0), zv 29 (.ld false 1 (.t 28)), zv 30 (.fad (.t 11) 0), zv 31 (.ld false 1 (.t 30)), zv 32 (.bin .eql .no (.t 29) (.t 31)), zm 33 32, zw 33 true 34 (.fad (.t 9) 1), zw 33 true 35 (.ld false 1 (.t 34)), zw 33 true 36 (.fad (.t 11) 1), zw 33 true 37 (.ld false 1 (.t 36)), zw 33 true 38 (.bin .eql .no (.t 35) (.t 37)), zv 39 (.pick (.t 33) (.t 38) (.c (.bool false)))]
def q96 : IC := zr [zm 40 10, zm 41 8, zm 5 40, zm 6 41, zv 7 (.mov (.c (.bool true)))]
def qbcl : IC := zr [zv 42 (.bin .add .no (.t 23) (zc 1)), zm 23 42]
def qblz : IC := (.seq qbq9 (.seq (.cond (.t 24) .skip (.exit 2)) (.seq (.block 3 (.seq qbkx (.seq q5b (.cond (.t 39) (.seq q96 (.exit 0)) .skip)))) qbcl)))
def qbfk : IC := zr [zv 43 (.bin .add .no (.t 14) (zc 1)), zm 14 43]
def qbmd : IC := (.seq qboz (.seq (.cond (.t 15) .skip (.exit 0)) (.seq (.block 1 (.seq qbky (.seq qbn7 (.block 2 (.loop qblz))))) qbfk)))
def qbhj : IC := zr [zm 44 5, zm 45 6, zm 46 7, zm 2 44, zm 3 45, zm 4 46]
def k0f : IC := (.seq qbly (.scope (.seq qboq (.seq (.label 0) (.seq (.seq qbmw (.block 0 (.loop qbmd))) (.seq qbhj .ret))))))
@[go_sem] def s0f : List (RV × Co) := [(.t 2, .id), (.t 3, .id), (.t 4, .id)]
theorem c0f : cFun Tryz.prog 8 = some (47, k0f, s0f) := by kernel_rfl

def qbqc : IC := zr [zv 6 (.mov (zc 0)), zv 7 zf]
def qbp8 : IC := zr [zm 10 0, zv 11 (.len false (.t 10)), zv 12 (.mov (zc 0))]
def qbnj : IC := zr [zv 13 (.bin .lss .no (.t 12) (.t 11))]
def qbmn : IC := zr [zm 14 12, zv 15 (.iad 4 (.t 10) (.t 12)), zv 16 (.ld true 4 (.t 15)), zi 9 (.alo [(.str []), (.str []), (.int .i64 0), .nils]), zm 8 14, zn (.st 4 (.agg [.id, .id, .id, (.sl 4)]) (.t 9) (.t 16))]
def qbno : IC := zr [zv 17 (.fad (.t 9) 0), zv 18 (.ld false 1 (.t 17)), zm 19 1, zv 20 (.bin .eql .no (.t 18) (.t 19)), zm 21 20, zw 21 true 22 (.fad (.t 9) 1), zw 21 true 23 (.ld false 1 (.t 22)), zw 21 true 24 (.mov (.t 2)), zw 21 true 25 (.bin .eql .no (.t 23) (.t 24)), zv 26 (.pick (.t 21) (.t 25) (.c (.bool false)))]
def qbqn : IC := zr [zm 27 8, zm 6 27, zv 7 (.mov (.c (.bool true)))]
def qbsh : IC := zr [zv 28 (.bin .add .no (.t 12) (zc 1)), zm 12 28]
def qblx : IC := (.seq qbnj (.seq (.cond (.t 13) .skip (.exit 0)) (.seq (.block 1 (.seq qbmn (.seq qbno (.cond (.t 26) (.seq qbqn .ret) .skip)))) qbsh)))
def qbsc : IC := zr [zv 6 (.mov (zc 0)), zv 7 zf]
def k0i : IC := (.seq qbqc (.seq (.seq qbp8 (.block 0 (.loop qblx))) (.seq qbsc .ret)))
@[go_sem] def s0i : List (RV × Co) := [(.t 6, .id), (.t 7, .id)]
theorem c0i : cFun Tryz.prog 10 = some (29, k0i, s0i) := by kernel_rfl

def qbbx : IC := zr [zv 6 (.mov (zc 0)), zv 7 zf]
def qbf9 : IC := zr [zv 8 (.mov (zc 0))]
def qbah : IC := zr [zm 9 8, zm 10 0, zv 11 (.len false (.t 10)), zv 12 (.bin .lss .no (.t 9) (.t 11))]
def qbar : IC := zr [zm 15 0, zm 16 8, zv 17 (.iad 4 (.t 15) (.t 16)), zv 18 (.fad (.t 17) 0), zv 19 (.ld false 1 (.t 18)), zm 20 1, zv 21 (.bin .eql .no (.t 19) (.t 20)), zm 22 21, zw 22 true 23 (.mov (.t 0)), zw 22 true 24 (.mov (.t 8)), zw 22 true 25 (.iad 4 (.t 23) (.t 24)), zw 22 true 26 (.fad (.t 25) 1), zw 22 true 27 (.ld false 1 (.t 26)), zw 22 true 28 (.mov (.t 2)), zw 22 true 29 (.bin .eql .no (.t 27) (.t 28)), zv 30 (.pick (.t 22) (.t 29) (.c (.bool false)))]
def qbcf : IC := zr [zm 31 8, zm 6 31, zv 7 (.mov (.c (.bool true)))]
def q7k : IC := zr [zm 13 8, zv 14 (.bin .add .no (.t 13) (zc 1)), zm 8 14]
def qbdk : IC := (.seq (.seq qbah (.cond (.t 12) .skip (.exit 0))) (.seq (.block 1 (.seq qbar (.cond (.t 30) (.seq qbcf .ret) .skip))) q7k))
def qbgd : IC := zr [zv 6 (.mov (zc 0)), zv 7 zf]
def k0de : IC := (.seq qbbx (.seq (.seq qbf9 (.block 0 (.loop qbdk))) (.seq qbgd .ret)))
@[go_sem] def s0de : List (RV × Co) := [(.t 6, .id), (.t 7, .id)]
theorem c0de : cFun Tryz.prog 11 = some (32, k0de, s0de) := by kernel_rfl

def qbkv : IC := zr [zi 1 (.box (.t 0)), zv 2 (.mov (zc 0))]
def qbsi : IC := zr [zv 6 (.fad (.t 1) 0), zv 7 (.ld false 1 (.t 6)), zi 8 (.call (.c (.fn 25 [] [])) [((.t 7), .id)]), zm 9 8, zw 9 true 10 (.fad (.t 1) 1), zw 9 true 11 (.ld false 1 (.t 10)), ⟨some (9, true), some 12, .call (.c (.fn 25 [] [])) [((.t 11), .id)]⟩, zw 9 true 13 (.mov (.t 12)), zw 13 false 14 (.fad (.t 1) 1), zw 13 false 15 (.ld false 1 (.t 14)), zw 13 false 16 (.bin .eql .no (.t 15) (.c (.str [45, 62]))), zw 13 false 17 (.mov (.t 16)), zw 17 true 18 (.fad (.t 1) 2), zw 17 true 19 (.ld false 1 (.t 18)), zw 17 true 20 (.bin .eql .no (.t 19) (zc 2)), zw 13 false 21 (.pick (.t 17) (.t 20) (.c (.bool false))), zw 9 true 22 (.pick (.t 13) (.c (.bool true)) (.t 21)), zv 23 (.pick (.t 9) (.t 22) (.c (.bool false))), zm 24 23, zw 24 true 25 (.fad (.t 1) 2), zw 24 true 26 (.ld false 1 (.t 25)), zw 24 true 27 (.bin .geq .no (.t 26) (zc 0)), zv 28 (.pick (.t 24) (.t 27) (.c (.bool false))), zm 29 28, zw 29 true 30 (.fad (.t 1) 2), zw 29 true 31 (.ld false 1 (.t 30)), zw 29 true 32 (.bin .leq .no (.t 31) (zc 100)), zv 33 (.pick (.t 29) (.t 32) (.c (.bool false))), zm 3 33]
def qbrd : IC := zr [zv 34 (.fad (.t 1) 3), zv 35 (.ld false 1 (.t 34)), zv 36 (.len false (.t 35)), zv 37 (.mov (zc 0))]
def qbsz : IC := zr [zv 38 (.bin .lss .no (.t 37) (.t 36))]
def qbqu : IC := zr [zv 39 (.iad 4 (.t 35) (.t 37)), zv 40 (.ld true 4 (.t 39)), zi 5 (.alo [(.str []), (.str []), (.int .i64 0), .nils]), zn (.st 4 (.agg [.id, .id, .id, (.sl 3)]) (.t 5) (.t 40))]
def qbpd : IC := zr [zm 41 3, zm 42 41, zw 42 true 43 (.ld true 4 (.t 5)), zw 42 true 44 (.fad (.t 1) 2), zw 42 true 45 (.ld false 1 (.t 44)), ⟨some (42, true), some 46, .call (.c (.fn 26 [] [])) [((.t 43), (.agg [.id, .id, .id, (.sl 3)])), ((.t 45), .id)]⟩, zv 47 (.pick (.t 42) (.t 46) (.c (.bool false))), zm 3 47]
def qbl5 : IC := zr [zv 48 (.bin .add .no (.t 37) (zc 1)), zm 37 48]
def qbnm : IC := (.seq qbsz (.seq (.cond (.t 38) .skip (.exit 0)) (.seq (.block 1 (.seq qbqu qbpd)) qbl5)))
def qbki : IC := zr [zm 49 3, zv 50 (.un .not (.t 49))]
def qbdm : IC := zr [zv 2 (.mov (zc 10))]
def qbc8 : IC := zr [zv 2 (.mov (zc 0))]
def k0e : IC := (.seq qbkv (.seq qbsi (.seq (.seq qbrd (.block 0 (.loop qbnm))) (.seq (.seq qbki (.cond (.t 50) (.seq qbdm .ret) .skip)) (.seq qbc8 .ret)))))
@[go_sem] def s0e : List (RV × Co) := [(.t 2, .id)]
theorem c0e : cFun Tryz.prog 12 = some (51, k0e, s0e) := by kernel_rfl

def q75 : IC := zr [zi 1 (.box (.t 0)), zv 2 (.mov (zc 0))]
def qbds : IC := zr [zv 5 (.fad (.t 1) 0), zv 6 (.ld false 1 (.t 5)), zi 7 (.call (.c (.fn 27 [] [])) [((.t 6), .id)]), zv 8 (.un .not (.t 7)), zm 9 8, zw 9 false 10 (.fad (.t 1) 1), zw 9 false 11 (.ld false 1 (.t 10)), ⟨some (9, false), some 12, .call (.c (.fn 27 [] [])) [((.t 11), .id)]⟩, zw 9 false 13 (.mov (.t 12)), zw 13 false 14 (.fad (.t 1) 1), zw 13 false 15 (.ld false 1 (.t 14)), zw 13 false 16 (.bin .eql .no (.t 15) (.c (.str [45, 62]))), zw 13 false 17 (.mov (.t 16)), zw 17 true 18 (.fad (.t 1) 2), zw 17 true 19 (.ld false 1 (.t 18)), zw 17 true 20 (.bin .eql .no (.t 19) (zc 2)), zw 13 false 21 (.pick (.t 17) (.t 20) (.c (.bool false))), zw 9 false 22 (.pick (.t 13) (.c (.bool true)) (.t 21)), zw 9 false 23 (.un .not (.t 22)), zv 24 (.pick (.t 9) (.c (.bool true)) (.t 23)), zm 25 24, zw 25 false 26 (.fad (.t 1) 2), zw 25 false 27 (.ld false 1 (.t 26)), zw 25 false 28 (.bin .lss .no (.t 27) (zc 0)), zv 29 (.pick (.t 25) (.c (.bool true)) (.t 28)), zm 30 29, zw 30 false 31 (.fad (.t 1) 2), zw 30 false 32 (.ld false 1 (.t 31)), zw 30 false 33 (.bin .gtr .no (.t 32) (zc 100)), zv 34 (.pick (.t 30) (.c (.bool true)) (.t 33))]
def q7o : IC := zr [zv 2 (.mov (zc 10))]
def q9r : IC := zr [zv 3 (.mov (zc 0))]
def qbfv : IC := zr [zm 35 3, zv 36 (.fad (.t 1) 3), zv 37 (.ld false 1 (.t 36)), zv 38 (.len false (.t 37)), zv 39 (.bin .lss .no (.t 35) (.t 38))]
def q85 : IC := zr [zv 42 (.fad (.t 1) 3), zv 43 (.ld false 1 (.t 42)), zm 44 3, zv 45 (.iad 4 (.t 43) (.t 44)), zv 46 (.fad (.t 45) 1), zv 47 (.ld true 3 (.t 46)), zi 4 (.alo [(.str []), (.int .i64 0), .nils]), zn (.st 3 (.agg [.id, .id, (.sl 3)]) (.t 4) (.t 47))]
def qbe9 : IC := zr [zv 48 (.fad (.t 1) 3), zv 49 (.ld false 1 (.t 48)), zm 50 3, zv 51 (.iad 4 (.t 49) (.t 50)), zv 52 (.fad (.t 51) 0), zv 53 (.ld false 1 (.t 52)), zi 54 (.call (.c (.fn 27 [] [])) [((.t 53), .id)]), zv 55 (.un .not (.t 54)), zm 56 55, zw 56 false 57 (.fad (.t 4) 0), zw 56 false 58 (.ld false 1 (.t 57)), zw 56 false 59 (.bin .neq .no (.t 58) (.c (.str []))), zv 60 (.pick (.t 56) (.c (.bool true)) (.t 59)), zm 61 60, zw 61 false 62 (.fad (.t 4) 2), zw 61 false 63 (.ld false 1 (.t 62)), zw 61 false 64 (.len false (.t 63)), zw 61 false 65 (.bin .gtr .no (.t 64) (zc 0)), zv 66 (.pick (.t 61) (.c (.bool true)) (.t 65)), zm 67 66, zw 67 false 68 (.fad (.t 4) 1), zw 67 false 69 (.ld false 1 (.t 68)), zw 67 false 70 (.bin .lss .no (.t 69) (zc 0)), zv 71 (.pick (.t 67) (.c (.bool true)) (.t 70)), zm 72 71, zw 72 false 73 (.fad (.t 4) 1), zw 72 false 74 (.ld false 1 (.t 73)), zw 72 false 75 (.fad (.t 1) 2), zw 72 false 76 (.ld false 1 (.t 75)), zw 72 false 77 (.bin .geq .no (.t 74) (.t 76)), zv 78 (.pick (.t 72) (.c (.bool true)) (.t 77))]
def q7e : IC := zr [zv 2 (.mov (zc 10))]
def q7v : IC := zr [zm 40 3, zv 41 (.bin .add .no (.t 40) (zc 1)), zm 3 41]
def q7t : IC := (.seq (.seq qbfv (.cond (.t 39) .skip (.exit 0))) (.seq (.block 1 (.seq q85 (.seq qbe9 (.cond (.t 78) (.seq q7e .ret) .skip)))) q7v))
def q04 : IC := zr [zv 2 (.mov (zc 0))]
def k0dd : IC := (.seq q75 (.seq (.seq qbds (.cond (.t 34) (.seq q7o .ret) .skip)) (.seq (.seq q9r (.block 0 (.loop q7t))) (.seq q04 .ret))))
@[go_sem] def s0dd : List (RV × Co) := [(.t 2, .id)]
theorem c0dd : cFun Tryz.prog 13 = some (79, k0dd, s0dd) := by kernel_rfl

def qbr2 : IC := zr [zi 1 (.box (.t 0)), zv 2 (.mov (.c (.str [])))]
def qbla : IC := zr [zv 6 (.ld true 4 (.t 1)), zi 7 (.call (.c (.fn 12 [] [])) [((.t 6), (.agg [.id, .id, .id, (.sl 4)]))]), zv 8 (.bin .neq .no (.t 7) (zc 0))]
def qbkz : IC := zr [zv 2 (.mov (.c (.str [])))]
def qbr4 : IC := zr [zv 9 (.fad (.t 1) 1), zv 10 (.ld false 1 (.t 9)), zv 11 (.bld [(.str []), (.int .i64 0), .nils] [(0, 1, (.t 10))]), zi 3 (.alo [(.str []), (.int .i64 0), .nils]), zn (.st 3 (.agg [.id, .id, (.sl 3)]) (.t 3) (.t 11))]
def qbre : IC := zr [zv 12 (.fad (.t 1) 2), zv 13 (.ld false 1 (.t 12)), zv 14 (.mov (zc 0))]
def qbn5 : IC := zr [zv 15 (.bin .lss .no (.t 14) (.t 13))]
def qbod : IC := zr [zm 16 14, zm 4 16]
def qbqh : IC := zr [zv 17 (.fad (.t 3) 2), zv 18 (.ld false 1 (.t 17)), zm 19 4, zv 20 (.bld [(.str []), (.int .i64 0), .nils] [(1, 1, (.t 19))]), zv 21 (.bsl 3 [((.t 20), (.agg [.id, .id, (.sl 3)]))]), zi 22 (.app 3 (.agg [(.str []), (.int .i64 0), .nils]) 48 (.sl 3) (.t 18) (.t 21)), zv 23 (.fad (.t 3) 2), zn (.st 1 (.sl 3) (.t 23) (.t 22))]
def qbkn : IC := zr [zv 24 (.bin .add .no (.t 14) (zc 1)), zm 14 24]
def qbrt : IC := (.seq qbn5 (.seq (.cond (.t 15) .skip (.exit 0)) (.seq (.block 1 (.seq qbod qbqh)) qbkn)))
def qbcv : IC := zr [zv 25 (.ld true 3 (.t 3)), zi 26 (.call (.c (.fn 28 [] [])) [((.t 25), (.agg [.id, .id, (.sl 3)]))]), zm 5 26]
def q46 : IC := zr [zv 27 (.fad (.t 1) 2), zv 28 (.ld false 1 (.t 27)), zv 29 (.bin .gtr .no (.t 28) (zc 0))]
def q9h : IC := zr [zm 30 5, zv 31 (.bin .add .no (.c (.str [40])) (.t 30)), zv 32 (.bin .add .no (.t 31) (.c (.str [41]))), zm 5 32]
def qbfo : IC := zr [zv 33 (.fad (.t 1) 0), zv 34 (.ld false 1 (.t 33)), zv 35 (.bin .add .no (.t 34) (.c (.str [32]))), zm 36 5, zv 37 (.bin .add .no (.t 35) (.t 36)), zm 5 37]
def qbcq : IC := zr [zv 38 (.fad (.t 1) 3), zv 39 (.ld false 1 (.t 38)), zv 40 (.len false (.t 39)), zv 41 (.bin .gtr .no (.t 40) (zc 0))]
def q44 : IC := zr [zv 42 (.fad (.t 1) 3), zv 43 (.ld false 1 (.t 42)), zi 44 (.call (.c (.fn 29 [] [])) [((.t 43), (.sl 4))]), zv 45 (.bin .add .no (.t 44) (.c (.str [32, 61, 62, 32]))), zm 46 5, zv 47 (.bin .add .no (.t 45) (.t 46)), zm 5 47]
def q8i : IC := zr [zm 48 5, zv 49 (.bin .add .no (.c (.str [105, 110, 115, 116, 97, 110, 99, 101, 32])) (.t 48)), zm 2 49]
def k0g : IC := (.seq qbr2 (.seq (.seq qbla (.cond (.t 8) (.seq qbkz .ret) .skip)) (.seq qbr4 (.seq (.seq qbre (.block 0 (.loop qbrt))) (.seq qbcv (.seq (.seq q46 (.cond (.t 29) q9h .skip)) (.seq qbfo (.seq (.seq qbcq (.cond (.t 41) q44 .skip)) (.seq q8i .ret)))))))))
@[go_sem] def s0g : List (RV × Co) := [(.t 2, .id)]
theorem c0g : cFun Tryz.prog 14 = some (50, k0g, s0g) := by kernel_rfl

def qbj4 : IC := zr [zv 2 (.mov (zc 0))]
def qbdw : IC := zr [zm 5 0, zv 6 (.len false (.t 5)), zv 7 (.bin .gtr .no (.t 6) (zc 30))]
def qbgc : IC := zr [zv 2 (.mov (zc 0))]
def qbbt : IC := zr [zv 3 (.mov (.c .nils))]
def qbg3 : IC := zr [zv 4 (.mov (zc 0))]
def q7h : IC := zr [zm 8 4, zm 9 0, zv 10 (.len false (.t 9)), zv 11 (.bin .lss .no (.t 8) (.t 10))]
def q9y : IC := zr [zm 14 3, zm 15 0, zm 16 4, zv 17 (.iad 4 (.t 15) (.t 16)), zv 18 (.fad (.t 17) 1), zv 19 (.ld true 3 (.t 18)), zv 20 (.bsl 3 [((.t 19), (.agg [.id, .id, (.sl 3)]))]), zi 21 (.app 3 (.agg [(.str []), (.int .i64 0), .nils]) 48 (.sl 3) (.t 14) (.t 20)), zm 3 21]
def qbgp : IC := zr [zm 12 4, zv 13 (.bin .add .no (.t 12) (zc 1)), zm 4 13]
def qbiw : IC := (.seq (.seq q7h (.cond (.t 11) .skip (.exit 0))) (.seq (.block 1 q9y) qbgp))
def q1i : IC := zr [zm 22 3, zi 23 (.call (.c (.fn 32 [] [])) [((.t 22), (.sl 3))]), zm 2 23]
def k0co : IC := (.seq qbj4 (.seq (.seq qbdw (.cond (.t 7) (.seq qbgc .ret) .skip)) (.seq qbbt (.seq (.seq qbg3 (.block 0 (.loop qbiw))) (.seq q1i .ret)))))
@[go_sem] def s0co : List (RV × Co) := [(.t 2, .id)]
theorem c0co : cFun Tryz.prog 16 = some (24, k0co, s0co) := by kernel_rfl

def qbqp : IC := zr [zi 3 (.box (.t 1)), zv 4 (.mov (zc 0)), zv 5 (.mov (.c .nils)), zv 6 zf]
def qbsl : IC := zr [zm 15 0, zv 16 (.fad (.t 3) 0), zv 17 (.ld false 1 (.t 16)), zv 18 (.fad (.t 3) 1), zv 19 (.fad (.t 18) 0), zv 20 (.ld false 1 (.t 19)), zi 21 (.call (.c (.fn 10 [] [])) [((.t 15), (.sl 4)), ((.t 17), .id), ((.t 20), .id)]), zm 14 21, zv 22 (.ext (.t 14) 0), zv 23 (.ext (.t 14) 1), zm 7 22, zm 8 23]
def qbpi : IC := .drw [zp (zm 24 8), zp (zv 25 (.un .not (.t 24))), zp (zm 26 25), zp (zw 26 false 27 (.fad (.t 3) 1)), zp (zw 26 false 28 (.fad (.t 27) 0)), zp (zw 26 false 29 (.ld false 1 (.t 28))), (zw 26 false 30 (.bin .eql .no (.t 29) (.c (.str []))), []), zp (zv 31 (.pick (.t 26) (.c (.bool true)) (.t 30))), zp (zm 32 31), zp (zw 32 false 33 (.mov (.t 0))), zp (zw 32 false 34 (.mov (.t 7))), zp (zw 32 false 35 (.iad 4 (.t 33) (.t 34))), zp (zw 32 false 36 (.fad (.t 35) 2)), zp (zw 32 false 37 (.ld false 1 (.t 36))), zp (zw 32 false 38 (.fad (.t 3) 1)), zp (zw 32 false 39 (.fad (.t 38) 2)), zp (zw 32 false 40 (.ld false 1 (.t 39))), zp (zw 32 false 41 (.len false (.t 40))), zp (zw 32 false 42 (.bin .neq .no (.t 37) (.t 41))), zp (zv 43 (.pick (.t 32) (.c (.bool true)) (.t 42)))]
def qbpy : IC := zr [zv 4 (.mov (zc 0)), zv 5 (.mov (.c .nils)), zv 6 zf]
def qbqr : IC := zr [zi 44 (.call (.c (.fn 33 [] [])) [((.c .nils), (.sl 4))]), zm 9 44]
def qbso : IC := zr [zv 45 (.fad (.t 3) 1), zv 46 (.fad (.t 45) 2), zv 47 (.ld false 1 (.t 46)), zv 48 (.len false (.t 47)), zv 49 (.mov (zc 0))]
def qbox : IC := zr [zv 50 (.bin .lss .no (.t 49) (.t 48))]
def qbov : IC := zr [zm 51 49, zv 52 (.iad 3 (.t 47) (.t 49)), zv 53 (.ld true 3 (.t 52)), zi 11 (.alo [(.str []), (.int .i64 0), .nils]), zm 10 51, zn (.st 3 (.agg [.id, .id, (.sl 3)]) (.t 11) (.t 53))]
def qbmr : IC := zr [zm 54 9, zm 55 10, zv 56 (.ld true 3 (.t 11)), zi 57 (.call (.c (.fn 34 [] [])) [((.t 54), .id), ((.t 55), .id), ((.t 56), (.agg [.id, .id, (.sl 3)]))])]
def qbdf : IC := zr [zv 58 (.bin .add .no (.t 49) (zc 1)), zm 49 58]
def qbk7 : IC := (.seq qbox (.seq (.cond (.t 50) .skip (.exit 0)) (.seq (.block 1 (.seq qbov qbmr)) qbdf)))
def q5j : IC := zr [zm 60 9, zm 61 0, zm 62 7, zv 63 (.iad 4 (.t 61) (.t 62)), zv 64 (.fad (.t 63) 3), zv 65 (.ld false 1 (.t 64)), zi 66 (.call (.c (.fn 35 [] [])) [((.t 60), .id), ((.t 65), (.sl 4))]), zm 59 66, zv 67 (.ext (.t 59) 0), zv 68 (.ext (.t 59) 1), zm 12 67, zm 13 68]
def q53 : IC := zr [zm 69 7, zm 70 12, zm 4 69, zm 5 70, zv 6 (.mov (.c (.bool true)))]
def k0j : IC := (.seq qbqp (.seq qbsl (.seq (.seq qbpi (.cond (.t 43) (.seq qbpy .ret) .skip)) (.seq qbqr (.seq (.seq qbso (.block 0 (.loop qbk7))) (.seq q5j (.seq q53 .ret)))))))
@[go_sem] def s0j : List (RV × Co) := [(.t 4, .id), (.t 5, (.sl 4)), (.t 6, .id)]
theorem c0j : cFun Tryz.prog 17 = some (71, k0j, s0j) := by kernel_rfl

def qbdo : IC := zr [zi 3 (.box (.t 1)), zv 4 (.mov (zc 0)), zv 5 (.mov (.c .nils)), zv 6 zf]
def qbip : IC := zr [zv 9 (.fad (.t 3) 1), zv 10 (.fad (.t 9) 0), zv 11 (.ld false 1 (.t 10)), zv 12 (.bin .eql .no (.t 11) (.c (.str [])))]
def qbfa : IC := zr [zv 4 (.mov (zc 0)), zv 5 (.mov (.c .nils)), zv 6 zf]
def qbcx : IC := zr [zm 14 0, zv 15 (.fad (.t 3) 0), zv 16 (.ld false 1 (.t 15)), zv 17 (.fad (.t 3) 1), zv 18 (.fad (.t 17) 0), zv 19 (.ld false 1 (.t 18)), zi 20 (.call (.c (.fn 11 [] [])) [((.t 14), (.sl 4)), ((.t 16), .id), ((.t 19), .id)]), zm 13 20, zv 21 (.ext (.t 13) 0), zv 22 (.ext (.t 13) 1), zm 7 21, zm 8 22]
def qbiy : IC := .drw [zp (zm 23 8), zp (zv 24 (.un .not (.t 23))), zp (zm 25 24), zp (zw 25 false 26 (.mov (.t 0))), zp (zw 25 false 27 (.mov (.t 7))), zp (zw 25 false 28 (.iad 4 (.t 26) (.t 27))), zp (zw 25 false 29 (.fad (.t 28) 2)), zp (zw 25 false 30 (.ld false 1 (.t 29))), zp (zw 25 false 31 (.fad (.t 3) 1)), zp (zw 25 false 32 (.fad (.t 31) 2)), zp (zw 25 false 33 (.ld false 1 (.t 32))), zp (zw 25 false 34 (.len false (.t 33))), zp (zw 25 false 35 (.bin .neq .no (.t 30) (.t 34))), zp (zv 36 (.pick (.t 25) (.c (.bool true)) (.t 35)))]
def q8s : IC := zr [zv 4 (.mov (zc 0)), zv 5 (.mov (.c .nils)), zv 6 zf]
def qbdh : IC := .drw [zp (zm 37 7), zp (zm 38 0), zp (zm 39 7), zp (zv 40 (.iad 4 (.t 38) (.t 39))), zp (zv 41 (.ld true 4 (.t 40))), zp (zv 42 (.fad (.t 3) 1)), zp (zv 43 (.fad (.t 42) 2)), zp (zv 44 (.ld false 1 (.t 43))), (zi 45 (.call (.c (.fn 36 [] [])) [((.t 41), (.agg [.id, .id, .id, (.sl 4)])), ((.t 44), (.sl 3))]), []), zp (zm 4 37), zp (zm 5 45), zp (zv 6 (.mov (.c (.bool true))))]
def k0dg : IC := (.seq qbdo (.seq (.seq qbip (.cond (.t 12) (.seq qbfa .ret) .skip)) (.seq qbcx (.seq (.seq qbiy (.cond (.t 36) (.seq q8s .ret) .skip)) (.seq qbdh .ret)))))
@[go_sem] def s0dg : List (RV × Co) := [(.t 4, .id), (.t 5, (.sl 4)), (.t 6, .id)]
theorem c0dg : cFun Tryz.prog 18 = some (46, k0dg, s0dg) := by kernel_rfl

def qbel : IC := zr [zv 4 zf]
def q7g : IC := zr [zm 6 0, zv 7 (.len false (.t 6)), zm 8 1, zv 9 (.len false (.t 8)), zv 10 (.bin .neq .no (.t 7) (.t 9))]
def qbil : IC := zr [zv 4 zf]
def q45 : IC := zr [zv 5 (.mov (zc 0))]
def q9l : IC := zr [zm 11 5, zm 12 0, zv 13 (.len false (.t 12)), zv 14 (.bin .lss .no (.t 11) (.t 13))]
def qbgj : IC := .drw [zp (zm 17 0), zp (zm 18 5), zp (zv 19 (.iad 4 (.t 17) (.t 18))), zp (zv 20 (.ld true 4 (.t 19))), zp (zm 21 1), zp (zm 22 5), zp (zv 23 (.iad 4 (.t 21) (.t 22))), zp (zv 24 (.ld true 4 (.t 23))), (zi 25 (.call (.c (.fn 37 [] [])) [((.t 20), (.agg [.id, .id, .id, (.sl 3)])), ((.t 24), (.agg [.id, .id, .id, (.sl 3)]))]), []), zp (zv 26 (.un .not (.t 25)))]
def qbjo : IC := zr [zv 4 zf]
def qbd1 : IC := zr [zm 15 5, zv 16 (.bin .add .no (.t 15) (zc 1)), zm 5 16]
def q9t : IC := (.seq (.seq q9l (.cond (.t 14) .skip (.exit 0))) (.seq (.block 1 (.seq qbgj (.cond (.t 26) (.seq qbjo .ret) .skip))) qbd1))
def q2k : IC := zr [zv 4 (.mov (.c (.bool true)))]
def k0cm : IC := (.seq qbel (.seq (.seq q7g (.cond (.t 10) (.seq qbil .ret) .skip)) (.seq (.seq q45 (.block 0 (.loop q9t))) (.seq q2k .ret))))
@[go_sem] def s0cm : List (RV × Co) := [(.t 4, .id)]
theorem c0cm : cFun Tryz.prog 19 = some (27, k0cm, s0cm) := by kernel_rfl

def qbaj : IC := zr [zi 1 (.box (.t 0)), zv 2 zf]
def qbcc : IC := zr [zv 3 (.ld true 3 (.t 1)), zi 4 (.call (.c (.fn 23 [] [])) [((.t 3), (.agg [.id, .id, (.sl 3)]))]), zv 5 (.bin .leq .no (.t 4) (zc 4096)), zm 6 5, zw 6 true 7 (.ld true 3 (.t 1)), ⟨some (6, true), some 8, .call (.c (.fn 38 [] [])) [((.t 7), (.agg [.id, .id, (.sl 3)]))]⟩, zw 6 true 9 (.bin .leq .no (.t 8) (zc 100)), zv 10 (.pick (.t 6) (.t 9) (.c (.bool false))), zm 11 10, zw 11 true 12 (.ld true 3 (.t 1)), ⟨some (11, true), some 13, .call (.c (.fn 39 [] [])) [((.t 12), (.agg [.id, .id, (.sl 3)]))]⟩, zv 14 (.pick (.t 11) (.t 13) (.c (.bool false))), zm 2 14]
def k0bm : IC := (.seq qbaj (.seq qbcc .ret))
@[go_sem] def s0bm : List (RV × Co) := [(.t 2, .id)]
theorem c0bm : cFun Tryz.prog 20 = some (15, k0bm, s0bm) := by kernel_rfl

def q5u : IC := zr [zi 2 (.box (.t 0)), zi 3 (.box (.t 1)), zv 4 zf]
def qbdt : IC := zr [zv 8 (.ld true 3 (.t 2)), zv 9 (.ld true 3 (.t 3)), zi 10 (.call (.c (.fn 40 [] [])) [((.t 8), (.agg [.id, .id, (.sl 3)])), ((.t 9), (.agg [.id, .id, (.sl 3)]))]), zm 7 10, zv 11 (.ext (.t 7) 0), zv 12 (.ext (.t 7) 1), zm 5 11, zm 6 12]
def qbjk : IC := zr [zm 13 6, zv 14 (.bin .eql .no (.t 13) (zc 0)), zm 4 14]
def k0dl : IC := (.seq q5u (.seq qbdt (.seq qbjk .ret)))
@[go_sem] def s0dl : List (RV × Co) := [(.t 4, .id)]
theorem c0dl : cFun Tryz.prog 21 = some (15, k0dl, s0dl) := by kernel_rfl

def qbge : IC := zr [zi 1 (.box (.t 0)), zi 2 (.alo [(.str []), (.int .i64 0), .nils])]
def qbgg : IC := zr [zv 5 (.fad (.t 1) 1), zv 6 (.ld false 1 (.t 5)), zv 7 (.bld [(.str []), (.int .i64 0), .nils] [(0, 1, (.t 6))]), zi 3 (.alo [(.str []), (.int .i64 0), .nils]), zn (.st 3 (.agg [.id, .id, (.sl 3)]) (.t 3) (.t 7))]
def qbck : IC := zr [zv 4 (.mov (zc 0))]
def qbbr : IC := zr [zm 8 4, zv 9 (.fad (.t 1) 2), zv 10 (.ld false 1 (.t 9)), zv 11 (.bin .lss .no (.t 8) (.t 10))]
def q8c : IC := .drw [zp (zv 14 (.fad (.t 3) 2)), zp (zv 15 (.ld false 1 (.t 14))), zp (zm 16 4), (zi 17 (.call (.c (.fn 41 [] [])) [((.t 16), .id)]), [1]), (zv 18 (.bsl 3 [((.t 17), (.agg [.id, .id, (.sl 3)]))]), []), (zi 19 (.app 3 (.agg [(.str []), (.int .i64 0), .nils]) 48 (.sl 3) (.t 15) (.t 18)), []), zp (zv 20 (.fad (.t 3) 2)), (zn (.st 1 (.sl 3) (.t 20) (.t 19)), [])]
def qbcn : IC := zr [zm 12 4, zv 13 (.bin .add .no (.t 12) (zc 1)), zm 4 13]
def q99 : IC := (.seq (.seq qbbr (.cond (.t 11) .skip (.exit 0))) (.seq (.block 1 q8c) qbcn))
def qbgx : IC := zr [zv 21 (.ld true 3 (.t 3)), zn (.st 3 (.agg [.id, .id, (.sl 3)]) (.t 2) (.t 21))]
def k0di : IC := (.seq qbge (.seq qbgg (.seq (.seq qbck (.block 0 (.loop q99))) (.seq qbgx .ret))))
@[go_sem] def s0di : List (RV × Co) := [(.c true 3 2, (.agg [.id, .id, (.sl 3)]))]
theorem c0di : cFun Tryz.prog 22 = some (22, k0di, s0di) := by kernel_rfl

def qbef : IC := zr [zi 1 (.box (.t 0)), zv 2 (.mov (zc 0))]
def q6w : IC := zr [zv 3 (.mov (zc 1))]
def q6v : IC := zr [zv 4 (.mov (zc 0))]
def q5l : IC := zr [zm 5 4, zv 6 (.fad (.t 1) 2), zv 7 (.ld false 1 (.t 6)), zv 8 (.len false (.t 7)), zv 9 (.bin .lss .no (.t 5) (.t 8))]
def qbem : IC := zr [zm 12 3, zv 13 (.fad (.t 1) 2), zv 14 (.ld false 1 (.t 13)), zm 15 4, zv 16 (.iad 3 (.t 14) (.t 15)), zv 17 (.ld true 3 (.t 16)), zi 18 (.call (.c (.fn 23 [] [])) [((.t 17), (.agg [.id, .id, (.sl 3)]))]), zv 19 (.bin .add .no (.t 12) (.t 18)), zm 3 19]
def qbgk : IC := zr [zm 10 4, zv 11 (.bin .add .no (.t 10) (zc 1)), zm 4 11]
def qbcs : IC := (.seq (.seq q5l (.cond (.t 9) .skip (.exit 0))) (.seq (.block 1 qbem) qbgk))
def qbfi : IC := zr [zm 20 3, zm 2 20]
def k0bh : IC := (.seq qbef (.seq q6w (.seq (.seq q6v (.block 0 (.loop qbcs))) (.seq qbfi .ret))))
@[go_sem] def s0bh : List (RV × Co) := [(.t 2, .id)]
theorem c0bh : cFun Tryz.prog 23 = some (21, k0bh, s0bh) := by kernel_rfl

def qbhd : IC := zr [zi 2 (.alo [(.str []), (.int .i64 0), .nils]), zv 3 (.mov (zc 0))]
def qbej : IC := zr [zm 6 0, zv 7 (.bld [(.str []), (.int .i64 0), (.bool false)] [(0, 1, (.t 6))]), zi 8 (.box (.t 7)), zm 4 8]
def qbed : IC := zr [zm 9 4, zi 10 (.call (.c (.fn 42 [] [])) [((.t 9), .id)]), zi 5 (.alo [(.str []), (.int .i64 0), .nils]), zn (.st 3 (.agg [.id, .id, (.sl 3)]) (.t 5) (.t 10))]
def q60 : IC := zr [zm 11 4, zv 12 (.nck (.t 11)), zv 13 (.fad (.t 12) 2), zv 14 (.ld false 1 (.t 13)), zm 15 14, zw 15 false 16 (.mov (.t 4)), zw 15 false 17 (.nck (.t 16)), zw 15 false 18 (.fad (.t 17) 0), zw 15 false 19 (.ld false 1 (.t 18)), zw 15 false 20 (.bin .neq .no (.t 19) (.c (.str []))), zv 21 (.pick (.t 15) (.c (.bool true)) (.t 20)), zm 22 21, zw 22 false 23 (.ld true 3 (.t 5)), ⟨some (22, false), some 24, .call (.c (.fn 28 [] [])) [((.t 23), (.agg [.id, .id, (.sl 3)]))]⟩, zw 22 false 25 (.mov (.t 0)), zw 22 false 26 (.bin .neq .no (.t 24) (.t 25)), zv 27 (.pick (.t 22) (.c (.bool true)) (.t 26))]
def qbha : IC := zr [zv 28 (.bld [(.str []), (.int .i64 0), .nils] []), zn (.st 3 (.agg [.id, .id, (.sl 3)]) (.t 2) (.t 28)), zv 3 (.mov (zc 5))]
def qbij : IC := zr [zv 29 (.ld true 3 (.t 5)), zn (.st 3 (.agg [.id, .id, (.sl 3)]) (.t 2) (.t 29)), zv 3 (.mov (zc 0))]
def k0cw : IC := (.seq qbhd (.seq qbej (.seq qbed (.seq (.seq q60 (.cond (.t 27) (.seq qbha .ret) .skip)) (.seq qbij .ret)))))
@[go_sem] def s0cw : List (RV × Co) := [(.c true 3 2, (.agg [.id, .id, (.sl 3)])), (.t 3, .id)]
theorem c0cw : cFun Tryz.prog 24 = some (30, k0cw, s0cw) := by kernel_rfl

def q59 : IC := zr [zv 2 zf]
def qbj2 : IC := zr [zm 3 0, zv 4 (.bin .neq .no (.t 3) (.c (.str []))), zm 5 4, zw 5 true 6 (.mov (.t 0)), zw 5 true 7 (.idx (.t 6) (zc 0)), ⟨some (5, true), some 8, .call (.c (.fn 43 [] [])) [((.t 7), .id)]⟩, zv 9 (.pick (.t 5) (.t 8) (.c (.bool false))), zm 10 9, zw 10 true 11 (.mov (.t 0)), ⟨some (10, true), some 12, .call (.c (.fn 44 [] [])) [((.t 11), .id)]⟩, zv 13 (.pick (.t 10) (.t 12) (.c (.bool false))), zm 2 13]
def k0cg : IC := (.seq q59 (.seq qbj2 .ret))
@[go_sem] def s0cg : List (RV × Co) := [(.t 2, .id)]
theorem c0cg : cFun Tryz.prog 25 = some (14, k0cg, s0cg) := by kernel_rfl

def qbmx : IC := zr [zi 2 (.box (.t 0)), zv 4 zf]
def qblq : IC := zr [zv 6 (.fad (.t 2) 1), zv 7 (.ld true 3 (.t 6)), zi 5 (.alo [(.str []), (.int .i64 0), .nils]), zn (.st 3 (.agg [.id, .id, (.sl 3)]) (.t 5) (.t 7))]
def qbnk : IC := zr [zv 8 (.fad (.t 2) 0), zv 9 (.ld false 1 (.t 8)), zi 10 (.call (.c (.fn 25 [] [])) [((.t 9), .id)]), zm 11 10, zw 11 true 12 (.fad (.t 5) 0), zw 11 true 13 (.ld false 1 (.t 12)), zw 11 true 14 (.bin .eql .no (.t 13) (.c (.str []))), zv 15 (.pick (.t 11) (.t 14) (.c (.bool false))), zm 16 15, zw 16 true 17 (.fad (.t 5) 2), zw 16 true 18 (.ld false 1 (.t 17)), zw 16 true 19 (.len false (.t 18)), zw 16 true 20 (.bin .eql .no (.t 19) (zc 0)), zv 21 (.pick (.t 16) (.t 20) (.c (.bool false))), zm 22 21, zw 22 true 23 (.fad (.t 5) 1), zw 22 true 24 (.ld false 1 (.t 23)), zw 22 true 25 (.bin .geq .no (.t 24) (zc 0)), zv 26 (.pick (.t 22) (.t 25) (.c (.bool false))), zm 27 26, zw 27 true 28 (.fad (.t 5) 1), zw 27 true 29 (.ld false 1 (.t 28)), zw 27 true 30 (.mov (.t 1)), zw 27 true 31 (.bin .lss .no (.t 29) (.t 30)), zv 32 (.pick (.t 27) (.t 31) (.c (.bool false))), zm 4 32]
def k0h : IC := (.seq qbmx (.seq qblq (.seq qbnk .ret)))
@[go_sem] def s0h : List (RV × Co) := [(.t 4, .id)]
theorem c0h : cFun Tryz.prog 26 = some (33, k0h, s0h) := by kernel_rfl

def q5y : IC := zr [zv 2 zf]
def q9g : IC := zr [zm 3 0, zv 4 (.bin .neq .no (.t 3) (.c (.str []))), zm 5 4, zw 5 true 6 (.mov (.t 0)), zw 5 true 7 (.idx (.t 6) (zc 0)), ⟨some (5, true), some 8, .call (.c (.fn 45 [] [])) [((.t 7), .id)]⟩, zv 9 (.pick (.t 5) (.t 8) (.c (.bool false))), zm 10 9, zw 10 true 11 (.mov (.t 0)), ⟨some (10, true), some 12, .call (.c (.fn 46 [] [])) [((.t 11), .id)]⟩, zv 13 (.pick (.t 10) (.t 12) (.c (.bool false))), zm 2 13]
def k0ch : IC := (.seq q5y (.seq q9g .ret))
@[go_sem] def s0ch : List (RV × Co) := [(.t 2, .id)]
theorem c0ch : cFun Tryz.prog 27 = some (14, k0ch, s0ch) := by kernel_rfl

def qbgo : IC := zr [zi 1 (.box (.t 0)), zv 2 (.mov (.c (.str [])))]
def q80 : IC := zr [zv 3 (.ld true 3 (.t 1)), zi 4 (.call (.c (.fn 47 [] [])) [((.t 3), (.agg [.id, .id, (.sl 3)]))]), zv 5 (.un .not (.t 4))]
def qbfp : IC := zr [zv 2 (.mov (.c (.str [])))]
def qbca : IC := zr [zv 6 (.ld true 3 (.t 1)), zi 7 (.call (.c (.fn 48 [] [])) [((.t 6), (.agg [.id, .id, (.sl 3)]))]), zm 2 7]
def k0ba : IC := (.seq qbgo (.seq (.seq q80 (.cond (.t 5) (.seq qbfp .ret) .skip)) (.seq qbca .ret)))
@[go_sem] def s0ba : List (RV × Co) := [(.t 2, .id)]
theorem c0ba : cFun Tryz.prog 28 = some (8, k0ba, s0ba) := by kernel_rfl

def qbh6 : IC := zr [zv 2 (.mov (.c (.str [])))]
def q7q : IC := zr [zv 3 (.mov (.c .nils))]
def q6s : IC := zr [zm 7 0, zv 8 (.len false (.t 7)), zv 9 (.mov (zc 0))]
def qbf6 : IC := zr [zv 10 (.bin .lss .no (.t 9) (.t 8))]
def qbda : IC := zr [zv 11 (.iad 4 (.t 7) (.t 9)), zv 12 (.ld true 4 (.t 11)), zi 5 (.alo [(.str []), (.str []), (.int .i64 0), .nils]), zn (.st 4 (.agg [.id, .id, .id, (.sl 3)]) (.t 5) (.t 12))]
def q86 : IC := zr [zv 13 (.ld true 4 (.t 5)), zi 14 (.call (.c (.fn 49 [] [])) [((.t 13), (.agg [.id, .id, .id, (.sl 3)]))]), zv 15 (.un .not (.t 14))]
def qbeb : IC := zr [zv 2 (.mov (.c (.str [])))]
def q7c : IC := zr [zm 16 3, zv 17 (.ld true 4 (.t 5)), zi 18 (.call (.c (.fn 50 [] [])) [((.t 17), (.agg [.id, .id, .id, (.sl 3)]))]), zv 19 (.bsl 1 [((.t 18), .id)]), zi 20 (.app 1 (.str []) 16 (.sl 1) (.t 16) (.t 19)), zm 3 20]
def q7y : IC := zr [zv 21 (.bin .add .no (.t 9) (zc 1)), zm 9 21]
def qba1 : IC := (.seq qbf6 (.seq (.cond (.t 10) .skip (.exit 0)) (.seq (.block 1 (.seq qbda (.seq (.seq q86 (.cond (.t 15) (.seq qbeb .ret) .skip)) q7c))) q7y)))
def q1j : IC := zr [zm 22 3, zi 23 (.call (.c (.fn 51 [] [])) [((.t 22), (.sl 1)), ((.c (.str [44, 32])), .id)]), zm 6 23]
def q12 : IC := zr [zm 24 0, zv 25 (.len false (.t 24)), zv 26 (.bin .gtr .no (.t 25) (zc 1))]
def q3w : IC := zr [zm 27 6, zv 28 (.bin .add .no (.c (.str [40])) (.t 27)), zv 29 (.bin .add .no (.t 28) (.c (.str [41]))), zm 2 29]
def q2t : IC := zr [zm 30 6, zm 2 30]
def k0cu : IC := (.seq qbh6 (.seq q7q (.seq (.seq q6s (.block 0 (.loop qba1))) (.seq q1j (.seq (.seq q12 (.cond (.t 26) (.seq q3w .ret) .skip)) (.seq q2t .ret))))))
@[go_sem] def s0cu : List (RV × Co) := [(.t 2, .id)]
theorem c0cu : cFun Tryz.prog 29 = some (31, k0cu, s0cu) := by kernel_rfl

def qbes : IC := zr [zv 2 (.mov (zc 0))]
def qbf1 : IC := zr [zv 3 (.mov (zc 20000))]
def q9x : IC := zr [zv 4 (.mov (zc 0))]
def q8l : IC := zr [zm 5 4, zm 6 0, zv 7 (.len false (.t 6)), zv 8 (.bin .lss .no (.t 5) (.t 7))]
def qbfr : IC := zr [zm 11 0, zm 12 4, zv 13 (.iad 3 (.t 11) (.t 12)), zv 14 (.ld true 3 (.t 13)), zm 15 3, zi 16 (.call (.c (.fn 54 [] [])) [((.t 14), (.agg [.id, .id, (.sl 3)])), ((.t 15), .id), ((zc 300), .id)]), zm 3 16]
def qbag : IC := zr [zm 9 4, zv 10 (.bin .add .no (.t 9) (zc 1)), zm 4 10]
def q8o : IC := (.seq (.seq q8l (.cond (.t 8) .skip (.exit 0))) (.seq (.block 1 qbfr) qbag))
def qbg5 : IC := zr [zm 17 3, zv 18 (.bin .lss .no (.t 17) (zc 0))]
def qbh3 : IC := zr [zv 2 (.mov (zc 0))]
def q1y : IC := zr [zv 2 (.mov (zc 1))]
def k0bl : IC := (.seq qbes (.seq qbf1 (.seq (.seq q9x (.block 0 (.loop q8o))) (.seq (.seq qbg5 (.cond (.t 18) (.seq qbh3 .ret) .skip)) (.seq q1y .ret)))))
@[go_sem] def s0bl : List (RV × Co) := [(.t 2, .id)]
theorem c0bl : cFun Tryz.prog 32 = some (19, k0bl, s0bl) := by kernel_rfl

def qbmm : IC := zr [zv 2 (.mov (.c .nilp))]
def qbps : IC := zr [zv 6 (.bld [.nils] []), zi 7 (.box (.t 6)), zm 3 7]
def qbor : IC := zr [zm 8 0, zv 9 (.len false (.t 8)), zv 10 (.mov (zc 0))]
def qbp6 : IC := zr [zv 11 (.bin .lss .no (.t 10) (.t 9))]
def qbnr : IC := zr [zv 12 (.iad 4 (.t 8) (.t 10)), zv 13 (.ld true 4 (.t 12)), zi 5 (.alo [(.int .i64 0), (.str []), (.int .i64 0), .nils]), zn (.st 4 (.agg [.id, .id, .id, (.sl 3)]) (.t 5) (.t 13))]
def qbr9 : IC := zr [zm 14 3, zv 15 (.fad (.t 5) 0), zv 16 (.ld false 1 (.t 15)), zv 17 (.fad (.t 5) 1), zv 18 (.ld true 3 (.t 17)), zi 19 (.call (.c (.fn 34 [] [])) [((.t 14), .id), ((.t 16), .id), ((.t 18), (.agg [.id, .id, (.sl 3)]))])]
def qbsj : IC := zr [zv 20 (.bin .add .no (.t 10) (zc 1)), zm 10 20]
def qbo7 : IC := (.seq qbp6 (.seq (.cond (.t 11) .skip (.exit 0)) (.seq (.block 1 (.seq qbnr qbr9)) qbsj)))
def qbst : IC := zr [zm 21 3, zm 2 21]
def k0n : IC := (.seq qbmm (.seq qbps (.seq (.seq qbor (.block 0 (.loop qbo7))) (.seq qbst .ret))))
@[go_sem] def s0n : List (RV × Co) := [(.t 2, .id)]
theorem c0n : cFun Tryz.prog 33 = some (22, k0n, s0n) := by kernel_rfl

def qbrp : IC := zr [zi 5 (.box (.t 2)), zv 6 (.mov (zc 0))]
def qbmc : IC := zr [zm 9 0, zv 10 (.bin .eql .ptr (.t 9) (.c .nilp)), zm 11 10, zw 11 false 12 (.ld true 3 (.t 5)), ⟨some (11, false), some 13, .call (.c (.fn 47 [] [])) [((.t 12), (.agg [.id, .id, (.sl 3)]))]⟩, zw 11 false 14 (.un .not (.t 13)), zv 15 (.pick (.t 11) (.c (.bool true)) (.t 14))]
def qbpz : IC := zr [zv 6 (.mov (zc 1))]
def qbs0 : IC := zr [zm 17 0, zm 18 1, zi 19 (.call (.c (.fn 55 [] [])) [((.t 17), .id), ((.t 18), .id)]), zm 16 19, zv 20 (.ext (.t 16) 0), zv 21 (.ext (.t 16) 1), zm 7 20, zm 8 21]
def qblj : IC := zr [zm 22 8]
def qbr3 : IC := zr [zv 6 (.mov (zc 6))]
def qbl6 : IC := .drw [zp (zm 23 0), zp (zm 24 0), zp (zv 25 (.nck (.t 24))), zp (zv 26 (.fad (.t 25) 0)), zp (zv 27 (.ld false 1 (.t 26))), zp (zm 28 7), zp (zm 29 1), zp (zv 30 (.ld true 3 (.t 5))), (zi 31 (.call (.c (.fn 57 [] [])) [((.t 30), (.agg [.id, .id, (.sl 3)]))]), [4]), (zv 32 (.bld [(.int .i64 0), (.str []), (.int .i64 0), .nils] [(0, 1, (.t 29)), (1, 3, (.t 31))]), []), (zv 33 (.bsl 4 [((.t 32), (.agg [.id, .id, .id, (.sl 3)]))]), []), (zi 34 (.call (.c (.fn 56 [] [])) [((.t 27), (.sl 4)), ((.t 28), .id), ((.t 33), (.sl 4))]), []), zp (zv 35 (.nck (.t 23))), zp (zv 36 (.fad (.t 35) 0)), (zn (.st 1 (.sl 4) (.t 36) (.t 34)), [])]
def qbm4 : IC := zr [zv 6 (.mov (zc 0))]
def k0p : IC := (.seq qbrp (.seq (.seq qbmc (.cond (.t 15) (.seq qbpz .ret) .skip)) (.seq qbs0 (.seq (.seq qblj (.cond (.t 22) (.seq qbr3 .ret) .skip)) (.seq qbl6 (.seq qbm4 .ret))))))
@[go_sem] def s0p : List (RV × Co) := [(.t 6, .id)]
theorem c0p : cFun Tryz.prog 34 = some (37, k0p, s0p) := by kernel_rfl

def qbls : IC := zr [zv 4 (.mov (.c .nils)), zv 5 (.mov (zc 0))]
def qbss : IC := zr [zv 6 (.mov (.c .nils))]
def qbk6 : IC := zr [zm 11 1, zv 12 (.len false (.t 11)), zv 13 (.mov (zc 0))]
def qbn1 : IC := zr [zv 14 (.bin .lss .no (.t 13) (.t 12))]
def qbq7 : IC := zr [zv 15 (.iad 4 (.t 11) (.t 13)), zv 16 (.ld true 4 (.t 15)), zi 8 (.alo [(.str []), (.str []), (.int .i64 0), .nils]), zn (.st 4 (.agg [.id, .id, .id, (.sl 3)]) (.t 8) (.t 16))]
def qbpu : IC := zr [zm 18 0, zv 19 (.fad (.t 8) 1), zv 20 (.ld true 3 (.t 19)), zi 21 (.call (.c (.fn 58 [] [])) [((.t 18), .id), ((.t 20), (.agg [.id, .id, (.sl 3)]))]), zm 17 21, zv 22 (.ext (.t 17) 0), zv 23 (.ext (.t 17) 1), zi 9 (.alo [(.str []), (.int .i64 0), .nils]), zn (.st 3 (.agg [.id, .id, (.sl 3)]) (.t 9) (.t 22)), zm 10 23]
def qbks : IC := zr [zm 24 10, zv 25 (.bin .neq .no (.t 24) (zc 0))]
def qbof : IC := zr [zm 26 10, zv 4 (.mov (.c .nils)), zm 5 26]
def qbqz : IC := zr [zm 27 6, zv 28 (.fad (.t 8) 0), zv 29 (.ld false 1 (.t 28)), zv 30 (.ld true 3 (.t 9)), zv 31 (.bld [(.str []), (.str []), (.int .i64 0), .nils] [(0, 1, (.t 29)), (1, 3, (.t 30))]), zv 32 (.bsl 4 [((.t 31), (.agg [.id, .id, .id, (.sl 3)]))]), zi 33 (.app 4 (.agg [(.str []), (.str []), (.int .i64 0), .nils]) 64 (.sl 4) (.t 27) (.t 32)), zm 6 33]
def qbhu : IC := zr [zv 34 (.bin .add .no (.t 13) (zc 1)), zm 13 34]
def qblu : IC := (.seq qbn1 (.seq (.cond (.t 14) .skip (.exit 0)) (.seq (.block 1 (.seq qbq7 (.seq qbpu (.seq (.seq qbks (.cond (.t 25) (.seq qbof .ret) .skip)) qbqz)))) qbhu)))
def qbdj : IC := zr [zm 35 6, zm 4 35, zv 5 (.mov (zc 0))]
def k0l : IC := (.seq qbls (.seq qbss (.seq (.seq qbk6 (.block 0 (.loop qblu))) (.seq qbdj .ret))))
@[go_sem] def s0l : List (RV × Co) := [(.t 4, (.sl 4)), (.t 5, .id)]
theorem c0l : cFun Tryz.prog 35 = some (36, k0l, s0l) := by kernel_rfl

def q9p : IC := zr [zi 2 (.box (.t 0)), zv 4 (.mov (.c .nils))]
def qbi0 : IC := zr [zv 5 (.mov (.c .nils))]
def qbhw : IC := zr [zv 6 (.mov (zc 0))]
def q7s : IC := zr [zm 11 6, zm 12 1, zv 13 (.len false (.t 12)), zv 14 (.bin .lss .no (.t 11) (.t 13))]
def qbak : IC := zr [zm 18 5, zm 19 6, zm 20 1, zm 21 6, zv 22 (.iad 3 (.t 20) (.t 21)), zv 23 (.ld true 3 (.t 22)), zi 24 (.call (.c (.fn 59 [] [])) [((.t 18), (.sl 4)), ((.t 19), .id), ((.t 23), (.agg [.id, .id, (.sl 3)]))]), zm 17 24, zv 25 (.ext (.t 17) 0), zv 26 (.ext (.t 17) 1), zm 7 25, zm 8 26]
def q8t : IC := zr [zm 27 7, zm 5 27]
def qbcd : IC := zr [zm 15 6, zv 16 (.bin .add .no (.t 15) (zc 1)), zm 6 16]
def qbi7 : IC := (.seq (.seq q7s (.cond (.t 14) .skip (.exit 0))) (.seq (.block 1 (.seq qbak q8t)) qbcd))
def qbhs : IC := zr [zm 29 5, zv 30 (.fad (.t 2) 3), zv 31 (.ld false 1 (.t 30)), zi 32 (.call (.c (.fn 60 [] [])) [((.t 29), (.sl 4)), ((.t 31), (.sl 4))]), zm 28 32, zv 33 (.ext (.t 28) 0), zv 34 (.ext (.t 28) 1), zm 9 33, zm 10 34]
def q3a : IC := zr [zm 35 9, zm 4 35]
def k0df : IC := (.seq q9p (.seq qbi0 (.seq (.seq qbhw (.block 0 (.loop qbi7))) (.seq qbhs (.seq q3a .ret)))))
@[go_sem] def s0df : List (RV × Co) := [(.t 4, (.sl 4))]
theorem c0df : cFun Tryz.prog 36 = some (36, k0df, s0df) := by kernel_rfl

def qbep : IC := zr [zi 2 (.box (.t 0)), zi 3 (.box (.t 1)), zv 4 zf]
def qbhl : IC := zr [zv 5 (.fad (.t 2) 0), zv 6 (.ld false 1 (.t 5)), zv 7 (.fad (.t 3) 0), zv 8 (.ld false 1 (.t 7)), zv 9 (.bin .eql .no (.t 6) (.t 8)), zm 10 9, zw 10 true 11 (.fad (.t 2) 1), zw 10 true 12 (.ld true 3 (.t 11)), zw 10 true 13 (.fad (.t 3) 1), zw 10 true 14 (.ld true 3 (.t 13)), ⟨some (10, true), some 15, .call (.c (.fn 61 [] [])) [((.t 12), (.agg [.id, .id, (.sl 3)])), ((.t 14), (.agg [.id, .id, (.sl 3)]))]⟩, zv 16 (.pick (.t 10) (.t 15) (.c (.bool false))), zm 4 16]
def k0cp : IC := (.seq qbep (.seq qbhl .ret))
@[go_sem] def s0cp : List (RV × Co) := [(.t 4, .id)]
theorem c0cp : cFun Tryz.prog 37 = some (17, k0cp, s0cp) := by kernel_rfl

def qbhy : IC := zr [zi 1 (.box (.t 0)), zv 2 (.mov (zc 0))]
def qbjy : IC := zr [zv 3 (.mov (zc 0))]
def q9w : IC := zr [zv 4 (.mov (zc 0))]
def q76 : IC := zr [zm 5 4, zv 6 (.fad (.t 1) 2), zv 7 (.ld false 1 (.t 6)), zv 8 (.len false (.t 7)), zv 9 (.bin .lss .no (.t 5) (.t 8))]
def qbgr : IC := zr [zm 12 3, zv 13 (.fad (.t 1) 2), zv 14 (.ld false 1 (.t 13)), zm 15 4, zv 16 (.iad 3 (.t 14) (.t 15)), zv 17 (.ld true 3 (.t 16)), zi 18 (.call (.c (.fn 38 [] [])) [((.t 17), (.agg [.id, .id, (.sl 3)]))]), zv 19 (.mm true (.t 12) (.t 18)), zm 3 19]
def qbhv : IC := zr [zm 10 4, zv 11 (.bin .add .no (.t 10) (zc 1)), zm 4 11]
def qbiz : IC := (.seq (.seq q76 (.cond (.t 9) .skip (.exit 0))) (.seq (.block 1 qbgr) qbhv))
def qbgl : IC := zr [zm 20 3, zv 21 (.bin .add .no (.t 20) (zc 1)), zm 2 21]
def k0bi : IC := (.seq qbhy (.seq qbjy (.seq (.seq q9w (.block 0 (.loop qbiz))) (.seq qbgl .ret))))
@[go_sem] def s0bi : List (RV × Co) := [(.t 2, .id)]
theorem c0bi : cFun Tryz.prog 38 = some (22, k0bi, s0bi) := by kernel_rfl

def q47 : IC := zr [zi 1 (.box (.t 0)), zv 2 zf]
def qbb3 : IC := zr [zv 3 (.mov (zc 0))]
def qbb5 : IC := zr [zm 5 3, zv 6 (.fad (.t 1) 2), zv 7 (.ld false 1 (.t 6)), zv 8 (.len false (.t 7)), zv 9 (.bin .lss .no (.t 5) (.t 8))]
def qbg0 : IC := zr [zv 12 (.fad (.t 1) 2), zv 13 (.ld false 1 (.t 12)), zm 14 3, zv 15 (.iad 3 (.t 13) (.t 14)), zv 16 (.ld true 3 (.t 15)), zi 17 (.call (.c (.fn 39 [] [])) [((.t 16), (.agg [.id, .id, (.sl 3)]))]), zv 18 (.un .not (.t 17))]
def q42 : IC := zr [zv 2 zf]
def qbd3 : IC := zr [zm 10 3, zv 11 (.bin .add .no (.t 10) (zc 1)), zm 3 11]
def qbgt : IC := (.seq (.seq qbb5 (.cond (.t 9) .skip (.exit 0))) (.seq (.block 1 (.seq qbg0 (.cond (.t 18) (.seq q42 .ret) .skip))) qbd3))
def qbet : IC := zr [zv 19 (.fad (.t 1) 2), zv 20 (.ld false 1 (.t 19)), zv 21 (.len false (.t 20)), zm 4 21]
def qbft : IC := zr [zv 23 (.fad (.t 1) 0), zv 24 (.ld false 1 (.t 23)), zv 25 (.bin .eql .no (.t 24) (.c (.str []))), zm 22 25]
def q2n : IC := zr [zm 26 4, zv 27 (.bin .eql .no (.t 26) (zc 0)), zm 2 27]
def q1f : IC := zr [zv 29 (.fad (.t 1) 0), zv 30 (.ld false 1 (.t 29)), zv 31 (.bin .eql .no (.t 30) (.c (.str [45, 62]))), zm 28 31]
def q0g : IC := zr [zm 32 4, zv 33 (.bin .eql .no (.t 32) (zc 2)), zm 34 33, zw 34 true 35 (.fad (.t 1) 1), zw 34 true 36 (.ld false 1 (.t 35)), zw 34 true 37 (.bin .eql .no (.t 36) (zc 0)), zv 38 (.pick (.t 34) (.t 37) (.c (.bool false))), zm 2 38]
def q2x : IC := zr [zv 40 (.fad (.t 1) 0), zv 41 (.ld false 1 (.t 40)), zi 42 (.call (.c (.fn 62 [] [])) [((.t 41), .id)]), zm 39 42]
def qzo : IC := zr [zm 43 4, zv 44 (.bin .eql .no (.t 43) (zc 0)), zm 45 44, zw 45 true 46 (.fad (.t 1) 1), zw 45 true 47 (.ld false 1 (.t 46)), zw 45 true 48 (.bin .eql .no (.t 47) (zc 0)), zv 49 (.pick (.t 45) (.t 48) (.c (.bool false))), zm 2 49]
def q19 : IC := zr [zv 50 (.fad (.t 1) 0), zv 51 (.ld false 1 (.t 50)), zi 52 (.call (.c (.fn 27 [] [])) [((.t 51), .id)]), zm 53 52, zw 53 true 54 (.fad (.t 1) 1), zw 53 true 55 (.ld false 1 (.t 54)), zw 53 true 56 (.bin .eql .no (.t 55) (zc 0)), zv 57 (.pick (.t 53) (.t 56) (.c (.bool false))), zm 2 57]
def k0bj : IC := (.seq q47 (.seq (.seq qbb3 (.block 0 (.loop qbgt))) (.seq qbet (.seq (.block 2 (.seq qbft (.cond (.t 22) (.seq q2n .ret) (.seq q1f (.cond (.t 28) (.seq q0g .ret) (.seq q2x (.cond (.t 39) (.seq qzo .ret) .skip))))))) (.seq q19 .ret)))))
@[go_sem] def s0bj : List (RV × Co) := [(.t 2, .id)]
theorem c0bj : cFun Tryz.prog 39 = some (58, k0bj, s0bj) := by kernel_rfl

def qbbi : IC := zr [zi 2 (.box (.t 0)), zi 3 (.box (.t 1)), zv 4 (.mov (.c .nilp)), zv 5 (.mov (zc 0))]
def qbg9 : IC := zr [zv 6 (.ld true 3 (.t 2)), zv 7 (.bsl 3 [((.t 6), (.agg [.id, .id, (.sl 3)]))]), zv 8 (.ld true 3 (.t 3)), zv 9 (.bsl 3 [((.t 8), (.agg [.id, .id, (.sl 3)]))]), zi 10 (.call (.c (.fn 63 [] [])) [((.t 7), (.sl 3)), ((.t 9), (.sl 3))]), zv 11 (.ext (.t 10) 0), zv 12 (.ext (.t 10) 1), zm 4 11, zm 5 12]
def k0dk : IC := (.seq qbbi (.seq qbg9 .ret))
@[go_sem] def s0dk : List (RV × Co) := [(.t 4, .id), (.t 5, .id)]
theorem c0dk : cFun Tryz.prog 40 = some (13, k0dk, s0dk) := by kernel_rfl

def qbjb : IC := zr [zi 2 (.alo [(.str []), (.int .i64 0), .nils])]
def qbe6 : IC := zr [zm 3 0, zv 4 (.bld [(.str []), (.int .i64 0), .nils] [(1, 1, (.t 3))]), zn (.st 3 (.agg [.id, .id, (.sl 3)]) (.t 2) (.t 4))]
def k0dh : IC := (.seq qbjb (.seq qbe6 .ret))
@[go_sem] def s0dh : List (RV × Co) := [(.c true 3 2, (.agg [.id, .id, (.sl 3)]))]
theorem c0dh : cFun Tryz.prog 41 = some (5, k0dh, s0dh) := by kernel_rfl

def qbdn : IC := zr [zi 1 (.box (.t 0)), zi 2 (.alo [(.str []), (.int .i64 0), .nils])]
def q6l : IC := zr [zv 4 (.ld false 1 (.t 1)), zv 5 (.nck (.t 4)), zv 6 (.fad (.t 5) 1), zv 7 (.ld false 1 (.t 6)), zv 8 (.bin .add .no (.t 7) (zc 1)), zv 9 (.nck (.t 4)), zv 10 (.fad (.t 9) 1), zn (.st 1 .id (.t 10) (.t 8))]
def qbhp : IC := zr [zv 11 (.ld false 1 (.t 1)), zv 12 (.nck (.t 11)), zv 13 (.fad (.t 12) 1), zv 14 (.ld false 1 (.t 13)), zv 15 (.bin .gtr .no (.t 14) (zc 200))]
def q9i : IC := zr [zv 16 (.ld false 1 (.t 1)), zv 17 (.nck (.t 16)), zv 18 (.fad (.t 17) 2), zn (.st 1 .id (.t 18) (.c (.bool true)))]
def qbh7 : IC := .dfr [zv 19 (.mfn 64 [] [(.t 1)])] (.t 19)
def qbbu : IC := zr [zv 20 (.ld false 1 (.t 1)), zv 21 (.nck (.t 20)), zv 22 (.fad (.t 21) 2), zv 23 (.ld false 1 (.t 22))]
def qbas : IC := zr [zv 24 (.bld [(.str []), (.int .i64 0), .nils] []), zn (.st 3 (.agg [.id, .id, (.sl 3)]) (.t 2) (.t 24))]
def qbbd : IC := zr [zv 25 (.ld false 1 (.t 1)), zi 26 (.call (.c (.fn 65 [] [])) [((.t 25), .id)]), zi 3 (.alo [(.str []), (.int .i64 0), .nils]), zn (.st 3 (.agg [.id, .id, (.sl 3)]) (.t 3) (.t 26))]
def qbis : IC := zr [zv 27 (.ld false 1 (.t 1)), zv 28 (.nck (.t 27)), zv 29 (.fad (.t 28) 2), zv 30 (.ld false 1 (.t 29)), zv 31 (.un .not (.t 30)), zm 32 31, zw 32 true 33 (.ld false 1 (.t 1)), zw 32 true 34 (.nck (.t 33)), zw 32 true 35 (.fad (.t 34) 0), zw 32 true 36 (.ld false 1 (.t 35)), ⟨some (32, true), some 37, .call (.c (.fn 66 [] [])) [((.t 36), .id), ((.c (.str [32, 45, 62, 32])), .id)]⟩, zw 32 true 38 (.un .not (.t 37)), zv 39 (.pick (.t 32) (.t 38) (.c (.bool false))), zm 40 39, zw 40 true 41 (.ld false 1 (.t 1)), ⟨some (40, true), some 42, .call (.c (.fn 67 [] [])) [((.t 41), .id), ((.c (.str [32])), .id)]⟩, zv 43 (.pick (.t 40) (.t 42) (.c (.bool false)))]
def q29 : IC := .drw [zp (zv 44 (.fad (.t 3) 2)), zp (zv 45 (.ld false 1 (.t 44))), (zi 46 (.call (.c (.fn 68 [] [])) [((.t 45), (.sl 3))]), []), (zv 47 (.ld false 1 (.t 1)), [2]), (zi 48 (.call (.c (.fn 65 [] [])) [((.t 47), .id)]), []), (zv 49 (.bsl 3 [((.t 48), (.agg [.id, .id, (.sl 3)]))]), []), (zi 50 (.app 3 (.agg [(.str []), (.int .i64 0), .nils]) 48 (.sl 3) (.t 46) (.t 49)), []), zp (zv 51 (.fad (.t 3) 2)), (zn (.st 1 (.sl 3) (.t 51) (.t 50)), [])]
def qlt : IC := (.seq (.seq qbis (.cond (.t 43) .skip (.exit 0))) (.block 1 q29))
def q3g : IC := zr [zv 52 (.ld false 1 (.t 1)), zv 53 (.nck (.t 52)), zv 54 (.fad (.t 53) 2), zv 55 (.ld false 1 (.t 54)), zv 56 (.un .not (.t 55)), zm 57 56, zw 57 true 58 (.ld false 1 (.t 1)), ⟨some (57, true), some 59, .call (.c (.fn 67 [] [])) [((.t 58), .id), ((.c (.str [32, 45, 62, 32])), .id)]⟩, zv 60 (.pick (.t 57) (.t 59) (.c (.bool false)))]
def qz9 : IC := .drw [zp (zv 61 (.ld true 3 (.t 3))), zp (zv 62 (.ld false 1 (.t 1))), (zi 63 (.call (.c (.fn 42 [] [])) [((.t 62), .id)]), [0]), (zv 64 (.bsl 3 [((.t 61), (.agg [.id, .id, (.sl 3)])), ((.t 63), (.agg [.id, .id, (.sl 3)]))]), []), (zv 65 (.bld [(.str []), (.int .i64 0), .nils] [(0, 1, (.c (.str [45, 62]))), (2, 1, (.t 64))]), []), (zn (.st 3 (.agg [.id, .id, (.sl 3)]) (.t 2) (.t 65)), [])]
def q2r : IC := zr [zv 66 (.ld true 3 (.t 3)), zn (.st 3 (.agg [.id, .id, (.sl 3)]) (.t 2) (.t 66))]
def k0cv : IC := (.seq qbdn (.seq (.seq q6l (.seq qbhp (.cond (.t 15) q9i .skip))) (.seq qbh7 (.seq (.seq qbbu (.cond (.t 23) (.seq qbas .ret) .skip)) (.seq qbbd (.seq (.block 0 (.loop qlt)) (.seq (.seq q3g (.cond (.t 60) (.seq qz9 .ret) .skip)) (.seq q2r .ret))))))))
@[go_sem] def s0cv : List (RV × Co) := [(.c true 3 2, (.agg [.id, .id, (.sl 3)]))]
theorem c0cv : cFun Tryz.prog 42 = some (67, k0cv, s0cv) := by kernel_rfl

def qbe7 : IC := zr [zv 2 zf]
def qbc0 : IC := zr [zm 3 0, zv 4 (.bin .geq .no (.t 3) (.c (.int .u8 65))), zm 5 4, zw 5 true 6 (.mov (.t 0)), zw 5 true 7 (.bin .leq .no (.t 6) (.c (.int .u8 90))), zv 8 (.pick (.t 5) (.t 7) (.c (.bool false))), zm 2 8]
def k0ca : IC := (.seq qbe7 (.seq qbc0 .ret))
@[go_sem] def s0ca : List (RV × Co) := [(.t 2, .id)]
theorem c0ca : cFun Tryz.prog 43 = some (9, k0ca, s0ca) := by kernel_rfl

def q6h : IC := zr [zv 2 zf]
def q54 : IC := zr [zm 5 0, zv 6 (.len true (.t 5)), zv 7 (.mov (zc 0))]
def qbjn : IC := zr [zv 8 (.bin .lss .no (.t 7) (.t 6))]
def qbhh : IC := zr [zm 9 7, zm 3 9]
def qbdl : IC := zr [zm 10 0, zm 11 3, zv 12 (.idx (.t 10) (.t 11)), zm 4 12]
def qba6 : IC := zr [zm 13 4, zi 14 (.call (.c (.fn 69 [] [])) [((.t 13), .id)]), zv 15 (.un .not (.t 14)), zm 16 15, zw 16 true 17 (.mov (.t 4)), ⟨some (16, true), some 18, .call (.c (.fn 43 [] [])) [((.t 17), .id)]⟩, zw 16 true 19 (.un .not (.t 18)), zv 20 (.pick (.t 16) (.t 19) (.c (.bool false))), zm 21 20, zw 21 true 22 (.mov (.t 4)), zw 21 true 23 (.bin .lss .no (.t 22) (.c (.int .u8 48))), zw 21 true 24 (.mov (.t 23)), zw 24 false 25 (.mov (.t 4)), zw 24 false 26 (.bin .gtr .no (.t 25) (.c (.int .u8 57))), zw 21 true 27 (.pick (.t 24) (.c (.bool true)) (.t 26)), zv 28 (.pick (.t 21) (.t 27) (.c (.bool false))), zm 29 28, zw 29 true 30 (.mov (.t 4)), zw 29 true 31 (.bin .neq .no (.t 30) (.c (.int .u8 39))), zv 32 (.pick (.t 29) (.t 31) (.c (.bool false)))]
def qbb2 : IC := zr [zv 2 zf]
def qbf4 : IC := zr [zv 33 (.bin .add .no (.t 7) (zc 1)), zm 7 33]
def qbgq : IC := (.seq qbjn (.seq (.cond (.t 8) .skip (.exit 0)) (.seq (.block 1 (.seq qbhh (.seq qbdl (.seq qba6 (.cond (.t 32) (.seq qbb2 .ret) .skip))))) qbf4)))
def q1u : IC := zr [zv 2 (.mov (.c (.bool true)))]
def k0ce : IC := (.seq q6h (.seq (.seq q54 (.block 0 (.loop qbgq))) (.seq q1u .ret)))
@[go_sem] def s0ce : List (RV × Co) := [(.t 2, .id)]
theorem c0ce : cFun Tryz.prog 44 = some (34, k0ce, s0ce) := by kernel_rfl

def q5x : IC := zr [zv 2 zf]
def qbfn : IC := zr [zm 3 0, zv 4 (.bin .geq .no (.t 3) (.c (.int .u8 65))), zm 5 4, zw 5 true 6 (.mov (.t 0)), zw 5 true 7 (.bin .leq .no (.t 6) (.c (.int .u8 90))), zv 8 (.pick (.t 5) (.t 7) (.c (.bool false))), zm 2 8]
def k0cb : IC := (.seq q5x (.seq qbfn .ret))
@[go_sem] def s0cb : List (RV × Co) := [(.t 2, .id)]
theorem c0cb : cFun Tryz.prog 45 = some (9, k0cb, s0cb) := by kernel_rfl

def q6t : IC := zr [zv 2 zf]
def q9q : IC := zr [zv 3 (.mov (zc 1))]
def q91 : IC := zr [zm 4 3, zm 5 0, zv 6 (.len true (.t 5)), zv 7 (.bin .lss .no (.t 4) (.t 6))]
def qbj8 : IC := zr [zm 10 0, zm 11 3, zv 12 (.idx (.t 10) (.t 11)), zi 13 (.call (.c (.fn 70 [] [])) [((.t 12), .id)]), zv 14 (.un .not (.t 13))]
def qbcz : IC := zr [zv 2 zf]
def q7r : IC := zr [zm 8 3, zv 9 (.bin .add .no (.t 8) (zc 1)), zm 3 9]
def qbi5 : IC := (.seq (.seq q91 (.cond (.t 7) .skip (.exit 0))) (.seq (.block 1 (.seq qbj8 (.cond (.t 14) (.seq qbcz .ret) .skip))) q7r))
def qbfw : IC := zr [zv 2 (.mov (.c (.bool true)))]
def k0cf : IC := (.seq q6t (.seq (.seq q9q (.block 0 (.loop qbi5))) (.seq qbfw .ret)))
@[go_sem] def s0cf : List (RV × Co) := [(.t 2, .id)]
theorem c0cf : cFun Tryz.prog 46 = some (15, k0cf, s0cf) := by kernel_rfl

def qbbh : IC := zr [zi 1 (.box (.t 0)), zv 2 zf]
def qbd5 : IC := zr [zi 3 (.alo [(.int .i64 0)]), zn (.st 1 .id (.t 3) (zc 0))]
def qbfc : IC := zr [zv 4 (.ld true 3 (.t 1)), zv 5 (.mfn 72 [] [(.t 3)]), zi 6 (.call (.c (.fn 71 [] [])) [((.t 4), (.agg [.id, .id, (.sl 3)])), ((zc 1), .id), ((.t 5), .id)]), zm 2 6]
def k0be : IC := (.seq qbbh (.seq qbd5 (.seq qbfc .ret)))
@[go_sem] def s0be : List (RV × Co) := [(.t 2, .id)]
theorem c0be : cFun Tryz.prog 47 = some (7, k0be, s0be) := by kernel_rfl

def qbou : IC := zr [zi 1 (.box (.t 0)), zv 2 (.mov (.c (.str [])))]
def qbkr : IC := zr [zv 6 (.fad (.t 1) 0), zv 7 (.ld false 1 (.t 6)), zv 8 (.bin .eql .no (.t 7) (.c (.str [45, 62])))]
def qblp : IC := .drw [zp (zv 9 (.fad (.t 1) 2)), zp (zv 10 (.ld false 1 (.t 9))), zp (zv 11 (.iad 3 (.t 10) (zc 0))), zp (zv 12 (.ld true 3 (.t 11))), zp (zv 13 (.fad (.t 1) 2)), zp (zv 14 (.ld false 1 (.t 13))), zp (zv 15 (.iad 3 (.t 14) (zc 0))), zp (zv 16 (.fad (.t 15) 0)), zp (zv 17 (.ld false 1 (.t 16))), (zv 18 (.bin .eql .no (.t 17) (.c (.str [45, 62]))), []), (zi 19 (.call (.c (.fn 75 [] [])) [((.t 12), (.agg [.id, .id, (.sl 3)])), ((.t 18), .id)]), []), (zv 20 (.bin .add .no (.t 19) (.c (.str [32, 45, 62, 32]))), []), zp (zv 21 (.fad (.t 1) 2)), (zv 22 (.ld false 1 (.t 21)), [10]), zp (zv 23 (.iad 3 (.t 22) (zc 1))), (zv 24 (.ld true 3 (.t 23)), [10]), (zi 25 (.call (.c (.fn 48 [] [])) [((.t 24), (.agg [.id, .id, (.sl 3)]))]), []), zp (zv 26 (.bin .add .no (.t 20) (.t 25))), zp (zm 2 26)]
def qblt : IC := zr [zi 3 (.bld 104 5)]
def qbmt : IC := zr [zv 27 (.ld true 3 (.t 1)), zi 28 (.call (.c (.fn 73 [] [])) [((.t 27), (.agg [.id, .id, (.sl 3)]))]), zi 29 (.call (.c (.fn 77 [] [])) [((.t 28), .id)]), zi 30 (.call (.c (.fn 76 [] [])) [((.t 3), (.agg [.id, (.sl 1)])), ((.t 29), .id)])]
def qbqt : IC := zr [zv 31 (.fad (.t 1) 2), zv 32 (.ld false 1 (.t 31)), zv 33 (.len false (.t 32)), zv 34 (.mov (zc 0))]
def qbmz : IC := zr [zv 35 (.bin .lss .no (.t 34) (.t 33))]
def qbsf : IC := zr [zv 36 (.iad 3 (.t 32) (.t 34)), zv 37 (.ld true 3 (.t 36)), zi 5 (.alo [(.str []), (.int .i64 0), .nils]), zn (.st 3 (.agg [.id, .id, (.sl 3)]) (.t 5) (.t 37))]
def qbot : IC := zr [zv 38 (.ld true 3 (.t 5)), zv 39 (.fad (.t 5) 2), zv 40 (.ld false 1 (.t 39)), zv 41 (.len false (.t 40)), zv 42 (.bin .gtr .no (.t 41) (zc 0)), zi 43 (.call (.c (.fn 75 [] [])) [((.t 38), (.agg [.id, .id, (.sl 3)])), ((.t 42), .id)]), zv 44 (.bin .add .no (.c (.str [32])) (.t 43)), zi 45 (.call (.c (.fn 76 [] [])) [((.t 3), (.agg [.id, (.sl 1)])), ((.t 44), .id)])]
def q5v : IC := zr [zv 46 (.bin .add .no (.t 34) (zc 1)), zm 34 46]
def qbl8 : IC := (.seq qbmz (.seq (.cond (.t 35) .skip (.exit 0)) (.seq (.block 1 (.seq qbsf qbot)) q5v)))
def qbdv : IC := zr [zi 47 (.call (.c (.fn 78 [] [])) [((.t 3), (.agg [.id, (.sl 1)]))]), zm 2 47]
def k0z : IC := (.seq qbou (.seq (.seq qbkr (.cond (.t 8) (.seq qblp .ret) .skip)) (.seq qblt (.seq qbmt (.seq (.seq qbqt (.block 0 (.loop qbl8))) (.seq qbdv .ret))))))
@[go_sem] def s0z : List (RV × Co) := [(.t 2, .id)]
theorem c0z : cFun Tryz.prog 48 = some (48, k0z, s0z) := by kernel_rfl

def q71 : IC := zr [zi 1 (.box (.t 0)), zv 2 zf]
def qbaf : IC := zr [zv 3 (.fad (.t 1) 0), zv 4 (.ld false 1 (.t 3)), zi 5 (.call (.c (.fn 25 [] [])) [((.t 4), .id)]), zm 6 5, zw 6 true 7 (.fad (.t 1) 1), zw 6 true 8 (.ld true 3 (.t 7)), ⟨some (6, true), some 9, .call (.c (.fn 47 [] [])) [((.t 8), (.agg [.id, .id, (.sl 3)]))]⟩, zv 10 (.pick (.t 6) (.t 9) (.c (.bool false))), zm 2 10]
def k0cn : IC := (.seq q71 (.seq qbaf .ret))
@[go_sem] def s0cn : List (RV × Co) := [(.t 2, .id)]
theorem c0cn : cFun Tryz.prog 49 = some (11, k0cn, s0cn) := by kernel_rfl

def qbi4 : IC := zr [zi 1 (.box (.t 0)), zv 2 (.mov (.c (.str [])))]
def q8u : IC := zr [zv 4 (.fad (.t 1) 1), zv 5 (.ld true 3 (.t 4)), zi 6 (.call (.c (.fn 28 [] [])) [((.t 5), (.agg [.id, .id, (.sl 3)]))]), zm 3 6]
def qbhi : IC := zr [zv 7 (.fad (.t 1) 1), zv 8 (.fad (.t 7) 2), zv 9 (.ld false 1 (.t 8)), zv 10 (.len false (.t 9)), zv 11 (.bin .gtr .no (.t 10) (zc 0))]
def qbac : IC := zr [zm 12 3, zv 13 (.bin .add .no (.c (.str [40])) (.t 12)), zv 14 (.bin .add .no (.t 13) (.c (.str [41]))), zm 3 14]
def qba8 : IC := zr [zv 15 (.fad (.t 1) 0), zv 16 (.ld false 1 (.t 15)), zv 17 (.bin .add .no (.t 16) (.c (.str [32]))), zm 18 3, zv 19 (.bin .add .no (.t 17) (.t 18)), zm 2 19]
def k0ct : IC := (.seq qbi4 (.seq q8u (.seq (.seq qbhi (.cond (.t 11) qbac .skip)) (.seq qba8 .ret))))
@[go_sem] def s0ct : List (RV × Co) := [(.t 2, .id)]
theorem c0ct : cFun Tryz.prog 50 = some (20, k0ct, s0ct) := by kernel_rfl

def qbh8 : IC := zr [zi 3 (.box (.t 0)), zv 6 (.mov (zc 0))]
def qbbb : IC := zr [zm 8 1, zv 9 (.bin .sub .no (.t 8) (zc 1)), zm 1 9]
def qbc5 : IC := zr [zm 10 2, zv 11 (.bin .lss .no (.t 10) (zc 1))]
def qbir : IC := zr [zv 6 (.mov (zc (-1)))]
def qbfm : IC := zr [zv 7 (.mov (zc 0))]
def qbbm : IC := zr [zm 12 7, zv 13 (.fad (.t 3) 2), zv 14 (.ld false 1 (.t 13)), zv 15 (.len false (.t 14)), zv 16 (.bin .lss .no (.t 12) (.t 15)), zm 17 16, zw 17 true 18 (.mov (.t 1)), zw 17 true 19 (.bin .geq .no (.t 18) (zc 0)), zv 20 (.pick (.t 17) (.t 19) (.c (.bool false)))]
def q89 : IC := zr [zv 23 (.fad (.t 3) 2), zv 24 (.ld false 1 (.t 23)), zm 25 7, zv 26 (.iad 3 (.t 24) (.t 25)), zv 27 (.ld true 3 (.t 26)), zm 28 1, zm 29 2, zv 30 (.bin .sub .no (.t 29) (zc 1)), zi 31 (.call (.c (.fn 54 [] [])) [((.t 27), (.agg [.id, .id, (.sl 3)])), ((.t 28), .id), ((.t 30), .id)]), zm 1 31]
def qbeh : IC := zr [zm 21 7, zv 22 (.bin .add .no (.t 21) (zc 1)), zm 7 22]
def qbfh : IC := (.seq (.seq qbbm (.cond (.t 20) .skip (.exit 0))) (.seq (.block 1 q89) qbeh))
def q02 : IC := zr [zm 32 1, zm 6 32]
def k0bk : IC := (.seq qbh8 (.seq qbbb (.seq (.seq qbc5 (.cond (.t 11) (.seq qbir .ret) .skip)) (.seq (.seq qbfm (.block 0 (.loop qbfh))) (.seq q02 .ret)))))
@[go_sem] def s0bk : List (RV × Co) := [(.t 6, .id)]
theorem c0bk : cFun Tryz.prog 54 = some (33, k0bk, s0bk) := by kernel_rfl

def qbpr : IC := zr [zv 4 (.mov (zc 0)), zv 5 zf]
def qbll : IC := zr [zm 6 0, zv 7 (.nck (.t 6)), zv 8 (.fad (.t 7) 0), zv 9 (.ld false 1 (.t 8)), zm 10 1, zi 11 (.call (.c (.fn 83 [] [])) [((.t 9), (.sl 4)), ((.t 10), .id), ((.c (.fn 84 [] [])), .id)]), zv 12 (.ext (.t 11) 0), zv 13 (.ext (.t 11) 1), zm 4 12, zm 5 13]
def k0s : IC := (.seq qbpr (.seq qbll .ret))
@[go_sem] def s0s : List (RV × Co) := [(.t 4, .id), (.t 5, .id)]
theorem c0s : cFun Tryz.prog 55 = some (14, k0s, s0s) := by kernel_rfl

def qbmu : IC := zr [zi 1 (.box (.t 0)), zi 2 (.alo [(.str []), (.int .i64 0), .nils])]
def qbk4 : IC := zr [zv 6 (.fad (.t 1) 2), zv 7 (.ld false 1 (.t 6)), zv 8 (.len false (.t 7)), zi 9 (.mks 3 (.agg [(.str []), (.int .i64 0), .nils]) 48 (.t 8) (.t 8)), zm 3 9]
def qbnd : IC := zr [zv 10 (.fad (.t 1) 2), zv 11 (.ld false 1 (.t 10)), zv 12 (.len false (.t 11)), zv 13 (.mov (zc 0))]
def qbk9 : IC := zr [zv 14 (.bin .lss .no (.t 13) (.t 12))]
def qbsn : IC := zr [zm 15 13, zv 16 (.iad 3 (.t 11) (.t 13)), zv 17 (.ld true 3 (.t 16)), zi 5 (.alo [(.str []), (.int .i64 0), .nils]), zm 4 15, zn (.st 3 (.agg [.id, .id, (.sl 3)]) (.t 5) (.t 17))]
def qbn6 : IC := zr [zm 18 3, zm 19 4, zv 20 (.ld true 3 (.t 5)), zi 21 (.call (.c (.fn 57 [] [])) [((.t 20), (.agg [.id, .id, (.sl 3)]))]), zv 22 (.iad 3 (.t 18) (.t 19)), zn (.st 3 (.agg [.id, .id, (.sl 3)]) (.t 22) (.t 21))]
def qbkq : IC := zr [zv 23 (.bin .add .no (.t 13) (zc 1)), zm 13 23]
def qbsb : IC := (.seq qbk9 (.seq (.cond (.t 14) .skip (.exit 0)) (.seq (.block 1 (.seq qbsn qbn6)) qbkq)))
def qbsg : IC := zr [zm 24 3, zv 25 (.fad (.t 1) 2), zn (.st 1 (.sl 3) (.t 25) (.t 24))]
def qbch : IC := zr [zv 26 (.ld true 3 (.t 1)), zn (.st 3 (.agg [.id, .id, (.sl 3)]) (.t 2) (.t 26))]
def k0u : IC := (.seq qbmu (.seq qbk4 (.seq (.seq qbnd (.block 0 (.loop qbsb))) (.seq qbsg (.seq qbch .ret)))))
@[go_sem] def s0u : List (RV × Co) := [(.c true 3 2, (.agg [.id, .id, (.sl 3)]))]
theorem c0u : cFun Tryz.prog 57 = some (27, k0u, s0u) := by kernel_rfl

def qbmo : IC := zr [zi 3 (.box (.t 1)), zi 4 (.alo [(.str []), (.int .i64 0), .nils]), zv 5 (.mov (zc 0))]
def qbpl : IC := zr [zv 8 (.ld true 3 (.t 3)), zi 9 (.call (.c (.fn 47 [] [])) [((.t 8), (.agg [.id, .id, (.sl 3)]))]), zv 10 (.un .not (.t 9))]
def qbnl : IC := zr [zv 11 (.bld [(.str []), (.int .i64 0), .nils] []), zn (.st 3 (.agg [.id, .id, (.sl 3)]) (.t 4) (.t 11)), zv 5 (.mov (zc 1))]
def qbr0 : IC := zr [zm 12 0, zv 13 (.bld [.nilp, (.int .i64 0)] [(0, 1, (.t 12)), (1, 1, (zc 4096))]), zi 14 (.box (.t 13)), zm 6 14]
def qbo5 : IC := zr [zm 15 6, zv 16 (.ld true 3 (.t 3)), zi 17 (.call (.c (.fn 87 [] [])) [((.t 15), .id), ((.t 16), (.agg [.id, .id, (.sl 3)])), ((zc 1), .id)]), zi 7 (.alo [(.str []), (.int .i64 0), .nils]), zn (.st 3 (.agg [.id, .id, (.sl 3)]) (.t 7) (.t 17))]
def qbqf : IC := zr [zm 18 6, zv 19 (.nck (.t 18)), zv 20 (.fad (.t 19) 1), zv 21 (.ld false 1 (.t 20)), zv 22 (.bin .lss .no (.t 21) (zc 0))]
def qbr5 : IC := zr [zv 23 (.bld [(.str []), (.int .i64 0), .nils] []), zn (.st 3 (.agg [.id, .id, (.sl 3)]) (.t 4) (.t 23)), zv 5 (.mov (zc 2))]
def qbpf : IC := zr [zv 24 (.ld true 3 (.t 7)), zn (.st 3 (.agg [.id, .id, (.sl 3)]) (.t 4) (.t 24)), zv 5 (.mov (zc 0))]
def k0m : IC := (.seq qbmo (.seq (.seq qbpl (.cond (.t 10) (.seq qbnl .ret) .skip)) (.seq qbr0 (.seq qbo5 (.seq (.seq qbqf (.cond (.t 22) (.seq qbr5 .ret) .skip)) (.seq qbpf .ret))))))
@[go_sem] def s0m : List (RV × Co) := [(.c true 3 4, (.agg [.id, .id, (.sl 3)])), (.t 5, .id)]
theorem c0m : cFun Tryz.prog 58 = some (25, k0m, s0m) := by kernel_rfl

def qbqq : IC := zr [zi 5 (.box (.t 2)), zv 6 (.mov (.c .nils)), zv 7 (.mov (zc 0))]
def qbpb : IC := zr [zv 11 (.ld true 3 (.t 5)), zi 12 (.call (.c (.fn 20 [] [])) [((.t 11), (.agg [.id, .id, (.sl 3)]))]), zv 13 (.un .not (.t 12))]
def qbrl : IC := zr [zm 14 0, zm 6 14, zv 7 (.mov (zc 1))]
def qbli : IC := zr [zm 16 0, zm 17 1, zi 18 (.call (.c (.fn 88 [] [])) [((.t 16), (.sl 4)), ((.t 17), .id)]), zm 15 18, zv 19 (.ext (.t 15) 0), zv 20 (.ext (.t 15) 1), zi 8 (.alo [(.str []), (.int .i64 0), .nils]), zn (.st 3 (.agg [.id, .id, (.sl 3)]) (.t 8) (.t 19)), zm 9 20]
def qbrr : IC := zr [zm 21 9]
def qbmg : IC := zr [zm 22 0, zm 6 22, zv 7 (.mov (zc 6))]
def qboy : IC := zr [zv 10 (.mov (zc 0))]
def qbrn : IC := zr [zm 23 10, zm 24 0, zv 25 (.len false (.t 24)), zv 26 (.bin .lss .no (.t 23) (.t 25)), zm 27 26, zw 27 true 28 (.mov (.t 0)), zw 27 true 29 (.mov (.t 10)), zw 27 true 30 (.iad 4 (.t 28) (.t 29)), zw 27 true 31 (.fad (.t 30) 0), zw 27 true 32 (.ld false 1 (.t 31)), zw 27 true 33 (.mov (.t 1)), zw 27 true 34 (.bin .lss .no (.t 32) (.t 33)), zv 35 (.pick (.t 27) (.t 34) (.c (.bool false)))]
def qbo9 : IC := zr [zm 36 10, zv 37 (.bin .add .no (.t 36) (zc 1)), zm 10 37]
def qbmf : IC := (.seq (.seq qbrn (.cond (.t 35) .skip (.exit 0))) (.block 1 qbo9))
def qbae : IC := .drw [zp (zm 38 0), zp (zm 39 10), zp (zv 40 (.slv 4 (.t 38) none (some (.t 39)) none)), (zi 41 (.app 4 (.agg [(.int .i64 0), (.str []), (.int .i64 0), .nils]) 56 (.sl 4) (.c .nils) (.t 40)), []), zp (zm 42 1), (zv 43 (.ld true 3 (.t 5)), [3]), (zv 44 (.bld [(.int .i64 0), (.str []), (.int .i64 0), .nils] [(0, 1, (.t 42)), (1, 3, (.t 43))]), []), (zv 45 (.bsl 4 [((.t 44), (.agg [.id, .id, .id, (.sl 3)]))]), [3]), (zi 46 (.app 4 (.agg [(.int .i64 0), (.str []), (.int .i64 0), .nils]) 56 (.sl 4) (.t 41) (.t 45)), []), zp (zm 47 0), zp (zm 48 10), (zv 49 (.slv 4 (.t 47) (some (.t 48)) none none), [3, 8]), (zi 50 (.app 4 (.agg [(.int .i64 0), (.str []), (.int .i64 0), .nils]) 56 (.sl 4) (.t 46) (.t 49)), []), zp (zm 6 50), zp (zv 7 (.mov (zc 0)))]
def k0w : IC := (.seq qbqq (.seq (.seq qbpb (.cond (.t 13) (.seq qbrl .ret) .skip)) (.seq (.seq qbli (.seq qbrr (.cond (.t 21) (.seq qbmg .ret) .skip))) (.seq qboy (.seq (.block 0 (.loop qbmf)) (.seq qbae .ret))))))
@[go_sem] def s0w : List (RV × Co) := [(.t 6, (.sl 4)), (.t 7, .id)]
theorem c0w : cFun Tryz.prog 59 = some (51, k0w, s0w) := by kernel_rfl

def qbsy : IC := zr [zv 4 (.mov (.c .nils)), zv 5 (.mov (zc 0))]
def qbrb : IC := zr [zv 6 (.mov (.c .nils))]
def qbpe : IC := zr [zv 7 (.mov (zc 0))]
def qbn9 : IC := zr [zm 10 7, zm 11 1, zv 12 (.len false (.t 11)), zv 13 (.bin .lss .no (.t 10) (.t 12))]
def qbmb : IC := zr [zm 17 0, zm 18 1, zm 19 7, zv 20 (.iad 4 (.t 18) (.t 19)), zv 21 (.fad (.t 20) 1), zv 22 (.ld true 3 (.t 21)), zi 23 (.call (.c (.fn 89 [] [])) [((.t 17), (.sl 4)), ((.t 22), (.agg [.id, .id, (.sl 3)]))]), zm 16 23, zv 24 (.ext (.t 16) 0), zv 25 (.ext (.t 16) 1), zi 8 (.alo [(.str []), (.int .i64 0), .nils]), zn (.st 3 (.agg [.id, .id, (.sl 3)]) (.t 8) (.t 24)), zm 9 25]
def qbq1 : IC := zr [zm 26 9, zv 27 (.bin .neq .no (.t 26) (zc 0))]
def qbsq : IC := zr [zm 28 9, zv 4 (.mov (.c .nils)), zm 5 28]
def qbop : IC := .drw [zp (zm 29 6), zp (zm 30 1), zp (zm 31 7), zp (zv 32 (.iad 4 (.t 30) (.t 31))), zp (zv 33 (.fad (.t 32) 0)), zp (zv 34 (.ld false 1 (.t 33))), zp (zv 35 (.ld true 3 (.t 8))), (zv 36 (.bld [(.str []), (.str []), (.int .i64 0), .nils] [(0, 1, (.t 34)), (1, 3, (.t 35))]), []), (zv 37 (.bsl 4 [((.t 36), (.agg [.id, .id, .id, (.sl 3)]))]), []), (zi 38 (.app 4 (.agg [(.str []), (.str []), (.int .i64 0), .nils]) 64 (.sl 4) (.t 29) (.t 37)), []), zp (zm 6 38)]
def qbri : IC := zr [zm 14 7, zv 15 (.bin .add .no (.t 14) (zc 1)), zm 7 15]
def qbr6 : IC := (.seq (.seq qbn9 (.cond (.t 13) .skip (.exit 0))) (.seq (.block 1 (.seq qbmb (.seq (.seq qbq1 (.cond (.t 27) (.seq qbsq .ret) .skip)) qbop))) qbri))
def qbei : IC := zr [zm 39 6, zm 4 39, zv 5 (.mov (zc 0))]
def k0k : IC := (.seq qbsy (.seq qbrb (.seq (.seq qbpe (.block 0 (.loop qbr6))) (.seq qbei .ret))))
@[go_sem] def s0k : List (RV × Co) := [(.t 4, (.sl 4)), (.t 5, .id)]
theorem c0k : cFun Tryz.prog 60 = some (40, k0k, s0k) := by kernel_rfl

def q82 : IC := zr [zi 2 (.box (.t 0)), zi 3 (.box (.t 1)), zv 4 zf]
def qbhk : IC := zr [zv 6 (.fad (.t 2) 0), zv 7 (.ld false 1 (.t 6)), zv 8 (.fad (.t 3) 0), zv 9 (.ld false 1 (.t 8)), zv 10 (.bin .neq .no (.t 7) (.t 9)), zm 11 10, zw 11 false 12 (.fad (.t 2) 1), zw 11 false 13 (.ld false 1 (.t 12)), zw 11 false 14 (.fad (.t 3) 1), zw 11 false 15 (.ld false 1 (.t 14)), zw 11 false 16 (.bin .neq .no (.t 13) (.t 15)), zv 17 (.pick (.t 11) (.c (.bool true)) (.t 16)), zm 18 17, zw 18 false 19 (.fad (.t 2) 2), zw 18 false 20 (.ld false 1 (.t 19)), zw 18 false 21 (.len false (.t 20)), zw 18 false 22 (.fad (.t 3) 2), zw 18 false 23 (.ld false 1 (.t 22)), zw 18 false 24 (.len false (.t 23)), zw 18 false 25 (.bin .neq .no (.t 21) (.t 24)), zv 26 (.pick (.t 18) (.c (.bool true)) (.t 25))]
def q7u : IC := zr [zv 4 zf]
def qbev : IC := zr [zv 5 (.mov (zc 0))]
def qbhn : IC := zr [zm 27 5, zv 28 (.fad (.t 2) 2), zv 29 (.ld false 1 (.t 28)), zv 30 (.len false (.t 29)), zv 31 (.bin .lss .no (.t 27) (.t 30))]
def qbd8 : IC := .drw [zp (zv 34 (.fad (.t 2) 2)), zp (zv 35 (.ld false 1 (.t 34))), zp (zm 36 5), zp (zv 37 (.iad 3 (.t 35) (.t 36))), zp (zv 38 (.ld true 3 (.t 37))), zp (zv 39 (.fad (.t 3) 2)), zp (zv 40 (.ld false 1 (.t 39))), zp (zm 41 5), zp (zv 42 (.iad 3 (.t 40) (.t 41))), zp (zv 43 (.ld true 3 (.t 42))), (zi 44 (.call (.c (.fn 61 [] [])) [((.t 38), (.agg [.id, .id, (.sl 3)])), ((.t 43), (.agg [.id, .id, (.sl 3)]))]), []), zp (zv 45 (.un .not (.t 44)))]
def qbat : IC := zr [zv 4 zf]
def q9s : IC := zr [zm 32 5, zv 33 (.bin .add .no (.t 32) (zc 1)), zm 5 33]
def q8f : IC := (.seq (.seq qbhn (.cond (.t 31) .skip (.exit 0))) (.seq (.block 1 (.seq qbd8 (.cond (.t 45) (.seq qbat .ret) .skip))) q9s))
def qzs : IC := zr [zv 4 (.mov (.c (.bool true)))]
def k0bp : IC := (.seq q82 (.seq (.seq qbhk (.cond (.t 26) (.seq q7u .ret) .skip)) (.seq (.seq qbev (.block 0 (.loop q8f))) (.seq qzs .ret))))
@[go_sem] def s0bp : List (RV × Co) := [(.t 4, .id)]
theorem c0bp : cFun Tryz.prog 61 = some (46, k0bp, s0bp) := by kernel_rfl

def q83 : IC := zr [zv 2 zf]
def q8k : IC := zr [zm 5 0, zv 6 (.bin .eql .no (.t 5) (.c (.str []))), zm 7 6, zw 7 false 8 (.mov (.t 0)), zw 7 false 9 (.idx (.t 8) (zc 0)), zw 7 false 10 (.bin .neq .no (.t 9) (.c (.int .u8 33))), zv 11 (.pick (.t 7) (.c (.bool true)) (.t 10))]
def qbfx : IC := zr [zv 2 zf]
def q9d : IC := zr [zm 13 0, zv 14 (.sls (.t 13) (some (zc 1)) none), zi 15 (.call (.c (.fn 90 [] [])) [((.t 14), .id)]), zm 12 15, zv 16 (.ext (.t 12) 0), zv 17 (.ext (.t 12) 1), zm 3 16, zm 4 17]
def qba7 : IC := .drw [zp (zm 18 4), zp (zv 19 (.bin .eql .no (.t 18) (zc 0))), zp (zm 20 19), zp (zw 20 true 21 (.mov (.t 3))), (⟨some (20, true), some 22, .call (.c (.fn 82 [] [])) [((.t 21), .id)]⟩, []), zp (zw 20 true 23 (.mov (.t 0))), zp (zw 20 true 24 (.sls (.t 23) (some (zc 1)) none)), zp (zw 20 true 25 (.bin .eql .no (.t 22) (.t 24))), zp (zv 26 (.pick (.t 20) (.t 25) (.c (.bool false)))), zp (zm 2 26)]
def k0br : IC := (.seq q83 (.seq (.seq q8k (.cond (.t 11) (.seq qbfx .ret) .skip)) (.seq q9d (.seq qba7 .ret))))
@[go_sem] def s0br : List (RV × Co) := [(.t 2, .id)]
theorem c0br : cFun Tryz.prog 62 = some (27, k0br, s0br) := by kernel_rfl

def qbba : IC := zr [zv 4 (.mov (.c .nilp)), zv 5 (.mov (zc 0))]
def qbgn : IC := zr [zm 7 0, zi 8 (.call (.c (.fn 91 [] [])) [((.t 7), (.sl 3))]), zv 9 (.un .not (.t 8)), zm 10 9, zw 10 false 11 (.mov (.t 1)), ⟨some (10, false), some 12, .call (.c (.fn 91 [] [])) [((.t 11), (.sl 3))]⟩, zw 10 false 13 (.un .not (.t 12)), zv 14 (.pick (.t 10) (.c (.bool true)) (.t 13))]
def qbig : IC := zr [zv 4 (.mov (.c .nilp)), zv 5 (.mov (zc 1))]
def qba3 : IC := zr [zi 15 (.call (.c (.fn 33 [] [])) [((.c .nils), (.sl 4))]), zi 6 (.alo [.nilp]), zn (.st 1 .id (.t 6) (.t 15))]
def qbap : IC := zr [zm 16 0, zm 17 1, zv 18 (.mfn 93 [] [(.t 6)]), zi 19 (.call (.c (.fn 92 [] [])) [((.t 16), (.sl 3)), ((.t 17), (.sl 3)), ((.t 18), .id)]), zv 20 (.un .not (.t 19))]
def qbal : IC := zr [zv 4 (.mov (.c .nilp)), zv 5 (.mov (zc 14))]
def qbg8 : IC := zr [zv 21 (.ld false 1 (.t 6)), zm 4 21, zv 5 (.mov (zc 0))]
def k0dj : IC := (.seq qbba (.seq (.seq qbgn (.cond (.t 14) (.seq qbig .ret) .skip)) (.seq qba3 (.seq (.seq qbap (.cond (.t 20) (.seq qbal .ret) .skip)) (.seq qbg8 .ret)))))
@[go_sem] def s0dj : List (RV × Co) := [(.t 4, .id), (.t 5, .id)]
theorem c0dj : cFun Tryz.prog 63 = some (22, k0dj, s0dj) := by kernel_rfl

def q6a : IC := zr [zv 1 (.ld false 1 (.t 0)), zv 2 (.nck (.t 1)), zv 3 (.fad (.t 2) 1), zv 4 (.ld false 1 (.t 3)), zv 5 (.bin .sub .no (.t 4) (zc 1)), zv 6 (.nck (.t 1)), zv 7 (.fad (.t 6) 1), zn (.st 1 .id (.t 7) (.t 5))]
def k0cx : IC := q6a
@[go_sem] def s0cx : List (RV × Co) := []
theorem c0cx : cFun Tryz.prog 64 = some (8, k0cx, s0cx) := by kernel_rfl

def qbi6 : IC := zr [zi 2 (.alo [(.str []), (.int .i64 0), .nils])]
def q97 : IC := zr [zm 6 0, zi 7 (.call (.c (.fn 67 [] [])) [((.t 6), .id), ((.c (.str [40])), .id)])]
def qbh4 : IC := zr [zm 8 0, zi 9 (.call (.c (.fn 42 [] [])) [((.t 8), .id)]), zi 3 (.alo [(.str []), (.int .i64 0), .nils]), zn (.st 3 (.agg [.id, .id, (.sl 3)]) (.t 3) (.t 9))]
def q8q : IC := zr [zm 10 0, zm 11 0, zv 12 (.nck (.t 11)), zv 13 (.fad (.t 12) 2), zv 14 (.ld false 1 (.t 13)), zm 15 14, zw 15 false 16 (.mov (.t 0)), ⟨some (15, false), some 17, .call (.c (.fn 67 [] [])) [((.t 16), .id), ((.c (.str [41])), .id)]⟩, zw 15 false 18 (.un .not (.t 17)), zv 19 (.pick (.t 15) (.c (.bool true)) (.t 18)), zv 20 (.nck (.t 10)), zv 21 (.fad (.t 20) 2), zn (.st 1 .id (.t 21) (.t 19))]
def q6f : IC := zr [zv 22 (.ld true 3 (.t 3)), zn (.st 3 (.agg [.id, .id, (.sl 3)]) (.t 2) (.t 22))]
def q81 : IC := zr [zm 23 0, zv 24 (.nck (.t 23)), zv 25 (.fad (.t 24) 0), zv 26 (.ld false 1 (.t 25)), zi 27 (.call (.c (.fn 95 [] [])) [((.t 26), .id), ((.c (.str [32, 40, 41])), .id)]), zm 4 27]
def q6z : IC := zr [zm 28 4, zv 29 (.bin .lss .no (.t 28) (zc 0))]
def qbh1 : IC := zr [zm 30 0, zv 31 (.nck (.t 30)), zv 32 (.fad (.t 31) 0), zv 33 (.ld false 1 (.t 32)), zv 34 (.len true (.t 33)), zm 4 34]
def qba4 : IC := zr [zm 35 0, zv 36 (.nck (.t 35)), zv 37 (.fad (.t 36) 0), zv 38 (.ld false 1 (.t 37)), zm 39 4, zv 40 (.sls (.t 38) none (some (.t 39))), zi 41 (.call (.c (.fn 96 [] [])) [((.t 40), .id)]), zi 5 (.alo [(.str []), (.int .i64 0), .nils]), zn (.st 3 (.agg [.id, .id, (.sl 3)]) (.t 5) (.t 41))]
def qbf2 : IC := .drw [zp (zm 42 0), zp (zm 43 0), zp (zm 44 0), zp (zv 45 (.nck (.t 44))), zp (zv 46 (.fad (.t 45) 0)), zp (zv 47 (.ld false 1 (.t 46))), zp (zm 48 4), zp (zv 49 (.sls (.t 47) (some (.t 48)) none)), zp (zm 50 0), zp (zv 51 (.nck (.t 50))), zp (zv 52 (.fad (.t 51) 2)), zp (zv 53 (.ld false 1 (.t 52))), zp (zm 54 53), zp (zw 54 false 55 (.mov (.t 4))), zp (zw 54 false 56 (.bin .eql .no (.t 55) (zc 0))), zp (zv 57 (.pick (.t 54) (.c (.bool true)) (.t 56))), zp (zv 58 (.nck (.t 42))), zp (zv 59 (.fad (.t 58) 0)), (zn (.st 1 .id (.t 59) (.t 49)), []), zp (zv 60 (.nck (.t 43))), zp (zv 61 (.fad (.t 60) 2)), (zn (.st 1 .id (.t 61) (.t 57)), [])]
def q0y : IC := zr [zv 62 (.ld true 3 (.t 5)), zn (.st 3 (.agg [.id, .id, (.sl 3)]) (.t 2) (.t 62))]
def k0cy : IC := (.seq qbi6 (.seq (.seq q97 (.cond (.t 7) (.seq qbh4 (.seq q8q (.seq q6f .ret))) .skip)) (.seq q81 (.seq (.seq q6z (.cond (.t 29) qbh1 .skip)) (.seq qba4 (.seq qbf2 (.seq q0y .ret)))))))
@[go_sem] def s0cy : List (RV × Co) := [(.c true 3 2, (.agg [.id, .id, (.sl 3)]))]
theorem c0cy : cFun Tryz.prog 65 = some (63, k0cy, s0cy) := by kernel_rfl

def qbjg : IC := zr [zv 4 zf]
def qbcg : IC := zr [zm 5 0, zm 6 1, zi 7 (.call (.c (.fn 97 [] [])) [((.t 5), .id), ((.t 6), .id)]), zm 4 7]
def k0bv : IC := (.seq qbjg (.seq qbcg .ret))
@[go_sem] def s0bv : List (RV × Co) := [(.t 4, .id)]
theorem c0bv : cFun Tryz.prog 66 = some (8, k0bv, s0bv) := by kernel_rfl

def qbeg : IC := zr [zv 4 zf]
def qbgs : IC := zr [zm 6 0, zv 7 (.nck (.t 6)), zv 8 (.fad (.t 7) 0), zv 9 (.ld false 1 (.t 8)), zm 10 1, zi 11 (.call (.c (.fn 66 [] [])) [((.t 9), .id), ((.t 10), .id)]), zm 5 11]
def q7d : IC := zr [zm 12 5]
def qbj0 : IC := zr [zm 13 0, zm 14 0, zv 15 (.nck (.t 14)), zv 16 (.fad (.t 15) 0), zv 17 (.ld false 1 (.t 16)), zm 18 1, zv 19 (.len true (.t 18)), zv 20 (.sls (.t 17) (some (.t 19)) none), zv 21 (.nck (.t 13)), zv 22 (.fad (.t 21) 0), zn (.st 1 .id (.t 22) (.t 20))]
def qbjv : IC := zr [zm 23 5, zm 4 23]
def k0db : IC := (.seq qbeg (.seq qbgs (.seq (.seq q7d (.cond (.t 12) qbj0 .skip)) (.seq qbjv .ret))))
@[go_sem] def s0db : List (RV × Co) := [(.t 4, .id)]
theorem c0db : cFun Tryz.prog 67 = some (24, k0db, s0db) := by kernel_rfl

def q87 : IC := zr [zv 2 (.mov (.c .nils))]
def qbew : IC := zr [zm 3 0, zv 4 (.bin .eql .slice (.t 3) (.c .nils))]
def qbco : IC := zr [zv 2 (.mov (.c .nils))]
def qbic : IC := zr [zv 5 (.bsl 3 []), zm 6 0, zi 7 (.app 3 (.agg [(.str []), (.int .i64 0), .nils]) 48 (.sl 3) (.t 5) (.t 6)), zm 2 7]
def k0da : IC := (.seq q87 (.seq (.seq qbew (.cond (.t 4) (.seq qbco .ret) .skip)) (.seq qbic .ret)))
@[go_sem] def s0da : List (RV × Co) := [(.t 2, (.sl 3))]
theorem c0da : cFun Tryz.prog 68 = some (8, k0da, s0da) := by kernel_rfl

def q8y : IC := zr [zv 2 zf]
def q6x : IC := zr [zm 3 0, zv 4 (.bin .geq .no (.t 3) (.c (.int .u8 97))), zm 5 4, zw 5 true 6 (.mov (.t 0)), zw 5 true 7 (.bin .leq .no (.t 6) (.c (.int .u8 122))), zv 8 (.pick (.t 5) (.t 7) (.c (.bool false))), zm 9 8, zw 9 false 10 (.mov (.t 0)), zw 9 false 11 (.bin .eql .no (.t 10) (.c (.int .u8 95))), zv 12 (.pick (.t 9) (.c (.bool true)) (.t 11)), zm 2 12]
def k0by : IC := (.seq q8y (.seq q6x .ret))
@[go_sem] def s0by : List (RV × Co) := [(.t 2, .id)]
theorem c0by : cFun Tryz.prog 69 = some (13, k0by, s0by) := by kernel_rfl

def qbby : IC := zr [zv 2 zf]
def qbci : IC := zr [zm 3 0, zi 4 (.call (.c (.fn 98 [] [])) [((.t 3), .id)]), zm 5 4, zw 5 false 6 (.mov (.t 0)), ⟨some (5, false), some 7, .call (.c (.fn 45 [] [])) [((.t 6), .id)]⟩, zv 8 (.pick (.t 5) (.c (.bool true)) (.t 7)), zm 9 8, zw 9 false 10 (.mov (.t 0)), ⟨some (9, false), some 11, .call (.c (.fn 99 [] [])) [((.t 10), .id)]⟩, zv 12 (.pick (.t 9) (.c (.bool true)) (.t 11)), zm 13 12, zw 13 false 14 (.mov (.t 0)), zw 13 false 15 (.bin .eql .no (.t 14) (.c (.int .u8 39))), zv 16 (.pick (.t 13) (.c (.bool true)) (.t 15)), zm 2 16]
def k0cd : IC := (.seq qbby (.seq qbci .ret))
@[go_sem] def s0cd : List (RV × Co) := [(.t 2, .id)]
theorem c0cd : cFun Tryz.prog 70 = some (17, k0cd, s0cd) := by kernel_rfl

def qbaq : IC := zr [zi 3 (.box (.t 0)), zv 6 zf]
def qbcw : IC := zr [zm 9 2, zv 10 (.ld true 3 (.t 3)), zm 11 1, zi 12 (.call (.t 9) [((.t 10), (.agg [.id, .id, (.sl 3)])), ((.t 11), .id)]), zv 13 (.un .not (.t 12))]
def qbie : IC := zr [zv 6 zf]
def qbh9 : IC := zr [zv 14 (.fad (.t 3) 2), zv 15 (.ld false 1 (.t 14)), zv 16 (.len false (.t 15)), zv 17 (.mov (zc 0))]
def q5t : IC := zr [zv 18 (.bin .lss .no (.t 17) (.t 16))]
def q6e : IC := zr [zv 19 (.iad 3 (.t 15) (.t 17)), zv 20 (.ld true 3 (.t 19)), zi 8 (.alo [(.str []), (.int .i64 0), .nils]), zn (.st 3 (.agg [.id, .id, (.sl 3)]) (.t 8) (.t 20))]
def q6i : IC := zr [zv 21 (.ld true 3 (.t 8)), zm 22 1, zv 23 (.bin .add .no (.t 22) (zc 1)), zm 24 2, zi 25 (.call (.c (.fn 71 [] [])) [((.t 21), (.agg [.id, .id, (.sl 3)])), ((.t 23), .id), ((.t 24), .id)]), zv 26 (.un .not (.t 25))]
def qbe1 : IC := zr [zv 6 zf]
def q8j : IC := zr [zv 27 (.bin .add .no (.t 17) (zc 1)), zm 17 27]
def qbeu : IC := (.seq q5t (.seq (.cond (.t 18) .skip (.exit 0)) (.seq (.block 1 (.seq q6e (.seq q6i (.cond (.t 26) (.seq qbe1 .ret) .skip)))) q8j)))
def q3v : IC := zr [zv 6 (.mov (.c (.bool true)))]
def k0bt : IC := (.seq qbaq (.seq (.seq qbcw (.cond (.t 13) (.seq qbie .ret) .skip)) (.seq (.seq qbh9 (.block 0 (.loop qbeu))) (.seq q3v .ret))))
@[go_sem] def s0bt : List (RV × Co) := [(.t 6, .id)]
theorem c0bt : cFun Tryz.prog 71 = some (28, k0bt, s0bt) := by kernel_rfl

def qbcj : IC := zr [zi 3 (.box (.t 0)), zv 5 zf]
def qbb8 : IC := zr [zv 6 (.ld false 1 (.t 2)), zv 7 (.bin .add .no (.t 6) (zc 1)), zn (.st 1 .id (.t 2) (.t 7))]
def qbek : IC := zr [zv 8 (.ld false 1 (.t 2)), zv 9 (.bin .leq .no (.t 8) (zc 4096)), zm 10 9, zw 10 true 11 (.mov (.t 1)), zw 10 true 12 (.bin .leq .no (.t 11) (zc 100)), zv 13 (.pick (.t 10) (.t 12) (.c (.bool false))), zm 14 13, zw 14 true 15 (.ld true 3 (.t 3)), ⟨some (14, true), some 16, .call (.c (.fn 73 [] [])) [((.t 15), (.agg [.id, .id, (.sl 3)]))]⟩, ⟨some (14, true), some 17, .call (.c (.fn 74 [] [])) [((.t 16), .id)]⟩, zv 18 (.pick (.t 14) (.t 17) (.c (.bool false))), zm 5 18]
def k0bb : IC := (.seq qbcj (.seq qbb8 (.seq qbek .ret)))
@[go_sem] def s0bb : List (RV × Co) := [(.t 5, .id)]
theorem c0bb : cFun Tryz.prog 72 = some (19, k0bb, s0bb) := by kernel_rfl

def q8r : IC := zr [zi 1 (.box (.t 0)), zi 2 (.alo [(.str []), (.int .i64 0), (.int .i64 0)])]
def qbfq : IC := zr [zv 3 (.fad (.t 1) 0), zv 4 (.ld false 1 (.t 3)), zv 5 (.fad (.t 1) 1), zv 6 (.ld false 1 (.t 5)), zv 7 (.fad (.t 1) 2), zv 8 (.ld false 1 (.t 7)), zv 9 (.len false (.t 8)), zv 10 (.bld [(.str []), (.int .i64 0), (.int .i64 0)] [(0, 1, (.t 4)), (1, 1, (.t 6)), (2, 1, (.t 9))]), zn (.st 3 .id (.t 2) (.t 10))]
def k0bn : IC := (.seq q8r (.seq qbfq .ret))
@[go_sem] def s0bn : List (RV × Co) := [(.c true 3 2, .id)]
theorem c0bn : cFun Tryz.prog 73 = some (11, k0bn, s0bn) := by kernel_rfl

def qbe2 : IC := zr [zi 1 (.box (.t 0)), zv 2 zf]
def qbdr : IC := zr [zv 4 (.fad (.t 1) 0), zv 5 (.ld false 1 (.t 4)), zv 6 (.bin .eql .no (.t 5) (.c (.str []))), zm 3 6]
def qbd9 : IC := zr [zv 7 (.fad (.t 1) 2), zv 8 (.ld false 1 (.t 7)), zv 9 (.bin .eql .no (.t 8) (zc 0)), zm 2 9]
def qbdz : IC := zr [zv 11 (.fad (.t 1) 0), zv 12 (.ld false 1 (.t 11)), zv 13 (.bin .eql .no (.t 12) (.c (.str [45, 62]))), zm 10 13]
def qbhc : IC := zr [zv 14 (.ld true 3 (.t 1)), zv 15 (.bld [(.str []), (.int .i64 0), (.int .i64 0)] [(0, 1, (.c (.str [45, 62]))), (1, 1, (zc 0)), (2, 1, (zc 2))]), zv 16 (.bin .eql (.cells [.str, (.int .i64), (.int .i64)]) (.t 14) (.t 15)), zm 2 16]
def q57 : IC := zr [zv 18 (.fad (.t 1) 0), zv 19 (.ld false 1 (.t 18)), zi 20 (.call (.c (.fn 100 [] [])) [((.t 19), .id)]), zm 17 20]
def qbe4 : IC := zr [zv 21 (.ld true 3 (.t 1)), zv 22 (.fad (.t 1) 0), zv 23 (.ld false 1 (.t 22)), zv 24 (.bld [(.str []), (.int .i64 0), (.int .i64 0)] [(0, 1, (.t 23))]), zv 25 (.bin .eql (.cells [.str, (.int .i64), (.int .i64)]) (.t 21) (.t 24)), zm 2 25]
def qbaz : IC := zr [zv 26 (.fad (.t 1) 1), zv 27 (.ld false 1 (.t 26)), zv 28 (.bin .eql .no (.t 27) (zc 0)), zm 29 28, zw 29 true 30 (.fad (.t 1) 0), zw 29 true 31 (.ld false 1 (.t 30)), ⟨some (29, true), some 32, .call (.c (.fn 25 [] [])) [((.t 31), .id)]⟩, zv 33 (.pick (.t 29) (.t 32) (.c (.bool false))), zm 2 33]
def k0bs : IC := (.seq qbe2 (.seq (.block 0 (.seq qbdr (.cond (.t 3) (.seq qbd9 .ret) (.seq qbdz (.cond (.t 10) (.seq qbhc .ret) (.seq q57 (.cond (.t 17) (.seq qbe4 .ret) .skip))))))) (.seq qbaz .ret)))
@[go_sem] def s0bs : List (RV × Co) := [(.t 2, .id)]
theorem c0bs : cFun Tryz.prog 74 = some (34, k0bs, s0bs) := by kernel_rfl

def qbkl : IC := zr [zi 2 (.box (.t 0)), zv 4 (.mov (.c (.str [])))]
def qbnn : IC := zr [zm 5 1]
def qbkd : IC := zr [zv 6 (.ld true 3 (.t 2)), zi 7 (.call (.c (.fn 48 [] [])) [((.t 6), (.agg [.id, .id, (.sl 3)]))]), zv 8 (.bin .add .no (.c (.str [40])) (.t 7)), zv 9 (.bin .add .no (.t 8) (.c (.str [41]))), zm 4 9]
def qbo3 : IC := zr [zv 10 (.ld true 3 (.t 2)), zi 11 (.call (.c (.fn 48 [] [])) [((.t 10), (.agg [.id, .id, (.sl 3)]))]), zm 4 11]
def k0y : IC := (.seq qbkl (.seq (.seq qbnn (.cond (.t 5) (.seq qbkd .ret) .skip)) (.seq qbo3 .ret)))
@[go_sem] def s0y : List (RV × Co) := [(.t 4, .id)]
theorem c0y : cFun Tryz.prog 75 = some (12, k0y, s0y) := by kernel_rfl

def qbpc : IC := zr [zi 1 (.box (.t 0)), zv 2 (.mov (.c (.str [])))]
def qbm3 : IC := zr [zv 4 (.fad (.t 1) 0), zv 5 (.ld false 1 (.t 4)), zv 6 (.bin .neq .no (.t 5) (.c (.str []))), zm 3 6]
def qbkw : IC := zr [zv 7 (.fad (.t 1) 0), zv 8 (.ld false 1 (.t 7)), zm 2 8]
def qbma : IC := zr [zv 10 (.fad (.t 1) 1), zv 11 (.ld false 1 (.t 10)), zv 12 (.bin .geq .no (.t 11) (zc 0)), zm 9 12]
def qbqx : IC := zr [zv 13 (.fad (.t 1) 1), zv 14 (.ld false 1 (.t 13)), zi 15 (.call (.c (.fn 102 [] [])) [((.t 14), .id)]), zm 2 15]
def qbp3 : IC := zr [zv 16 (.fad (.t 1) 1), zv 17 (.ld false 1 (.t 16)), zv 18 (.bin .sub .no (zc (-1)) (.t 17)), zi 19 (.call (.c (.fn 103 [] [])) [((.t 18), .id)]), zv 20 (.bin .add .no (.c (.str [63])) (.t 19)), zm 2 20]
def k0x : IC := (.seq qbpc (.seq (.block 0 (.seq qbm3 (.cond (.t 3) (.seq qbkw .ret) (.seq qbma (.cond (.t 9) (.seq qbqx .ret) .skip))))) (.seq qbp3 .ret)))
@[go_sem] def s0x : List (RV × Co) := [(.t 2, .id)]
theorem c0x : cFun Tryz.prog 77 = some (21, k0x, s0x) := by kernel_rfl

def q9c : IC := zr [zv 2 (.mov (.c (.str [])))]
def q8a : IC := zr [zm 5 0, zi 6 (.call (.c (.fn 105 [] [])) [((.t 5), .id)]), zm 3 6]
def q52 : IC := zr [zv 4 (.mov (.c (.str [])))]
def qbg7 : IC := zr [zm 7 3, zv 8 (.bin .gtr .no (.t 7) (.c (.int .u64 9)))]
def q6g : IC := zr [zm 9 3, zv 10 (.bin .rem .no (.t 9) (.c (.int .u64 10))), zv 11 (.bin .add .no (.c (.int .u64 48)) (.t 10)), zv 12 (.cvi .u8 (.t 11)), zv 13 (.bsl 1 [((.t 12), .id)]), zv 14 (.cbs (.t 13)), zm 15 4, zv 16 (.bin .add .no (.t 14) (.t 15)), zm 4 16]
def qbh2 : IC := zr [zm 17 3, zv 18 (.bin .quo .no (.t 17) (.c (.int .u64 10))), zm 3 18]
def qbjm : IC := (.seq (.seq qbg7 (.cond (.t 8) .skip (.exit 0))) (.block 1 (.seq q6g qbh2)))
def qbc2 : IC := zr [zm 19 3, zv 20 (.bin .add .no (.c (.int .u64 48)) (.t 19)), zv 21 (.cvi .u8 (.t 20)), zv 22 (.bsl 1 [((.t 21), .id)]), zv 23 (.cbs (.t 22)), zm 24 4, zv 25 (.bin .add .no (.t 23) (.t 24)), zm 4 25]
def qbj6 : IC := zr [zm 26 0, zv 27 (.bin .lss .no (.t 26) (zc 0))]
def qzm : IC := zr [zm 28 4, zv 29 (.bin .add .no (.c (.str [45])) (.t 28)), zm 2 29]
def q0h : IC := zr [zm 30 4, zm 2 30]
def k0cj : IC := (.seq q9c (.seq q8a (.seq q52 (.seq (.block 0 (.loop qbjm)) (.seq qbc2 (.seq (.seq qbj6 (.cond (.t 27) (.seq qzm .ret) .skip)) (.seq q0h .ret)))))))
@[go_sem] def s0cj : List (RV × Co) := [(.t 2, .id)]
theorem c0cj : cFun Tryz.prog 82 = some (31, k0cj, s0cj) := by kernel_rfl

def qbkf : IC := zr [zv 6 (.mov (zc 0)), zv 7 zf]
def qbn2 : IC := zr [zm 12 0, zv 13 (.len false (.t 12)), zm 8 13]
def qbpn : IC := zr [zm 14 8, zv 9 (.mov (zc 0)), zm 10 14]
def qbpk : IC := zr [zm 15 9, zm 16 10, zv 17 (.bin .lss .no (.t 15) (.t 16))]
def qbse : IC := zr [zm 18 9, zm 19 10, zv 20 (.bin .add .no (.t 18) (.t 19)), zv 21 (.cvi .u64 (.t 20)), zv 22 (.bin .shr .no (.t 21) (.c (.int .u64 1))), zv 23 (.cvi .i64 (.t 22)), zm 11 23]
def qbm2 : IC := zr [zm 24 2, zm 25 0, zm 26 11, zv 27 (.iad 4 (.t 25) (.t 26)), zv 28 (.ld true 4 (.t 27)), zm 29 1, zi 30 (.call (.t 24) [((.t 28), (.agg [.id, .id, .id, (.sl 3)])), ((.t 29), .id)]), zv 31 (.bin .lss .no (.t 30) (zc 0))]
def qbp0 : IC := zr [zm 32 11, zv 33 (.bin .add .no (.t 32) (zc 1)), zm 9 33]
def qbo1 : IC := zr [zm 34 11, zm 10 34]
def qbq2 : IC := (.seq (.seq qbpk (.cond (.t 17) .skip (.exit 0))) (.block 1 (.seq qbse (.seq qbm2 (.cond (.t 31) qbp0 qbo1)))))
def qbf7 : IC := zr [zm 35 9, zm 36 9, zm 37 8, zv 38 (.bin .lss .no (.t 36) (.t 37)), zm 39 38, zw 39 true 40 (.mov (.t 2)), zw 39 true 41 (.mov (.t 0)), zw 39 true 42 (.mov (.t 9)), zw 39 true 43 (.iad 4 (.t 41) (.t 42)), zw 39 true 44 (.ld true 4 (.t 43)), zw 39 true 45 (.mov (.t 1)), ⟨some (39, true), some 46, .call (.t 40) [((.t 44), (.agg [.id, .id, .id, (.sl 3)])), ((.t 45), .id)]⟩, zw 39 true 47 (.bin .eql .no (.t 46) (zc 0)), zv 48 (.pick (.t 39) (.t 47) (.c (.bool false))), zm 6 35, zm 7 48]
def k0r : IC := (.seq qbkf (.seq qbn2 (.seq qbpn (.seq (.block 0 (.loop qbq2)) (.seq qbf7 .ret)))))
@[go_sem] def s0r : List (RV × Co) := [(.t 6, .id), (.t 7, .id)]
theorem c0r : cFun Tryz.prog 83 = some (49, k0r, s0r) := by kernel_rfl

def qblh : IC := zr [zi 2 (.box (.t 0)), zv 4 (.mov (zc 0))]
def qble : IC := zr [zv 6 (.fad (.t 2) 0), zv 7 (.ld false 1 (.t 6)), zm 8 1, zv 9 (.bin .lss .no (.t 7) (.t 8)), zm 5 9]
def qbrh : IC := zr [zv 4 (.mov (zc (-1)))]
def qbru : IC := zr [zv 11 (.fad (.t 2) 0), zv 12 (.ld false 1 (.t 11)), zm 13 1, zv 14 (.bin .gtr .no (.t 12) (.t 13)), zm 10 14]
def qboa : IC := zr [zv 4 (.mov (zc 1))]
def qbrf : IC := zr [zv 4 (.mov (zc 0))]
def k0t : IC := (.seq qblh (.seq (.block 0 (.seq qble (.cond (.t 5) (.seq qbrh .ret) (.seq qbru (.cond (.t 10) (.seq qboa .ret) .skip))))) (.seq qbrf .ret)))
@[go_sem] def s0t : List (RV × Co) := [(.t 4, .id)]
theorem c0t : cFun Tryz.prog 84 = some (15, k0t, s0t) := by kernel_rfl

def qbok : IC := zr [zi 4 (.box (.t 1)), zi 6 (.alo [(.str []), (.int .i64 0), .nils])]
def qbol : IC := zr [zv 11 (.fad (.t 4) 0), zv 12 (.ld false 1 (.t 11)), zv 13 (.bin .eql .no (.t 12) (.c (.str [])))]
def qbnt : IC := .drw [zp (zm 15 0), zp (zv 16 (.nck (.t 15))), zp (zv 17 (.fad (.t 16) 0)), zp (zv 18 (.ld false 1 (.t 17))), zp (zv 19 (.fad (.t 4) 1)), zp (zv 20 (.ld false 1 (.t 19))), (zi 21 (.call (.c (.fn 107 [] [])) [((.t 18), .id), ((.t 20), .id)]), []), zp (zm 14 21), zp (zv 22 (.ext (.t 14) 0)), zp (zv 23 (.ext (.t 14) 1)), (zi 7 (.alo [(.str []), (.int .i64 0), .nils]), [3, 5, 6]), (zn (.st 3 (.agg [.id, .id, (.sl 3)]) (.t 7) (.t 22)), []), zp (zm 8 23)]
def qbmk : IC := zr [zm 24 8]
def qbp1 : IC := .drw [zp (zm 25 0), zp (zv 26 (.nck (.t 25))), zp (zv 27 (.fad (.t 26) 1)), zp (zv 28 (.ld false 1 (.t 27))), zp (zv 29 (.ld true 3 (.t 7))), (zi 30 (.call (.c (.fn 108 [] [])) [((.t 29), (.agg [.id, .id, (.sl 3)]))]), [3]), zp (zv 31 (.bin .sub .no (.t 28) (.t 30))), zp (zv 32 (.nck (.t 25))), zp (zv 33 (.fad (.t 32) 1)), (zn (.st 1 .id (.t 33) (.t 31)), [])]
def qbl3 : IC := zr [zm 34 2, zv 35 (.ld true 3 (.t 7)), zi 36 (.call (.c (.fn 109 [] [])) [((.t 35), (.agg [.id, .id, (.sl 3)]))]), zv 37 (.bin .add .no (.t 34) (.t 36)), zv 38 (.bin .gtr .no (.t 37) (zc 101))]
def qblk : IC := zr [zm 39 0, zv 40 (.nck (.t 39)), zv 41 (.fad (.t 40) 1), zn (.st 1 .id (.t 41) (zc (-1)))]
def qbqd : IC := zr [zv 42 (.ld true 3 (.t 7)), zi 43 (.call (.c (.fn 57 [] [])) [((.t 42), (.agg [.id, .id, (.sl 3)]))]), zn (.st 3 (.agg [.id, .id, (.sl 3)]) (.t 6) (.t 43))]
def qbo2 : IC := zr [zm 44 0, zv 45 (.nck (.t 44)), zv 46 (.fad (.t 45) 1), zv 47 (.ld false 1 (.t 46)), zv 48 (.bin .sub .no (.t 47) (zc 1)), zv 49 (.nck (.t 44)), zv 50 (.fad (.t 49) 1), zn (.st 1 .id (.t 50) (.t 48))]
def qbsx : IC := zr [zv 51 (.fad (.t 4) 2), zv 52 (.ld false 1 (.t 51)), zv 53 (.len false (.t 52)), zi 54 (.mks 3 (.agg [(.str []), (.int .i64 0), .nils]) 48 (.t 53) (.t 53)), zm 9 54]
def qbiv : IC := zr [zv 55 (.fad (.t 4) 2), zv 56 (.ld false 1 (.t 55)), zv 57 (.len false (.t 56)), zv 58 (.mov (zc 0))]
def qbcr : IC := zr [zv 59 (.bin .lss .no (.t 58) (.t 57))]
def qbjd : IC := zr [zm 60 58, zm 10 60]
def q64 : IC := zr [zm 61 0, zv 62 (.nck (.t 61)), zv 63 (.fad (.t 62) 1), zv 64 (.ld false 1 (.t 63)), zv 65 (.bin .lss .no (.t 64) (zc 0))]
def q51 : IC := zr [zv 66 (.ld true 3 (.t 4)), zn (.st 3 (.agg [.id, .id, (.sl 3)]) (.t 6) (.t 66))]
def qbee : IC := zr [zm 67 9, zm 68 10, zm 69 0, zv 70 (.fad (.t 4) 2), zv 71 (.ld false 1 (.t 70)), zm 72 10, zv 73 (.iad 3 (.t 71) (.t 72)), zv 74 (.ld true 3 (.t 73)), zm 75 2, zv 76 (.bin .add .no (.t 75) (zc 1)), zi 77 (.call (.c (.fn 87 [] [])) [((.t 69), .id), ((.t 74), (.agg [.id, .id, (.sl 3)])), ((.t 76), .id)]), zv 78 (.iad 3 (.t 67) (.t 68)), zn (.st 3 (.agg [.id, .id, (.sl 3)]) (.t 78) (.t 77))]
def q61 : IC := zr [zv 79 (.bin .add .no (.t 58) (zc 1)), zm 58 79]
def qbhm : IC := (.seq qbcr (.seq (.cond (.t 59) .skip (.exit 0)) (.seq (.block 1 (.seq qbjd (.seq (.seq q64 (.cond (.t 65) (.seq q51 .ret) .skip)) qbee))) q61)))
def q84 : IC := zr [zm 80 9, zv 81 (.fad (.t 4) 2), zn (.st 1 (.sl 3) (.t 81) (.t 80))]
def qbe0 : IC := zr [zv 82 (.ld true 3 (.t 4)), zn (.st 3 (.agg [.id, .id, (.sl 3)]) (.t 6) (.t 82))]
def k0o : IC := (.seq qbok (.seq (.seq qbol (.cond (.t 13) (.seq qbnt (.seq qbmk (.cond (.t 24) (.seq qbp1 (.seq (.seq qbl3 (.cond (.t 38) qblk .skip)) (.seq qbqd .ret))) .skip))) .skip)) (.seq qbo2 (.seq qbsx (.seq (.seq qbiv (.block 0 (.loop qbhm))) (.seq q84 (.seq qbe0 .ret)))))))
@[go_sem] def s0o : List (RV × Co) := [(.c true 3 6, (.agg [.id, .id, (.sl 3)]))]
theorem c0o : cFun Tryz.prog 87 = some (83, k0o, s0o) := by kernel_rfl

def qblm : IC := zr [zi 4 (.alo [(.str []), (.int .i64 0), .nils]), zv 5 zf]
def qbkc : IC := zr [zv 6 (.mov (zc 0))]
def qbl7 : IC := zr [zm 7 6, zm 8 0, zv 9 (.len false (.t 8)), zv 10 (.bin .lss .no (.t 7) (.t 9))]
def qbk5 : IC := zr [zm 13 0, zm 14 6, zv 15 (.iad 4 (.t 13) (.t 14)), zv 16 (.fad (.t 15) 0), zv 17 (.ld false 1 (.t 16)), zm 18 1, zv 19 (.bin .eql .no (.t 17) (.t 18))]
def qblg : IC := zr [zm 20 0, zm 21 6, zv 22 (.iad 4 (.t 20) (.t 21)), zv 23 (.fad (.t 22) 1), zv 24 (.ld true 3 (.t 23)), zn (.st 3 (.agg [.id, .id, (.sl 3)]) (.t 4) (.t 24)), zv 5 (.mov (.c (.bool true)))]
def qbrc : IC := zr [zm 11 6, zv 12 (.bin .add .no (.t 11) (zc 1)), zm 6 12]
def qboi : IC := (.seq (.seq qbl7 (.cond (.t 10) .skip (.exit 0))) (.seq (.block 1 (.seq qbk5 (.cond (.t 19) (.seq qblg .ret) .skip))) qbrc))
def qbp5 : IC := zr [zv 25 (.bld [(.str []), (.int .i64 0), .nils] []), zn (.st 3 (.agg [.id, .id, (.sl 3)]) (.t 4) (.t 25)), zv 5 zf]
def k0v : IC := (.seq qblm (.seq (.seq qbkc (.block 0 (.loop qboi))) (.seq qbp5 .ret)))
@[go_sem] def s0v : List (RV × Co) := [(.c true 3 4, (.agg [.id, .id, (.sl 3)])), (.t 5, .id)]
theorem c0v : cFun Tryz.prog 88 = some (26, k0v, s0v) := by kernel_rfl

def q5m : IC := zr [zi 3 (.box (.t 1)), zi 4 (.alo [(.str []), (.int .i64 0), .nils]), zv 5 (.mov (zc 0))]
def q5f : IC := zr [zv 7 (.ld true 3 (.t 3)), zi 8 (.call (.c (.fn 20 [] [])) [((.t 7), (.agg [.id, .id, (.sl 3)]))]), zv 9 (.un .not (.t 8))]
def q69 : IC := zr [zv 10 (.bld [(.str []), (.int .i64 0), .nils] []), zn (.st 3 (.agg [.id, .id, (.sl 3)]) (.t 4) (.t 10)), zv 5 (.mov (zc 1))]
def qbjf : IC := zr [zm 11 0, zv 12 (.ld true 3 (.t 3)), zi 13 (.call (.c (.fn 110 [] [])) [((.t 11), (.sl 4)), ((.t 12), (.agg [.id, .id, (.sl 3)]))]), zv 14 (.bin .gtr .no (.t 13) (zc 4096))]
def qbhz : IC := zr [zv 15 (.bld [(.str []), (.int .i64 0), .nils] []), zn (.st 3 (.agg [.id, .id, (.sl 3)]) (.t 4) (.t 15)), zv 5 (.mov (zc 2))]
def qbb9 : IC := zr [zm 16 0, zv 17 (.ld true 3 (.t 3)), zi 18 (.call (.c (.fn 111 [] [])) [((.t 16), (.sl 4)), ((.t 17), (.agg [.id, .id, (.sl 3)]))]), zi 6 (.alo [(.str []), (.int .i64 0), .nils]), zn (.st 3 (.agg [.id, .id, (.sl 3)]) (.t 6) (.t 18))]
def q50 : IC := zr [zv 19 (.ld true 3 (.t 6)), zi 20 (.call (.c (.fn 20 [] [])) [((.t 19), (.agg [.id, .id, (.sl 3)]))]), zv 21 (.un .not (.t 20))]
def q5p : IC := zr [zv 22 (.bld [(.str []), (.int .i64 0), .nils] []), zn (.st 3 (.agg [.id, .id, (.sl 3)]) (.t 4) (.t 22)), zv 5 (.mov (zc 2))]
def q6j : IC := zr [zv 23 (.ld true 3 (.t 6)), zn (.st 3 (.agg [.id, .id, (.sl 3)]) (.t 4) (.t 23)), zv 5 (.mov (zc 0))]
def k0cq : IC := (.seq q5m (.seq (.seq q5f (.cond (.t 9) (.seq q69 .ret) .skip)) (.seq (.seq qbjf (.cond (.t 14) (.seq qbhz .ret) .skip)) (.seq qbb9 (.seq (.seq q50 (.cond (.t 21) (.seq q5p .ret) .skip)) (.seq q6j .ret))))))
@[go_sem] def s0cq : List (RV × Co) := [(.c true 3 4, (.agg [.id, .id, (.sl 3)])), (.t 5, .id)]
theorem c0cq : cFun Tryz.prog 89 = some (24, k0cq, s0cq) := by kernel_rfl

def qbjl : IC := zr [zv 2 (.mov (zc 0)), zv 3 (.mov (zc 0))]
def qbh5 : IC := zr [zm 8 0, zv 9 (.bin .eql .no (.t 8) (.c (.str [])))]
def qbab : IC := zr [zv 2 (.mov (zc 0)), zv 3 (.mov (zc 5))]
def qbfg : IC := zr [zv 4 (.mov (zc 0))]
def q8b : IC := zr [zm 10 4, zm 11 0, zv 12 (.len true (.t 11)), zv 13 (.bin .lss .no (.t 10) (.t 12))]
def q5g : IC := zr [zm 16 0, zm 17 4, zv 18 (.idx (.t 16) (.t 17)), zv 19 (.bin .lss .no (.t 18) (.c (.int .u8 48))), zm 20 19, zw 20 false 21 (.mov (.t 0)), zw 20 false 22 (.mov (.t 4)), zw 20 false 23 (.idx (.t 21) (.t 22)), zw 20 false 24 (.bin .gtr .no (.t 23) (.c (.int .u8 57))), zv 25 (.pick (.t 20) (.c (.bool true)) (.t 24))]
def q98 : IC := zr [zv 2 (.mov (zc 0)), zv 3 (.mov (zc 5))]
def qbbz : IC := zr [zm 14 4, zv 15 (.bin .add .no (.t 14) (zc 1)), zm 4 15]
def qbaw : IC := (.seq (.seq q8b (.cond (.t 13) .skip (.exit 0))) (.seq (.block 1 (.seq q5g (.cond (.t 25) (.seq q98 .ret) .skip))) qbbz))
def q0x : IC := zr [zv 5 (.mov (zc 0))]
def q2h : IC := zr [zv 6 (.mov (zc 0))]
def q2m : IC := zr [zm 26 6, zm 27 0, zv 28 (.len true (.t 27)), zv 29 (.bin .lss .no (.t 26) (.t 28))]
def q3k : IC := zr [zm 32 0, zm 33 6, zv 34 (.idx (.t 32) (.t 33)), zv 35 (.bin .sub .no (.t 34) (.c (.int .u8 48))), zv 36 (.cvi .i64 (.t 35)), zm 7 36]
def q3x : IC := zr [zm 37 5, zm 38 7, zv 39 (.bin .sub .no (zc 9223372036854775807) (.t 38)), zv 40 (.bin .quo .no (.t 39) (zc 10)), zv 41 (.bin .gtr .no (.t 37) (.t 40))]
def q0n : IC := zr [zv 2 (.mov (zc 0)), zv 3 (.mov (zc 4))]
def q01 : IC := zr [zm 42 5, zv 43 (.bin .mul .no (zc 10) (.t 42)), zm 44 7, zv 45 (.bin .add .no (.t 43) (.t 44)), zm 5 45]
def qzx : IC := zr [zm 30 6, zv 31 (.bin .add .no (.t 30) (zc 1)), zm 6 31]
def q13 : IC := (.seq (.seq q2m (.cond (.t 29) .skip (.exit 2))) (.seq (.block 3 (.seq q3k (.seq (.seq q3x (.cond (.t 41) (.seq q0n .ret) .skip)) q01))) qzx))
def q1m : IC := zr [zm 46 5, zm 2 46, zv 3 (.mov (zc 0))]
def k0bw : IC := (.seq qbjl (.seq (.seq qbh5 (.cond (.t 9) (.seq qbab .ret) .skip)) (.seq (.seq qbfg (.block 0 (.loop qbaw))) (.seq q0x (.seq (.seq q2h (.block 2 (.loop q13))) (.seq q1m .ret))))))
@[go_sem] def s0bw : List (RV × Co) := [(.t 2, .id), (.t 3, .id)]
theorem c0bw : cFun Tryz.prog 90 = some (47, k0bw, s0bw) := by kernel_rfl

def qbho : IC := zr [zv 2 zf]
def q5w : IC := zr [zm 3 0, zm 4 0, zi 5 (.call (.c (.fn 92 [] [])) [((.t 3), (.sl 3)), ((.t 4), (.sl 3)), ((.c (.fn 112 [] [])), .id)]), zm 2 5]
def k0do : IC := (.seq qbho (.seq q5w .ret))
@[go_sem] def s0do : List (RV × Co) := [(.t 2, .id)]
theorem c0do : cFun Tryz.prog 91 = some (6, k0do, s0do) := by kernel_rfl

def qbbw : IC := zr [zv 6 zf]
def qbgv : IC := zr [zm 8 0, zv 9 (.len false (.t 8)), zm 10 1, zv 11 (.len false (.t 10)), zv 12 (.bin .neq .no (.t 9) (.t 11))]
def q6c : IC := zr [zv 6 zf]
def qbgh : IC := zr [zm 13 0, zv 14 (.len false (.t 13)), zv 15 (.mov (zc 0))]
def qba9 : IC := zr [zv 16 (.bin .lss .no (.t 15) (.t 14))]
def qbj1 : IC := zr [zm 17 15, zm 7 17]
def qbjt : IC := .drw [zp (zm 18 2), zp (zm 19 0), zp (zm 20 7), zp (zv 21 (.iad 3 (.t 19) (.t 20))), zp (zv 22 (.ld true 3 (.t 21))), zp (zm 23 1), zp (zm 24 7), zp (zv 25 (.iad 3 (.t 23) (.t 24))), zp (zv 26 (.ld true 3 (.t 25))), (zi 27 (.call (.t 18) [((.t 22), (.agg [.id, .id, (.sl 3)])), ((.t 26), (.agg [.id, .id, (.sl 3)]))]), []), zp (zv 28 (.un .not (.t 27)))]
def qbey : IC := zr [zv 6 zf]
def qbin : IC := zr [zv 29 (.bin .add .no (.t 15) (zc 1)), zm 15 29]
def qbhe : IC := (.seq qba9 (.seq (.cond (.t 16) .skip (.exit 0)) (.seq (.block 1 (.seq qbj1 (.seq qbjt (.cond (.t 28) (.seq qbey .ret) .skip)))) qbin)))
def q4e : IC := zr [zv 6 (.mov (.c (.bool true)))]
def k0dn : IC := (.seq qbbw (.seq (.seq qbgv (.cond (.t 12) (.seq q6c .ret) .skip)) (.seq (.seq qbgh (.block 0 (.loop qbhe))) (.seq q4e .ret))))
@[go_sem] def s0dn : List (RV × Co) := [(.t 6, .id)]
theorem c0dn : cFun Tryz.prog 92 = some (30, k0dn, s0dn) := by kernel_rfl

def qbao : IC := zr [zi 3 (.box (.t 0)), zi 4 (.box (.t 1)), zv 5 zf]
def q5d : IC := zr [zv 6 (.ld false 1 (.t 2)), zv 7 (.ld true 3 (.t 3)), zv 8 (.ld true 3 (.t 4)), zi 9 (.call (.c (.fn 94 [] [])) [((.t 6), .id), ((.t 7), (.agg [.id, .id, (.sl 3)])), ((.t 8), (.agg [.id, .id, (.sl 3)]))]), zm 5 9]
def k0dq : IC := (.seq qbao (.seq q5d .ret))
@[go_sem] def s0dq : List (RV × Co) := [(.t 5, .id)]
theorem c0dq : cFun Tryz.prog 93 = some (10, k0dq, s0dq) := by kernel_rfl

def q8x : IC := zr [zi 3 (.box (.t 0)), zi 4 (.box (.t 1)), zi 5 (.box (.t 2)), zv 6 zf]
def qbjw : IC := zr [zv 9 (.fad (.t 4) 0), zv 10 (.ld false 1 (.t 9)), zv 11 (.bin .eql .no (.t 10) (.c (.str [])))]
def qbau : IC := zr [zv 13 (.ld false 1 (.t 3)), zv 14 (.fad (.t 4) 1), zv 15 (.ld false 1 (.t 14)), zi 16 (.call (.c (.fn 107 [] [])) [((.t 13), .id), ((.t 15), .id)]), zm 12 16, zv 17 (.ext (.t 12) 0), zv 18 (.ext (.t 12) 1), zi 7 (.alo [(.str []), (.int .i64 0), .nils]), zn (.st 3 (.agg [.id, .id, (.sl 3)]) (.t 7) (.t 17)), zm 8 18]
def q6n : IC := zr [zm 19 8]
def q62 : IC := zr [zv 20 (.ld true 3 (.t 7)), zv 21 (.ld true 3 (.t 5)), zi 22 (.call (.c (.fn 113 [] [])) [((.t 20), (.agg [.id, .id, (.sl 3)])), ((.t 21), (.agg [.id, .id, (.sl 3)]))]), zm 6 22]
def q8g : IC := zr [zv 23 (.ld false 1 (.t 3)), zv 24 (.fad (.t 4) 1), zv 25 (.ld false 1 (.t 24)), zv 26 (.ld true 3 (.t 5)), zi 27 (.call (.c (.fn 34 [] [])) [((.t 23), .id), ((.t 25), .id), ((.t 26), (.agg [.id, .id, (.sl 3)]))]), zv 28 (.bin .eql .no (.t 27) (zc 0)), zm 6 28]
def qbbc : IC := zr [zv 29 (.fad (.t 4) 0), zv 30 (.ld false 1 (.t 29)), zv 31 (.fad (.t 5) 0), zv 32 (.ld false 1 (.t 31)), zv 33 (.bin .eql .no (.t 30) (.t 32)), zm 34 33, zw 34 true 35 (.fad (.t 4) 2), zw 34 true 36 (.ld false 1 (.t 35)), zw 34 true 37 (.fad (.t 5) 2), zw 34 true 38 (.ld false 1 (.t 37)), zw 34 true 39 (.mfn 114 [] [(.t 3)]), ⟨some (34, true), some 40, .call (.c (.fn 92 [] [])) [((.t 36), (.sl 3)), ((.t 38), (.sl 3)), ((.t 39), .id)]⟩, zv 41 (.pick (.t 34) (.t 40) (.c (.bool false))), zm 6 41]
def k0dr : IC := (.seq q8x (.seq (.seq qbjw (.cond (.t 11) (.seq qbau (.seq (.seq q6n (.cond (.t 19) (.seq q62 .ret) .skip)) (.seq q8g .ret))) .skip)) (.seq qbbc .ret)))
@[go_sem] def s0dr : List (RV × Co) := [(.t 6, .id)]
theorem c0dr : cFun Tryz.prog 94 = some (42, k0dr, s0dr) := by kernel_rfl

def q6m : IC := zr [zi 2 (.alo [(.str []), (.int .i64 0), .nils])]
def qbay : IC := zr [zm 6 0, zi 7 (.call (.c (.fn 119 [] [])) [((.t 6), .id)]), zm 3 7]
def qbif : IC := zr [zm 8 3, zv 9 (.bin .geq .no (.t 8) (zc 0))]
def qbeq : IC := zr [zm 10 3, zv 11 (.bld [(.str []), (.int .i64 0), .nils] [(1, 1, (.t 10))]), zn (.st 3 (.agg [.id, .id, (.sl 3)]) (.t 2) (.t 11))]
def qbiq : IC := zr [zm 12 0, zi 13 (.call (.c (.fn 66 [] [])) [((.t 12), .id), ((.c (.str [63])), .id)])]
def qbfj : IC := zr [zm 15 0, zv 16 (.sls (.t 15) (some (zc 1)) none), zi 17 (.call (.c (.fn 120 [] [])) [((.t 16), .id)]), zm 14 17, zv 18 (.ext (.t 14) 0), zv 19 (.ext (.t 14) 1), zm 4 18, zm 5 19]
def q8n : IC := zr [zm 20 5, zv 21 (.bin .eql .no (.t 20) (zc 0))]
def qbia : IC := zr [zm 22 4, zv 23 (.bin .sub .no (zc (-1)) (.t 22)), zv 24 (.bld [(.str []), (.int .i64 0), .nils] [(1, 1, (.t 23))]), zn (.st 3 (.agg [.id, .id, (.sl 3)]) (.t 2) (.t 24))]
def qbd6 : IC := zr [zm 25 0, zv 26 (.bld [(.str []), (.int .i64 0), .nils] [(0, 1, (.t 25))]), zn (.st 3 (.agg [.id, .id, (.sl 3)]) (.t 2) (.t 26))]
def k0cz : IC := (.seq q6m (.seq (.seq qbay (.seq qbif (.cond (.t 9) (.seq qbeq .ret) .skip))) (.seq (.seq qbiq (.cond (.t 13) (.seq qbfj (.seq q8n (.cond (.t 21) (.seq qbia .ret) .skip))) .skip)) (.seq qbd6 .ret))))
@[go_sem] def s0cz : List (RV × Co) := [(.c true 3 2, (.agg [.id, .id, (.sl 3)]))]
theorem c0cz : cFun Tryz.prog 96 = some (27, k0cz, s0cz) := by kernel_rfl

def qbdx : IC := zr [zv 4 zf]
def qbii : IC := zr [zm 5 0, zv 6 (.len true (.t 5)), zm 7 1, zv 8 (.len true (.t 7)), zv 9 (.bin .geq .no (.t 6) (.t 8)), zm 10 9, zw 10 true 11 (.mov (.t 0)), zw 10 true 12 (.mov (.t 1)), zw 10 true 13 (.len true (.t 12)), zw 10 true 14 (.sls (.t 11) none (some (.t 13))), zw 10 true 15 (.mov (.t 1)), zw 10 true 16 (.bin .eql .no (.t 14) (.t 15)), zv 17 (.pick (.t 10) (.t 16) (.c (.bool false))), zm 4 17]
def k0bu : IC := (.seq qbdx (.seq qbii .ret))
@[go_sem] def s0bu : List (RV × Co) := [(.t 4, .id)]
theorem c0bu : cFun Tryz.prog 97 = some (18, k0bu, s0bu) := by kernel_rfl

def qbg6 : IC := zr [zv 2 zf]
def qbdy : IC := zr [zm 3 0, zv 4 (.bin .geq .no (.t 3) (.c (.int .u8 97))), zm 5 4, zw 5 true 6 (.mov (.t 0)), zw 5 true 7 (.bin .leq .no (.t 6) (.c (.int .u8 122))), zv 8 (.pick (.t 5) (.t 7) (.c (.bool false))), zm 9 8, zw 9 false 10 (.mov (.t 0)), zw 9 false 11 (.bin .eql .no (.t 10) (.c (.int .u8 95))), zv 12 (.pick (.t 9) (.c (.bool true)) (.t 11)), zm 2 12]
def k0bz : IC := (.seq qbg6 (.seq qbdy .ret))
@[go_sem] def s0bz : List (RV × Co) := [(.t 2, .id)]
theorem c0bz : cFun Tryz.prog 98 = some (13, k0bz, s0bz) := by kernel_rfl

def q7n : IC := zr [zv 2 zf]
def qbaa : IC := zr [zm 3 0, zv 4 (.bin .geq .no (.t 3) (.c (.int .u8 48))), zm 5 4, zw 5 true 6 (.mov (.t 0)), zw 5 true 7 (.bin .leq .no (.t 6) (.c (.int .u8 57))), zv 8 (.pick (.t 5) (.t 7) (.c (.bool false))), zm 2 8]
def k0cc : IC := (.seq q7n (.seq qbaa .ret))
@[go_sem] def s0cc : List (RV × Co) := [(.t 2, .id)]
theorem c0cc : cFun Tryz.prog 99 = some (9, k0cc, s0cc) := by kernel_rfl

def qba2 : IC := zr [zv 2 zf]
def q5o : IC := zr [zm 5 0, zi 6 (.call (.c (.fn 66 [] [])) [((.t 5), .id), ((.c (.str [33])), .id)]), zv 7 (.un .not (.t 6))]
def qbc3 : IC := zr [zv 2 zf]
def qbdb : IC := zr [zm 9 0, zv 10 (.sls (.t 9) (some (zc 1)) none), zi 11 (.call (.c (.fn 120 [] [])) [((.t 10), .id)]), zm 8 11, zv 12 (.ext (.t 8) 0), zv 13 (.ext (.t 8) 1), zm 3 12, zm 4 13]
def q5e : IC := .drw [zp (zm 14 4), zp (zv 15 (.bin .eql .no (.t 14) (zc 0))), zp (zm 16 15), zp (zw 16 true 17 (.mov (.t 3))), (⟨some (16, true), some 18, .call (.c (.fn 103 [] [])) [((.t 17), .id)]⟩, []), zp (zw 16 true 19 (.mov (.t 0))), zp (zw 16 true 20 (.sls (.t 19) (some (zc 1)) none)), zp (zw 16 true 21 (.bin .eql .no (.t 18) (.t 20))), zp (zv 22 (.pick (.t 16) (.t 21) (.c (.bool false)))), zp (zm 2 22)]
def k0bq : IC := (.seq qba2 (.seq (.seq q5o (.cond (.t 7) (.seq qbc3 .ret) .skip)) (.seq qbdb (.seq q5e .ret))))
@[go_sem] def s0bq : List (RV × Co) := [(.t 2, .id)]
theorem c0bq : cFun Tryz.prog 100 = some (23, k0bq, s0bq) := by kernel_rfl

def q7w : IC := zr [zv 2 (.mov (.c (.str [])))]
def q8w : IC := zr [zm 4 0, zv 5 (.bin .lss .no (.t 4) (zc 0))]
def qbd0 : IC := zr [zv 2 (.mov (.c (.str [])))]
def qbdq : IC := zr [zm 6 0, zv 7 (.bin .rem .no (.t 6) (zc 26)), zv 8 (.bin .add .no (zc 97) (.t 7)), zv 9 (.cvi .u8 (.t 8)), zv 10 (.bsl 1 [((.t 9), .id)]), zv 11 (.cbs (.t 10)), zm 3 11]
def qbdi : IC := zr [zm 12 0, zv 13 (.bin .lss .no (.t 12) (zc 26))]
def q78 : IC := zr [zm 14 3, zm 2 14]
def qbbv : IC := zr [zm 15 3, zm 16 0, zv 17 (.bin .quo .no (.t 16) (zc 26)), zi 18 (.call (.c (.fn 103 [] [])) [((.t 17), .id)]), zv 19 (.bin .add .no (.t 15) (.t 18)), zm 2 19]
def k0cl : IC := (.seq q7w (.seq (.seq q8w (.cond (.t 5) (.seq qbd0 .ret) .skip)) (.seq qbdq (.seq (.seq qbdi (.cond (.t 13) (.seq q78 .ret) .skip)) (.seq qbbv .ret)))))
@[go_sem] def s0cl : List (RV × Co) := [(.t 2, .id)]
theorem c0cl : cFun Tryz.prog 102 = some (20, k0cl, s0cl) := by kernel_rfl

def qbhx : IC := zr [zv 2 (.mov (.c (.str [])))]
def qbht : IC := zr [zm 6 0, zv 7 (.cvi .u64 (.t 6)), zm 3 7]
def qbjx : IC := zr [zm 8 0, zv 9 (.bin .lss .no (.t 8) (zc 0))]
def qbjh : IC := zr [zm 10 3, zv 11 (.un .neg (.t 10)), zm 3 11]
def q72 : IC := zr [zi 4 (.alo [(.int .u8 0), (.int .u8 0), (.int .u8 0), (.int .u8 0), (.int .u8 0), (.int .u8 0), (.int .u8 0), (.int .u8 0), (.int .u8 0), (.int .u8 0), (.int .u8 0), (.int .u8 0), (.int .u8 0), (.int .u8 0), (.int .u8 0), (.int .u8 0), (.int .u8 0), (.int .u8 0), (.int .u8 0), (.int .u8 0)])]
def q9m : IC := zr [zv 5 (.mov (zc 20))]
def qbg2 : IC := zr [zm 12 5, zv 13 (.bin .sub .no (.t 12) (zc 1)), zm 5 13]
def qbiu : IC := zr [zm 14 5, zm 15 3, zv 16 (.bin .rem .no (.t 15) (.c (.int .u64 10))), zv 17 (.bin .add .no (.c (.int .u64 48)) (.t 16)), zv 18 (.cvi .u8 (.t 17)), zv 19 (.aad 1 20 (.t 4) (.t 14)), zn (.st 1 .id (.t 19) (.t 18))]
def qbjp : IC := zr [zm 20 3, zv 21 (.bin .quo .no (.t 20) (.c (.int .u64 10))), zm 3 21]
def q06 : IC := zr [zm 22 3, zv 23 (.bin .eql .no (.t 22) (.c (.int .u64 0)))]
def qbjs : IC := (.block 1 (.seq qbg2 (.seq qbiu (.seq qbjp (.seq q06 (.cond (.t 23) (.exit 0) .skip))))))
def q1w : IC := zr [zm 24 0, zv 25 (.bin .lss .no (.t 24) (zc 0))]
def q4g : IC := zr [zm 26 5, zv 27 (.sla 20 (.t 4) (.t 26)), zv 28 (.cbs (.t 27)), zv 29 (.bin .add .no (.c (.str [45])) (.t 28)), zm 2 29]
def q3z : IC := zr [zm 30 5, zv 31 (.sla 20 (.t 4) (.t 30)), zv 32 (.cbs (.t 31)), zm 2 32]
def k0ck : IC := (.seq qbhx (.seq qbht (.seq (.seq qbjx (.cond (.t 9) qbjh .skip)) (.seq q72 (.seq q9m (.seq (.block 0 (.loop qbjs)) (.seq (.seq q1w (.cond (.t 25) (.seq q4g .ret) .skip)) (.seq q3z .ret))))))))
@[go_sem] def s0ck : List (RV × Co) := [(.t 2, .id)]
theorem c0ck : cFun Tryz.prog 103 = some (33, k0ck, s0ck) := by kernel_rfl

def qbi1 : IC := zr [zv 2 (.mov (.c (.int .u64 0)))]
def qbb1 : IC := zr [zm 3 0, zv 4 (.bin .lss .no (.t 3) (zc 0))]
def qbgw : IC := zr [zm 5 0, zv 6 (.cvi .u64 (.t 5)), zv 7 (.un .neg (.t 6)), zm 2 7]
def qbbn : IC := zr [zm 8 0, zv 9 (.cvi .u64 (.t 8)), zm 2 9]
def k0ci : IC := (.seq qbi1 (.seq (.seq qbb1 (.cond (.t 4) (.seq qbgw .ret) .skip)) (.seq qbbn .ret)))
@[go_sem] def s0ci : List (RV × Co) := [(.t 2, .id)]
theorem c0ci : cFun Tryz.prog 105 = some (10, k0ci, s0ci) := by kernel_rfl

def qbrk : IC := zr [zi 4 (.alo [(.str []), (.int .i64 0), .nils]), zv 5 zf]
def qbsm : IC := zr [zm 8 0, zv 9 (.bin .eql .ptr (.t 8) (.c .nilp))]
def qbq3 : IC := zr [zv 10 (.bld [(.str []), (.int .i64 0), .nils] []), zn (.st 3 (.agg [.id, .id, (.sl 3)]) (.t 4) (.t 10)), zv 5 zf]
def qbqv : IC := zr [zm 12 0, zm 13 1, zi 14 (.call (.c (.fn 55 [] [])) [((.t 12), .id), ((.t 13), .id)]), zm 11 14, zv 15 (.ext (.t 11) 0), zv 16 (.ext (.t 11) 1), zm 6 15, zm 7 16]
def qbk8 : IC := zr [zm 17 7, zv 18 (.un .not (.t 17))]
def qbrm : IC := zr [zv 19 (.bld [(.str []), (.int .i64 0), .nils] []), zn (.st 3 (.agg [.id, .id, (.sl 3)]) (.t 4) (.t 19)), zv 5 zf]
def qbng : IC := zr [zm 20 0, zv 21 (.nck (.t 20)), zv 22 (.fad (.t 21) 0), zv 23 (.ld false 1 (.t 22)), zm 24 6, zv 25 (.iad 4 (.t 23) (.t 24)), zv 26 (.fad (.t 25) 1), zv 27 (.ld true 3 (.t 26)), zn (.st 3 (.agg [.id, .id, (.sl 3)]) (.t 4) (.t 27)), zv 5 (.mov (.c (.bool true)))]
def k0q : IC := (.seq qbrk (.seq (.seq qbsm (.cond (.t 9) (.seq qbq3 .ret) .skip)) (.seq qbqv (.seq (.seq qbk8 (.cond (.t 18) (.seq qbrm .ret) .skip)) (.seq qbng .ret)))))
@[go_sem] def s0q : List (RV × Co) := [(.c true 3 4, (.agg [.id, .id, (.sl 3)])), (.t 5, .id)]
theorem c0q : cFun Tryz.prog 107 = some (28, k0q, s0q) := by kernel_rfl

def qbih : IC := zr [zi 1 (.box (.t 0)), zv 2 (.mov (zc 0))]
def qbez : IC := zr [zi 3 (.alo [(.int .i64 0)]), zn (.st 1 .id (.t 3) (zc 0))]
def q9e : IC := zr [zv 4 (.ld true 3 (.t 1)), zv 5 (.mfn 124 [] [(.t 3)]), zi 6 (.call (.c (.fn 71 [] [])) [((.t 4), (.agg [.id, .id, (.sl 3)])), ((zc 1), .id), ((.t 5), .id)])]
def qbam : IC := zr [zv 7 (.ld false 1 (.t 3)), zm 2 7]
def k0bf : IC := (.seq qbih (.seq qbez (.seq q9e (.seq qbam .ret))))
@[go_sem] def s0bf : List (RV × Co) := [(.t 2, .id)]
theorem c0bf : cFun Tryz.prog 108 = some (8, k0bf, s0bf) := by kernel_rfl

def qbfz : IC := zr [zi 1 (.box (.t 0)), zv 2 (.mov (zc 0))]
def qbdp : IC := zr [zi 3 (.alo [(.int .i64 0)]), zn (.st 1 .id (.t 3) (zc 0))]
def qbhf : IC := zr [zv 4 (.ld true 3 (.t 1)), zv 5 (.mfn 125 [] [(.t 3)]), zi 6 (.call (.c (.fn 71 [] [])) [((.t 4), (.agg [.id, .id, (.sl 3)])), ((zc 1), .id), ((.t 5), .id)])]
def q92 : IC := zr [zv 7 (.ld false 1 (.t 3)), zm 2 7]
def k0bg : IC := (.seq qbfz (.seq qbdp (.seq qbhf (.seq q92 .ret))))
@[go_sem] def s0bg : List (RV × Co) := [(.t 2, .id)]
theorem c0bg : cFun Tryz.prog 109 = some (8, k0bg, s0bg) := by kernel_rfl

def qbbe : IC := zr [zi 3 (.box (.t 1)), zv 4 (.mov (zc 0))]
def q9z : IC := zr [zv 9 (.fad (.t 3) 0), zv 10 (.ld false 1 (.t 9)), zv 11 (.bin .eql .no (.t 10) (.c (.str [])))]
def qbai : IC := zr [zm 13 0, zv 14 (.fad (.t 3) 1), zv 15 (.ld false 1 (.t 14)), zi 16 (.call (.c (.fn 88 [] [])) [((.t 13), (.sl 4)), ((.t 15), .id)]), zm 12 16, zv 17 (.ext (.t 12) 0), zv 18 (.ext (.t 12) 1), zi 5 (.alo [(.str []), (.int .i64 0), .nils]), zn (.st 3 (.agg [.id, .id, (.sl 3)]) (.t 5) (.t 17)), zm 6 18]
def qbdd : IC := zr [zm 19 6]
def q6k : IC := zr [zv 20 (.ld true 3 (.t 5)), zi 21 (.call (.c (.fn 23 [] [])) [((.t 20), (.agg [.id, .id, (.sl 3)]))]), zm 4 21]
def qbg4 : IC := zr [zv 4 (.mov (zc 1))]
def qbbk : IC := zr [zv 7 (.mov (zc 1))]
def q73 : IC := zr [zv 8 (.mov (zc 0))]
def qbjj : IC := zr [zm 22 8, zv 23 (.fad (.t 3) 2), zv 24 (.ld false 1 (.t 23)), zv 25 (.len false (.t 24)), zv 26 (.bin .lss .no (.t 22) (.t 25))]
def q38 : IC := zr [zm 29 7, zm 30 0, zv 31 (.fad (.t 3) 2), zv 32 (.ld false 1 (.t 31)), zm 33 8, zv 34 (.iad 3 (.t 32) (.t 33)), zv 35 (.ld true 3 (.t 34)), zi 36 (.call (.c (.fn 110 [] [])) [((.t 30), (.sl 4)), ((.t 35), (.agg [.id, .id, (.sl 3)]))]), zv 37 (.bin .add .no (.t 29) (.t 36)), zm 7 37]
def qz8 : IC := zr [zm 27 8, zv 28 (.bin .add .no (.t 27) (zc 1)), zm 8 28]
def qbjr : IC := (.seq (.seq qbjj (.cond (.t 26) .skip (.exit 0))) (.seq (.block 1 q38) qz8))
def qz4 : IC := zr [zm 38 7, zm 4 38]
def k0cr : IC := (.seq qbbe (.seq (.seq q9z (.cond (.t 11) (.seq qbai (.seq (.seq qbdd (.cond (.t 19) (.seq q6k .ret) .skip)) (.seq qbg4 .ret))) .skip)) (.seq qbbk (.seq (.seq q73 (.block 0 (.loop qbjr))) (.seq qz4 .ret)))))
@[go_sem] def s0cr : List (RV × Co) := [(.t 4, .id)]
theorem c0cr : cFun Tryz.prog 110 = some (39, k0cr, s0cr) := by kernel_rfl

def q70 : IC := zr [zi 3 (.box (.t 1)), zi 4 (.alo [(.str []), (.int .i64 0), .nils])]
def qbj3 : IC := zr [zv 9 (.fad (.t 3) 0), zv 10 (.ld false 1 (.t 9)), zv 11 (.bin .eql .no (.t 10) (.c (.str [])))]
def qbdg : IC := zr [zm 13 0, zv 14 (.fad (.t 3) 1), zv 15 (.ld false 1 (.t 14)), zi 16 (.call (.c (.fn 88 [] [])) [((.t 13), (.sl 4)), ((.t 15), .id)]), zm 12 16, zv 17 (.ext (.t 12) 0), zv 18 (.ext (.t 12) 1), zi 5 (.alo [(.str []), (.int .i64 0), .nils]), zn (.st 3 (.agg [.id, .id, (.sl 3)]) (.t 5) (.t 17)), zm 6 18]
def qbe5 : IC := zr [zm 19 6]
def qbff : IC := zr [zv 20 (.ld true 3 (.t 5)), zn (.st 3 (.agg [.id, .id, (.sl 3)]) (.t 4) (.t 20))]
def qbfu : IC := zr [zv 21 (.ld true 3 (.t 3)), zn (.st 3 (.agg [.id, .id, (.sl 3)]) (.t 4) (.t 21))]
def qbj9 : IC := zr [zv 7 (.mov (.c .nils))]
def qbgm : IC := zr [zv 8 (.mov (zc 0))]
def q9j : IC := zr [zm 22 8, zv 23 (.fad (.t 3) 2), zv 24 (.ld false 1 (.t 23)), zv 25 (.len false (.t 24)), zv 26 (.bin .lss .no (.t 22) (.t 25))]
def q33 : IC := zr [zm 29 7, zm 30 0, zv 31 (.fad (.t 3) 2), zv 32 (.ld false 1 (.t 31)), zm 33 8, zv 34 (.iad 3 (.t 32) (.t 33)), zv 35 (.ld true 3 (.t 34)), zi 36 (.call (.c (.fn 111 [] [])) [((.t 30), (.sl 4)), ((.t 35), (.agg [.id, .id, (.sl 3)]))]), zv 37 (.bsl 3 [((.t 36), (.agg [.id, .id, (.sl 3)]))]), zi 38 (.app 3 (.agg [(.str []), (.int .i64 0), .nils]) 48 (.sl 3) (.t 29) (.t 37)), zm 7 38]
def qzp : IC := zr [zm 27 8, zv 28 (.bin .add .no (.t 27) (zc 1)), zm 8 28]
def qbh0 : IC := (.seq (.seq q9j (.cond (.t 26) .skip (.exit 0))) (.seq (.block 1 q33) qzp))
def q0j : IC := zr [zm 39 7, zv 40 (.fad (.t 3) 2), zn (.st 1 (.sl 3) (.t 40) (.t 39))]
def q3o : IC := zr [zv 41 (.ld true 3 (.t 3)), zn (.st 3 (.agg [.id, .id, (.sl 3)]) (.t 4) (.t 41))]
def k0cs : IC := (.seq q70 (.seq (.seq qbj3 (.cond (.t 11) (.seq qbdg (.seq (.seq qbe5 (.cond (.t 19) (.seq qbff .ret) .skip)) (.seq qbfu .ret))) .skip)) (.seq qbj9 (.seq (.seq qbgm (.block 0 (.loop qbh0))) (.seq q0j (.seq q3o .ret))))))
@[go_sem] def s0cs : List (RV × Co) := [(.c true 3 4, (.agg [.id, .id, (.sl 3)]))]
theorem c0cs : cFun Tryz.prog 111 = some (42, k0cs, s0cs) := by kernel_rfl

def q5n : IC := zr [zi 2 (.box (.t 0)), zi 3 (.box (.t 1)), zv 4 zf]
def qbb6 : IC := zr [zv 5 (.ld true 3 (.t 2)), zi 6 (.call (.c (.fn 47 [] [])) [((.t 5), (.agg [.id, .id, (.sl 3)]))]), zm 4 6]
def k0dm : IC := (.seq q5n (.seq qbb6 .ret))
@[go_sem] def s0dm : List (RV × Co) := [(.t 4, .id)]
theorem c0dm : cFun Tryz.prog 112 = some (7, k0dm, s0dm) := by kernel_rfl

def qbgf : IC := zr [zi 2 (.box (.t 0)), zi 3 (.box (.t 1)), zv 4 zf]
def q8h : IC := .drw [zp (zv 6 (.ld true 3 (.t 2))), (zi 7 (.call (.c (.fn 73 [] [])) [((.t 6), (.agg [.id, .id, (.sl 3)]))]), []), (zv 8 (.ld true 3 (.t 3)), [1]), (zi 9 (.call (.c (.fn 73 [] [])) [((.t 8), (.agg [.id, .id, (.sl 3)]))]), []), (zv 10 (.bin .neq (.cells [.str, (.int .i64), (.int .i64)]) (.t 7) (.t 9)), [])]
def q7l : IC := zr [zv 4 zf]
def q6u : IC := zr [zv 11 (.fad (.t 2) 2), zv 12 (.ld false 1 (.t 11)), zv 13 (.len false (.t 12)), zv 14 (.mov (zc 0))]
def qbik : IC := zr [zv 15 (.bin .lss .no (.t 14) (.t 13))]
def qbid : IC := zr [zm 16 14, zm 5 16]
def q5k : IC := .drw [zp (zv 17 (.fad (.t 2) 2)), zp (zv 18 (.ld false 1 (.t 17))), zp (zm 19 5), zp (zv 20 (.iad 3 (.t 18) (.t 19))), zp (zv 21 (.ld true 3 (.t 20))), zp (zv 22 (.fad (.t 3) 2)), zp (zv 23 (.ld false 1 (.t 22))), zp (zm 24 5), zp (zv 25 (.iad 3 (.t 23) (.t 24))), zp (zv 26 (.ld true 3 (.t 25))), (zi 27 (.call (.c (.fn 113 [] [])) [((.t 21), (.agg [.id, .id, (.sl 3)])), ((.t 26), (.agg [.id, .id, (.sl 3)]))]), []), zp (zv 28 (.un .not (.t 27)))]
def qbgb : IC := zr [zv 4 zf]
def qbj5 : IC := zr [zv 29 (.bin .add .no (.t 14) (zc 1)), zm 14 29]
def qbe8 : IC := (.seq qbik (.seq (.cond (.t 15) .skip (.exit 0)) (.seq (.block 1 (.seq qbid (.seq q5k (.cond (.t 28) (.seq qbgb .ret) .skip)))) qbj5)))
def q3f : IC := zr [zv 4 (.mov (.c (.bool true)))]
def k0bo : IC := (.seq qbgf (.seq (.seq q8h (.cond (.t 10) (.seq q7l .ret) .skip)) (.seq (.seq q6u (.block 0 (.loop qbe8))) (.seq q3f .ret))))
@[go_sem] def s0bo : List (RV × Co) := [(.t 4, .id)]
theorem c0bo : cFun Tryz.prog 113 = some (30, k0bo, s0bo) := by kernel_rfl

def qbc9 : IC := zr [zi 3 (.box (.t 0)), zi 4 (.box (.t 1)), zv 5 zf]
def q6y : IC := zr [zv 6 (.ld false 1 (.t 2)), zv 7 (.ld true 3 (.t 3)), zv 8 (.ld true 3 (.t 4)), zi 9 (.call (.c (.fn 94 [] [])) [((.t 6), .id), ((.t 7), (.agg [.id, .id, (.sl 3)])), ((.t 8), (.agg [.id, .id, (.sl 3)]))]), zm 5 9]
def k0dp : IC := (.seq qbc9 (.seq q6y .ret))
@[go_sem] def s0dp : List (RV × Co) := [(.t 5, .id)]
theorem c0dp : cFun Tryz.prog 114 = some (10, k0dp, s0dp) := by kernel_rfl

def q8z : IC := zr [zv 2 (.mov (zc 0))]
def qbdu : IC := zr [zm 6 0, zv 7 (.bin .eql .no (.t 6) (.c (.str []))), zm 8 7, zw 8 false 9 (.mov (.t 0)), zw 8 false 10 (.idx (.t 9) (zc 0)), zw 8 false 11 (.bin .lss .no (.t 10) (.c (.int .u8 97))), zv 12 (.pick (.t 8) (.c (.bool true)) (.t 11)), zm 13 12, zw 13 false 14 (.mov (.t 0)), zw 13 false 15 (.idx (.t 14) (zc 0)), zw 13 false 16 (.bin .gtr .no (.t 15) (.c (.int .u8 122))), zv 17 (.pick (.t 13) (.c (.bool true)) (.t 16))]
def qbeo : IC := zr [zv 2 (.mov (zc (-1)))]
def q6b : IC := zr [zm 18 0, zv 19 (.idx (.t 18) (zc 0)), zv 20 (.bin .sub .no (.t 19) (.c (.int .u8 97))), zv 21 (.cvi .i64 (.t 20)), zm 3 21]
def qbi8 : IC := zr [zm 22 0, zv 23 (.len true (.t 22)), zv 24 (.bin .gtr .no (.t 23) (zc 1))]
def qbje : IC := zr [zm 26 0, zv 27 (.sls (.t 26) (some (zc 1)) none), zi 28 (.call (.c (.fn 120 [] [])) [((.t 27), .id)]), zm 25 28, zv 29 (.ext (.t 25) 0), zv 30 (.ext (.t 25) 1), zm 4 29, zm 5 30]
def qbad : IC := zr [zm 31 5, zv 32 (.bin .neq .no (.t 31) (zc 0)), zm 33 32, zw 33 false 34 (.mov (.t 4)), zw 33 false 35 (.bin .gtr .no (.t 34) (zc 177372539170284150)), zv 36 (.pick (.t 33) (.c (.bool true)) (.t 35))]
def qbc1 : IC := zr [zv 2 (.mov (zc (-1)))]
def qbhg : IC := zr [zm 37 3, zm 38 4, zv 39 (.bin .mul .no (zc 26) (.t 38)), zv 40 (.bin .add .no (.t 37) (.t 39)), zm 3 40]
def q65 : IC := zr [zm 41 3, zv 42 (.bin .gtr .no (.t 41) (zc 4611686018427387904)), zm 43 42, zw 43 false 44 (.mov (.t 3)), ⟨some (43, false), some 45, .call (.c (.fn 102 [] [])) [((.t 44), .id)]⟩, zw 43 false 46 (.mov (.t 0)), zw 43 false 47 (.bin .neq .no (.t 45) (.t 46)), zv 48 (.pick (.t 43) (.c (.bool true)) (.t 47))]
def q3p : IC := zr [zv 2 (.mov (zc (-1)))]
def qzt : IC := zr [zm 49 3, zm 2 49]
def k0dc : IC := (.seq q8z (.seq (.seq qbdu (.cond (.t 17) (.seq qbeo .ret) .skip)) (.seq q6b (.seq (.seq qbi8 (.cond (.t 24) (.seq qbje (.seq (.seq qbad (.cond (.t 36) (.seq qbc1 .ret) .skip)) qbhg)) .skip)) (.seq (.seq q65 (.cond (.t 48) (.seq q3p .ret) .skip)) (.seq qzt .ret))))))
@[go_sem] def s0dc : List (RV × Co) := [(.t 2, .id)]
theorem c0dc : cFun Tryz.prog 119 = some (50, k0dc, s0dc) := by kernel_rfl

def qbbj : IC := zr [zv 2 (.mov (zc 0)), zv 3 (.mov (zc 0))]
def qbbp : IC := zr [zm 8 0, zv 9 (.len true (.t 8)), zv 10 (.mov (zc 0))]
def q66 : IC := zr [zv 11 (.bin .lss .no (.t 10) (.t 9))]
def qbja : IC := zr [zm 12 10, zm 4 12]
def q7i : IC := zr [zm 13 0, zm 14 4, zv 15 (.idx (.t 13) (.t 14)), zv 16 (.bin .lss .no (.t 15) (.c (.int .u8 48))), zm 17 16, zw 17 false 18 (.mov (.t 0)), zw 17 false 19 (.mov (.t 4)), zw 17 false 20 (.idx (.t 18) (.t 19)), zw 17 false 21 (.bin .gtr .no (.t 20) (.c (.int .u8 57))), zv 22 (.pick (.t 17) (.c (.bool true)) (.t 21))]
def q63 : IC := zr [zv 2 (.mov (zc 0)), zv 3 (.mov (zc 5))]
def q7m : IC := zr [zv 23 (.bin .add .no (.t 10) (zc 1)), zm 10 23]
def q5q : IC := (.seq q66 (.seq (.cond (.t 11) .skip (.exit 0)) (.seq (.block 1 (.seq qbja (.seq q7i (.cond (.t 22) (.seq q63 .ret) .skip)))) q7m)))
def q8d : IC := zr [zm 24 0, zv 25 (.bin .eql .no (.t 24) (.c (.str [])))]
def qzv : IC := zr [zv 2 (.mov (zc 0)), zv 3 (.mov (zc 5))]
def q0s : IC := zr [zv 5 (.mov (zc 0)), zv 6 (.mov (zc 0))]
def q2j : IC := zr [zm 26 0, zm 27 6, zv 28 (.idx (.t 26) (.t 27)), zv 29 (.bin .sub .no (.t 28) (.c (.int .u8 48))), zv 30 (.cvi .i64 (.t 29)), zm 7 30]
def q0z : IC := zr [zm 31 5, zm 32 7, zv 33 (.bin .sub .no (zc 9223372036854775807) (.t 32)), zv 34 (.bin .quo .no (.t 33) (zc 10)), zv 35 (.bin .gtr .no (.t 31) (.t 34))]
def qzq : IC := zr [zv 2 (.mov (zc 0)), zv 3 (.mov (zc 4))]
def q08 : IC := zr [zm 36 5, zv 37 (.bin .mul .no (zc 10) (.t 36)), zm 38 7, zv 39 (.bin .add .no (.t 37) (.t 38)), zm 5 39]
def qz1 : IC := zr [zm 40 6, zv 41 (.bin .add .no (.t 40) (zc 1)), zm 6 41]
def q1b : IC := zr [zm 42 6, zm 43 0, zv 44 (.len true (.t 43)), zv 45 (.bin .lss .no (.t 42) (.t 44))]
def qzd : IC := zr [zm 46 5, zm 2 46, zv 3 (.mov (zc 0))]
def k0bx : IC := (.seq qbbj (.scope (.seq (.seq qbbp (.block 0 (.loop q5q))) (.seq (.seq q8d (.cond (.t 25) (.seq qzv .ret) .skip)) (.seq q0s (.seq (.label 0) (.seq q2j (.seq (.seq q0z (.cond (.t 35) (.seq qzq .ret) .skip)) (.seq q08 (.seq (.seq qz1 (.seq q1b (.cond (.t 45) (.goto 0) .skip))) (.seq qzd .ret)))))))))))
@[go_sem] def s0bx : List (RV × Co) := [(.t 2, .id), (.t 3, .id)]
theorem c0bx : cFun Tryz.prog 120 = some (47, k0bx, s0bx) := by kernel_rfl

def q8e : IC := zr [zi 3 (.box (.t 0)), zv 5 zf]
def q5c : IC := zr [zv 6 (.ld false 1 (.t 2)), zv 7 (.bin .add .no (.t 6) (zc 1)), zn (.st 1 .id (.t 2) (.t 7))]
def q94 : IC := zr [zv 5 (.mov (.c (.bool true)))]
def k0bc : IC := (.seq q8e (.seq q5c (.seq q94 .ret)))
@[go_sem] def s0bc : List (RV × Co) := [(.t 5, .id)]
theorem c0bc : cFun Tryz.prog 124 = some (8, k0bc, s0bc) := by kernel_rfl

def qbi2 : IC := zr [zi 3 (.box (.t 0)), zv 5 zf]
def qbhb : IC := zr [zv 6 (.ld false 1 (.t 2)), zm 7 1, zv 8 (.mm true (.t 6) (.t 7)), zn (.st 1 .id (.t 2) (.t 8))]
def q7b : IC := zr [zv 5 (.mov (.c (.bool true)))]
def k0bd : IC := (.seq qbi2 (.seq qbhb (.seq q7b .ret)))
@[go_sem] def s0bd : List (RV × Co) := [(.t 5, .id)]
theorem c0bd : cFun Tryz.prog 125 = some (9, k0bd, s0bd) := by kernel_rfl

end Go.Proofs.YtbbjelfnocmaoaaGreat
