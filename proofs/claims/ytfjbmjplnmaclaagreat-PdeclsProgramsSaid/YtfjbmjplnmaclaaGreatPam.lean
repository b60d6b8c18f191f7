/- A text of this proof. -/
import Derived.Test.YtfjbmjplnmaclaaGreatPag
import Derived.Test.YtfjbmjplnmaclaaGreatProg
/- The compiled code of the functions. -/
namespace Go.Proofs.YtfjbmjplnmaclaaGreat
open Go Go.V
@[reducible] def zm (d s : Nat) : GI := ⟨none, some d, .v (.mov (.t s))⟩
@[reducible] def zv (d : Nat) (x : IV) : GI := ⟨none, some d, .v x⟩
@[reducible] def zi (d : Nat) (i : I) : GI := ⟨none, some d, i⟩
@[reducible] def zn (i : I) : GI := ⟨none, none, i⟩
@[reducible] def zw (j : Nat) (b : Bool) (d : Nat) (x : IV) : GI := ⟨some (j, b), some d, .v x⟩
@[reducible] def zp (g : GI) : GI × List Nat := (g, [])
@[reducible] def zN : Co := .agg [.id, .id, .id, .id, (.sl 5)]
@[reducible] def zC : Co := .agg [(.sl 4), .id, .id, .id, .id, .id, .id, .id]
@[reducible] def zaN : I := .alo [(.int .i64 0), (.int .i64 0), (.int .i64 0), (.str []), .nils]
@[reducible] def zaC : I := .alo [.nils, (.int .i64 0), (.int .i64 0), (.int .i64 0), (.str []), (.int .i64 0), (.int .i64 0), (.int .i64 0)]
@[reducible] def zaT : I := .alo [(.int .i64 0), (.int .i64 0), (.int .i64 0), (.str [])]
@[reducible] def zZ : AV := .agg [(.int .i64 0), (.int .i64 0), (.int .i64 0), (.str []), .nils]
@[reducible] def zc (n : Int) : Opd := .c (.int .i64 n)
@[reducible] def zf : IV := .mov (.c (.bool false))
@[reducible] def zr (l : List GI) : IC := .reg false l
def qce0 : IC := zr [zv 2 zf]
def qcic : IC := zr [zm 9 0, zv 10 (.len true (.t 9)), zv 11 (.bin .gtr .no (.t 10) (zc 3000))]
def qcfw : IC := zr [zi 12 (.call (.c (.fn 5 [] [])) []), zm 2 12]
def qcjn : IC := zr [zm 14 0, zi 15 (.call (.c (.fn 6 [] [])) [((.t 14), .id)]), zm 13 15, zv 16 (.ext (.t 13) 0), zv 17 (.ext (.t 13) 1), zv 18 (.ext (.t 13) 2), zi 3 zaN, zn (.st 5 zN (.t 3) (.t 16)), zm 4 17, zm 5 18]
def qchy : IC := zr [zm 20 0, zi 21 (.call (.c (.fn 7 [] [])) [((.t 20), .id)]), zm 19 21, zv 22 (.ext (.t 19) 0), zv 23 (.ext (.t 19) 1), zv 24 (.ext (.t 19) 2), zi 6 zaN, zn (.st 5 zN (.t 6) (.t 22)), zm 7 23, zm 8 24]
def qcen : IC := zr [zv 25 (.ld true 5 (.t 3)), zv 26 (.ld true 5 (.t 6)), zi 27 (.call (.c (.fn 8 [] [])) [((.t 25), zN), ((.t 26), zN)]), zm 28 27, zw 28 true 29 (.mov (.t 4)), zw 28 true 30 (.mov (.t 7)), zw 28 true 31 (.bin .eql .no (.t 29) (.t 30)), zv 32 (.pick (.t 28) (.t 31) (.c (.bool false))), zm 33 32, zw 33 true 34 (.mov (.t 5)), zw 33 true 35 (.mov (.t 8)), zw 33 true 36 (.bin .eql .no (.t 34) (.t 35)), zv 37 (.pick (.t 33) (.t 36) (.c (.bool false))), zm 38 37, zw 38 true 39 (.mov (.t 5)), zw 38 true 40 (.bin .neq .no (.t 39) (zc 0)), zw 38 true 41 (.mov (.t 40)), zw 41 false 42 (.ld true 5 (.t 3)), ⟨some (41, false), some 43, .call (.c (.fn 9 [] [])) [((.t 42), zN)]⟩, zw 41 false 44 (.mov (.t 43)), zw 44 true 45 (.fad (.t 3) 0), zw 44 true 46 (.ld false 1 (.t 45)), zw 44 true 47 (.bin .eql .no (.t 46) (zc 37)), zw 41 false 48 (.pick (.t 44) (.t 47) (.c (.bool false))), zw 38 true 49 (.pick (.t 41) (.c (.bool true)) (.t 48)), zv 50 (.pick (.t 38) (.t 49) (.c (.bool false))), zm 51 50, ⟨some (51, true), some 52, .call (.c (.fn 5 [] [])) []⟩, zv 53 (.pick (.t 51) (.t 52) (.c (.bool false))), zm 2 53]
def k0a : IC := (.seq qce0 (.seq (.seq qcic (.cond (.t 11) (.seq qcfw .ret) .skip)) (.seq qcjn (.seq qchy (.seq qcen .ret)))))
@[go_sem] def s0a : List (RV × Co) := [(.t 2, .id)]
theorem c0a : cFun Tryz.prog 3 = some (54, k0a, s0a) := by kernel_rfl

def qbnz : IC := zr [zv 0 zf]
def qb4t : IC := zr [zi 17 (.call (.c (.fn 6 [] [])) [((.c (.str [100, 97, 116, 97, 32, 66, 32, 61, 32, 84, 32, 124, 32, 70, 59])), .id)]), zm 16 17, zv 18 (.ext (.t 16) 0), zv 19 (.ext (.t 16) 1), zv 20 (.ext (.t 16) 2), zi 1 zaN, zn (.st 5 zN (.t 1) (.t 18)), zm 2 19, zm 3 20]
def qb4c : IC := zr [zi 22 (.call (.c (.fn 6 [] [])) [((.c (.str [99, 108, 97, 115, 115, 32, 69, 113, 32, 97, 32, 61, 62, 32, 79, 114, 100, 32, 97, 32, 119, 104, 101, 114, 101, 32, 123, 32, 108, 116, 32, 58, 58, 32, 97, 32, 45, 62, 32, 97, 32, 45, 62, 32, 66, 32, 125, 59, 32, 105, 110, 115, 116, 97, 110, 99, 101, 32, 69, 113, 32, 66, 32, 119, 104, 101, 114, 101, 32, 123, 32, 101, 113, 32, 120, 32, 121, 32, 61, 32, 84, 59, 32, 125, 59, 32, 102, 32, 58, 58, 32, 66, 59, 32, 102, 32, 61, 32, 84])), .id)]), zm 21 22, zv 23 (.ext (.t 21) 0), zv 24 (.ext (.t 21) 1), zv 25 (.ext (.t 21) 2), zi 4 zaN, zn (.st 5 zN (.t 4) (.t 23)), zm 5 24, zm 6 25]
def qbub : IC := zr [zi 27 (.call (.c (.fn 10 [] [])) [((.c (.str [100, 97, 116, 97, 32, 77, 32, 97, 32, 61, 32, 78, 32, 124, 32, 74, 32, 97])), .id)]), zm 26 27, zv 28 (.ext (.t 26) 0), zv 29 (.ext (.t 26) 1), zv 30 (.ext (.t 26) 2), zi 7 zaN, zn (.st 5 zN (.t 7) (.t 28)), zm 8 29, zm 9 30]
def qbxp : IC := zr [zi 32 (.call (.c (.fn 6 [] [])) [((.c (.str [120, 32, 61, 32, 49, 59, 32, 59])), .id)]), zm 31 32, zv 33 (.ext (.t 31) 0), zv 34 (.ext (.t 31) 1), zv 35 (.ext (.t 31) 2), zi 10 zaN, zn (.st 5 zN (.t 10) (.t 33)), zm 11 34, zm 12 35]
def qbyu : IC := zr [zi 37 (.call (.c (.fn 6 [] [])) [((.c (.str [])), .id)]), zm 36 37, zv 38 (.ext (.t 36) 0), zv 39 (.ext (.t 36) 1), zv 40 (.ext (.t 36) 2), zi 13 zaN, zn (.st 5 zN (.t 13) (.t 38)), zm 14 39, zm 15 40]
def qb84 : IC := zr [zv 41 (.fad (.t 1) 4), zv 42 (.ld false 1 (.t 41)), zv 43 (.len false (.t 42)), zv 44 (.bin .neq .no (.t 43) (zc 1)), zm 45 44, zw 45 false 46 (.fad (.t 4) 4), zw 45 false 47 (.ld false 1 (.t 46)), zw 45 false 48 (.len false (.t 47)), zw 45 false 49 (.bin .neq .no (.t 48) (zc 4)), zv 50 (.pick (.t 45) (.c (.bool true)) (.t 49))]
def qcdd : IC := zr [zv 0 zf]
def qbrx : IC := zr [zv 51 (.fad (.t 1) 4), zv 52 (.ld false 1 (.t 51)), zv 53 (.iad 5 (.t 52) (zc 0)), zv 54 (.fad (.t 53) 3), zv 55 (.ld false 1 (.t 54)), zv 56 (.bin .eql .no (.t 55) (.c (.str [66]))), zm 57 56, zw 57 true 58 (.mov (.t 2)), zw 57 true 59 (.bin .eql .no (.t 58) (zc 0)), zv 60 (.pick (.t 57) (.t 59) (.c (.bool false))), zm 61 60, zw 61 true 62 (.mov (.t 3)), zw 61 true 63 (.bin .eql .no (.t 62) (zc 0)), zv 64 (.pick (.t 61) (.t 63) (.c (.bool false))), zm 65 64, zw 65 true 66 (.fad (.t 4) 4), zw 65 true 67 (.ld false 1 (.t 66)), zw 65 true 68 (.iad 5 (.t 67) (zc 0)), zw 65 true 69 (.fad (.t 68) 2), zw 65 true 70 (.ld false 1 (.t 69)), zw 65 true 71 (.bin .eql .no (.t 70) (zc 1)), zv 72 (.pick (.t 65) (.t 71) (.c (.bool false))), zm 73 72, zw 73 true 74 (.fad (.t 4) 4), zw 73 true 75 (.ld false 1 (.t 74)), zw 73 true 76 (.iad 5 (.t 75) (zc 1)), zw 73 true 77 (.fad (.t 76) 0), zw 73 true 78 (.ld false 1 (.t 77)), zw 73 true 79 (.bin .eql .no (.t 78) (zc 36)), zv 80 (.pick (.t 73) (.t 79) (.c (.bool false))), zm 81 80, zw 81 true 82 (.mov (.t 6)), zw 81 true 83 (.bin .eql .no (.t 82) (zc 0)), zv 84 (.pick (.t 81) (.t 83) (.c (.bool false))), zm 85 84, zw 85 true 86 (.fad (.t 7) 2), zw 85 true 87 (.ld false 1 (.t 86)), zw 85 true 88 (.bin .eql .no (.t 87) (zc 1)), zv 89 (.pick (.t 85) (.t 88) (.c (.bool false))), zm 90 89, zw 90 true 91 (.fad (.t 7) 4), zw 90 true 92 (.ld false 1 (.t 91)), zw 90 true 93 (.len false (.t 92)), zw 90 true 94 (.bin .eql .no (.t 93) (zc 3)), zv 95 (.pick (.t 90) (.t 94) (.c (.bool false))), zm 96 95, zw 96 true 97 (.mov (.t 9)), zw 96 true 98 (.bin .eql .no (.t 97) (zc 0)), zv 99 (.pick (.t 96) (.t 98) (.c (.bool false))), zm 100 99, zw 100 true 101 (.mov (.t 11)), zw 100 true 102 (.bin .eql .no (.t 101) (zc 7)), zv 103 (.pick (.t 100) (.t 102) (.c (.bool false))), zm 104 103, zw 104 true 105 (.mov (.t 12)), zw 104 true 106 (.bin .eql .no (.t 105) (zc 5)), zv 107 (.pick (.t 104) (.t 106) (.c (.bool false))), zm 108 107, zw 108 true 109 (.fad (.t 13) 0), zw 108 true 110 (.ld false 1 (.t 109)), zw 108 true 111 (.bin .eql .no (.t 110) (zc 37)), zv 112 (.pick (.t 108) (.t 111) (.c (.bool false))), zm 113 112, zw 113 true 114 (.mov (.t 15)), zw 113 true 115 (.bin .eql .no (.t 114) (zc 0)), zv 116 (.pick (.t 113) (.t 115) (.c (.bool false))), zm 0 116]
def k0gg : IC := (.seq qbnz (.seq qb4t (.seq qb4c (.seq qbub (.seq qbxp (.seq qbyu (.seq (.seq qb84 (.cond (.t 50) (.seq qcdd .ret) .skip)) (.seq qbrx .ret))))))))
@[go_sem] def s0gg : List (RV × Co) := [(.t 0, .id)]
theorem c0gg : cFun Tryz.prog 5 = some (117, k0gg, s0gg) := by kernel_rfl

def qck2 : IC := zr [zi 2 zaN, zv 3 (.mov (zc 0)), zv 4 (.mov (zc 0))]
def qcj0 : IC := zr [zm 5 0, zi 6 (.call (.c (.fn 12 [] [])) [((.t 5), .id), ((.c (.fn 13 [] [])), .id)]), zv 7 (.ext (.t 6) 0), zv 8 (.ext (.t 6) 1), zv 9 (.ext (.t 6) 2), zn (.st 5 zN (.t 2) (.t 7)), zm 3 8, zm 4 9]
def k0n : IC := (.seq qck2 (.seq qcj0 .ret))
@[go_sem] def s0n : List (RV × Co) := [(.c true 5 2, zN), (.t 3, .id), (.t 4, .id)]
theorem c0n : cFun Tryz.prog 6 = some (10, k0n, s0n) := by kernel_rfl

def qcda : IC := zr [zi 2 zaN, zv 3 (.mov (zc 0)), zv 4 (.mov (zc 0))]
def qbsb : IC := zr [zm 15 0, zi 16 (.call (.c (.fn 20 [] [])) [((.t 15), .id)]), zm 14 16, zv 17 (.ext (.t 14) 0), zv 18 (.ext (.t 14) 1), zv 19 (.ext (.t 14) 2), zm 5 17, zm 6 18, zm 7 19]
def qcd6 : IC := zr [zm 20 7, zv 21 (.bin .neq .no (.t 20) (zc 0))]
def qb7n : IC := zr [zv 22 (.bld [(.int .i64 0), (.int .i64 0), (.int .i64 0), (.str []), .nils] []), zm 23 6, zm 24 7, zn (.st 5 zN (.t 2) (.t 22)), zm 3 23, zm 4 24]
def qb8d : IC := zr [zm 25 5, zi 26 (.call (.c (.fn 21 [] [])) [((.t 25), (.sl 4))]), zi 8 zaC, zn (.st 8 zC (.t 8) (.t 26))]
def qcai : IC := zr [zv 27 (.bld [(.int .i64 0), (.int .i64 0), (.int .i64 0), (.str []), .nils] [(0, 1, (zc 37))]), zi 9 zaN, zn (.st 5 zN (.t 9) (.t 27))]
def qb8a : IC := zr [zv 28 (.fad (.t 8) 0), zv 29 (.ld false 1 (.t 28)), zv 30 (.len false (.t 29)), zv 31 (.bin .gtr .no (.t 30) (zc 0)), zm 10 31]
def qbry : IC := zr [zm 32 10]
def qbw7 : IC := zr [zv 34 (.ld true 8 (.t 8)), zi 35 (.call (.c (.fn 22 [] [])) [((.t 34), zC)]), zm 33 35, zv 36 (.ext (.t 33) 0), zv 37 (.ext (.t 33) 1), zi 11 zaC, zi 12 zaN, zn (.st 8 zC (.t 11) (.t 36)), zn (.st 5 zN (.t 12) (.t 37))]
def qbc3 : IC := zr [zv 38 (.fad (.t 9) 4), zv 39 (.ld false 1 (.t 38)), zv 40 (.ld true 5 (.t 12)), zv 41 (.bsl 5 [((.t 40), zN)]), zi 42 (.app 5 zZ 64 (.sl 5) (.t 39) (.t 41)), zv 43 (.fad (.t 9) 4), zn (.st 1 (.sl 5) (.t 43) (.t 42))]
def qbed : IC := zr [zv 45 (.ld true 8 (.t 11)), zi 46 (.call (.c (.fn 23 [] [])) [((.t 45), zC), ((.c (.str [59])), .id)]), zm 44 46, zv 47 (.ext (.t 44) 0), zv 48 (.ext (.t 44) 1), zn (.st 8 zC (.t 11) (.t 47)), zm 13 48]
def qbis : IC := zr [zm 49 13, zm 50 49, zw 50 true 51 (.fad (.t 11) 6), zw 50 true 52 (.ld false 1 (.t 51)), zw 50 true 53 (.bin .eql .no (.t 52) (zc 0)), zv 54 (.pick (.t 50) (.t 53) (.c (.bool false))), zm 55 54, zw 55 true 56 (.fad (.t 11) 0), zw 55 true 57 (.ld false 1 (.t 56)), zw 55 true 58 (.len false (.t 57)), zw 55 true 59 (.bin .gtr .no (.t 58) (zc 0)), zv 60 (.pick (.t 55) (.t 59) (.c (.bool false))), zm 10 60]
def qbif : IC := zr [zv 61 (.ld true 8 (.t 11)), zn (.st 8 zC (.t 8) (.t 61))]
def qb5u : IC := (.seq (.seq qbry (.cond (.t 32) .skip (.exit 0))) (.block 1 (.seq qbw7 (.seq qbc3 (.seq qbed (.seq qbis qbif))))))
def qbek : IC := zr [zv 62 (.ld true 8 (.t 8)), zv 63 (.ld true 5 (.t 9)), zi 64 (.call (.c (.fn 24 [] [])) [((.t 62), zC), ((.t 63), zN)]), zv 65 (.ext (.t 64) 0), zv 66 (.ext (.t 64) 1), zv 67 (.ext (.t 64) 2), zn (.st 5 zN (.t 2) (.t 65)), zm 3 66, zm 4 67]
def k0gf : IC := (.seq qcda (.seq qbsb (.seq (.seq qcd6 (.cond (.t 21) (.seq qb7n .ret) .skip)) (.seq qb8d (.seq qcai (.seq qb8a (.seq (.block 0 (.loop qb5u)) (.seq qbek .ret))))))))
@[go_sem] def s0gf : List (RV × Co) := [(.c true 5 2, zN), (.t 3, .id), (.t 4, .id)]
theorem c0gf : cFun Tryz.prog 7 = some (68, k0gf, s0gf) := by kernel_rfl

def qbvc : IC := zr [zi 2 (.box (.t 0)), zi 3 (.box (.t 1)), zv 4 zf]
def qbwh : IC := zr [zv 6 (.fad (.t 2) 1), zv 7 (.ld false 1 (.t 6)), zv 8 (.fad (.t 3) 1), zv 9 (.ld false 1 (.t 8)), zv 10 (.bin .neq .no (.t 7) (.t 9)), zm 11 10, zw 11 false 12 (.fad (.t 2) 0), zw 11 false 13 (.ld false 1 (.t 12)), zw 11 false 14 (.fad (.t 3) 0), zw 11 false 15 (.ld false 1 (.t 14)), zw 11 false 16 (.bin .neq .no (.t 13) (.t 15)), zv 17 (.pick (.t 11) (.c (.bool true)) (.t 16)), zm 18 17, zw 18 false 19 (.fad (.t 2) 3), zw 18 false 20 (.ld false 1 (.t 19)), zw 18 false 21 (.fad (.t 3) 3), zw 18 false 22 (.ld false 1 (.t 21)), zw 18 false 23 (.bin .neq .no (.t 20) (.t 22)), zv 24 (.pick (.t 18) (.c (.bool true)) (.t 23)), zm 25 24, zw 25 false 26 (.fad (.t 2) 2), zw 25 false 27 (.ld false 1 (.t 26)), zw 25 false 28 (.fad (.t 3) 2), zw 25 false 29 (.ld false 1 (.t 28)), zw 25 false 30 (.bin .neq .no (.t 27) (.t 29)), zv 31 (.pick (.t 25) (.c (.bool true)) (.t 30)), zm 32 31, zw 32 false 33 (.fad (.t 2) 4), zw 32 false 34 (.ld false 1 (.t 33)), zw 32 false 35 (.len false (.t 34)), zw 32 false 36 (.fad (.t 3) 4), zw 32 false 37 (.ld false 1 (.t 36)), zw 32 false 38 (.len false (.t 37)), zw 32 false 39 (.bin .neq .no (.t 35) (.t 38)), zv 40 (.pick (.t 32) (.c (.bool true)) (.t 39))]
def qbri : IC := zr [zv 4 zf]
def qbp9 : IC := zr [zv 5 (.mov (zc 0))]
def qbvk : IC := zr [zm 41 5, zv 42 (.fad (.t 2) 4), zv 43 (.ld false 1 (.t 42)), zv 44 (.len false (.t 43)), zv 45 (.bin .lss .no (.t 41) (.t 44))]
def qbp1 : IC := .drw [zp (zv 48 (.fad (.t 2) 4)), zp (zv 49 (.ld false 1 (.t 48))), zp (zm 50 5), zp (zv 51 (.iad 5 (.t 49) (.t 50))), zp (zv 52 (.ld true 5 (.t 51))), zp (zv 53 (.fad (.t 3) 4)), zp (zv 54 (.ld false 1 (.t 53))), zp (zm 55 5), zp (zv 56 (.iad 5 (.t 54) (.t 55))), zp (zv 57 (.ld true 5 (.t 56))), (zi 58 (.call (.c (.fn 8 [] [])) [((.t 52), zN), ((.t 57), zN)]), []), zp (zv 59 (.un .not (.t 58)))]
def qb17 : IC := zr [zv 4 zf]
def qbng : IC := zr [zm 46 5, zv 47 (.bin .add .no (.t 46) (zc 1)), zm 5 47]
def qb56 : IC := (.seq (.seq qbvk (.cond (.t 45) .skip (.exit 0))) (.seq (.block 1 (.seq qbp1 (.cond (.t 59) (.seq qb17 .ret) .skip))) qbng))
def qbi4 : IC := zr [zv 4 (.mov (.c (.bool true)))]
def k0ey : IC := (.seq qbvc (.seq (.seq qbwh (.cond (.t 40) (.seq qbri .ret) .skip)) (.seq (.seq qbp9 (.block 0 (.loop qb56))) (.seq qbi4 .ret))))
@[go_sem] def s0ey : List (RV × Co) := [(.t 4, .id)]
theorem c0ey : cFun Tryz.prog 8 = some (60, k0ey, s0ey) := by kernel_rfl

def qb9a : IC := zr [zi 1 (.box (.t 0)), zv 2 zf]
def qbm9 : IC := zr [zv 3 (.fad (.t 1) 0), zv 4 (.ld false 1 (.t 3)), zv 5 (.bin .eql .no (.t 4) (zc 37))]
def qb3e : IC := zr [zv 6 (.ld true 5 (.t 1)), zi 7 (.call (.c (.fn 25 [] [])) [((.t 6), zN)]), zm 8 7, zw 8 true 9 (.ld true 5 (.t 1)), ⟨some (8, true), some 10, .call (.c (.fn 26 [] [])) [((.t 9), zN)]⟩, zv 11 (.pick (.t 8) (.t 10) (.c (.bool false))), zm 12 11, zw 12 true 13 (.fad (.t 1) 4), zw 12 true 14 (.ld false 1 (.t 13)), ⟨some (12, true), some 15, .call (.c (.fn 27 [] [])) [((.t 14), (.sl 5)), ((.c (.fn 28 [] [])), .id)]⟩, zv 16 (.pick (.t 12) (.t 15) (.c (.bool false))), zm 2 16]
def qbvr : IC := zr [zv 17 (.ld true 5 (.t 1)), zi 18 (.call (.c (.fn 25 [] [])) [((.t 17), zN)]), zm 19 18, zw 19 true 20 (.ld true 5 (.t 1)), ⟨some (19, true), some 21, .call (.c (.fn 28 [] [])) [((.t 20), zN)]⟩, zv 22 (.pick (.t 19) (.t 21) (.c (.bool false))), zm 2 22]
def k0ek : IC := (.seq qb9a (.seq (.seq qbm9 (.cond (.t 5) (.seq qb3e .ret) .skip)) (.seq qbvr .ret)))
@[go_sem] def s0ek : List (RV × Co) := [(.t 2, .id)]
theorem c0ek : cFun Tryz.prog 9 = some (23, k0ek, s0ek) := by kernel_rfl

def qcjs : IC := zr [zi 2 zaN, zv 3 (.mov (zc 0)), zv 4 (.mov (zc 0))]
def qcfh : IC := zr [zm 5 0, zi 6 (.call (.c (.fn 12 [] [])) [((.t 5), .id), ((.c (.fn 29 [] [])), .id)]), zv 7 (.ext (.t 6) 0), zv 8 (.ext (.t 6) 1), zv 9 (.ext (.t 6) 2), zn (.st 5 zN (.t 2) (.t 7)), zm 3 8, zm 4 9]
def k0o : IC := (.seq qcjs (.seq qcfh .ret))
@[go_sem] def s0o : List (RV × Co) := [(.c true 5 2, zN), (.t 3, .id), (.t 4, .id)]
theorem c0o : cFun Tryz.prog 10 = some (10, k0o, s0o) := by kernel_rfl

def qcju : IC := zr [zi 4 zaN, zv 5 (.mov (zc 0)), zv 6 (.mov (zc 0))]
def qcee : IC := zr [zm 15 0, zi 16 (.call (.c (.fn 30 [] [])) [((.t 15), .id)]), zm 14 16, zv 17 (.ext (.t 14) 0), zv 18 (.ext (.t 14) 1), zv 19 (.ext (.t 14) 2), zm 7 17, zm 8 18, zm 9 19]
def qceq : IC := zr [zm 20 9, zv 21 (.bin .neq .no (.t 20) (zc 0))]
def qcgk : IC := zr [zv 22 (.bld [(.int .i64 0), (.int .i64 0), (.int .i64 0), (.str []), .nils] []), zm 23 8, zm 24 9, zn (.st 5 zN (.t 4) (.t 22)), zm 5 23, zm 6 24]
def qcjt : IC := zr [zm 25 7, zi 26 (.call (.c (.fn 31 [] [])) [((.t 25), (.sl 4))]), zm 10 26]
def qces : IC := zr [zm 27 1, zm 28 10, zi 29 (.call (.t 27) [((.t 28), .id)]), zi 11 zaN, zn (.st 5 zN (.t 11) (.t 29))]
def qcfo : IC := zr [zm 31 10, zi 32 (.call (.c (.fn 32 [] [])) [((.t 31), .id)]), zm 30 32, zv 33 (.ext (.t 30) 0), zv 34 (.ext (.t 30) 1), zm 12 33, zm 13 34]
def qckb : IC := zr [zm 35 13, zv 36 (.bin .neq .no (.t 35) (zc 0))]
def qckd : IC := zr [zv 37 (.bld [(.int .i64 0), (.int .i64 0), (.int .i64 0), (.str []), .nils] []), zm 38 12, zm 39 13, zn (.st 5 zN (.t 4) (.t 37)), zm 5 38, zm 6 39]
def qcgh : IC := zr [zv 40 (.ld true 5 (.t 11)), zi 41 (.call (.c (.fn 33 [] [])) [((.t 40), zN)]), zv 42 (.bin .gtr .no (.t 41) (zc 100))]
def qbsl : IC := .drw [(zv 43 (.bld [(.int .i64 0), (.int .i64 0), (.int .i64 0), (.str []), .nils] []), []), zp (zv 44 (.fad (.t 11) 1)), zp (zv 45 (.ld false 1 (.t 44))), (zn (.st 5 zN (.t 4) (.t 43)), [2]), zp (zm 5 45), zp (zv 6 (.mov (zc 2)))]
def qbsi : IC := zr [zv 46 (.ld true 5 (.t 11)), zn (.st 5 zN (.t 4) (.t 46)), zv 5 (.mov (zc 0)), zv 6 (.mov (zc 0))]
def k0m : IC := (.seq qcju (.seq qcee (.seq (.seq qceq (.cond (.t 21) (.seq qcgk .ret) .skip)) (.seq qcjt (.seq qces (.seq (.seq qcfo (.seq qckb (.cond (.t 36) (.seq qckd .ret) .skip))) (.seq (.seq qcgh (.cond (.t 42) (.seq qbsl .ret) .skip)) (.seq qbsi .ret))))))))
@[go_sem] def s0m : List (RV × Co) := [(.c true 5 4, zN), (.t 5, .id), (.t 6, .id)]
theorem c0m : cFun Tryz.prog 12 = some (47, k0m, s0m) := by kernel_rfl

def qchu : IC := zr [zi 1 (.box (.t 0)), zi 2 zaN]
def qci3 : IC := zr [zv 6 (.ld false 1 (.t 1)), zi 7 (.call (.c (.fn 14 [] [])) [((.t 6), .id), ((.c (.str [59])), .id)]), zi 3 (.alo [.nilf]), zn (.st 1 .id (.t 3) (.t 7))]
def qci0 : IC := zr [zv 9 (.mfn 16 [] [(.t 1)]), zv 10 (.mfn 18 [] [(.t 1), (.t 3)]), zi 11 (.call (.c (.fn 15 [] [])) [((.c .nils), (.sl 5)), ((.t 9), .id), ((.t 10), .id)]), zm 8 11, zv 12 (.ext (.t 8) 0), zv 13 (.ext (.t 8) 1), zm 4 12, zm 5 13]
def qcg5 : IC := zr [zm 14 4, zv 15 (.bld [(.int .i64 0), (.int .i64 0), (.int .i64 0), (.str []), .nils] [(0, 1, (zc 37)), (4, 1, (.t 14))]), zn (.st 5 zN (.t 2) (.t 15))]
def k0k : IC := (.seq qchu (.seq qci3 (.seq qci0 (.seq qcg5 .ret))))
@[go_sem] def s0k : List (RV × Co) := [(.c true 5 2, zN)]
theorem c0k : cFun Tryz.prog 13 = some (16, k0k, s0k) := by kernel_rfl

def qce1 : IC := zr [zi 2 (.box (.t 0)), zi 3 (.box (.t 1)), zv 4 (.mov (.c .nilf))]
def qcjr : IC := zr [zi 5 (.alo [(.bool false)]), zn (.st 1 .id (.t 5) (.c (.bool false)))]
def qcg4 : IC := zr [zv 6 (.mfn 34 [] [(.t 5), (.t 2), (.t 3)]), zm 4 6]
def k0w : IC := (.seq qce1 (.seq qcjr (.seq qcg4 .ret)))
@[go_sem] def s0w : List (RV × Co) := [(.t 4, .id)]
theorem c0w : cFun Tryz.prog 14 = some (7, k0w, s0w) := by kernel_rfl

def qb0n : IC := zr [zv 6 (.mov (.c .nils)), zv 7 zf]
def qbz0 : IC := zr [zm 10 2, zi 11 (.call (.t 10) [])]
def qb04 : IC := zr [zm 13 1, zi 14 (.call (.t 13) []), zm 12 14, zv 15 (.ext (.t 12) 0), zv 16 (.ext (.t 12) 1), zi 8 zaN, zn (.st 5 zN (.t 8) (.t 15)), zm 9 16]
def qb5g : IC := zr [zm 17 9, zv 18 (.un .not (.t 17))]
def qb4w : IC := zr [zm 19 0, zm 6 19, zv 7 zf]
def qcan : IC := zr [zm 20 0, zv 21 (.ld true 5 (.t 8)), zv 22 (.bsl 5 [((.t 21), zN)]), zi 23 (.app 5 zZ 64 (.sl 5) (.t 20) (.t 22)), zm 0 23]
def qb83 : IC := (.seq (.seq qbz0 (.cond (.t 11) .skip (.exit 0))) (.block 1 (.seq qb04 (.seq (.seq qb5g (.cond (.t 18) (.seq qb4w .ret) .skip)) qcan))))
def qb5z : IC := zr [zm 24 0, zm 6 24, zv 7 (.mov (.c (.bool true)))]
def k0be : IC := (.seq qb0n (.seq (.block 0 (.loop qb83)) (.seq qb5z .ret)))
@[go_sem] def s0be : List (RV × Co) := [(.t 6, (.sl 5)), (.t 7, .id)]
theorem c0be : cFun Tryz.prog 15 = some (25, k0be, s0be) := by kernel_rfl

def qcfv : IC := zr [zi 1 zaN, zv 2 zf]
def qcht : IC := zr [zv 3 (.ld false 1 (.t 0)), zi 4 (.call (.c (.fn 17 [] [])) [((.t 3), .id)]), zv 5 (.ext (.t 4) 0), zv 6 (.ext (.t 4) 1), zn (.st 5 zN (.t 1) (.t 5)), zm 2 6]
def k0i : IC := (.seq qcfv (.seq qcht .ret))
@[go_sem] def s0i : List (RV × Co) := [(.c true 5 1, zN), (.t 2, .id)]
theorem c0i : cFun Tryz.prog 16 = some (7, k0i, s0i) := by kernel_rfl

def qchn : IC := zr [zi 2 zaN, zv 3 zf]
def qci1 : IC := zr [zm 5 0, zi 6 (.call (.c (.fn 19 [] [])) [((.t 5), .id)]), zv 7 (.fld false 1 1 (.t 6)), zv 8 (.bld [(.int .i64 0), (.int .i64 0), (.int .i64 0), (.str []), .nils] [(1, 1, (.t 7))]), zi 4 zaN, zn (.st 5 zN (.t 4) (.t 8))]
def qcej : IC := zr [zm 10 0, zi 11 (.call (.c (.fn 35 [] [])) [((.t 10), .id), ((.c (.str [100, 97, 116, 97])), .id)]), zm 9 11]
def qcjl : IC := zr [zm 12 0, zv 13 (.ld true 5 (.t 4)), zi 14 (.call (.c (.fn 36 [] [])) [((.t 12), .id), ((.t 13), zN)]), zv 15 (.ext (.t 14) 0), zv 16 (.ext (.t 14) 1), zn (.st 5 zN (.t 2) (.t 15)), zm 3 16]
def qcki : IC := zr [zm 18 0, zi 19 (.call (.c (.fn 35 [] [])) [((.t 18), .id), ((.c (.str [99, 108, 97, 115, 115])), .id)]), zm 17 19]
def qcgw : IC := zr [zv 20 (.fad (.t 4) 0), zn (.st 1 .id (.t 20) (zc 35))]
def qckp : IC := zr [zm 21 0, zv 22 (.ld true 5 (.t 4)), zi 23 (.call (.c (.fn 37 [] [])) [((.t 21), .id), ((.t 22), zN)]), zv 24 (.ext (.t 23) 0), zv 25 (.ext (.t 23) 1), zn (.st 5 zN (.t 2) (.t 24)), zm 3 25]
def qcjm : IC := zr [zm 27 0, zi 28 (.call (.c (.fn 35 [] [])) [((.t 27), .id), ((.c (.str [105, 110, 115, 116, 97, 110, 99, 101])), .id)]), zm 26 28]
def qcgm : IC := zr [zv 29 (.fad (.t 4) 0), zn (.st 1 .id (.t 29) (zc 36))]
def qcg1 : IC := zr [zm 30 0, zv 31 (.ld true 5 (.t 4)), zi 32 (.call (.c (.fn 37 [] [])) [((.t 30), .id), ((.t 31), zN)]), zv 33 (.ext (.t 32) 0), zv 34 (.ext (.t 32) 1), zn (.st 5 zN (.t 2) (.t 33)), zm 3 34]
def qbp2 : IC := zr [zm 35 0, zi 36 (.call (.c (.fn 38 [] [])) [((.t 35), .id)]), zv 37 (.ext (.t 36) 0), zv 38 (.ext (.t 36) 1), zn (.st 5 zN (.t 2) (.t 37)), zm 3 38]
def k0h : IC := (.seq qchn (.seq qci1 (.seq (.block 0 (.seq qcej (.cond (.t 9) (.seq qcjl .ret) (.seq qcki (.cond (.t 17) (.seq qcgw (.seq qckp .ret)) (.seq qcjm (.cond (.t 26) (.seq qcgm (.seq qcg1 .ret)) .skip))))))) (.seq qbp2 .ret))))
@[go_sem] def s0h : List (RV × Co) := [(.c true 5 2, zN), (.t 3, .id)]
theorem c0h : cFun Tryz.prog 17 = some (39, k0h, s0h) := by kernel_rfl

def qcgq : IC := zr [zv 2 zf]
def qckj : IC := zr [zv 3 (.ld false 1 (.t 0)), zi 4 (.call (.c (.fn 19 [] [])) [((.t 3), .id)]), zv 5 (.fld false 1 0 (.t 4)), zv 6 (.bin .neq .no (.t 5) (zc 0)), zm 7 6, zw 7 true 8 (.ld false 1 (.t 1)), ⟨some (7, true), some 9, .call (.t 8) []⟩, zv 10 (.pick (.t 7) (.t 9) (.c (.bool false))), zm 11 10, zw 11 true 12 (.ld false 1 (.t 0)), ⟨some (11, true), some 13, .call (.c (.fn 19 [] [])) [((.t 12), .id)]⟩, zw 11 true 14 (.fld false 1 0 (.t 13)), zw 11 true 15 (.bin .neq .no (.t 14) (zc 0)), zv 16 (.pick (.t 11) (.t 15) (.c (.bool false))), zm 2 16]
def k0j : IC := (.seq qcgq (.seq qckj .ret))
@[go_sem] def s0j : List (RV × Co) := [(.t 2, .id)]
theorem c0j : cFun Tryz.prog 18 = some (17, k0j, s0j) := by kernel_rfl

def qbzk : IC := zr [zi 2 zaT]
def qb7c : IC := zr [zm 4 0, zi 5 (.call (.c (.fn 39 [] [])) [((.t 4), .id)]), zm 3 5]
def qby3 : IC := zr [zv 6 (.bld [(.int .i64 0), (.int .i64 0), (.int .i64 0), (.str [])] []), zn (.st 4 .id (.t 2) (.t 6))]
def qbsm : IC := .drw [zp (zm 8 0), zp (zv 9 (.nck (.t 8))), zp (zv 10 (.fad (.t 9) 5)), zp (zv 11 (.ld false 1 (.t 10))), zp (zm 12 0), zp (zv 13 (.nck (.t 12))), zp (zv 14 (.fad (.t 13) 0)), zp (zv 15 (.ld false 1 (.t 14))), zp (zv 16 (.len false (.t 15))), zp (zv 17 (.bin .lss .no (.t 11) (.t 16))), zp (zm 7 17)]
def qb58 : IC := .drw [zp (zm 18 0), zp (zv 19 (.nck (.t 18))), zp (zv 20 (.fad (.t 19) 0)), zp (zv 21 (.ld false 1 (.t 20))), zp (zm 22 0), zp (zv 23 (.nck (.t 22))), zp (zv 24 (.fad (.t 23) 5)), zp (zv 25 (.ld false 1 (.t 24))), zp (zv 26 (.iad 4 (.t 21) (.t 25))), zp (zv 27 (.ld true 4 (.t 26))), (zn (.st 4 .id (.t 2) (.t 27)), [])]
def qbws : IC := zr [zm 28 0, zv 29 (.nck (.t 28)), zv 30 (.fad (.t 29) 1), zv 31 (.ld true 4 (.t 30)), zn (.st 4 .id (.t 2) (.t 31))]
def k0cs : IC := (.seq qbzk (.seq (.block 0 (.seq qb7c (.cond (.t 3) (.seq qby3 .ret) (.seq qbsm (.cond (.t 7) (.seq qb58 .ret) .skip))))) (.seq qbws .ret)))
@[go_sem] def s0cs : List (RV × Co) := [(.c true 4 2, .id)]
theorem c0cs : cFun Tryz.prog 19 = some (32, k0cs, s0cs) := by kernel_rfl

def qb0k : IC := zr [zv 2 (.mov (.c .nils)), zv 3 (.mov (zc 0)), zv 4 (.mov (zc 0))]
def qcdo : IC := zr [zm 9 0, zv 10 (.len true (.t 9)), zv 11 (.bin .gtr .no (.t 10) (zc 1048576))]
def qcd1 : IC := zr [zv 2 (.mov (.c .nils)), zv 3 (.mov (zc 0)), zv 4 (.mov (zc 2))]
def qbqw : IC := zr [zv 5 (.mov (.c .nils))]
def qb12 : IC := zr [zm 12 0, zi 13 (.call (.c (.fn 40 [] [])) [((.t 12), .id), ((zc 0), .id)]), zm 6 13]
def qbsj : IC := zr [zm 14 6, zm 15 0, zv 16 (.len true (.t 15)), zv 17 (.bin .lss .no (.t 14) (.t 16))]
def qb4v : IC := zr [zm 19 0, zm 20 6, zv 21 (.sls (.t 19) (some (.t 20)) none), zi 22 (.call (.c (.fn 41 [] [])) [((.t 21), .id)]), zm 18 22, zv 23 (.ext (.t 18) 0), zv 24 (.ext (.t 18) 1), zi 7 zaT, zn (.st 4 .id (.t 7) (.t 23)), zm 8 24]
def qb2k : IC := zr [zm 25 8, zv 26 (.bin .neq .no (.t 25) (zc 0))]
def qbqg : IC := zr [zm 27 6, zm 28 8, zv 2 (.mov (.c .nils)), zm 3 27, zm 4 28]
def qbju : IC := zr [zm 29 6, zv 30 (.fad (.t 7) 1), zn (.st 1 .id (.t 30) (.t 29))]
def qbiu : IC := zr [zm 31 5, zv 32 (.ld true 4 (.t 7)), zv 33 (.bsl 4 [((.t 32), .id)]), zi 34 (.app 4 (.agg [(.int .i64 0), (.int .i64 0), (.int .i64 0), (.str [])]) 40 (.sl 4) (.t 31) (.t 33)), zm 5 34]
def qbfo : IC := zr [zm 35 0, zm 36 6, zv 37 (.fad (.t 7) 3), zv 38 (.ld false 1 (.t 37)), zv 39 (.len true (.t 38)), zv 40 (.bin .add .no (.t 36) (.t 39)), zi 41 (.call (.c (.fn 40 [] [])) [((.t 35), .id), ((.t 40), .id)]), zm 6 41]
def qb0d : IC := (.seq (.seq qbsj (.cond (.t 17) .skip (.exit 0))) (.block 1 (.seq qb4v (.seq (.seq qb2k (.cond (.t 26) (.seq qbqg .ret) .skip)) (.seq qbju (.seq qbiu qbfo))))))
def qbla : IC := zr [zm 42 5, zm 43 0, zv 44 (.len true (.t 43)), zv 45 (.bld [(.int .i64 0), (.int .i64 0), (.int .i64 0), (.str [])] [(0, 1, (zc 0)), (1, 1, (.t 44))]), zv 46 (.bsl 4 [((.t 45), .id)]), zi 47 (.app 4 (.agg [(.int .i64 0), (.int .i64 0), (.int .i64 0), (.str [])]) 40 (.sl 4) (.t 42) (.t 46)), zm 2 47, zv 3 (.mov (zc 0)), zv 4 (.mov (zc 0))]
def k0dd : IC := (.seq qb0k (.seq (.seq qcdo (.cond (.t 11) (.seq qcd1 .ret) .skip)) (.seq qbqw (.seq qb12 (.seq (.block 0 (.loop qb0d)) (.seq qbla .ret))))))
@[go_sem] def s0dd : List (RV × Co) := [(.t 2, (.sl 4)), (.t 3, .id), (.t 4, .id)]
theorem c0dd : cFun Tryz.prog 20 = some (48, k0dd, s0dd) := by kernel_rfl

def qbm7 : IC := zr [zi 2 zaC]
def qbwb : IC := zr [zv 3 (.mov (zc 0))]
def qbx2 : IC := zr [zm 4 3, zm 5 0, zv 6 (.len false (.t 5)), zv 7 (.bin .lss .no (.t 4) (.t 6))]
def qby6 : IC := zr [zm 10 0, zm 11 3, zv 12 (.iad 4 (.t 10) (.t 11)), zv 13 (.fad (.t 12) 0), zv 14 (.ld false 1 (.t 13)), zv 15 (.bin .eql .no (.t 14) (zc 0))]
def qb9x : IC := .drw [zp (zm 16 0), zp (zm 17 3), zp (zv 18 (.slv 4 (.t 16) none (some (.t 17)) none)), zp (zm 19 0), zp (zm 20 3), zp (zv 21 (.iad 4 (.t 19) (.t 20))), zp (zv 22 (.fad (.t 21) 1)), zp (zv 23 (.ld false 1 (.t 22))), (zv 24 (.bld [(.int .i64 0), (.int .i64 0), (.int .i64 0), (.str [])] [(0, 1, (zc 0)), (1, 1, (.t 23))]), []), (zv 25 (.bld [.nils, (.int .i64 0), (.int .i64 0), (.int .i64 0), (.str []), (.int .i64 0), (.int .i64 0), (.int .i64 0)] [(0, 1, (.t 18)), (1, 4, (.t 24))]), []), (zn (.st 8 zC (.t 2) (.t 25)), [])]
def qb2l : IC := zr [zm 8 3, zv 9 (.bin .add .no (.t 8) (zc 1)), zm 3 9]
def qboe : IC := (.seq (.seq qbx2 (.cond (.t 7) .skip (.exit 0))) (.seq (.block 1 (.seq qby6 (.cond (.t 15) (.seq qb9x .ret) .skip))) qb2l))
def qbtz : IC := zr [zm 26 0, zv 27 (.bld [.nils, (.int .i64 0), (.int .i64 0), (.int .i64 0), (.str []), (.int .i64 0), (.int .i64 0), (.int .i64 0)] [(0, 1, (.t 26))]), zn (.st 8 zC (.t 2) (.t 27))]
def k0cp : IC := (.seq qbm7 (.seq (.seq qbwb (.block 0 (.loop qboe))) (.seq qbtz .ret)))
@[go_sem] def s0cp : List (RV × Co) := [(.c true 8 2, zC)]
theorem c0cp : cFun Tryz.prog 21 = some (28, k0cp, s0cp) := by kernel_rfl

def qci8 : IC := zr [zi 1 (.box (.t 0)), zi 2 zaC, zi 3 zaN]
def qcec : IC := zr [zv 11 (.ld true 8 (.t 1)), zi 12 (.call (.c (.fn 42 [] [])) [((.t 11), zC)]), zv 13 (.fld false 1 1 (.t 12)), zm 4 13]
def qch9 : IC := zr [zv 15 (.ld true 8 (.t 1)), zi 16 (.call (.c (.fn 23 [] [])) [((.t 15), zC), ((.c (.str [100, 97, 116, 97])), .id)]), zm 14 16, zv 17 (.ext (.t 14) 0), zv 18 (.ext (.t 14) 1), zi 5 zaC, zn (.st 8 zC (.t 5) (.t 17)), zm 6 18]
def qcj8 : IC := zr [zm 19 6]
def qce9 : IC := zr [zv 20 (.ld true 8 (.t 5)), zm 21 4, zi 22 (.call (.c (.fn 43 [] [])) [((.t 20), zC), ((.t 21), .id)]), zv 23 (.ext (.t 22) 0), zv 24 (.ext (.t 22) 1), zn (.st 8 zC (.t 2) (.t 23)), zn (.st 5 zN (.t 3) (.t 24))]
def qchv : IC := zr [zv 26 (.ld true 8 (.t 1)), zi 27 (.call (.c (.fn 23 [] [])) [((.t 26), zC), ((.c (.str [99, 108, 97, 115, 115])), .id)]), zm 25 27, zv 28 (.ext (.t 25) 0), zv 29 (.ext (.t 25) 1), zi 7 zaC, zn (.st 8 zC (.t 7) (.t 28)), zm 8 29]
def qchb : IC := zr [zm 30 8]
def qcf9 : IC := zr [zv 31 (.ld true 8 (.t 7)), zm 32 4, zi 33 (.call (.c (.fn 44 [] [])) [((.t 31), zC), ((zc 35), .id), ((.t 32), .id)]), zv 34 (.ext (.t 33) 0), zv 35 (.ext (.t 33) 1), zn (.st 8 zC (.t 2) (.t 34)), zn (.st 5 zN (.t 3) (.t 35))]
def qcky : IC := zr [zv 37 (.ld true 8 (.t 1)), zi 38 (.call (.c (.fn 23 [] [])) [((.t 37), zC), ((.c (.str [105, 110, 115, 116, 97, 110, 99, 101])), .id)]), zm 36 38, zv 39 (.ext (.t 36) 0), zv 40 (.ext (.t 36) 1), zi 9 zaC, zn (.st 8 zC (.t 9) (.t 39)), zm 10 40]
def qchp : IC := zr [zm 41 10]
def qbs9 : IC := zr [zv 42 (.ld true 8 (.t 9)), zm 43 4, zi 44 (.call (.c (.fn 44 [] [])) [((.t 42), zC), ((zc 36), .id), ((.t 43), .id)]), zv 45 (.ext (.t 44) 0), zv 46 (.ext (.t 44) 1), zn (.st 8 zC (.t 2) (.t 45)), zn (.st 5 zN (.t 3) (.t 46))]
def qbsv : IC := zr [zv 47 (.ld true 8 (.t 1)), zi 48 (.call (.c (.fn 45 [] [])) [((.t 47), zC)]), zv 49 (.ext (.t 48) 0), zv 50 (.ext (.t 48) 1), zn (.st 8 zC (.t 2) (.t 49)), zn (.st 5 zN (.t 3) (.t 50))]
def k0c : IC := (.seq qci8 (.seq qcec (.seq (.seq qch9 (.seq qcj8 (.cond (.t 19) (.seq qce9 .ret) .skip))) (.seq (.seq qchv (.seq qchb (.cond (.t 30) (.seq qcf9 .ret) .skip))) (.seq (.seq qcky (.seq qchp (.cond (.t 41) (.seq qbs9 .ret) .skip))) (.seq qbsv .ret))))))
@[go_sem] def s0c : List (RV × Co) := [(.c true 8 2, zC), (.c true 5 3, zN)]
theorem c0c : cFun Tryz.prog 22 = some (51, k0c, s0c) := by kernel_rfl

def qbyk : IC := zr [zi 2 (.box (.t 0)), zi 4 zaC, zv 5 zf]
def qbyr : IC := zr [zv 8 (.ld true 8 (.t 2)), zm 9 1, zi 10 (.call (.c (.fn 46 [] [])) [((.t 8), zC), ((.t 9), .id)]), zv 11 (.un .not (.t 10))]
def qcbs : IC := zr [zv 12 (.ld true 8 (.t 2)), zn (.st 8 zC (.t 4) (.t 12)), zv 5 zf]
def qbzu : IC := zr [zv 14 (.ld true 8 (.t 2)), zi 15 (.call (.c (.fn 47 [] [])) [((.t 14), zC)]), zm 13 15, zv 16 (.ext (.t 13) 0), zv 17 (.ext (.t 13) 1), zi 6 zaC, zi 7 zaT, zn (.st 8 zC (.t 6) (.t 16)), zn (.st 4 .id (.t 7) (.t 17))]
def qb2e : IC := zr [zv 18 (.ld true 8 (.t 6)), zn (.st 8 zC (.t 4) (.t 18)), zv 5 (.mov (.c (.bool true)))]
def k0cj : IC := (.seq qbyk (.seq (.seq qbyr (.cond (.t 11) (.seq qcbs .ret) .skip)) (.seq qbzu (.seq qb2e .ret))))
@[go_sem] def s0cj : List (RV × Co) := [(.c true 8 4, zC), (.t 5, .id)]
theorem c0cj : cFun Tryz.prog 23 = some (19, k0cj, s0cj) := by kernel_rfl

def qb4r : IC := zr [zi 2 (.box (.t 0)), zi 3 (.box (.t 1)), zi 4 zaN, zv 5 (.mov (zc 0)), zv 6 (.mov (zc 0))]
def qbw2 : IC := zr [zv 10 (.ld true 8 (.t 2)), zi 11 (.call (.c (.fn 48 [] [])) [((.t 10), zC)]), zm 9 11, zv 12 (.ext (.t 9) 0), zv 13 (.ext (.t 9) 1), zm 7 12, zm 8 13]
def qb8x : IC := zr [zm 14 8, zv 15 (.bin .neq .no (.t 14) (zc 0))]
def qb0o : IC := zr [zv 16 (.bld [(.int .i64 0), (.int .i64 0), (.int .i64 0), (.str []), .nils] []), zm 17 7, zm 18 8, zn (.st 5 zN (.t 4) (.t 16)), zm 5 17, zm 6 18]
def qca0 : IC := zr [zv 19 (.ld true 5 (.t 3)), zi 20 (.call (.c (.fn 49 [] [])) [((.t 19), zN)]), zv 21 (.bin .gtr .no (.t 20) (zc 100))]
def qb64 : IC := .drw [(zv 22 (.bld [(.int .i64 0), (.int .i64 0), (.int .i64 0), (.str []), .nils] []), []), zp (zv 23 (.fad (.t 3) 1)), zp (zv 24 (.ld false 1 (.t 23))), (zn (.st 5 zN (.t 4) (.t 22)), [2]), zp (zm 5 24), zp (zv 6 (.mov (zc 2)))]
def qb89 : IC := zr [zv 25 (.ld true 5 (.t 3)), zn (.st 5 zN (.t 4) (.t 25)), zv 5 (.mov (zc 0)), zv 6 (.mov (zc 0))]
def k0ge : IC := (.seq qb4r (.seq qbw2 (.seq (.seq qb8x (.cond (.t 15) (.seq qb0o .ret) .skip)) (.seq (.seq qca0 (.cond (.t 21) (.seq qb64 .ret) .skip)) (.seq qb89 .ret)))))
@[go_sem] def s0ge : List (RV × Co) := [(.c true 5 4, zN), (.t 5, .id), (.t 6, .id)]
theorem c0ge : cFun Tryz.prog 24 = some (26, k0ge, s0ge) := by kernel_rfl

def qbyg : IC := zr [zi 1 (.box (.t 0)), zi 2 (.alo [(.bool false)])]
def qb5e : IC := zr [zv 4 (.ld true 5 (.t 1)), zi 5 (.call (.c (.fn 50 [] [])) [((.t 4), zN), ((zc 1), .id)])]
def qcar : IC := zr [zm 8 3, zv 9 (.bin .gtr .no (.t 8) (zc 100))]
def qb4x : IC := zr [zn (.st 1 .id (.t 2) (.c (.bool false)))]
def qbab : IC := (.block 1 (.seq qcar (.cond (.t 9) (.seq qb4x .ret) .skip)))
def qba5 : IC := zr [zm 3 6]
def qb3s : IC := zr [zn (.st 1 .id (.t 2) (.c (.bool true)))]
def k0ex : IC := (.seq qbyg (.seq (.seq qb5e (.block 0 (.rng (.t 5) [6, 7] qba5 qbab))) (.seq qb3s .ret)))
@[go_sem] def s0ex : List (RV × Co) := [(.c false 1 2, .id)]
theorem c0ex : cFun Tryz.prog 25 = some (10, k0ex, s0ex) := by kernel_rfl

def qbqp : IC := zr [zi 1 (.box (.t 0)), zv 2 zf]
def qbsz : IC := zr [zv 3 (.fad (.t 1) 3), zv 4 (.ld false 1 (.t 3)), zv 5 (.bin .eql .no (.t 4) (.c (.str []))), zm 6 5, zw 6 true 7 (.fad (.t 1) 2), zw 6 true 8 (.ld false 1 (.t 7)), zw 6 true 9 (.bin .eql .no (.t 8) (zc 0)), zv 10 (.pick (.t 6) (.t 9) (.c (.bool false))), zm 2 10]
def k0eu : IC := (.seq qbqp (.seq qbsz .ret))
@[go_sem] def s0eu : List (RV × Co) := [(.t 2, .id)]
theorem c0eu : cFun Tryz.prog 26 = some (11, k0eu, s0eu) := by kernel_rfl

def qbsw : IC := zr [zv 4 zf]
def qb5o : IC := zr [zm 7 0, zv 8 (.len false (.t 7)), zv 9 (.mov (zc 0))]
def qbuq : IC := zr [zv 10 (.bin .lss .no (.t 9) (.t 8))]
def qbtt : IC := zr [zv 11 (.iad 5 (.t 7) (.t 9)), zv 12 (.ld true 5 (.t 11)), zi 6 zaN, zn (.st 5 zN (.t 6) (.t 12))]
def qbou : IC := zr [zm 13 1, zv 14 (.ld true 5 (.t 6)), zi 15 (.call (.t 13) [((.t 14), zN)]), zv 16 (.un .not (.t 15))]
def qb0w : IC := zr [zv 4 zf]
def qbq2 : IC := zr [zv 17 (.bin .add .no (.t 9) (zc 1)), zm 9 17]
def qb9j : IC := (.seq qbuq (.seq (.cond (.t 10) .skip (.exit 0)) (.seq (.block 1 (.seq qbtt (.seq qbou (.cond (.t 16) (.seq qb0w .ret) .skip)))) qbq2)))
def qb23 : IC := zr [zv 4 (.mov (.c (.bool true)))]
def k0ew : IC := (.seq qbsw (.seq (.seq qb5o (.block 0 (.loop qb9j))) (.seq qb23 .ret)))
@[go_sem] def s0ew : List (RV × Co) := [(.t 4, .id)]
theorem c0ew : cFun Tryz.prog 27 = some (18, k0ew, s0ew) := by kernel_rfl

def qbv4 : IC := zr [zi 1 (.box (.t 0)), zv 2 zf]
def qb6h : IC := zr [zv 6 (.fad (.t 1) 0), zv 7 (.ld false 1 (.t 6))]
def qb44 : IC := zr [zv 9 (.bin .eql .no (.t 7) (zc 31)), zm 8 9]
def qb1t : IC := zr [zv 10 (.ld true 5 (.t 1)), zi 11 (.call (.c (.fn 51 [] [])) [((.t 10), zN)]), zm 2 11]
def qcb6 : IC := zr [zv 13 (.bin .eql .no (.t 7) (zc 32)), zm 12 13]
def qbqq : IC := zr [zv 14 (.ld true 5 (.t 1)), zi 15 (.call (.c (.fn 52 [] [])) [((.t 14), zN)]), zm 2 15]
def qb2z : IC := zr [zv 16 (.fad (.t 1) 3), zv 17 (.ld false 1 (.t 16)), zi 18 (.call (.c (.fn 53 [] [])) [((.t 17), .id)]), zv 19 (.un .not (.t 18)), zm 20 19, zw 20 false 21 (.fad (.t 1) 2), zw 20 false 22 (.ld false 1 (.t 21)), zw 20 false 23 (.bin .lss .no (.t 22) (zc 0)), zv 24 (.pick (.t 20) (.c (.bool true)) (.t 23)), zm 25 24, zw 25 false 26 (.fad (.t 1) 2), zw 25 false 27 (.ld false 1 (.t 26)), zw 25 false 28 (.fad (.t 1) 4), zw 25 false 29 (.ld false 1 (.t 28)), zw 25 false 30 (.len false (.t 29)), zw 25 false 31 (.bin .geq .no (.t 27) (.t 30)), zv 32 (.pick (.t 25) (.c (.bool true)) (.t 31))]
def qb6s : IC := zr [zv 2 zf]
def qbtf : IC := .drw [zp (zv 33 (.fad (.t 1) 4)), zp (zv 34 (.ld false 1 (.t 33))), zp (zv 35 (.fad (.t 1) 2)), zp (zv 36 (.ld false 1 (.t 35))), zp (zv 37 (.slv 5 (.t 34) none (some (.t 36)) none)), zp (zv 38 (.fad (.t 1) 4)), zp (zv 39 (.ld false 1 (.t 38))), zp (zv 40 (.fad (.t 1) 2)), zp (zv 41 (.ld false 1 (.t 40))), zp (zv 42 (.iad 5 (.t 39) (.t 41))), zp (zv 43 (.ld true 5 (.t 42))), zp (zv 44 (.fad (.t 1) 4)), zp (zv 45 (.ld false 1 (.t 44))), zp (zv 46 (.fad (.t 1) 2)), zp (zv 47 (.ld false 1 (.t 46))), zp (zv 48 (.bin .add .no (.t 47) (zc 1))), zp (zv 49 (.slv 5 (.t 45) (some (.t 48)) none none)), (zi 4 zaN, [1, 3, 4, 6, 8, 10, 12, 14, 16]), zp (zm 3 37), (zn (.st 5 zN (.t 4) (.t 43)), [12, 14, 16]), zp (zm 5 49)]
def qby5 : IC := zr [zv 50 (.fad (.t 1) 0), zv 51 (.ld false 1 (.t 50))]
def qbhx : IC := zr [zv 53 (.bin .eql .no (.t 51) (zc 33)), zm 52 53]
def qbkq : IC := zr [zm 54 3, zi 55 (.call (.c (.fn 27 [] [])) [((.t 54), (.sl 5)), ((.c (.fn 54 [] [])), .id)]), zm 56 55, zw 56 true 57 (.ld true 5 (.t 4)), ⟨some (56, true), some 58, .call (.c (.fn 55 [] [])) [((.t 57), zN)]⟩, zv 59 (.pick (.t 56) (.t 58) (.c (.bool false))), zm 60 59, zw 60 true 61 (.mov (.t 5)), ⟨some (60, true), some 62, .call (.c (.fn 27 [] [])) [((.t 61), (.sl 5)), ((.c (.fn 55 [] [])), .id)]⟩, zv 63 (.pick (.t 60) (.t 62) (.c (.bool false))), zm 2 63]
def qbhu : IC := zr [zv 65 (.bin .eql .no (.t 51) (zc 35)), zm 64 65]
def qbgu : IC := zr [zm 66 3, zi 67 (.call (.c (.fn 27 [] [])) [((.t 66), (.sl 5)), ((.c (.fn 56 [] [])), .id)]), zm 68 67, zw 68 true 69 (.ld true 5 (.t 4)), ⟨some (68, true), some 70, .call (.c (.fn 54 [] [])) [((.t 69), zN)]⟩, zv 71 (.pick (.t 68) (.t 70) (.c (.bool false))), zm 72 71, zw 72 true 73 (.mov (.t 5)), ⟨some (72, true), some 74, .call (.c (.fn 27 [] [])) [((.t 73), (.sl 5)), ((.c (.fn 52 [] [])), .id)]⟩, zv 75 (.pick (.t 72) (.t 74) (.c (.bool false))), zm 2 75]
def qbit : IC := zr [zv 77 (.bin .eql .no (.t 51) (zc 36)), zm 76 77]
def qbj3 : IC := zr [zm 78 3, zi 79 (.call (.c (.fn 27 [] [])) [((.t 78), (.sl 5)), ((.c (.fn 56 [] [])), .id)]), zm 80 79, zw 80 true 81 (.ld true 5 (.t 4)), ⟨some (80, true), some 82, .call (.c (.fn 57 [] [])) [((.t 81), zN)]⟩, zv 83 (.pick (.t 80) (.t 82) (.c (.bool false))), zm 84 83, zw 84 true 85 (.mov (.t 5)), ⟨some (84, true), some 86, .call (.c (.fn 27 [] [])) [((.t 85), (.sl 5)), ((.c (.fn 51 [] [])), .id)]⟩, zv 87 (.pick (.t 84) (.t 86) (.c (.bool false))), zm 2 87]
def qbjb : IC := zr [zv 2 zf]
def k0ej : IC := (.seq qbv4 (.seq (.seq qb6h (.block 0 (.seq qb44 (.cond (.t 8) (.seq qb1t .ret) (.seq qcb6 (.cond (.t 12) (.seq qbqq .ret) .skip)))))) (.seq (.seq qb2z (.cond (.t 32) (.seq qb6s .ret) .skip)) (.seq qbtf (.seq (.seq qby5 (.block 1 (.seq qbhx (.cond (.t 52) (.seq qbkq .ret) (.seq qbhu (.cond (.t 64) (.seq qbgu .ret) (.seq qbit (.cond (.t 76) (.seq qbj3 .ret) .skip)))))))) (.seq qbjb .ret))))))
@[go_sem] def s0ej : List (RV × Co) := [(.t 2, .id)]
theorem c0ej : cFun Tryz.prog 28 = some (88, k0ej, s0ej) := by kernel_rfl

def qcfu : IC := zr [zi 2 zaN]
def qcfp : IC := zr [zm 6 0, zi 7 (.call (.c (.fn 17 [] [])) [((.t 6), .id)]), zm 5 7, zv 8 (.ext (.t 5) 0), zv 9 (.ext (.t 5) 1), zi 3 zaN, zn (.st 5 zN (.t 3) (.t 8)), zm 4 9]
def qcho : IC := zr [zv 10 (.ld true 5 (.t 3)), zn (.st 5 zN (.t 2) (.t 10))]
def k0l : IC := (.seq qcfu (.seq qcfp (.seq qcho .ret)))
@[go_sem] def s0l : List (RV × Co) := [(.c true 5 2, zN)]
theorem c0l : cFun Tryz.prog 29 = some (11, k0l, s0l) := by kernel_rfl

def qbqx : IC := zr [zi 2 (.alo [.nils]), zi 3 (.alo [(.int .i64 0)]), zi 4 (.alo [(.int .i64 0)])]
def qbpy : IC := zr [zm 8 0, zv 9 (.len true (.t 8)), zv 10 (.bin .gtr .no (.t 9) (zc 1048576))]
def qbwc : IC := zr [zn (.st 1 (.sl 4) (.t 2) (.c .nils)), zn (.st 1 .id (.t 3) (zc 0)), zn (.st 1 .id (.t 4) (zc 2))]
def qb28 : IC := zr [zi 5 (.alo [.nils])]
def qbwi : IC := zr [zm 11 0, zi 12 (.call (.c (.fn 58 [] [])) [((.t 11), .id)])]
def qbxv : IC := zr [zm 15 7, zv 16 (.bin .neq .no (.t 15) (zc 0))]
def qb6y : IC := .drw [zp (zv 17 (.fad (.t 6) 1)), zp (zv 18 (.ld false 1 (.t 17))), zp (zm 19 7), (zn (.st 1 (.sl 4) (.t 2) (.c .nils)), [1]), (zn (.st 1 .id (.t 3) (.t 18)), []), (zn (.st 1 .id (.t 4) (.t 19)), [])]
def qb5b : IC := zr [zv 20 (.ld false 1 (.t 5)), zv 21 (.ld true 4 (.t 6)), zv 22 (.bsl 4 [((.t 21), .id)]), zi 23 (.app 4 (.agg [(.int .i64 0), (.int .i64 0), (.int .i64 0), (.str [])]) 40 (.sl 4) (.t 20) (.t 22)), zn (.st 1 (.sl 4) (.t 5) (.t 23))]
def q1j : IC := (.block 1 (.seq (.seq qbxv (.cond (.t 16) (.seq qb6y .ret) .skip)) qb5b))
def qux : IC := zr [zi 6 zaT, zn (.st 4 .id (.t 6) (.t 13))]
def qwe : IC := zr [zm 7 14]
def qbly : IC := zr [zv 24 (.ld false 1 (.t 5)), zm 25 0, zv 26 (.len true (.t 25)), zv 27 (.bld [(.int .i64 0), (.int .i64 0), (.int .i64 0), (.str [])] [(0, 1, (zc 0)), (1, 1, (.t 26))]), zv 28 (.bsl 4 [((.t 27), .id)]), zi 29 (.app 4 (.agg [(.int .i64 0), (.int .i64 0), (.int .i64 0), (.str [])]) 40 (.sl 4) (.t 24) (.t 28)), zn (.st 1 (.sl 4) (.t 2) (.t 29)), zn (.st 1 .id (.t 3) (zc 0)), zn (.st 1 .id (.t 4) (zc 0))]
def k0df : IC := (.seq qbqx (.seq (.seq qbpy (.cond (.t 10) (.seq qbwc .ret) .skip)) (.seq qb28 (.seq (.seq qbwi (.block 0 (.rng (.t 12) [13, 14] (.seq qux qwe) q1j))) (.seq qbly .ret)))))
@[go_sem] def s0df : List (RV × Co) := [(.c false 1 2, (.sl 4)), (.c false 1 3, .id), (.c false 1 4, .id)]
theorem c0df : cFun Tryz.prog 30 = some (30, k0df, s0df) := by kernel_rfl

def qb1e : IC := zr [zv 2 (.mov (.c .nilp))]
def qbus : IC := zr [zv 6 (.bld [.nils, (.int .i64 0), (.int .i64 0), (.int .i64 0), (.str []), (.int .i64 0), (.int .i64 0), (.int .i64 0), (.int .i64 0)] []), zi 7 (.box (.t 6)), zm 3 7]
def qbns : IC := zr [zm 8 0, zv 9 (.len false (.t 8)), zv 10 (.mov (zc 0))]
def qb10 : IC := zr [zv 11 (.bin .lss .no (.t 10) (.t 9))]
def qbvg : IC := zr [zv 12 (.iad 4 (.t 8) (.t 10)), zv 13 (.ld true 4 (.t 12)), zi 5 zaT, zn (.st 4 .id (.t 5) (.t 13))]
def qbvx : IC := zr [zv 14 (.fad (.t 5) 0), zv 15 (.ld false 1 (.t 14)), zv 16 (.bin .eql .no (.t 15) (zc 0))]
def qbrq : IC := zr [zm 17 3, zv 18 (.fad (.t 5) 1), zv 19 (.ld false 1 (.t 18)), zv 20 (.nck (.t 17)), zv 21 (.fad (.t 20) 1), zv 22 (.fad (.t 21) 1), zn (.st 1 .id (.t 22) (.t 19))]
def qbwr : IC := .drw [zp (zm 23 3), zp (zm 24 3), zp (zv 25 (.nck (.t 24))), zp (zv 26 (.fad (.t 25) 0)), zp (zv 27 (.ld false 1 (.t 26))), zp (zv 28 (.ld true 4 (.t 5))), (zv 29 (.bsl 4 [((.t 28), .id)]), []), (zi 30 (.app 4 (.agg [(.int .i64 0), (.int .i64 0), (.int .i64 0), (.str [])]) 40 (.sl 4) (.t 27) (.t 29)), []), zp (zv 31 (.nck (.t 23))), zp (zv 32 (.fad (.t 31) 0)), (zn (.st 1 (.sl 4) (.t 32) (.t 30)), [])]
def qb9q : IC := zr [zv 33 (.bin .add .no (.t 10) (zc 1)), zm 10 33]
def qcao : IC := (.seq qb10 (.seq (.cond (.t 11) .skip (.exit 0)) (.seq (.block 1 (.seq qbvg (.seq (.seq qbvx (.cond (.t 16) (.seq qbrq (.exit 0)) .skip)) qbwr))) qb9q)))
def qbkk : IC := zr [zm 34 3, zm 2 34]
def k0cq : IC := (.seq qb1e (.seq qbus (.seq (.seq qbns (.block 0 (.loop qcao))) (.seq qbkk .ret))))
@[go_sem] def s0cq : List (RV × Co) := [(.t 2, .id)]
theorem c0cq : cFun Tryz.prog 31 = some (35, k0cq, s0cq) := by kernel_rfl

def qb3j : IC := zr [zv 2 (.mov (zc 0)), zv 3 (.mov (zc 0))]
def qb7q : IC := zr [zm 5 0, zv 6 (.bin .eql .ptr (.t 5) (.c .nilp)), zm 4 6]
def qbve : IC := zr [zv 2 (.mov (zc 0)), zv 3 (.mov (zc 1))]
def qbmz : IC := zr [zm 8 0, zv 9 (.nck (.t 8)), zv 10 (.fad (.t 9) 7), zv 11 (.ld false 1 (.t 10)), zv 12 (.bin .neq .no (.t 11) (zc 0)), zm 7 12]
def qbwt : IC := .drw [zp (zm 13 0), zp (zv 14 (.nck (.t 13))), zp (zv 15 (.fad (.t 14) 8)), zp (zv 16 (.ld false 1 (.t 15))), zp (zm 17 0), zp (zv 18 (.nck (.t 17))), zp (zv 19 (.fad (.t 18) 7)), zp (zv 20 (.ld false 1 (.t 19))), zp (zm 2 16), zp (zm 3 20)]
def qbu9 : IC := .drw [zp (zm 22 0), zp (zv 23 (.nck (.t 22))), zp (zv 24 (.fad (.t 23) 5)), zp (zv 25 (.ld false 1 (.t 24))), zp (zm 26 0), zp (zv 27 (.nck (.t 26))), zp (zv 28 (.fad (.t 27) 0)), zp (zv 29 (.ld false 1 (.t 28))), zp (zv 30 (.len false (.t 29))), zp (zv 31 (.bin .lss .no (.t 25) (.t 30))), zp (zm 21 31)]
def qb6o : IC := .drw [zp (zm 32 0), zp (zv 33 (.nck (.t 32))), zp (zv 34 (.fad (.t 33) 0)), zp (zv 35 (.ld false 1 (.t 34))), zp (zm 36 0), zp (zv 37 (.nck (.t 36))), zp (zv 38 (.fad (.t 37) 5)), zp (zv 39 (.ld false 1 (.t 38))), zp (zv 40 (.iad 4 (.t 35) (.t 39))), zp (zv 41 (.fad (.t 40) 1)), zp (zv 42 (.ld false 1 (.t 41))), zp (zm 2 42), zp (zv 3 (.mov (zc 5)))]
def qb5r : IC := zr [zm 43 0, zv 44 (.nck (.t 43)), zv 45 (.fad (.t 44) 1), zv 46 (.fad (.t 45) 1), zv 47 (.ld false 1 (.t 46)), zm 2 47, zv 3 (.mov (zc 0))]
def k0db : IC := (.seq qb3j (.seq (.block 0 (.seq qb7q (.cond (.t 4) (.seq qbve .ret) (.seq qbmz (.cond (.t 7) (.seq qbwt .ret) (.seq qbu9 (.cond (.t 21) (.seq qb6o .ret) .skip))))))) (.seq qb5r .ret)))
@[go_sem] def s0db : List (RV × Co) := [(.t 2, .id), (.t 3, .id)]
theorem c0db : cFun Tryz.prog 32 = some (48, k0db, s0db) := by kernel_rfl

def qbz9 : IC := zr [zi 1 (.box (.t 0)), zv 2 (.mov (zc 0))]
def qbw3 : IC := zr [zi 3 (.alo [(.int .i64 0)]), zn (.st 1 .id (.t 3) (zc 0))]
def qb30 : IC := zr [zv 5 (.ld true 5 (.t 1)), zi 6 (.call (.c (.fn 50 [] [])) [((.t 5), zN), ((zc 1), .id)])]
def qcav : IC := zr [zv 9 (.ld false 1 (.t 3)), zm 10 4, zv 11 (.mm true (.t 9) (.t 10)), zn (.st 1 .id (.t 3) (.t 11))]
def qbbv : IC := (.block 1 qcav)
def q6k : IC := zr [zm 4 7]
def qb1j : IC := zr [zv 12 (.ld false 1 (.t 3)), zm 2 12]
def k0fc : IC := (.seq qbz9 (.seq qbw3 (.seq (.seq qb30 (.block 0 (.rng (.t 6) [7, 8] q6k qbbv))) (.seq qb1j .ret))))
@[go_sem] def s0fc : List (RV × Co) := [(.t 2, .id)]
theorem c0fc : cFun Tryz.prog 33 = some (13, k0fc, s0fc) := by kernel_rfl

def qcha : IC := zr [zv 3 zf]
def qcj7 : IC := zr [zv 4 (.ld false 1 (.t 0))]
def qce5 : IC := zr [zv 5 (.ld false 1 (.t 1)), zv 6 (.ld false 1 (.t 2)), zi 7 (.call (.c (.fn 35 [] [])) [((.t 5), .id), ((.t 6), .id)]), zm 3 7]
def qcks : IC := zr [zn (.st 1 .id (.t 0) (.c (.bool true)))]
def qch5 : IC := zr [zv 3 (.mov (.c (.bool true)))]
def k0x : IC := (.seq qcha (.seq (.seq qcj7 (.cond (.t 4) (.seq qce5 .ret) .skip)) (.seq qcks (.seq qch5 .ret))))
@[go_sem] def s0x : List (RV × Co) := [(.t 3, .id)]
theorem c0x : cFun Tryz.prog 34 = some (8, k0x, s0x) := by kernel_rfl

def qb3x : IC := zr [zv 4 zf]
def qcdm : IC := zr [zm 5 0, zm 6 1, zi 7 (.call (.c (.fn 59 [] [])) [((.t 5), .id), ((.t 6), .id)]), zv 8 (.un .not (.t 7))]
def qbqn : IC := zr [zv 4 zf]
def qbxb : IC := zr [zm 9 0, zi 10 (.call (.c (.fn 60 [] [])) [((.t 9), .id)])]
def qb15 : IC := zr [zv 4 (.mov (.c (.bool true)))]
def k0cx : IC := (.seq qb3x (.seq (.seq qcdm (.cond (.t 8) (.seq qbqn .ret) .skip)) (.seq qbxb (.seq qb15 .ret))))
@[go_sem] def s0cx : List (RV × Co) := [(.t 4, .id)]
theorem c0cx : cFun Tryz.prog 35 = some (11, k0cx, s0cx) := by kernel_rfl

def qcja : IC := zr [zi 2 (.box (.t 0)), zi 3 (.box (.t 1)), zi 4 zaN, zv 5 zf]
def qcij : IC := zr [zv 11 (.ld false 1 (.t 2)), zi 12 (.call (.c (.fn 61 [] [])) [((.t 11), .id), ((zc 2), .id)]), zm 10 12, zv 13 (.ext (.t 10) 0), zv 14 (.ext (.t 10) 1), zi 6 zaT, zn (.st 4 .id (.t 6) (.t 13)), zm 7 14]
def qcjq : IC := zr [zm 15 7, zv 16 (.un .not (.t 15))]
def qcgr : IC := zr [zv 17 (.ld true 5 (.t 3)), zn (.st 5 zN (.t 4) (.t 17)), zv 5 zf]
def qckx : IC := zr [zv 19 (.mfn 62 [] [(.t 2)]), zv 20 (.mfn 64 [] [(.t 2)]), zi 21 (.call (.c (.fn 15 [] [])) [((.c .nils), (.sl 5)), ((.t 19), .id), ((.t 20), .id)]), zm 18 21, zv 22 (.ext (.t 18) 0), zv 23 (.ext (.t 18) 1), zm 8 22, zm 9 23]
def qcfz : IC := zr [zv 24 (.ld false 1 (.t 2)), zi 25 (.call (.c (.fn 65 [] [])) [((.t 24), .id), ((.c (.str [61])), .id)]), zv 26 (.un .not (.t 25))]
def qcf4 : IC := zr [zv 27 (.ld true 5 (.t 3)), zn (.st 5 zN (.t 4) (.t 27)), zv 5 zf]
def qchc : IC := .drw [zp (zv 28 (.fad (.t 6) 3)), zp (zv 29 (.ld false 1 (.t 28))), zp (zm 30 8), zp (zv 31 (.len false (.t 30))), zp (zv 32 (.fad (.t 3) 0)), (zn (.st 1 .id (.t 32) (zc 33)), [1]), zp (zv 33 (.fad (.t 3) 3)), (zn (.st 1 .id (.t 33) (.t 29)), []), zp (zv 34 (.fad (.t 3) 2)), (zn (.st 1 .id (.t 34) (.t 31)), [])]
def qcjb : IC := zr [zm 36 8, zv 37 (.mfn 66 [] [(.t 2)]), zv 38 (.ld false 1 (.t 2)), zi 39 (.call (.c (.fn 14 [] [])) [((.t 38), .id), ((.c (.str [124])), .id)]), zi 40 (.call (.c (.fn 15 [] [])) [((.t 36), (.sl 5)), ((.t 37), .id), ((.t 39), .id)]), zm 35 40, zv 41 (.ext (.t 35) 0), zv 42 (.ext (.t 35) 1), zv 43 (.fad (.t 3) 4), zn (.st 1 (.sl 5) (.t 43) (.t 41)), zm 7 42]
def qcfk : IC := zr [zv 44 (.ld true 5 (.t 3)), zm 45 7, zn (.st 5 zN (.t 4) (.t 44)), zm 5 45]
def k0v : IC := (.seq qcja (.seq qcij (.seq (.seq qcjq (.cond (.t 16) (.seq qcgr .ret) .skip)) (.seq qckx (.seq (.seq qcfz (.cond (.t 26) (.seq qcf4 .ret) .skip)) (.seq qchc (.seq qcjb (.seq qcfk .ret))))))))
@[go_sem] def s0v : List (RV × Co) := [(.c true 5 4, zN), (.t 5, .id)]
theorem c0v : cFun Tryz.prog 36 = some (46, k0v, s0v) := by kernel_rfl

def qck1 : IC := zr [zi 3 (.box (.t 1)), zi 4 zaN, zv 5 zf]
def qcil : IC := zr [zm 12 0, zi 13 (.call (.c (.fn 68 [] [])) [((.t 12), .id)]), zm 11 13, zv 14 (.ext (.t 11) 0), zv 15 (.ext (.t 11) 1), zm 6 14, zm 7 15]
def qcf1 : IC := zr [zm 16 7, zv 17 (.un .not (.t 16))]
def qcik : IC := zr [zv 18 (.ld true 5 (.t 3)), zn (.st 5 zN (.t 4) (.t 18)), zv 5 zf]
def qcjz : IC := zr [zm 20 0, zi 21 (.call (.c (.fn 61 [] [])) [((.t 20), .id), ((zc 2), .id)]), zm 19 21, zv 22 (.ext (.t 19) 0), zv 23 (.ext (.t 19) 1), zi 8 zaT, zn (.st 4 .id (.t 8) (.t 22)), zm 7 23]
def qcfb : IC := zr [zm 24 7, zv 25 (.un .not (.t 24))]
def qch4 : IC := zr [zv 26 (.ld true 5 (.t 3)), zn (.st 5 zN (.t 4) (.t 26)), zv 5 zf]
def qcef : IC := zr [zv 27 (.fad (.t 8) 3), zv 28 (.ld false 1 (.t 27)), zm 29 6, zv 30 (.len false (.t 29)), zv 31 (.fad (.t 3) 3), zn (.st 1 .id (.t 31) (.t 28)), zv 32 (.fad (.t 3) 2), zn (.st 1 .id (.t 32) (.t 30))]
def qcg7 : IC := zr [zv 9 (.mov (zc 31))]
def qciy : IC := zr [zv 33 (.fad (.t 3) 0), zv 34 (.ld false 1 (.t 33)), zv 35 (.bin .eql .no (.t 34) (zc 35))]
def qbqi : IC := zr [zv 9 (.mov (zc 32))]
def qb1h : IC := zr [zm 36 0, zi 37 (.call (.c (.fn 19 [] [])) [((.t 36), .id)]), zv 38 (.fld false 1 0 (.t 37)), zv 39 (.bin .neq .no (.t 38) (zc 1))]
def qb7u : IC := .drw [zp (zv 40 (.ld true 5 (.t 3))), zp (zm 41 0), (zi 42 (.call (.c (.fn 69 [] [])) [((.t 41), .id), ((zc 5), .id)]), [0]), (zn (.st 5 zN (.t 4) (.t 40)), []), zp (zm 5 42)]
def qcc3 : IC := zr [zm 44 0, zi 45 (.call (.c (.fn 63 [] [])) [((.t 44), .id)]), zm 43 45, zv 46 (.ext (.t 43) 0), zv 47 (.ext (.t 43) 1), zi 10 zaN, zn (.st 5 zN (.t 10) (.t 46)), zm 7 47]
def qbr8 : IC := zr [zm 48 7, zv 49 (.un .not (.t 48))]
def qbsu : IC := zr [zv 50 (.ld true 5 (.t 3)), zn (.st 5 zN (.t 4) (.t 50)), zv 5 zf]
def qby2 : IC := zr [zm 52 0, zm 53 6, zv 54 (.ld true 5 (.t 10)), zv 55 (.bsl 5 [((.t 54), zN)]), zi 56 (.app 5 zZ 64 (.sl 5) (.t 53) (.t 55)), zm 57 9, zi 58 (.call (.c (.fn 70 [] [])) [((.t 52), .id), ((.t 56), (.sl 5)), ((.t 57), .id)]), zm 51 58, zv 59 (.ext (.t 51) 0), zv 60 (.ext (.t 51) 1), zv 61 (.fad (.t 3) 4), zn (.st 1 (.sl 5) (.t 61) (.t 59)), zm 7 60]
def qbnx : IC := zr [zv 62 (.ld true 5 (.t 3)), zm 63 7, zn (.st 5 zN (.t 4) (.t 62)), zm 5 63]
def k0p : IC := (.seq qck1 (.seq qcil (.seq (.seq qcf1 (.cond (.t 17) (.seq qcik .ret) .skip)) (.seq qcjz (.seq (.seq qcfb (.cond (.t 25) (.seq qch4 .ret) .skip)) (.seq qcef (.seq qcg7 (.seq (.seq qciy (.cond (.t 35) (.seq qbqi (.seq qb1h (.cond (.t 39) (.seq qb7u .ret) .skip))) .skip)) (.seq qcc3 (.seq (.seq qbr8 (.cond (.t 49) (.seq qbsu .ret) .skip)) (.seq qby2 (.seq qbnx .ret))))))))))))
@[go_sem] def s0p : List (RV × Co) := [(.c true 5 4, zN), (.t 5, .id)]
theorem c0p : cFun Tryz.prog 37 = some (64, k0p, s0p) := by kernel_rfl

def qb5l : IC := zr [zi 2 zaN, zv 3 zf]
def qbvn : IC := zr [zm 9 0, zi 10 (.call (.c (.fn 61 [] [])) [((.t 9), .id), ((zc 1), .id)]), zm 8 10, zv 11 (.ext (.t 8) 0), zv 12 (.ext (.t 8) 1), zi 4 zaT, zn (.st 4 .id (.t 4) (.t 11)), zm 5 12]
def qbwz : IC := zr [zm 13 5, zv 14 (.un .not (.t 13))]
def qbq5 : IC := zr [zv 15 (.bld [(.int .i64 0), (.int .i64 0), (.int .i64 0), (.str []), .nils] []), zn (.st 5 zN (.t 2) (.t 15)), zv 3 zf]
def qb6u : IC := zr [zv 16 (.fad (.t 4) 1), zv 17 (.ld false 1 (.t 16)), zv 18 (.fad (.t 4) 3), zv 19 (.ld false 1 (.t 18)), zv 20 (.bld [(.int .i64 0), (.int .i64 0), (.int .i64 0), (.str []), .nils] [(0, 1, (zc 31)), (1, 1, (.t 17)), (3, 1, (.t 19))]), zi 6 zaN, zn (.st 5 zN (.t 6) (.t 20))]
def qbpf : IC := zr [zi 7 zaN]
def qccy : IC := zr [zm 21 0, zi 22 (.call (.c (.fn 35 [] [])) [((.t 21), .id), ((.c (.str [58, 58])), .id)])]
def qb3u : IC := zr [zv 23 (.fad (.t 6) 0), zn (.st 1 .id (.t 23) (zc 32))]
def qbq6 : IC := zr [zm 25 0, zi 26 (.call (.c (.fn 71 [] [])) [((.t 25), .id)]), zm 24 26, zv 27 (.ext (.t 24) 0), zv 28 (.ext (.t 24) 1), zn (.st 5 zN (.t 7) (.t 27)), zm 5 28]
def qbqt : IC := zr [zm 30 0, zi 31 (.call (.c (.fn 72 [] [])) [((.t 30), .id), ((.c (.str [61])), .id)]), zm 29 31, zv 32 (.ext (.t 29) 0), zv 33 (.ext (.t 29) 1), zn (.st 5 zN (.t 7) (.t 32)), zm 5 33]
def qbca : IC := zr [zm 34 5, zv 35 (.un .not (.t 34))]
def qbg0 : IC := zr [zv 36 (.bld [(.int .i64 0), (.int .i64 0), (.int .i64 0), (.str []), .nils] []), zn (.st 5 zN (.t 2) (.t 36)), zv 3 zf]
def qbf2 : IC := zr [zv 37 (.ld true 5 (.t 7)), zv 38 (.bsl 5 [((.t 37), zN)]), zv 39 (.fad (.t 6) 4), zn (.st 1 (.sl 5) (.t 39) (.t 38))]
def qblq : IC := zr [zv 40 (.ld true 5 (.t 6)), zn (.st 5 zN (.t 2) (.t 40)), zv 3 (.mov (.c (.bool true)))]
def k0bo : IC := (.seq qb5l (.seq qbvn (.seq (.seq qbwz (.cond (.t 14) (.seq qbq5 .ret) .skip)) (.seq qb6u (.seq qbpf (.seq (.seq qccy (.cond (.t 22) (.seq qb3u qbq6) qbqt)) (.seq (.seq qbca (.cond (.t 35) (.seq qbg0 .ret) .skip)) (.seq qbf2 (.seq qblq .ret)))))))))
@[go_sem] def s0bo : List (RV × Co) := [(.c true 5 2, zN), (.t 3, .id)]
theorem c0bo : cFun Tryz.prog 38 = some (41, k0bo, s0bo) := by kernel_rfl

def qca9 : IC := zr [zv 2 zf]
def qbo3 : IC := zr [zm 3 0, zv 4 (.bin .eql .ptr (.t 3) (.c .nilp)), zm 5 4, zw 5 false 6 (.mov (.t 0)), zw 5 false 7 (.nck (.t 6)), zw 5 false 8 (.fad (.t 7) 7), zw 5 false 9 (.ld false 1 (.t 8)), zw 5 false 10 (.bin .neq .no (.t 9) (zc 0)), zv 11 (.pick (.t 5) (.c (.bool true)) (.t 10)), zm 2 11]
def k0cr : IC := (.seq qca9 (.seq qbo3 .ret))
@[go_sem] def s0cr : List (RV × Co) := [(.t 2, .id)]
theorem c0cr : cFun Tryz.prog 39 = some (12, k0cr, s0cr) := by kernel_rfl

def qb3r : IC := zr [zv 4 (.mov (zc 0))]
def qbok : IC := zr [zm 5 1, zm 6 0, zv 7 (.len true (.t 6)), zv 8 (.bin .lss .no (.t 5) (.t 7))]
def qb4o : IC := zr [zm 11 0, zm 12 1, zv 13 (.idx (.t 11) (.t 12)), zv 14 (.bin .eql .no (.t 13) (.c (.int .u8 9))), zm 15 14, zw 15 false 16 (.mov (.t 0)), zw 15 false 17 (.mov (.t 1)), zw 15 false 18 (.idx (.t 16) (.t 17)), zw 15 false 19 (.bin .eql .no (.t 18) (.c (.int .u8 10))), zv 20 (.pick (.t 15) (.c (.bool true)) (.t 19)), zm 21 20, zw 21 false 22 (.mov (.t 0)), zw 21 false 23 (.mov (.t 1)), zw 21 false 24 (.idx (.t 22) (.t 23)), zw 21 false 25 (.bin .eql .no (.t 24) (.c (.int .u8 13))), zv 26 (.pick (.t 21) (.c (.bool true)) (.t 25)), zm 27 26, zw 27 false 28 (.mov (.t 0)), zw 27 false 29 (.mov (.t 1)), zw 27 false 30 (.idx (.t 28) (.t 29)), zw 27 false 31 (.bin .eql .no (.t 30) (.c (.int .u8 32))), zv 32 (.pick (.t 27) (.c (.bool true)) (.t 31)), zm 10 32]
def qbyw : IC := zr [zm 33 1, zv 34 (.bin .add .no (.t 33) (zc 1)), zm 1 34]
def qbts : IC := zr [zm 36 0, zm 37 1, zv 38 (.idx (.t 36) (.t 37)), zv 39 (.bin .eql .no (.t 38) (.c (.int .u8 45))), zm 40 39, zw 40 true 41 (.mov (.t 1)), zw 40 true 42 (.bin .add .no (.t 41) (zc 1)), zw 40 true 43 (.mov (.t 0)), zw 40 true 44 (.len true (.t 43)), zw 40 true 45 (.bin .lss .no (.t 42) (.t 44)), zv 46 (.pick (.t 40) (.t 45) (.c (.bool false))), zm 47 46, zw 47 true 48 (.mov (.t 0)), zw 47 true 49 (.mov (.t 1)), zw 47 true 50 (.bin .add .no (.t 49) (zc 1)), zw 47 true 51 (.idx (.t 48) (.t 50)), zw 47 true 52 (.bin .eql .no (.t 51) (.c (.int .u8 45))), zv 53 (.pick (.t 47) (.t 52) (.c (.bool false))), zm 35 53]
def qbyq : IC := zr [zm 54 1, zm 55 0, zv 56 (.len true (.t 55)), zv 57 (.bin .lss .no (.t 54) (.t 56)), zm 58 57, zw 58 true 59 (.mov (.t 0)), zw 58 true 60 (.mov (.t 1)), zw 58 true 61 (.idx (.t 59) (.t 60)), zw 58 true 62 (.bin .neq .no (.t 61) (.c (.int .u8 10))), zv 63 (.pick (.t 58) (.t 62) (.c (.bool false)))]
def qbo0 : IC := zr [zm 64 1, zv 65 (.bin .add .no (.t 64) (zc 1)), zm 1 65]
def qbw4 : IC := (.seq (.seq qbyq (.cond (.t 63) .skip (.exit 3))) (.block 4 qbo0))
def qblh : IC := zr [zm 9 1, zm 4 9]
def qbtk : IC := (.seq (.seq qbok (.cond (.t 8) .skip (.exit 0))) (.block 1 (.block 2 (.seq qb4o (.cond (.t 10) qbyw (.seq qbts (.cond (.t 35) (.block 3 (.loop qbw4)) (.seq qblh .ret))))))))
def qbfi : IC := zr [zm 66 1, zm 4 66]
def k0dh : IC := (.seq qb3r (.seq (.block 0 (.loop qbtk)) (.seq qbfi .ret)))
@[go_sem] def s0dh : List (RV × Co) := [(.t 4, .id)]
theorem c0dh : cFun Tryz.prog 40 = some (67, k0dh, s0dh) := by kernel_rfl

def qb18 : IC := zr [zi 2 zaT, zv 3 (.mov (zc 0))]
def qb55 : IC := zr [zv 4 (.mov (zc 0))]
def qb75 : IC := zr [zm 10 0, zv 11 (.idx (.t 10) (zc 0)), zi 12 (.call (.c (.fn 73 [] [])) [((.t 11), .id)]), zm 9 12]
def qbn8 : IC := zr [zm 13 4, zm 14 0, zv 15 (.len true (.t 14)), zv 16 (.bin .lss .no (.t 13) (.t 15)), zm 17 16, zw 17 true 18 (.mov (.t 0)), zw 17 true 19 (.mov (.t 4)), zw 17 true 20 (.idx (.t 18) (.t 19)), ⟨some (17, true), some 21, .call (.c (.fn 73 [] [])) [((.t 20), .id)]⟩, zv 22 (.pick (.t 17) (.t 21) (.c (.bool false)))]
def qcad : IC := zr [zm 23 4, zv 24 (.bin .add .no (.t 23) (zc 1)), zm 4 24]
def qbuv : IC := (.seq (.seq qbn8 (.cond (.t 22) .skip (.exit 1))) (.block 2 qcad))
def qbps : IC := zr [zm 26 0, zm 27 4, zv 28 (.sls (.t 26) none (some (.t 27))), zi 29 (.call (.c (.fn 74 [] [])) [((.t 28), .id)]), zm 25 29, zv 30 (.ext (.t 25) 0), zv 31 (.ext (.t 25) 1), zm 5 30, zm 6 31]
def qcbh : IC := zr [zm 32 5, zm 33 0, zm 34 4, zv 35 (.sls (.t 33) none (some (.t 34))), zv 36 (.bld [(.int .i64 0), (.int .i64 0), (.int .i64 0), (.str [])] [(0, 1, (zc 3)), (2, 1, (.t 32)), (3, 1, (.t 35))]), zm 37 6, zn (.st 4 .id (.t 2) (.t 36)), zm 3 37]
def qbtc : IC := zr [zm 39 0, zv 40 (.idx (.t 39) (zc 0)), zi 41 (.call (.c (.fn 75 [] [])) [((.t 40), .id)]), zm 42 41, zw 42 false 43 (.mov (.t 0)), zw 42 false 44 (.idx (.t 43) (zc 0)), ⟨some (42, false), some 45, .call (.c (.fn 76 [] [])) [((.t 44), .id)]⟩, zv 46 (.pick (.t 42) (.c (.bool true)) (.t 45)), zm 38 46]
def qbc8 : IC := zr [zm 47 4, zm 48 0, zv 49 (.len true (.t 48)), zv 50 (.bin .lss .no (.t 47) (.t 49)), zm 51 50, zw 51 true 52 (.mov (.t 0)), zw 51 true 53 (.mov (.t 4)), zw 51 true 54 (.idx (.t 52) (.t 53)), ⟨some (51, true), some 55, .call (.c (.fn 77 [] [])) [((.t 54), .id)]⟩, zv 56 (.pick (.t 51) (.t 55) (.c (.bool false)))]
def qbfl : IC := zr [zm 57 4, zv 58 (.bin .add .no (.t 57) (zc 1)), zm 4 58]
def qbh0 : IC := (.seq (.seq qbc8 (.cond (.t 56) .skip (.exit 3))) (.block 4 qbfl))
def qbhw : IC := zr [zm 59 0, zm 60 4, zv 61 (.sls (.t 59) none (some (.t 60))), zv 62 (.bld [(.int .i64 0), (.int .i64 0), (.int .i64 0), (.str [])] [(0, 1, (zc 1)), (3, 1, (.t 61))]), zi 7 zaT, zn (.st 4 .id (.t 7) (.t 62))]
def qbfb : IC := zr [zv 64 (.fad (.t 7) 3), zv 65 (.ld false 1 (.t 64)), zv 66 (.bin .eql .no (.t 65) (.c (.str [95]))), zm 63 66]
def qbc9 : IC := zr [zv 67 (.fad (.t 7) 0), zn (.st 1 .id (.t 67) (zc 5))]
def qbk4 : IC := zr [zv 69 (.fad (.t 7) 3), zv 70 (.ld false 1 (.t 69)), zi 71 (.call (.c (.fn 78 [] [])) [((.t 70), .id)]), zm 68 71]
def qbcv : IC := zr [zv 72 (.fad (.t 7) 0), zn (.st 1 .id (.t 72) (zc 4))]
def qbkh : IC := zr [zm 74 0, zv 75 (.idx (.t 74) (zc 0)), zi 76 (.call (.c (.fn 76 [] [])) [((.t 75), .id)]), zm 73 76]
def qbll : IC := zr [zv 77 (.fad (.t 7) 0), zn (.st 1 .id (.t 77) (zc 2))]
def qbfm : IC := zr [zv 78 (.ld true 4 (.t 7)), zn (.st 4 .id (.t 2) (.t 78)), zv 3 (.mov (zc 0))]
def qbkr : IC := zr [zm 79 0, zi 80 (.call (.c (.fn 79 [] [])) [((.t 79), .id)]), zm 8 80]
def qbjy : IC := zr [zm 81 8, zv 82 (.bin .eql .no (.t 81) (.c (.str [])))]
def qbfy : IC := zr [zv 83 (.bld [(.int .i64 0), (.int .i64 0), (.int .i64 0), (.str [])] []), zn (.st 4 .id (.t 2) (.t 83)), zv 3 (.mov (zc 3))]
def qbjc : IC := zr [zm 84 8, zv 85 (.bld [(.int .i64 0), (.int .i64 0), (.int .i64 0), (.str [])] [(0, 1, (zc 5)), (3, 1, (.t 84))]), zn (.st 4 .id (.t 2) (.t 85)), zv 3 (.mov (zc 0))]
def k0dc : IC := (.seq qb18 (.seq qb55 (.seq (.block 0 (.seq qb75 (.cond (.t 9) (.seq (.block 1 (.loop qbuv)) (.seq qbps (.seq qcbh .ret))) (.seq qbtc (.cond (.t 38) (.seq (.block 3 (.loop qbh0)) (.seq qbhw (.seq (.block 5 (.seq qbfb (.cond (.t 63) qbc9 (.seq qbk4 (.cond (.t 68) qbcv (.seq qbkh (.cond (.t 73) qbll .skip))))))) (.seq qbfm .ret)))) .skip))))) (.seq qbkr (.seq (.seq qbjy (.cond (.t 82) (.seq qbfy .ret) .skip)) (.seq qbjc .ret))))))
@[go_sem] def s0dc : List (RV × Co) := [(.c true 4 2, .id), (.t 3, .id)]
theorem c0dc : cFun Tryz.prog 41 = some (86, k0dc, s0dc) := by kernel_rfl

def qb8r : IC := zr [zi 1 (.box (.t 0)), zi 2 zaT]
def qbyd : IC := zr [zv 4 (.fad (.t 1) 6), zv 5 (.ld false 1 (.t 4)), zv 6 (.bin .neq .no (.t 5) (zc 0)), zm 3 6]
def qb3n : IC := zr [zv 7 (.bld [(.int .i64 0), (.int .i64 0), (.int .i64 0), (.str [])] []), zn (.st 4 .id (.t 2) (.t 7))]
def qca3 : IC := zr [zv 9 (.fad (.t 1) 0), zv 10 (.ld false 1 (.t 9)), zv 11 (.len false (.t 10)), zv 12 (.bin .eql .no (.t 11) (zc 0)), zm 8 12]
def qbud : IC := zr [zv 13 (.fad (.t 1) 1), zv 14 (.ld true 4 (.t 13)), zn (.st 4 .id (.t 2) (.t 14))]
def qbug : IC := zr [zv 15 (.fad (.t 1) 0), zv 16 (.ld false 1 (.t 15)), zv 17 (.iad 4 (.t 16) (zc 0)), zv 18 (.ld true 4 (.t 17)), zn (.st 4 .id (.t 2) (.t 18))]
def k0cf : IC := (.seq qb8r (.seq (.block 0 (.seq qbyd (.cond (.t 3) (.seq qb3n .ret) (.seq qca3 (.cond (.t 8) (.seq qbud .ret) .skip))))) (.seq qbug .ret)))
@[go_sem] def s0cf : List (RV × Co) := [(.c true 4 2, .id)]
theorem c0cf : cFun Tryz.prog 42 = some (19, k0cf, s0cf) := by kernel_rfl

def qcid : IC := zr [zi 2 (.box (.t 0)), zi 4 zaC, zi 5 zaN]
def qce2 : IC := zr [zv 15 (.ld true 8 (.t 2)), zi 16 (.call (.c (.fn 80 [] [])) [((.t 15), zC), ((zc 2), .id)]), zm 14 16, zv 17 (.ext (.t 14) 0), zv 18 (.ext (.t 14) 1), zv 19 (.ext (.t 14) 2), zi 6 zaT, zn (.st 8 zC (.t 2) (.t 17)), zn (.st 4 .id (.t 6) (.t 18)), zm 7 19]
def qci5 : IC := zr [zm 20 1, zv 21 (.fad (.t 6) 3), zv 22 (.ld false 1 (.t 21)), zv 23 (.bld [(.int .i64 0), (.int .i64 0), (.int .i64 0), (.str []), .nils] [(0, 1, (zc 33)), (1, 1, (.t 20)), (3, 1, (.t 22))]), zi 8 zaN, zn (.st 5 zN (.t 8) (.t 23))]
def qcjk : IC := zr [zv 24 (.fad (.t 2) 6), zv 25 (.ld false 1 (.t 24)), zv 26 (.bin .eql .no (.t 25) (zc 0)), zm 27 26, zw 27 true 28 (.ld true 8 (.t 2)), ⟨some (27, true), some 29, .call (.c (.fn 42 [] [])) [((.t 28), zC)]⟩, zw 27 true 30 (.fld false 1 0 (.t 29)), zw 27 true 31 (.bin .eql .no (.t 30) (zc 1)), zv 32 (.pick (.t 27) (.t 31) (.c (.bool false)))]
def qcjo : IC := zr [zv 34 (.ld true 8 (.t 2)), zi 35 (.call (.c (.fn 81 [] [])) [((.t 34), zC)]), zm 33 35, zv 36 (.ext (.t 33) 0), zv 37 (.ext (.t 33) 1), zi 9 zaC, zi 10 zaN, zn (.st 8 zC (.t 9) (.t 36)), zn (.st 5 zN (.t 10) (.t 37))]
def qckh : IC := zr [zv 38 (.ld true 8 (.t 9)), zn (.st 8 zC (.t 2) (.t 38))]
def qcg8 : IC := zr [zv 39 (.fad (.t 8) 4), zv 40 (.ld false 1 (.t 39)), zv 41 (.ld true 5 (.t 10)), zv 42 (.bsl 5 [((.t 41), zN)]), zi 43 (.app 5 zZ 64 (.sl 5) (.t 40) (.t 42)), zv 44 (.fad (.t 8) 4), zn (.st 1 (.sl 5) (.t 44) (.t 43))]
def qcj4 : IC := zr [zv 45 (.fad (.t 8) 2), zv 46 (.ld false 1 (.t 45)), zv 47 (.bin .add .no (.t 46) (zc 1)), zv 48 (.fad (.t 8) 2), zn (.st 1 .id (.t 48) (.t 47))]
def qckm : IC := (.seq (.seq qcjk (.cond (.t 32) .skip (.exit 0))) (.block 1 (.seq qcjo (.seq qckh (.seq qcg8 qcj4)))))
def qcdn : IC := zr [zv 50 (.ld true 8 (.t 2)), zi 51 (.call (.c (.fn 82 [] [])) [((.t 50), zC), ((.c (.str [61])), .id)]), zm 49 51, zv 52 (.ext (.t 49) 0), zv 53 (.ext (.t 49) 1), zn (.st 8 zC (.t 2) (.t 52))]
def qbr5 : IC := zr [zv 11 (.mov (.c (.bool true)))]
def qb7h : IC := zr [zm 54 11]
def qb9d : IC := zr [zv 56 (.ld true 8 (.t 2)), zi 57 (.call (.c (.fn 83 [] [])) [((.t 56), zC)]), zm 55 57, zv 58 (.ext (.t 55) 0), zv 59 (.ext (.t 55) 1), zi 12 zaC, zi 13 zaN, zn (.st 8 zC (.t 12) (.t 58)), zn (.st 5 zN (.t 13) (.t 59))]
def qbqk : IC := zr [zv 60 (.fad (.t 8) 4), zv 61 (.ld false 1 (.t 60)), zv 62 (.ld true 5 (.t 13)), zv 63 (.bsl 5 [((.t 62), zN)]), zi 64 (.app 5 zZ 64 (.sl 5) (.t 61) (.t 63)), zv 65 (.fad (.t 8) 4), zn (.st 1 (.sl 5) (.t 65) (.t 64))]
def qbv1 : IC := zr [zv 67 (.ld true 8 (.t 12)), zi 68 (.call (.c (.fn 23 [] [])) [((.t 67), zC), ((.c (.str [124])), .id)]), zm 66 68, zv 69 (.ext (.t 66) 0), zv 70 (.ext (.t 66) 1), zn (.st 8 zC (.t 2) (.t 69)), zm 11 70]
def qcb0 : IC := (.seq (.seq qb7h (.cond (.t 54) .skip (.exit 2))) (.block 3 (.seq qb9d (.seq qbqk qbv1))))
def qb3v : IC := .drw [zp (zv 71 (.ld true 8 (.t 2))), zp (zv 72 (.ld true 5 (.t 8))), (zn (.st 8 zC (.t 4) (.t 71)), [1]), (zn (.st 5 zN (.t 5) (.t 72)), [])]
def k0e : IC := (.seq qcid (.seq qce2 (.seq qci5 (.seq (.block 0 (.loop qckm)) (.seq qcdn (.seq qbr5 (.seq (.block 2 (.loop qcb0)) (.seq qb3v .ret))))))))
@[go_sem] def s0e : List (RV × Co) := [(.c true 8 4, zC), (.c true 5 5, zN)]
theorem c0e : cFun Tryz.prog 43 = some (73, k0e, s0e) := by kernel_rfl

def qcg0 : IC := zr [zi 3 (.box (.t 0)), zi 6 zaC, zi 7 zaN]
def qcix : IC := zr [zv 20 (.ld true 8 (.t 3)), zi 21 (.call (.c (.fn 84 [] [])) [((.t 20), zC)]), zm 19 21, zv 22 (.ext (.t 19) 0), zv 23 (.ext (.t 19) 1), zn (.st 8 zC (.t 3) (.t 22)), zm 8 23]
def qcg3 : IC := zr [zv 25 (.ld true 8 (.t 3)), zi 26 (.call (.c (.fn 80 [] [])) [((.t 25), zC), ((zc 2), .id)]), zm 24 26, zv 27 (.ext (.t 24) 0), zv 28 (.ext (.t 24) 1), zv 29 (.ext (.t 24) 2), zi 9 zaT, zn (.st 8 zC (.t 3) (.t 27)), zn (.st 4 .id (.t 9) (.t 28)), zm 10 29]
def qrq : IC := .drw [zp (zm 30 1), zp (zm 31 2), zp (zv 32 (.fad (.t 9) 3)), zp (zv 33 (.ld false 1 (.t 32))), zp (zm 34 8), zp (zv 35 (.len false (.t 34))), zp (zm 36 8), (zi 37 (.app 5 zZ 64 (.sl 5) (.c .nils) (.t 36)), [3]), (zv 38 (.bld [(.int .i64 0), (.int .i64 0), (.int .i64 0), (.str []), .nils] [(0, 1, (.t 30)), (1, 1, (.t 31)), (3, 1, (.t 33)), (2, 1, (.t 35)), (4, 1, (.t 37))]), []), (zi 11 zaN, [3, 7]), (zn (.st 5 zN (.t 11) (.t 38)), [])]
def qchk : IC := zr [zv 12 (.mov (zc 31))]
def qcfg : IC := zr [zm 39 1, zv 40 (.bin .eql .no (.t 39) (zc 35))]
def qckq : IC := zr [zv 12 (.mov (zc 32))]
def qcf0 : IC := zr [zv 42 (.ld true 8 (.t 3)), zi 43 (.call (.c (.fn 80 [] [])) [((.t 42), zC), ((zc 1), .id)]), zm 41 43, zv 44 (.ext (.t 41) 0), zv 45 (.ext (.t 41) 1), zv 46 (.ext (.t 41) 2), zi 13 zaC, zi 14 zaT, zn (.st 8 zC (.t 13) (.t 44)), zn (.st 4 .id (.t 14) (.t 45)), zm 15 46]
def qce4 : IC := zr [zv 47 (.ld true 8 (.t 13)), zn (.st 8 zC (.t 3) (.t 47))]
def qcfa : IC := zr [zv 48 (.fad (.t 11) 4), zv 49 (.ld false 1 (.t 48)), zv 50 (.fad (.t 14) 1), zv 51 (.ld false 1 (.t 50)), zv 52 (.fad (.t 14) 3), zv 53 (.ld false 1 (.t 52)), zv 54 (.bld [(.int .i64 0), (.int .i64 0), (.int .i64 0), (.str []), .nils] [(0, 1, (zc 1)), (1, 1, (.t 51)), (3, 1, (.t 53))]), zv 55 (.bsl 5 [((.t 54), zN)]), zi 56 (.app 5 zZ 64 (.sl 5) (.t 49) (.t 55)), zv 57 (.fad (.t 11) 4), zn (.st 1 (.sl 5) (.t 57) (.t 56))]
def qbvb : IC := zr [zv 59 (.ld true 8 (.t 3)), zi 60 (.call (.c (.fn 81 [] [])) [((.t 59), zC)]), zm 58 60, zv 61 (.ext (.t 58) 0), zv 62 (.ext (.t 58) 1), zi 16 zaC, zi 17 zaN, zn (.st 8 zC (.t 16) (.t 61)), zn (.st 5 zN (.t 17) (.t 62))]
def qb01 : IC := zr [zv 63 (.ld true 8 (.t 16)), zn (.st 8 zC (.t 3) (.t 63))]
def qb25 : IC := zr [zv 64 (.fad (.t 11) 4), zv 65 (.ld false 1 (.t 64)), zv 66 (.ld true 5 (.t 17)), zv 67 (.bsl 5 [((.t 66), zN)]), zi 68 (.app 5 zZ 64 (.sl 5) (.t 65) (.t 67)), zv 69 (.fad (.t 11) 4), zn (.st 1 (.sl 5) (.t 69) (.t 68))]
def qbq0 : IC := zr [zv 71 (.ld true 8 (.t 3)), zm 72 12, zi 73 (.call (.c (.fn 85 [] [])) [((.t 71), zC), ((.t 72), .id)]), zm 70 73, zv 74 (.ext (.t 70) 0), zv 75 (.ext (.t 70) 1), zn (.st 8 zC (.t 3) (.t 74)), zm 18 75]
def qbna : IC := zr [zv 76 (.fad (.t 11) 4), zv 77 (.ld false 1 (.t 76)), zm 78 18, zi 79 (.app 5 zZ 64 (.sl 5) (.t 77) (.t 78)), zv 80 (.fad (.t 11) 4), zn (.st 1 (.sl 5) (.t 80) (.t 79))]
def qbvh : IC := .drw [zp (zv 81 (.ld true 8 (.t 3))), zp (zv 82 (.ld true 5 (.t 11))), (zn (.st 8 zC (.t 6) (.t 81)), [1]), (zn (.st 5 zN (.t 7) (.t 82)), [])]
def k0b : IC := (.seq qcg0 (.seq qcix (.seq qcg3 (.seq qrq (.seq qchk (.seq (.seq qcfg (.cond (.t 40) (.seq qckq (.seq qcf0 (.seq qce4 qcfa))) (.seq qbvb (.seq qb01 qb25)))) (.seq qbq0 (.seq qbna (.seq qbvh .ret)))))))))
@[go_sem] def s0b : List (RV × Co) := [(.c true 8 6, zC), (.c true 5 7, zN)]
theorem c0b : cFun Tryz.prog 44 = some (83, k0b, s0b) := by kernel_rfl

def qb21 : IC := zr [zi 1 (.box (.t 0)), zi 2 zaC, zi 3 zaN]
def qbv2 : IC := zr [zv 13 (.ld true 8 (.t 1)), zi 14 (.call (.c (.fn 80 [] [])) [((.t 13), zC), ((zc 1), .id)]), zm 12 14, zv 15 (.ext (.t 12) 0), zv 16 (.ext (.t 12) 1), zv 17 (.ext (.t 12) 2), zi 4 zaT, zn (.st 8 zC (.t 1) (.t 15)), zn (.st 4 .id (.t 4) (.t 16)), zm 5 17]
def qb1m : IC := zr [zv 19 (.ld true 8 (.t 1)), zi 20 (.call (.c (.fn 23 [] [])) [((.t 19), zC), ((.c (.str [58, 58])), .id)]), zm 18 20, zv 21 (.ext (.t 18) 0), zv 22 (.ext (.t 18) 1), zi 6 zaC, zn (.st 8 zC (.t 6) (.t 21)), zm 7 22]
def qb63 : IC := zr [zm 23 7]
def qbnt : IC := zr [zv 25 (.ld true 8 (.t 6)), zi 26 (.call (.c (.fn 86 [] [])) [((.t 25), zC)]), zm 24 26, zv 27 (.ext (.t 24) 0), zv 28 (.ext (.t 24) 1), zi 8 zaC, zi 9 zaN, zn (.st 8 zC (.t 8) (.t 27)), zn (.st 5 zN (.t 9) (.t 28))]
def qb80 : IC := .drw [zp (zv 29 (.ld true 8 (.t 8))), zp (zv 30 (.fad (.t 4) 1)), zp (zv 31 (.ld false 1 (.t 30))), zp (zv 32 (.fad (.t 4) 3)), zp (zv 33 (.ld false 1 (.t 32))), zp (zv 34 (.ld true 5 (.t 9))), (zv 35 (.bsl 5 [((.t 34), zN)]), []), (zv 36 (.bld [(.int .i64 0), (.int .i64 0), (.int .i64 0), (.str []), .nils] [(0, 1, (zc 32)), (1, 1, (.t 31)), (3, 1, (.t 33)), (4, 1, (.t 35))]), []), (zn (.st 8 zC (.t 2) (.t 29)), [2, 4, 5, 6]), (zn (.st 5 zN (.t 3) (.t 36)), [])]
def qcal : IC := zr [zv 38 (.ld true 8 (.t 1)), zi 39 (.call (.c (.fn 87 [] [])) [((.t 38), zC)]), zm 37 39, zv 40 (.ext (.t 37) 0), zv 41 (.ext (.t 37) 1), zn (.st 8 zC (.t 1) (.t 40)), zm 10 41]
def qbw5 : IC := zr [zv 43 (.ld true 8 (.t 1)), zi 44 (.call (.c (.fn 82 [] [])) [((.t 43), zC), ((.c (.str [61])), .id)]), zm 42 44, zv 45 (.ext (.t 42) 0), zv 46 (.ext (.t 42) 1), zn (.st 8 zC (.t 1) (.t 45))]
def qbpz : IC := zr [zv 48 (.ld true 8 (.t 1)), zi 49 (.call (.c (.fn 88 [] [])) [((.t 48), zC)]), zm 47 49, zv 50 (.ext (.t 47) 0), zv 51 (.ext (.t 47) 1), zi 11 zaN, zn (.st 8 zC (.t 1) (.t 50)), zn (.st 5 zN (.t 11) (.t 51))]
def qcaq : IC := .drw [zp (zv 52 (.ld true 8 (.t 1))), zp (zv 53 (.fad (.t 4) 1)), zp (zv 54 (.ld false 1 (.t 53))), zp (zv 55 (.fad (.t 4) 3)), zp (zv 56 (.ld false 1 (.t 55))), zp (zm 57 10), zp (zv 58 (.ld true 5 (.t 11))), (zi 59 (.call (.c (.fn 89 [] [])) [((.t 57), (.sl 4)), ((.t 58), zN)]), [0, 2, 4]), (zv 60 (.bsl 5 [((.t 59), zN)]), []), (zv 61 (.bld [(.int .i64 0), (.int .i64 0), (.int .i64 0), (.str []), .nils] [(0, 1, (zc 31)), (1, 1, (.t 54)), (3, 1, (.t 56)), (4, 1, (.t 60))]), []), (zn (.st 8 zC (.t 2) (.t 52)), [2, 4, 8]), (zn (.st 5 zN (.t 3) (.t 61)), [])]
def k0fq : IC := (.seq qb21 (.seq qbv2 (.seq (.seq qb1m (.seq qb63 (.cond (.t 23) (.seq qbnt (.seq qb80 .ret)) .skip))) (.seq qcal (.seq qbw5 (.seq qbpz (.seq qcaq .ret)))))))
@[go_sem] def s0fq : List (RV × Co) := [(.c true 8 2, zC), (.c true 5 3, zN)]
theorem c0fq : cFun Tryz.prog 45 = some (62, k0fq, s0fq) := by kernel_rfl

def qbnf : IC := zr [zi 2 (.box (.t 0)), zv 4 zf]
def qbro : IC := zr [zv 5 (.fad (.t 2) 6), zv 6 (.ld false 1 (.t 5)), zv 7 (.bin .eql .no (.t 6) (zc 0)), zm 8 7, zw 8 true 9 (.ld true 8 (.t 2)), ⟨some (8, true), some 10, .call (.c (.fn 42 [] [])) [((.t 9), zC)]⟩, zw 8 true 11 (.mov (.t 1)), ⟨some (8, true), some 12, .call (.c (.fn 90 [] [])) [((.t 10), .id), ((.t 11), .id)]⟩, zv 13 (.pick (.t 8) (.t 12) (.c (.bool false))), zm 4 13]
def k0ci : IC := (.seq qbnf (.seq qbro .ret))
@[go_sem] def s0ci : List (RV × Co) := [(.t 4, .id)]
theorem c0ci : cFun Tryz.prog 46 = some (14, k0ci, s0ci) := by kernel_rfl

def qb1p : IC := zr [zi 1 (.box (.t 0)), zi 2 zaC, zi 3 zaT]
def qb03 : IC := zr [zv 5 (.ld true 8 (.t 1)), zi 6 (.call (.c (.fn 42 [] [])) [((.t 5), zC)]), zi 4 zaT, zn (.st 4 .id (.t 4) (.t 6))]
def qbo7 : IC := zr [zv 7 (.fad (.t 1) 6), zv 8 (.ld false 1 (.t 7)), zv 9 (.bin .eql .no (.t 8) (zc 0)), zm 10 9, zw 10 true 11 (.fad (.t 1) 0), zw 10 true 12 (.ld false 1 (.t 11)), zw 10 true 13 (.len false (.t 12)), zw 10 true 14 (.bin .gtr .no (.t 13) (zc 0)), zv 15 (.pick (.t 10) (.t 14) (.c (.bool false)))]
def qbpn : IC := zr [zv 16 (.fad (.t 1) 0), zv 17 (.ld false 1 (.t 16)), zv 18 (.slv 4 (.t 17) (some (zc 1)) none none), zv 19 (.fad (.t 1) 0), zn (.st 1 (.sl 4) (.t 19) (.t 18))]
def qb5y : IC := .drw [zp (zv 20 (.ld true 8 (.t 1))), zp (zv 21 (.ld true 4 (.t 4))), (zn (.st 8 zC (.t 2) (.t 20)), [1]), (zn (.st 4 .id (.t 3) (.t 21)), [])]
def k0cg : IC := (.seq qb1p (.seq qb03 (.seq (.seq qbo7 (.cond (.t 15) qbpn .skip)) (.seq qb5y .ret))))
@[go_sem] def s0cg : List (RV × Co) := [(.c true 8 2, zC), (.c true 4 3, .id)]
theorem c0cg : cFun Tryz.prog 47 = some (22, k0cg, s0cg) := by kernel_rfl

def qbva : IC := zr [zi 1 (.box (.t 0)), zv 2 (.mov (zc 0)), zv 3 (.mov (zc 0))]
def qbm3 : IC := zr [zv 5 (.fad (.t 1) 6), zv 6 (.ld false 1 (.t 5)), zv 7 (.bin .neq .no (.t 6) (zc 0)), zm 4 7]
def qbvj : IC := .drw [zp (zv 8 (.fad (.t 1) 7)), zp (zv 9 (.ld false 1 (.t 8))), zp (zv 10 (.fad (.t 1) 6)), zp (zv 11 (.ld false 1 (.t 10))), zp (zm 2 9), zp (zm 3 11)]
def qb5v : IC := zr [zv 13 (.fad (.t 1) 0), zv 14 (.ld false 1 (.t 13)), zv 15 (.len false (.t 14)), zv 16 (.bin .gtr .no (.t 15) (zc 0)), zm 12 16]
def qcd5 : IC := zr [zv 17 (.fad (.t 1) 0), zv 18 (.ld false 1 (.t 17)), zv 19 (.iad 4 (.t 18) (zc 0)), zv 20 (.fad (.t 19) 1), zv 21 (.ld false 1 (.t 20)), zm 2 21, zv 3 (.mov (zc 5))]
def qbt8 : IC := zr [zv 22 (.fad (.t 1) 1), zv 23 (.fad (.t 22) 1), zv 24 (.ld false 1 (.t 23)), zm 2 24, zv 3 (.mov (zc 0))]
def k0co : IC := (.seq qbva (.seq (.block 0 (.seq qbm3 (.cond (.t 4) (.seq qbvj .ret) (.seq qb5v (.cond (.t 12) (.seq qcd5 .ret) .skip))))) (.seq qbt8 .ret)))
@[go_sem] def s0co : List (RV × Co) := [(.t 2, .id), (.t 3, .id)]
theorem c0co : cFun Tryz.prog 48 = some (25, k0co, s0co) := by kernel_rfl

def qb9m : IC := zr [zi 1 (.box (.t 0)), zv 2 (.mov (zc 0))]
def qbvs : IC := zr [zv 3 (.mov (zc 0))]
def qboy : IC := zr [zv 4 (.mov (zc 0))]
def qb00 : IC := zr [zm 5 4, zv 6 (.fad (.t 1) 4), zv 7 (.ld false 1 (.t 6)), zv 8 (.len false (.t 7)), zv 9 (.bin .lss .no (.t 5) (.t 8))]
def qca1 : IC := zr [zm 12 3, zv 13 (.fad (.t 1) 4), zv 14 (.ld false 1 (.t 13)), zm 15 4, zv 16 (.iad 5 (.t 14) (.t 15)), zv 17 (.ld true 5 (.t 16)), zi 18 (.call (.c (.fn 49 [] [])) [((.t 17), zN)]), zv 19 (.mm true (.t 12) (.t 18)), zm 3 19]
def qbs1 : IC := zr [zm 10 4, zv 11 (.bin .add .no (.t 10) (zc 1)), zm 4 11]
def qccg : IC := (.seq (.seq qb00 (.cond (.t 9) .skip (.exit 0))) (.seq (.block 1 qca1) qbs1))
def qb8u : IC := zr [zm 20 3, zv 21 (.bin .add .no (.t 20) (zc 1)), zm 2 21]
def k0fd : IC := (.seq qb9m (.seq qbvs (.seq (.seq qboy (.block 0 (.loop qccg))) (.seq qb8u .ret))))
@[go_sem] def s0fd : List (RV × Co) := [(.t 2, .id)]
theorem c0fd : cFun Tryz.prog 49 = some (22, k0fd, s0fd) := by kernel_rfl

def qb5a : IC := zr [zi 2 (.box (.t 0)), zi 3 (.box (.t 1)), zv 4 (.mov (.c .nilf))]
def qbwe : IC := zr [zv 5 (.mfn 91 [] [(.t 2), (.t 3)]), zm 4 5]
def k0fb : IC := (.seq qb5a (.seq qbwe .ret))
@[go_sem] def s0fb : List (RV × Co) := [(.t 4, .id)]
theorem c0fb : cFun Tryz.prog 50 = some (6, k0fb, s0fb) := by kernel_rfl

def qbta : IC := zr [zi 1 (.box (.t 0)), zv 2 zf]
def qb8q : IC := zr [zv 3 (.fad (.t 1) 0), zv 4 (.ld false 1 (.t 3)), zv 5 (.bin .eql .no (.t 4) (zc 31)), zm 6 5, zw 6 true 7 (.ld true 5 (.t 1)), ⟨some (6, true), some 8, .call (.c (.fn 93 [] [])) [((.t 7), zN), ((.c (.fn 94 [] [])), .id)]⟩, zv 9 (.pick (.t 6) (.t 8) (.c (.bool false))), zm 10 9, zw 10 true 11 (.fad (.t 1) 4), zw 10 true 12 (.ld false 1 (.t 11)), zw 10 true 13 (.len false (.t 12)), zw 10 true 14 (.bin .eql .no (.t 13) (zc 1)), zv 15 (.pick (.t 10) (.t 14) (.c (.bool false))), zm 16 15, zw 16 true 17 (.fad (.t 1) 4), zw 16 true 18 (.ld false 1 (.t 17)), zw 16 true 19 (.iad 5 (.t 18) (zc 0)), zw 16 true 20 (.ld true 5 (.t 19)), ⟨some (16, true), some 21, .call (.c (.fn 95 [] [])) [((.t 20), zN)]⟩, zv 22 (.pick (.t 16) (.t 21) (.c (.bool false))), zm 2 22]
def k0en : IC := (.seq qbta (.seq qb8q .ret))
@[go_sem] def s0en : List (RV × Co) := [(.t 2, .id)]
theorem c0en : cFun Tryz.prog 51 = some (23, k0en, s0en) := by kernel_rfl

def qbyx : IC := zr [zi 1 (.box (.t 0)), zv 2 zf]
def qb8v : IC := zr [zv 3 (.fad (.t 1) 0), zv 4 (.ld false 1 (.t 3)), zv 5 (.bin .eql .no (.t 4) (zc 32)), zm 6 5, zw 6 true 7 (.ld true 5 (.t 1)), ⟨some (6, true), some 8, .call (.c (.fn 93 [] [])) [((.t 7), zN), ((.c (.fn 94 [] [])), .id)]⟩, zv 9 (.pick (.t 6) (.t 8) (.c (.bool false))), zm 10 9, zw 10 true 11 (.fad (.t 1) 4), zw 10 true 12 (.ld false 1 (.t 11)), zw 10 true 13 (.len false (.t 12)), zw 10 true 14 (.bin .eql .no (.t 13) (zc 1)), zv 15 (.pick (.t 10) (.t 14) (.c (.bool false))), zm 16 15, zw 16 true 17 (.fad (.t 1) 4), zw 16 true 18 (.ld false 1 (.t 17)), zw 16 true 19 (.iad 5 (.t 18) (zc 0)), zw 16 true 20 (.ld true 5 (.t 19)), ⟨some (16, true), some 21, .call (.c (.fn 96 [] [])) [((.t 20), zN)]⟩, zv 22 (.pick (.t 16) (.t 21) (.c (.bool false))), zm 2 22]
def k0et : IC := (.seq qbyx (.seq qb8v .ret))
@[go_sem] def s0et : List (RV × Co) := [(.t 2, .id)]
theorem c0et : cFun Tryz.prog 52 = some (23, k0et, s0et) := by kernel_rfl

def qbqc : IC := zr [zv 2 zf]
def qb0v : IC := zr [zm 3 0, zv 4 (.bin .neq .no (.t 3) (.c (.str []))), zm 5 4, zw 5 true 6 (.mov (.t 0)), zw 5 true 7 (.idx (.t 6) (zc 0)), ⟨some (5, true), some 8, .call (.c (.fn 97 [] [])) [((.t 7), .id)]⟩, zv 9 (.pick (.t 5) (.t 8) (.c (.bool false))), zm 10 9, zw 10 true 11 (.mov (.t 0)), ⟨some (10, true), some 12, .call (.c (.fn 98 [] [])) [((.t 11), .id)]⟩, zv 13 (.pick (.t 10) (.t 12) (.c (.bool false))), zm 2 13]
def k0ef : IC := (.seq qbqc (.seq qb0v .ret))
@[go_sem] def s0ef : List (RV × Co) := [(.t 2, .id)]
theorem c0ef : cFun Tryz.prog 53 = some (14, k0ef, s0ef) := by kernel_rfl

def qbqj : IC := zr [zi 1 (.box (.t 0)), zv 2 zf]
def qbvl : IC := zr [zv 3 (.fad (.t 1) 0), zv 4 (.ld false 1 (.t 3)), zv 5 (.bin .eql .no (.t 4) (zc 1)), zm 6 5, zw 6 true 7 (.ld true 5 (.t 1)), ⟨some (6, true), some 8, .call (.c (.fn 57 [] [])) [((.t 7), zN)]⟩, zv 9 (.pick (.t 6) (.t 8) (.c (.bool false))), zm 2 9]
def k0eh : IC := (.seq qbqj (.seq qbvl .ret))
@[go_sem] def s0eh : List (RV × Co) := [(.t 2, .id)]
theorem c0eh : cFun Tryz.prog 54 = some (10, k0eh, s0eh) := by kernel_rfl

def qb50 : IC := zr [zi 1 (.box (.t 0)), zv 2 zf]
def qb9l : IC := zr [zv 3 (.fad (.t 1) 0), zv 4 (.ld false 1 (.t 3)), zv 5 (.bin .eql .no (.t 4) (zc 34)), zm 6 5, zw 6 true 7 (.ld true 5 (.t 1)), ⟨some (6, true), some 8, .call (.c (.fn 93 [] [])) [((.t 7), zN), ((.c (.fn 53 [] [])), .id)]⟩, zv 9 (.pick (.t 6) (.t 8) (.c (.bool false))), zm 10 9, zw 10 true 11 (.fad (.t 1) 4), zw 10 true 12 (.ld false 1 (.t 11)), ⟨some (10, true), some 13, .call (.c (.fn 27 [] [])) [((.t 12), (.sl 5)), ((.c (.fn 57 [] [])), .id)]⟩, zv 14 (.pick (.t 10) (.t 13) (.c (.bool false))), zm 2 14]
def k0ei : IC := (.seq qb50 (.seq qb9l .ret))
@[go_sem] def s0ei : List (RV × Co) := [(.t 2, .id)]
theorem c0ei : cFun Tryz.prog 55 = some (15, k0ei, s0ei) := by kernel_rfl

def qb4j : IC := zr [zi 1 (.box (.t 0)), zv 2 zf]
def qbzt : IC := zr [zv 3 (.fad (.t 1) 0), zv 4 (.ld false 1 (.t 3)), zv 5 (.bin .eql .no (.t 4) (zc 3)), zm 6 5, zw 6 true 7 (.ld true 5 (.t 1)), ⟨some (6, true), some 8, .call (.c (.fn 93 [] [])) [((.t 7), zN), ((.c (.fn 53 [] [])), .id)]⟩, zv 9 (.pick (.t 6) (.t 8) (.c (.bool false))), zm 10 9, zw 10 true 11 (.fad (.t 1) 4), zw 10 true 12 (.ld false 1 (.t 11)), zw 10 true 13 (.len false (.t 12)), zw 10 true 14 (.bin .eql .no (.t 13) (zc 1)), zv 15 (.pick (.t 10) (.t 14) (.c (.bool false))), zm 16 15, zw 16 true 17 (.fad (.t 1) 4), zw 16 true 18 (.ld false 1 (.t 17)), zw 16 true 19 (.iad 5 (.t 18) (zc 0)), zw 16 true 20 (.ld true 5 (.t 19)), ⟨some (16, true), some 21, .call (.c (.fn 57 [] [])) [((.t 20), zN)]⟩, zv 22 (.pick (.t 16) (.t 21) (.c (.bool false))), zm 2 22]
def k0er : IC := (.seq qb4j (.seq qbzt .ret))
@[go_sem] def s0er : List (RV × Co) := [(.t 2, .id)]
theorem c0er : cFun Tryz.prog 56 = some (23, k0er, s0er) := by kernel_rfl

def qcdp : IC := zr [zi 1 (.box (.t 0)), zv 2 zf]
def qcaj : IC := zr [zv 4 (.fad (.t 1) 0), zv 5 (.ld false 1 (.t 4)), zv 6 (.bin .eql .no (.t 5) (zc 1)), zm 3 6]
def qb1w : IC := zr [zv 7 (.ld true 5 (.t 1)), zi 8 (.call (.c (.fn 93 [] [])) [((.t 7), zN), ((.c (.fn 94 [] [])), .id)]), zm 9 8, zw 9 true 10 (.fad (.t 1) 4), zw 9 true 11 (.ld false 1 (.t 10)), zw 9 true 12 (.len false (.t 11)), zw 9 true 13 (.bin .eql .no (.t 12) (zc 0)), zv 14 (.pick (.t 9) (.t 13) (.c (.bool false))), zm 2 14]
def qbt9 : IC := zr [zv 16 (.fad (.t 1) 0), zv 17 (.ld false 1 (.t 16)), zv 18 (.bin .neq .no (.t 17) (zc 2)), zm 19 18, zw 19 false 20 (.fad (.t 1) 2), zw 19 false 21 (.ld false 1 (.t 20)), zw 19 false 22 (.bin .neq .no (.t 21) (zc 0)), zv 23 (.pick (.t 19) (.c (.bool true)) (.t 22)), zm 15 23]
def qb24 : IC := zr [zv 2 zf]
def qcde : IC := zr [zv 25 (.fad (.t 1) 3), zv 26 (.ld false 1 (.t 25)), zv 27 (.bin .eql .no (.t 26) (.c (.str [45, 62]))), zm 24 27]
def qbzj : IC := zr [zv 28 (.fad (.t 1) 4), zv 29 (.ld false 1 (.t 28)), zv 30 (.len false (.t 29)), zv 31 (.bin .eql .no (.t 30) (zc 2)), zm 32 31, zw 32 true 33 (.fad (.t 1) 4), zw 32 true 34 (.ld false 1 (.t 33)), ⟨some (32, true), some 35, .call (.c (.fn 27 [] [])) [((.t 34), (.sl 5)), ((.c (.fn 57 [] [])), .id)]⟩, zv 36 (.pick (.t 32) (.t 35) (.c (.bool false))), zm 2 36]
def qbsq : IC := zr [zv 37 (.fad (.t 1) 3), zv 38 (.ld false 1 (.t 37)), zi 39 (.call (.c (.fn 53 [] [])) [((.t 38), .id)]), zm 40 39, zw 40 true 41 (.fad (.t 1) 4), zw 40 true 42 (.ld false 1 (.t 41)), ⟨some (40, true), some 43, .call (.c (.fn 27 [] [])) [((.t 42), (.sl 5)), ((.c (.fn 57 [] [])), .id)]⟩, zv 44 (.pick (.t 40) (.t 43) (.c (.bool false))), zm 2 44]
def k0ep : IC := (.seq qcdp (.seq (.block 0 (.seq qcaj (.cond (.t 3) (.seq qb1w .ret) (.seq qbt9 (.cond (.t 15) (.seq qb24 .ret) (.seq qcde (.cond (.t 24) (.seq qbzj .ret) .skip))))))) (.seq qbsq .ret)))
@[go_sem] def s0ep : List (RV × Co) := [(.t 2, .id)]
theorem c0ep : cFun Tryz.prog 57 = some (45, k0ep, s0ep) := by kernel_rfl

def qbvw : IC := zr [zi 1 (.box (.t 0)), zv 2 (.mov (.c .nilf))]
def qb4z : IC := zr [zv 3 (.mfn 99 [] [(.t 1)]), zm 2 3]
def k0de : IC := (.seq qbvw (.seq qb4z .ret))
@[go_sem] def s0de : List (RV × Co) := [(.t 2, .id)]
theorem c0de : cFun Tryz.prog 58 = some (4, k0de, s0de) := by kernel_rfl

def qb8o : IC := zr [zv 4 zf]
def qb3t : IC := zr [zm 5 0, zi 6 (.call (.c (.fn 39 [] [])) [((.t 5), .id)]), zv 7 (.un .not (.t 6)), zm 8 7, zw 8 true 9 (.mov (.t 0)), ⟨some (8, true), some 10, .call (.c (.fn 19 [] [])) [((.t 9), .id)]⟩, zw 8 true 11 (.mov (.t 1)), zw 8 true 12 (.bsl 1 [((.t 11), .id)]), ⟨some (8, true), some 13, .call (.c (.fn 102 [] [])) [((.t 10), .id), ((.t 12), (.sl 1))]⟩, zv 14 (.pick (.t 8) (.t 13) (.c (.bool false))), zm 4 14]
def k0cv : IC := (.seq qb8o (.seq qb3t .ret))
@[go_sem] def s0cv : List (RV × Co) := [(.t 4, .id)]
theorem c0cv : cFun Tryz.prog 59 = some (15, k0cv, s0cv) := by kernel_rfl

def qbrg : IC := zr [zi 2 zaT]
def qbxf : IC := zr [zm 4 0, zi 5 (.call (.c (.fn 19 [] [])) [((.t 4), .id)]), zi 3 zaT, zn (.st 4 .id (.t 3) (.t 5))]
def qb11 : IC := .drw [zp (zm 6 0), (zi 7 (.call (.c (.fn 39 [] [])) [((.t 6), .id)]), []), zp (zv 8 (.un .not (.t 7))), zp (zm 9 8), zp (zw 9 true 10 (.mov (.t 0))), zp (zw 9 true 11 (.nck (.t 10))), zp (zw 9 true 12 (.fad (.t 11) 5)), zp (zw 9 true 13 (.ld false 1 (.t 12))), zp (zw 9 true 14 (.mov (.t 0))), zp (zw 9 true 15 (.nck (.t 14))), zp (zw 9 true 16 (.fad (.t 15) 0)), zp (zw 9 true 17 (.ld false 1 (.t 16))), zp (zw 9 true 18 (.len false (.t 17))), zp (zw 9 true 19 (.bin .lss .no (.t 13) (.t 18))), zp (zv 20 (.pick (.t 9) (.t 19) (.c (.bool false))))]
def qcdl : IC := zr [zm 21 0, zv 22 (.nck (.t 21)), zv 23 (.fad (.t 22) 5), zv 24 (.ld false 1 (.t 23)), zv 25 (.bin .add .no (.t 24) (zc 1)), zv 26 (.nck (.t 21)), zv 27 (.fad (.t 26) 5), zn (.st 1 .id (.t 27) (.t 25))]
def qbrp : IC := zr [zv 28 (.ld true 4 (.t 3)), zn (.st 4 .id (.t 2) (.t 28))]
def k0cu : IC := (.seq qbrg (.seq qbxf (.seq (.seq qb11 (.cond (.t 20) qcdl .skip)) (.seq qbrp .ret))))
@[go_sem] def s0cu : List (RV × Co) := [(.c true 4 2, .id)]
theorem c0cu : cFun Tryz.prog 60 = some (29, k0cu, s0cu) := by kernel_rfl

def qb52 : IC := zr [zi 4 zaT, zv 5 zf]
def qccr : IC := zr [zm 6 0, zi 7 (.call (.c (.fn 39 [] [])) [((.t 6), .id)]), zm 8 7, zw 8 false 9 (.mov (.t 0)), ⟨some (8, false), some 10, .call (.c (.fn 19 [] [])) [((.t 9), .id)]⟩, zw 8 false 11 (.fld false 1 0 (.t 10)), zw 8 false 12 (.mov (.t 1)), zw 8 false 13 (.bin .neq .no (.t 11) (.t 12)), zv 14 (.pick (.t 8) (.c (.bool true)) (.t 13))]
def qbp0 : IC := zr [zv 15 (.bld [(.int .i64 0), (.int .i64 0), (.int .i64 0), (.str [])] []), zm 16 0, zi 17 (.call (.c (.fn 69 [] [])) [((.t 16), .id), ((zc 5), .id)]), zn (.st 4 .id (.t 4) (.t 15)), zm 5 17]
def qb3z : IC := zr [zm 18 0, zi 19 (.call (.c (.fn 60 [] [])) [((.t 18), .id)]), zn (.st 4 .id (.t 4) (.t 19)), zv 5 (.mov (.c (.bool true)))]
def k0fe : IC := (.seq qb52 (.seq (.seq qccr (.cond (.t 14) (.seq qbp0 .ret) .skip)) (.seq qb3z .ret)))
@[go_sem] def s0fe : List (RV × Co) := [(.c true 4 4, .id), (.t 5, .id)]
theorem c0fe : cFun Tryz.prog 61 = some (20, k0fe, s0fe) := by kernel_rfl

def qb7o : IC := zr [zi 1 zaN, zv 2 zf]
def qbqu : IC := zr [zv 3 (.ld false 1 (.t 0)), zi 4 (.call (.c (.fn 63 [] [])) [((.t 3), .id)]), zv 5 (.ext (.t 4) 0), zv 6 (.ext (.t 4) 1), zn (.st 5 zN (.t 1) (.t 5)), zm 2 6]
def k0bb : IC := (.seq qb7o (.seq qbqu .ret))
@[go_sem] def s0bb : List (RV × Co) := [(.c true 5 1, zN), (.t 2, .id)]
theorem c0bb : cFun Tryz.prog 62 = some (7, k0bb, s0bb) := by kernel_rfl

def qb34 : IC := zr [zi 2 zaN, zv 3 zf]
def qbo6 : IC := zr [zm 7 0, zi 8 (.call (.c (.fn 19 [] [])) [((.t 7), .id)]), zi 4 zaT, zn (.st 4 .id (.t 4) (.t 8))]
def qbza : IC := zr [zv 10 (.fad (.t 4) 0), zv 11 (.ld false 1 (.t 10)), zv 12 (.bin .eql .no (.t 11) (zc 1)), zm 9 12]
def qcc0 : IC := zr [zm 13 0, zi 14 (.call (.c (.fn 60 [] [])) [((.t 13), .id)])]
def qbqd : IC := zr [zv 15 (.fad (.t 4) 1), zv 16 (.ld false 1 (.t 15)), zv 17 (.fad (.t 4) 3), zv 18 (.ld false 1 (.t 17)), zv 19 (.bld [(.int .i64 0), (.int .i64 0), (.int .i64 0), (.str []), .nils] [(0, 1, (zc 1)), (1, 1, (.t 16)), (3, 1, (.t 18))]), zn (.st 5 zN (.t 2) (.t 19)), zv 3 (.mov (.c (.bool true)))]
def qbx5 : IC := zr [zv 21 (.fad (.t 4) 0), zv 22 (.ld false 1 (.t 21)), zv 23 (.bin .eql .no (.t 22) (zc 2)), zm 20 23]
def qbrk : IC := zr [zm 24 0, zi 25 (.call (.c (.fn 60 [] [])) [((.t 24), .id)])]
def qb60 : IC := zr [zv 26 (.fad (.t 4) 1), zv 27 (.ld false 1 (.t 26)), zv 28 (.fad (.t 4) 3), zv 29 (.ld false 1 (.t 28)), zv 30 (.bld [(.int .i64 0), (.int .i64 0), (.int .i64 0), (.str []), .nils] [(0, 1, (zc 2)), (1, 1, (.t 27)), (3, 1, (.t 29))]), zn (.st 5 zN (.t 2) (.t 30)), zv 3 (.mov (.c (.bool true)))]
def qb8s : IC := zr [zm 32 0, zi 33 (.call (.c (.fn 59 [] [])) [((.t 32), .id), ((.c (.str [40])), .id)]), zv 34 (.un .not (.t 33)), zm 31 34]
def qbmx : IC := zr [zv 35 (.bld [(.int .i64 0), (.int .i64 0), (.int .i64 0), (.str []), .nils] []), zm 36 0, zi 37 (.call (.c (.fn 69 [] [])) [((.t 36), .id), ((zc 5), .id)]), zn (.st 5 zN (.t 2) (.t 35)), zm 3 37]
def qbia : IC := zr [zm 38 0, zi 39 (.call (.c (.fn 103 [] [])) [((.t 38), .id)]), zv 40 (.un .not (.t 39))]
def qbht : IC := zr [zv 41 (.bld [(.int .i64 0), (.int .i64 0), (.int .i64 0), (.str []), .nils] []), zn (.st 5 zN (.t 2) (.t 41)), zv 3 zf]
def qbex : IC := zr [zm 42 0, zi 43 (.call (.c (.fn 60 [] [])) [((.t 42), .id)])]
def qbc1 : IC := zr [zm 45 0, zi 46 (.call (.c (.fn 104 [] [])) [((.t 45), .id)]), zm 44 46, zv 47 (.ext (.t 44) 0), zv 48 (.ext (.t 44) 1), zi 5 zaN, zn (.st 5 zN (.t 5) (.t 47)), zm 6 48]
def qbkg : IC := zr [zm 49 6, zm 50 49, zw 50 true 51 (.mov (.t 0)), ⟨some (50, true), some 52, .call (.c (.fn 65 [] [])) [((.t 51), .id), ((.c (.str [41])), .id)]⟩, zv 53 (.pick (.t 50) (.t 52) (.c (.bool false))), zm 6 53]
def qbi9 : IC := zr [zm 54 0, zi 55 (.call (.c (.fn 105 [] [])) [((.t 54), .id)])]
def qbi5 : IC := zr [zm 56 0, zv 57 (.ld true 5 (.t 5)), zm 58 6, zi 59 (.call (.c (.fn 106 [] [])) [((.t 56), .id), ((.t 57), zN), ((.t 58), .id)]), zv 60 (.ext (.t 59) 0), zv 61 (.ext (.t 59) 1), zn (.st 5 zN (.t 2) (.t 60)), zm 3 61]
def k0cc : IC := (.seq qb34 (.seq (.seq qbo6 (.block 0 (.seq qbza (.cond (.t 9) (.seq qcc0 (.seq qbqd .ret)) (.seq qbx5 (.cond (.t 20) (.seq qbrk (.seq qb60 .ret)) (.seq qb8s (.cond (.t 31) (.seq qbmx .ret) .skip)))))))) (.seq (.seq qbia (.cond (.t 40) (.seq qbht .ret) .skip)) (.seq qbex (.seq qbc1 (.seq qbkg (.seq qbi9 (.seq qbi5 .ret))))))))
@[go_sem] def s0cc : List (RV × Co) := [(.c true 5 2, zN), (.t 3, .id)]
theorem c0cc : cFun Tryz.prog 63 = some (62, k0cc, s0cc) := by kernel_rfl

def qbrb : IC := zr [zv 1 zf]
def qboo : IC := zr [zv 2 (.ld false 1 (.t 0)), zi 3 (.call (.c (.fn 19 [] [])) [((.t 2), .id)]), zv 4 (.fld false 1 0 (.t 3)), zv 5 (.bin .eql .no (.t 4) (zc 1)), zm 1 5]
def k0bc : IC := (.seq qbrb (.seq qboo .ret))
@[go_sem] def s0bc : List (RV × Co) := [(.t 1, .id)]
theorem c0bc : cFun Tryz.prog 64 = some (6, k0bc, s0bc) := by kernel_rfl

def qb38 : IC := zr [zv 4 zf]
def qbxz : IC := zr [zm 5 0, zm 6 1, zi 7 (.call (.c (.fn 35 [] [])) [((.t 5), .id), ((.t 6), .id)]), zm 8 7, zw 8 false 9 (.mov (.t 0)), ⟨some (8, false), some 10, .call (.c (.fn 69 [] [])) [((.t 9), .id), ((zc 5), .id)]⟩, zv 11 (.pick (.t 8) (.c (.bool true)) (.t 10)), zm 4 11]
def k0cy : IC := (.seq qb38 (.seq qbxz .ret))
@[go_sem] def s0cy : List (RV × Co) := [(.t 4, .id)]
theorem c0cy : cFun Tryz.prog 65 = some (12, k0cy, s0cy) := by kernel_rfl

def qcgp : IC := zr [zi 1 zaN, zv 2 zf]
def qcfx : IC := zr [zv 3 (.ld false 1 (.t 0)), zi 4 (.call (.c (.fn 67 [] [])) [((.t 3), .id)]), zv 5 (.ext (.t 4) 0), zv 6 (.ext (.t 4) 1), zn (.st 5 zN (.t 1) (.t 5)), zm 2 6]
def k0u : IC := (.seq qcgp (.seq qcfx .ret))
@[go_sem] def s0u : List (RV × Co) := [(.c true 5 1, zN), (.t 2, .id)]
theorem c0u : cFun Tryz.prog 66 = some (7, k0u, s0u) := by kernel_rfl

def qbq1 : IC := zr [zi 1 (.box (.t 0)), zi 2 zaN, zv 3 zf]
def qbre : IC := zr [zv 8 (.ld false 1 (.t 1)), zi 9 (.call (.c (.fn 61 [] [])) [((.t 8), .id), ((zc 2), .id)]), zm 7 9, zv 10 (.ext (.t 7) 0), zv 11 (.ext (.t 7) 1), zi 4 zaT, zn (.st 4 .id (.t 4) (.t 10)), zm 5 11]
def qbs2 : IC := zr [zm 12 5, zv 13 (.un .not (.t 12))]
def qb0r : IC := zr [zv 14 (.bld [(.int .i64 0), (.int .i64 0), (.int .i64 0), (.str []), .nils] []), zn (.st 5 zN (.t 2) (.t 14)), zv 3 zf]
def qbo9 : IC := zr [zv 15 (.fad (.t 4) 1), zv 16 (.ld false 1 (.t 15)), zv 17 (.fad (.t 4) 3), zv 18 (.ld false 1 (.t 17)), zv 19 (.bld [(.int .i64 0), (.int .i64 0), (.int .i64 0), (.str []), .nils] [(0, 1, (zc 34)), (1, 1, (.t 16)), (3, 1, (.t 18))]), zi 6 zaN, zn (.st 5 zN (.t 6) (.t 19))]
def qb1n : IC := zr [zv 21 (.mfn 107 [] [(.t 1)]), zv 22 (.mfn 108 [] [(.t 1)]), zi 23 (.call (.c (.fn 15 [] [])) [((.c .nils), (.sl 5)), ((.t 21), .id), ((.t 22), .id)]), zm 20 23, zv 24 (.ext (.t 20) 0), zv 25 (.ext (.t 20) 1), zv 26 (.fad (.t 6) 4), zn (.st 1 (.sl 5) (.t 26) (.t 24)), zm 5 25]
def qcak : IC := zr [zv 27 (.ld true 5 (.t 6)), zm 28 5, zn (.st 5 zN (.t 2) (.t 27)), zm 3 28]
def k0bd : IC := (.seq qbq1 (.seq qbre (.seq (.seq qbs2 (.cond (.t 13) (.seq qb0r .ret) .skip)) (.seq qbo9 (.seq qb1n (.seq qcak .ret))))))
@[go_sem] def s0bd : List (RV × Co) := [(.c true 5 2, zN), (.t 3, .id)]
theorem c0bd : cFun Tryz.prog 67 = some (29, k0bd, s0bd) := by kernel_rfl

def qb8y : IC := zr [zv 2 (.mov (.c .nils)), zv 3 zf]
def qb6q : IC := zr [zm 9 0, zi 10 (.call (.c (.fn 110 [] [])) [((.t 9), .id), ((.c (.str [61, 62])), .id)]), zv 11 (.un .not (.t 10))]
def qbzv : IC := zr [zm 12 0, zi 13 (.call (.c (.fn 111 [] [])) [((.t 12), .id)]), zv 14 (.un .not (.t 13)), zv 2 (.mov (.c .nils)), zm 3 14]
def qbqy : IC := zr [zv 4 (.mov (.c .nils))]
def qbti : IC := zr [zm 15 0, zi 16 (.call (.c (.fn 35 [] [])) [((.t 15), .id), ((.c (.str [40])), .id)]), zm 5 16]
def qbn9 : IC := zr [zm 17 5, zv 18 (.un .not (.t 17)), zm 19 18, zw 19 false 20 (.mov (.t 0)), ⟨some (19, false), some 21, .call (.c (.fn 59 [] [])) [((.t 20), .id), ((.c (.str [41])), .id)]⟩, zw 19 false 22 (.un .not (.t 21)), zv 23 (.pick (.t 19) (.c (.bool true)) (.t 22)), zm 6 23]
def qb92 : IC := zr [zm 24 6]
def qb3h : IC := zr [zm 26 0, zi 27 (.call (.c (.fn 112 [] [])) [((.t 26), .id)]), zm 25 27, zv 28 (.ext (.t 25) 0), zv 29 (.ext (.t 25) 1), zi 7 zaN, zn (.st 5 zN (.t 7) (.t 28)), zm 8 29]
def qcbk : IC := zr [zm 30 8, zv 31 (.un .not (.t 30))]
def qbdl : IC := zr [zv 2 (.mov (.c .nils)), zv 3 zf]
def qbcj : IC := zr [zm 32 4, zv 33 (.ld true 5 (.t 7)), zv 34 (.bsl 5 [((.t 33), zN)]), zi 35 (.app 5 zZ 64 (.sl 5) (.t 32) (.t 34)), zm 4 35]
def qbk6 : IC := zr [zm 36 5, zm 37 36, zw 37 true 38 (.mov (.t 0)), ⟨some (37, true), some 39, .call (.c (.fn 35 [] [])) [((.t 38), .id), ((.c (.str [44])), .id)]⟩, zv 40 (.pick (.t 37) (.t 39) (.c (.bool false))), zm 6 40]
def qbxy : IC := (.seq (.seq qb92 (.cond (.t 24) .skip (.exit 0))) (.block 1 (.seq qb3h (.seq (.seq qcbk (.cond (.t 31) (.seq qbdl .ret) .skip)) (.seq qbcj qbk6)))))
def qbk2 : IC := zr [zm 41 5, zm 42 41, zw 42 true 43 (.mov (.t 0)), ⟨some (42, true), some 44, .call (.c (.fn 65 [] [])) [((.t 43), .id), ((.c (.str [41])), .id)]⟩, zw 42 true 45 (.un .not (.t 44)), zv 46 (.pick (.t 42) (.t 45) (.c (.bool false))), zm 47 46, zw 47 false 48 (.mov (.t 0)), ⟨some (47, false), some 49, .call (.c (.fn 65 [] [])) [((.t 48), .id), ((.c (.str [61, 62])), .id)]⟩, zw 47 false 50 (.un .not (.t 49)), zv 51 (.pick (.t 47) (.c (.bool true)) (.t 50))]
def qben : IC := zr [zv 2 (.mov (.c .nils)), zv 3 zf]
def qbh1 : IC := zr [zm 52 4, zm 2 52, zv 3 (.mov (.c (.bool true)))]
def k0bx : IC := (.seq qb8y (.seq (.seq qb6q (.cond (.t 11) (.seq qbzv .ret) .skip)) (.seq qbqy (.seq qbti (.seq (.seq qbn9 (.block 0 (.loop qbxy))) (.seq (.seq qbk2 (.cond (.t 51) (.seq qben .ret) .skip)) (.seq qbh1 .ret)))))))
@[go_sem] def s0bx : List (RV × Co) := [(.t 2, (.sl 5)), (.t 3, .id)]
theorem c0bx : cFun Tryz.prog 68 = some (53, k0bx, s0bx) := by kernel_rfl

def qbsk : IC := zr [zv 4 zf]
def qb76 : IC := zr [zm 5 0, zi 6 (.call (.c (.fn 39 [] [])) [((.t 5), .id)]), zv 7 (.un .not (.t 6))]
def qbt0 : IC := zr [zm 8 1, zv 9 (.bin .eql .no (.t 8) (zc 0))]
def qcas : IC := zr [zv 1 (.mov (zc 1))]
def qcd0 : IC := zr [zm 10 0, zm 11 0, zi 12 (.call (.c (.fn 19 [] [])) [((.t 11), .id)]), zv 13 (.fld false 1 1 (.t 12)), zv 14 (.nck (.t 10)), zv 15 (.fad (.t 14) 8), zn (.st 1 .id (.t 15) (.t 13))]
def qbpw : IC := zr [zm 16 0, zm 17 1, zv 18 (.nck (.t 16)), zv 19 (.fad (.t 18) 7), zn (.st 1 .id (.t 19) (.t 17))]
def qbuc : IC := zr [zv 4 zf]
def k0cw : IC := (.seq qbsk (.seq (.seq qb76 (.cond (.t 7) (.seq (.seq qbt0 (.cond (.t 9) qcas .skip)) (.seq qcd0 qbpw)) .skip)) (.seq qbuc .ret)))
@[go_sem] def s0cw : List (RV × Co) := [(.t 4, .id)]
theorem c0cw : cFun Tryz.prog 69 = some (20, k0cw, s0cw) := by kernel_rfl

def qcgb : IC := zr [zi 3 (.box (.t 0)), zi 5 (.box (.t 2)), zv 6 (.mov (.c .nils)), zv 7 zf]
def qcis : IC := zr [zv 10 (.ld false 1 (.t 3)), zi 11 (.call (.c (.fn 65 [] [])) [((.t 10), .id), ((.c (.str [119, 104, 101, 114, 101])), .id)]), zv 12 (.un .not (.t 11)), zm 13 12, zw 13 false 14 (.ld false 1 (.t 3)), ⟨some (13, false), some 15, .call (.c (.fn 65 [] [])) [((.t 14), .id), ((.c (.str [123])), .id)]⟩, zw 13 false 16 (.un .not (.t 15)), zv 17 (.pick (.t 13) (.c (.bool true)) (.t 16))]
def qcin : IC := zr [zm 18 1, zm 6 18, zv 7 zf]
def qceu : IC := zr [zv 19 (.ld false 1 (.t 3)), zi 20 (.call (.c (.fn 14 [] [])) [((.t 19), .id), ((.c (.str [59])), .id)]), zi 8 (.alo [.nilf]), zn (.st 1 .id (.t 8) (.t 20))]
def qcjd : IC := zr [zm 22 1, zv 23 (.mfn 113 [] [(.t 3), (.t 5)]), zv 24 (.mfn 115 [] [(.t 3), (.t 8)]), zi 25 (.call (.c (.fn 15 [] [])) [((.t 22), (.sl 5)), ((.t 23), .id), ((.t 24), .id)]), zm 21 25, zv 26 (.ext (.t 21) 0), zv 27 (.ext (.t 21) 1), zm 1 26, zm 9 27]
def qbmp : IC := zr [zm 28 1, zm 29 9, zm 30 29, zw 30 true 31 (.ld false 1 (.t 3)), ⟨some (30, true), some 32, .call (.c (.fn 65 [] [])) [((.t 31), .id), ((.c (.str [125])), .id)]⟩, zv 33 (.pick (.t 30) (.t 32) (.c (.bool false))), zm 6 28, zm 7 33]
def k0t : IC := (.seq qcgb (.seq (.seq qcis (.cond (.t 17) (.seq qcin .ret) .skip)) (.seq qceu (.seq qcjd (.seq qbmp .ret)))))
@[go_sem] def s0t : List (RV × Co) := [(.t 6, (.sl 5)), (.t 7, .id)]
theorem c0t : cFun Tryz.prog 70 = some (34, k0t, s0t) := by kernel_rfl

def qbr6 : IC := zr [zi 2 zaN, zv 3 zf]
def qcbj : IC := zr [zm 8 0, zi 9 (.call (.c (.fn 19 [] [])) [((.t 8), .id)]), zv 10 (.fld false 1 1 (.t 9)), zv 11 (.bld [(.int .i64 0), (.int .i64 0), (.int .i64 0), (.str []), .nils] [(0, 1, (zc 4)), (1, 1, (.t 10))]), zi 4 zaN, zn (.st 5 zN (.t 4) (.t 11))]
def qb6j : IC := zr [zm 13 0, zi 14 (.call (.c (.fn 68 [] [])) [((.t 13), .id)]), zm 12 14, zv 15 (.ext (.t 12) 0), zv 16 (.ext (.t 12) 1), zm 5 15, zm 6 16]
def qb9b : IC := zr [zm 17 6, zv 18 (.un .not (.t 17))]
def qcac : IC := zr [zv 19 (.bld [(.int .i64 0), (.int .i64 0), (.int .i64 0), (.str []), .nils] []), zn (.st 5 zN (.t 2) (.t 19)), zv 3 zf]
def qb7k : IC := zr [zm 21 0, zi 22 (.call (.c (.fn 104 [] [])) [((.t 21), .id)]), zm 20 22, zv 23 (.ext (.t 20) 0), zv 24 (.ext (.t 20) 1), zi 7 zaN, zn (.st 5 zN (.t 7) (.t 23)), zm 6 24]
def qbsh : IC := zr [zm 25 5, zv 26 (.ld true 5 (.t 7)), zv 27 (.bsl 5 [((.t 26), zN)]), zi 28 (.app 5 zZ 64 (.sl 5) (.t 25) (.t 27)), zv 29 (.fad (.t 4) 4), zn (.st 1 (.sl 5) (.t 29) (.t 28))]
def qcb9 : IC := zr [zm 30 0, zv 31 (.ld true 5 (.t 4)), zm 32 6, zi 33 (.call (.c (.fn 106 [] [])) [((.t 30), .id), ((.t 31), zN), ((.t 32), .id)]), zv 34 (.ext (.t 33) 0), zv 35 (.ext (.t 33) 1), zn (.st 5 zN (.t 2) (.t 34)), zm 3 35]
def k0bw : IC := (.seq qbr6 (.seq qcbj (.seq qb6j (.seq (.seq qb9b (.cond (.t 18) (.seq qcac .ret) .skip)) (.seq qb7k (.seq qbsh (.seq qcb9 .ret)))))))
@[go_sem] def s0bw : List (RV × Co) := [(.c true 5 2, zN), (.t 3, .id)]
theorem c0bw : cFun Tryz.prog 71 = some (36, k0bw, s0bw) := by kernel_rfl

def qbnl : IC := zr [zi 4 zaN, zv 5 zf]
def qbqr : IC := zr [zm 9 0, zi 10 (.call (.c (.fn 19 [] [])) [((.t 9), .id)]), zv 11 (.fld false 1 0 (.t 10)), zv 12 (.bin .neq .no (.t 11) (zc 1))]
def qbyt : IC := zr [zm 13 0, zm 14 1, zi 15 (.call (.c (.fn 65 [] [])) [((.t 13), .id), ((.t 14), .id)]), zv 16 (.un .not (.t 15))]
def qb2h : IC := zr [zv 17 (.bld [(.int .i64 0), (.int .i64 0), (.int .i64 0), (.str []), .nils] []), zn (.st 5 zN (.t 4) (.t 17)), zv 5 zf]
def qb8c : IC := zr [zm 18 0, zi 19 (.call (.c (.fn 116 [] [])) [((.t 18), .id)]), zv 20 (.ext (.t 19) 0), zv 21 (.ext (.t 19) 1), zn (.st 5 zN (.t 4) (.t 20)), zm 5 21]
def qb16 : IC := zr [zm 22 0, zi 23 (.call (.c (.fn 60 [] [])) [((.t 22), .id)]), zi 6 zaT, zn (.st 4 .id (.t 6) (.t 23))]
def qbz6 : IC := zr [zm 25 0, zm 26 1, zi 27 (.call (.c (.fn 72 [] [])) [((.t 25), .id), ((.t 26), .id)]), zm 24 27, zv 28 (.ext (.t 24) 0), zv 29 (.ext (.t 24) 1), zi 7 zaN, zn (.st 5 zN (.t 7) (.t 28)), zm 8 29]
def qbrc : IC := zr [zv 30 (.fad (.t 6) 1), zv 31 (.ld false 1 (.t 30)), zv 32 (.fad (.t 6) 3), zv 33 (.ld false 1 (.t 32)), zv 34 (.ld true 5 (.t 7)), zv 35 (.bsl 5 [((.t 34), zN)]), zv 36 (.bld [(.int .i64 0), (.int .i64 0), (.int .i64 0), (.str []), .nils] [(0, 1, (zc 25)), (1, 1, (.t 31)), (3, 1, (.t 33)), (4, 1, (.t 35))]), zm 37 8, zn (.st 5 zN (.t 4) (.t 36)), zm 5 37]
def k0bn : IC := (.seq qbnl (.seq (.seq qbqr (.cond (.t 12) (.seq (.seq qbyt (.cond (.t 16) (.seq qb2h .ret) .skip)) (.seq qb8c .ret)) .skip)) (.seq qb16 (.seq qbz6 (.seq qbrc .ret)))))
@[go_sem] def s0bn : List (RV × Co) := [(.c true 5 4, zN), (.t 5, .id)]
theorem c0bn : cFun Tryz.prog 72 = some (38, k0bn, s0bn) := by kernel_rfl

def qb9y : IC := zr [zv 2 zf]
def qbvd : IC := zr [zm 3 0, zv 4 (.bin .geq .no (.t 3) (.c (.int .u8 48))), zm 5 4, zw 5 true 6 (.mov (.t 0)), zw 5 true 7 (.bin .leq .no (.t 6) (.c (.int .u8 57))), zv 8 (.pick (.t 5) (.t 7) (.c (.bool false))), zm 2 8]
def k0ea : IC := (.seq qb9y (.seq qbvd .ret))
@[go_sem] def s0ea : List (RV × Co) := [(.t 2, .id)]
theorem c0ea : cFun Tryz.prog 73 = some (9, k0ea, s0ea) := by kernel_rfl

def qbpt : IC := zr [zv 2 (.mov (zc 0)), zv 3 (.mov (zc 0))]
def qbnw : IC := zr [zm 8 0, zv 9 (.bin .eql .no (.t 8) (.c (.str [])))]
def qbwp : IC := zr [zv 2 (.mov (zc 0)), zv 3 (.mov (zc 5))]
def qbx8 : IC := zr [zv 4 (.mov (zc 0))]
def qcdt : IC := zr [zm 10 4, zm 11 0, zv 12 (.len true (.t 11)), zv 13 (.bin .lss .no (.t 10) (.t 12))]
def qbr0 : IC := zr [zm 16 0, zm 17 4, zv 18 (.idx (.t 16) (.t 17)), zv 19 (.bin .lss .no (.t 18) (.c (.int .u8 48))), zm 20 19, zw 20 false 21 (.mov (.t 0)), zw 20 false 22 (.mov (.t 4)), zw 20 false 23 (.idx (.t 21) (.t 22)), zw 20 false 24 (.bin .gtr .no (.t 23) (.c (.int .u8 57))), zv 25 (.pick (.t 20) (.c (.bool true)) (.t 24))]
def qbw1 : IC := zr [zv 2 (.mov (zc 0)), zv 3 (.mov (zc 5))]
def qb3d : IC := zr [zm 14 4, zv 15 (.bin .add .no (.t 14) (zc 1)), zm 4 15]
def qb1y : IC := (.seq (.seq qcdt (.cond (.t 13) .skip (.exit 0))) (.seq (.block 1 (.seq qbr0 (.cond (.t 25) (.seq qbw1 .ret) .skip))) qb3d))
def qbef : IC := zr [zv 5 (.mov (zc 0))]
def qbe6 : IC := zr [zv 6 (.mov (zc 0))]
def qbga : IC := zr [zm 26 6, zm 27 0, zv 28 (.len true (.t 27)), zv 29 (.bin .lss .no (.t 26) (.t 28))]
def qbin : IC := zr [zm 32 0, zm 33 6, zv 34 (.idx (.t 32) (.t 33)), zv 35 (.bin .sub .no (.t 34) (.c (.int .u8 48))), zv 36 (.cvi .i64 (.t 35)), zm 7 36]
def qbhi : IC := zr [zm 37 5, zm 38 7, zv 39 (.bin .sub .no (zc 9223372036854775807) (.t 38)), zv 40 (.bin .quo .no (.t 39) (zc 10)), zv 41 (.bin .gtr .no (.t 37) (.t 40))]
def qbkx : IC := zr [zv 2 (.mov (zc 0)), zv 3 (.mov (zc 4))]
def qbhc : IC := zr [zm 42 5, zv 43 (.bin .mul .no (zc 10) (.t 42)), zm 44 7, zv 45 (.bin .add .no (.t 43) (.t 44)), zm 5 45]
def qbj1 : IC := zr [zm 30 6, zv 31 (.bin .add .no (.t 30) (zc 1)), zm 6 31]
def qbfn : IC := (.seq (.seq qbga (.cond (.t 29) .skip (.exit 2))) (.seq (.block 3 (.seq qbin (.seq (.seq qbhi (.cond (.t 41) (.seq qbkx .ret) .skip)) qbhc))) qbj1))
def qbe5 : IC := zr [zm 46 5, zm 2 46, zv 3 (.mov (zc 0))]
def k0du : IC := (.seq qbpt (.seq (.seq qbnw (.cond (.t 9) (.seq qbwp .ret) .skip)) (.seq (.seq qbx8 (.block 0 (.loop qb1y))) (.seq qbef (.seq (.seq qbe6 (.block 2 (.loop qbfn))) (.seq qbe5 .ret))))))
@[go_sem] def s0du : List (RV × Co) := [(.t 2, .id), (.t 3, .id)]
theorem c0du : cFun Tryz.prog 74 = some (47, k0du, s0du) := by kernel_rfl

def qbtw : IC := zr [zv 2 zf]
def qb06 : IC := zr [zm 3 0, zv 4 (.bin .geq .no (.t 3) (.c (.int .u8 97))), zm 5 4, zw 5 true 6 (.mov (.t 0)), zw 5 true 7 (.bin .leq .no (.t 6) (.c (.int .u8 122))), zv 8 (.pick (.t 5) (.t 7) (.c (.bool false))), zm 9 8, zw 9 false 10 (.mov (.t 0)), zw 9 false 11 (.bin .eql .no (.t 10) (.c (.int .u8 95))), zv 12 (.pick (.t 9) (.c (.bool true)) (.t 11)), zm 2 12]
def k0dx : IC := (.seq qbtw (.seq qb06 .ret))
@[go_sem] def s0dx : List (RV × Co) := [(.t 2, .id)]
theorem c0dx : cFun Tryz.prog 75 = some (13, k0dx, s0dx) := by kernel_rfl

def qbww : IC := zr [zv 2 zf]
def qb9c : IC := zr [zm 3 0, zv 4 (.bin .geq .no (.t 3) (.c (.int .u8 65))), zm 5 4, zw 5 true 6 (.mov (.t 0)), zw 5 true 7 (.bin .leq .no (.t 6) (.c (.int .u8 90))), zv 8 (.pick (.t 5) (.t 7) (.c (.bool false))), zm 2 8]
def k0dz : IC := (.seq qbww (.seq qb9c .ret))
@[go_sem] def s0dz : List (RV × Co) := [(.t 2, .id)]
theorem c0dz : cFun Tryz.prog 76 = some (9, k0dz, s0dz) := by kernel_rfl

def qbrr : IC := zr [zv 2 zf]
def qbqa : IC := zr [zm 3 0, zi 4 (.call (.c (.fn 75 [] [])) [((.t 3), .id)]), zm 5 4, zw 5 false 6 (.mov (.t 0)), ⟨some (5, false), some 7, .call (.c (.fn 76 [] [])) [((.t 6), .id)]⟩, zv 8 (.pick (.t 5) (.c (.bool true)) (.t 7)), zm 9 8, zw 9 false 10 (.mov (.t 0)), ⟨some (9, false), some 11, .call (.c (.fn 73 [] [])) [((.t 10), .id)]⟩, zv 12 (.pick (.t 9) (.c (.bool true)) (.t 11)), zm 13 12, zw 13 false 14 (.mov (.t 0)), zw 13 false 15 (.bin .eql .no (.t 14) (.c (.int .u8 39))), zv 16 (.pick (.t 13) (.c (.bool true)) (.t 15)), zm 2 16]
def k0eb : IC := (.seq qbrr (.seq qbqa .ret))
@[go_sem] def s0eb : List (RV × Co) := [(.t 2, .id)]
theorem c0eb : cFun Tryz.prog 77 = some (17, k0eb, s0eb) := by kernel_rfl

def qb35 : IC := zr [zv 2 zf]
def qcc9 : IC := zr [zm 3 0]
def qb8f : IC := zr [zv 5 (.bin .eql .no (.t 3) (.c (.str [100, 97, 116, 97]))), zm 4 5]
def qbua : IC := zr [zv 6 (.bin .eql .no (.t 3) (.c (.str [99, 108, 97, 115, 115]))), zm 4 6]
def qb2y : IC := zr [zv 7 (.bin .eql .no (.t 3) (.c (.str [105, 110, 115, 116, 97, 110, 99, 101]))), zm 4 7]
def qcbq : IC := zr [zv 8 (.bin .eql .no (.t 3) (.c (.str [119, 104, 101, 114, 101]))), zm 4 8]
def qb6g : IC := zr [zv 9 (.bin .eql .no (.t 3) (.c (.str [108, 101, 116]))), zm 4 9]
def qbv0 : IC := zr [zv 10 (.bin .eql .no (.t 3) (.c (.str [105, 110]))), zm 4 10]
def qbwu : IC := zr [zv 11 (.bin .eql .no (.t 3) (.c (.str [99, 97, 115, 101]))), zm 4 11]
def qbsc : IC := zr [zv 12 (.bin .eql .no (.t 3) (.c (.str [111, 102]))), zm 4 12]
def qbcg : IC := zr [zv 13 (.bin .eql .no (.t 3) (.c (.str [105, 102]))), zm 4 13]
def qbjq : IC := zr [zv 14 (.bin .eql .no (.t 3) (.c (.str [116, 104, 101, 110]))), zm 4 14]
def qbfv : IC := zr [zv 15 (.bin .eql .no (.t 3) (.c (.str [101, 108, 115, 101]))), zm 4 15]
def qbcf : IC := zr [zv 2 (.mov (.c (.bool true)))]
def qbgl : IC := zr [zv 2 zf]
def k0ed : IC := (.seq qb35 (.seq (.seq qcc9 (.block 0 (.seq (.seq qb8f (.cond (.t 4) .skip (.seq qbua (.cond (.t 4) .skip (.seq qb2y (.cond (.t 4) .skip (.seq qcbq (.cond (.t 4) .skip (.seq qb6g (.cond (.t 4) .skip (.seq qbv0 (.cond (.t 4) .skip (.seq qbwu (.cond (.t 4) .skip (.seq qbsc (.cond (.t 4) .skip (.seq qbcg (.cond (.t 4) .skip (.seq qbjq (.cond (.t 4) .skip qbfv)))))))))))))))))))) (.cond (.t 4) (.seq qbcf .ret) .skip)))) (.seq qbgl .ret)))
@[go_sem] def s0ed : List (RV × Co) := [(.t 2, .id)]
theorem c0ed : cFun Tryz.prog 78 = some (16, k0ed, s0ed) := by kernel_rfl

def qbxn : IC := zr [zv 2 (.mov (.c (.str [])))]
def qb7l : IC := zr [zm 3 0, zv 4 (.len true (.t 3)), zv 5 (.bin .geq .no (.t 4) (zc 2))]
def qcdu : IC := zr [zm 6 0, zv 7 (.sls (.t 6) none (some (zc 2)))]
def qb6x : IC := zr [zv 9 (.bin .eql .no (.t 7) (.c (.str [45, 62]))), zm 8 9]
def qbsa : IC := zr [zv 10 (.bin .eql .no (.t 7) (.c (.str [61, 62]))), zm 8 10]
def qb31 : IC := zr [zv 11 (.bin .eql .no (.t 7) (.c (.str [58, 58]))), zm 8 11]
def qbut : IC := zr [zm 12 0, zv 13 (.sls (.t 12) none (some (zc 2))), zm 2 13]
def qcbn : IC := zr [zm 14 0, zv 15 (.idx (.t 14) (zc 0))]
def qb41 : IC := zr [zv 17 (.bin .eql .no (.t 15) (.c (.int .u8 40))), zm 16 17]
def qcc7 : IC := zr [zv 18 (.bin .eql .no (.t 15) (.c (.int .u8 41))), zm 16 18]
def qbd1 : IC := zr [zv 19 (.bin .eql .no (.t 15) (.c (.int .u8 123))), zm 16 19]
def qbkp : IC := zr [zv 20 (.bin .eql .no (.t 15) (.c (.int .u8 125))), zm 16 20]
def qbfr : IC := zr [zv 21 (.bin .eql .no (.t 15) (.c (.int .u8 59))), zm 16 21]
def qbfq : IC := zr [zv 22 (.bin .eql .no (.t 15) (.c (.int .u8 44))), zm 16 22]
def qbh9 : IC := zr [zv 23 (.bin .eql .no (.t 15) (.c (.int .u8 61))), zm 16 23]
def qbgv : IC := zr [zv 24 (.bin .eql .no (.t 15) (.c (.int .u8 124))), zm 16 24]
def qbhj : IC := zr [zv 25 (.bin .eql .no (.t 15) (.c (.int .u8 92))), zm 16 25]
def qbj8 : IC := zr [zm 26 0, zv 27 (.sls (.t 26) none (some (zc 1))), zm 2 27]
def qblp : IC := zr [zv 2 (.mov (.c (.str [])))]
def k0dk : IC := (.seq qbxn (.seq (.seq qb7l (.cond (.t 5) (.seq qcdu (.block 0 (.seq (.seq qb6x (.cond (.t 8) .skip (.seq qbsa (.cond (.t 8) .skip qb31)))) (.cond (.t 8) (.seq qbut .ret) .skip)))) .skip)) (.seq (.seq qcbn (.block 1 (.seq (.seq qb41 (.cond (.t 16) .skip (.seq qcc7 (.cond (.t 16) .skip (.seq qbd1 (.cond (.t 16) .skip (.seq qbkp (.cond (.t 16) .skip (.seq qbfr (.cond (.t 16) .skip (.seq qbfq (.cond (.t 16) .skip (.seq qbh9 (.cond (.t 16) .skip (.seq qbgv (.cond (.t 16) .skip qbhj)))))))))))))))) (.cond (.t 16) (.seq qbj8 .ret) .skip)))) (.seq qblp .ret))))
@[go_sem] def s0dk : List (RV × Co) := [(.t 2, .id)]
theorem c0dk : cFun Tryz.prog 79 = some (28, k0dk, s0dk) := by kernel_rfl

def qb19 : IC := zr [zi 2 (.box (.t 0)), zi 4 zaC, zi 5 zaT, zv 6 zf]
def qb7d : IC := zr [zv 9 (.fad (.t 2) 6), zv 10 (.ld false 1 (.t 9)), zv 11 (.bin .neq .no (.t 10) (zc 0)), zm 12 11, zw 12 false 13 (.ld true 8 (.t 2)), ⟨some (12, false), some 14, .call (.c (.fn 42 [] [])) [((.t 13), zC)]⟩, zw 12 false 15 (.fld false 1 0 (.t 14)), zw 12 false 16 (.mov (.t 1)), zw 12 false 17 (.bin .neq .no (.t 15) (.t 16)), zv 18 (.pick (.t 12) (.c (.bool true)) (.t 17))]
def qb1k : IC := zr [zv 19 (.ld true 8 (.t 2)), zi 20 (.call (.c (.fn 117 [] [])) [((.t 19), zC), ((zc 5), .id)]), zv 21 (.bld [(.int .i64 0), (.int .i64 0), (.int .i64 0), (.str [])] []), zn (.st 8 zC (.t 4) (.t 20)), zn (.st 4 .id (.t 5) (.t 21)), zv 6 zf]
def qbtd : IC := zr [zv 23 (.ld true 8 (.t 2)), zi 24 (.call (.c (.fn 47 [] [])) [((.t 23), zC)]), zm 22 24, zv 25 (.ext (.t 22) 0), zv 26 (.ext (.t 22) 1), zi 7 zaC, zi 8 zaT, zn (.st 8 zC (.t 7) (.t 25)), zn (.st 4 .id (.t 8) (.t 26))]
def qbul : IC := .drw [zp (zv 27 (.ld true 8 (.t 7))), zp (zv 28 (.ld true 4 (.t 8))), (zn (.st 8 zC (.t 4) (.t 27)), [1]), (zn (.st 4 .id (.t 5) (.t 28)), []), zp (zv 6 (.mov (.c (.bool true))))]
def k0ff : IC := (.seq qb19 (.seq (.seq qb7d (.cond (.t 18) (.seq qb1k .ret) .skip)) (.seq qbtd (.seq qbul .ret))))
@[go_sem] def s0ff : List (RV × Co) := [(.c true 8 4, zC), (.c true 4 5, .id), (.t 6, .id)]
theorem c0ff : cFun Tryz.prog 80 = some (29, k0ff, s0ff) := by kernel_rfl

def qbtj : IC := zr [zi 1 (.box (.t 0)), zi 2 zaC, zi 3 zaN]
def qbw9 : IC := zr [zv 6 (.ld true 8 (.t 1)), zi 7 (.call (.c (.fn 42 [] [])) [((.t 6), zC)]), zi 4 zaT, zn (.st 4 .id (.t 4) (.t 7))]
def qcbw : IC := zr [zv 9 (.fad (.t 1) 6), zv 10 (.ld false 1 (.t 9)), zv 11 (.bin .neq .no (.t 10) (zc 0)), zm 8 11]
def qb5x : IC := zr [zv 12 (.ld true 8 (.t 1)), zv 13 (.bld [(.int .i64 0), (.int .i64 0), (.int .i64 0), (.str []), .nils] []), zn (.st 8 zC (.t 2) (.t 12)), zn (.st 5 zN (.t 3) (.t 13))]
def qbwk : IC := zr [zv 15 (.fad (.t 4) 0), zv 16 (.ld false 1 (.t 15)), zv 17 (.bin .eql .no (.t 16) (zc 1)), zm 14 17]
def qbqo : IC := zr [zv 19 (.ld true 8 (.t 1)), zi 20 (.call (.c (.fn 47 [] [])) [((.t 19), zC)]), zm 18 20, zv 21 (.ext (.t 18) 0), zv 22 (.ext (.t 18) 1), zn (.st 8 zC (.t 1) (.t 21))]
def qcbt : IC := .drw [zp (zv 23 (.ld true 8 (.t 1))), zp (zv 24 (.fad (.t 4) 1)), zp (zv 25 (.ld false 1 (.t 24))), zp (zv 26 (.fad (.t 4) 3)), zp (zv 27 (.ld false 1 (.t 26))), (zv 28 (.bld [(.int .i64 0), (.int .i64 0), (.int .i64 0), (.str []), .nils] [(0, 1, (zc 1)), (1, 1, (.t 25)), (3, 1, (.t 27))]), []), (zn (.st 8 zC (.t 2) (.t 23)), [2, 4]), (zn (.st 5 zN (.t 3) (.t 28)), [])]
def qb9n : IC := zr [zv 30 (.fad (.t 4) 0), zv 31 (.ld false 1 (.t 30)), zv 32 (.bin .eql .no (.t 31) (zc 2)), zm 29 32]
def qb3f : IC := zr [zv 34 (.ld true 8 (.t 1)), zi 35 (.call (.c (.fn 47 [] [])) [((.t 34), zC)]), zm 33 35, zv 36 (.ext (.t 33) 0), zv 37 (.ext (.t 33) 1), zn (.st 8 zC (.t 1) (.t 36))]
def qccs : IC := .drw [zp (zv 38 (.ld true 8 (.t 1))), zp (zv 39 (.fad (.t 4) 1)), zp (zv 40 (.ld false 1 (.t 39))), zp (zv 41 (.fad (.t 4) 3)), zp (zv 42 (.ld false 1 (.t 41))), (zv 43 (.bld [(.int .i64 0), (.int .i64 0), (.int .i64 0), (.str []), .nils] [(0, 1, (zc 2)), (1, 1, (.t 40)), (3, 1, (.t 42))]), []), (zn (.st 8 zC (.t 2) (.t 38)), [2, 4]), (zn (.st 5 zN (.t 3) (.t 43)), [])]
def qbd3 : IC := zr [zv 45 (.ld true 8 (.t 1)), zi 46 (.call (.c (.fn 46 [] [])) [((.t 45), zC), ((.c (.str [40])), .id)]), zv 47 (.un .not (.t 46)), zm 44 47]
def qbkn : IC := zr [zv 48 (.ld true 8 (.t 1)), zi 49 (.call (.c (.fn 117 [] [])) [((.t 48), zC), ((zc 5), .id)]), zv 50 (.bld [(.int .i64 0), (.int .i64 0), (.int .i64 0), (.str []), .nils] []), zn (.st 8 zC (.t 2) (.t 49)), zn (.st 5 zN (.t 3) (.t 50))]
def qbhq : IC := zr [zv 52 (.ld true 8 (.t 1)), zi 53 (.call (.c (.fn 118 [] [])) [((.t 52), zC)]), zm 51 53, zv 54 (.ext (.t 51) 0), zv 55 (.ext (.t 51) 1), zn (.st 8 zC (.t 1) (.t 54))]
def qbf7 : IC := zr [zv 57 (.ld true 8 (.t 1)), zi 58 (.call (.c (.fn 82 [] [])) [((.t 57), zC), ((.c (.str [40])), .id)]), zm 56 58, zv 59 (.ext (.t 56) 0), zv 60 (.ext (.t 56) 1), zn (.st 8 zC (.t 1) (.t 59))]
def qbic : IC := zr [zv 62 (.ld true 8 (.t 1)), zi 63 (.call (.c (.fn 119 [] [])) [((.t 62), zC)]), zm 61 63, zv 64 (.ext (.t 61) 0), zv 65 (.ext (.t 61) 1), zi 5 zaN, zn (.st 8 zC (.t 1) (.t 64)), zn (.st 5 zN (.t 5) (.t 65))]
def qbgh : IC := zr [zv 67 (.ld true 8 (.t 1)), zi 68 (.call (.c (.fn 82 [] [])) [((.t 67), zC), ((.c (.str [41])), .id)]), zm 66 68, zv 69 (.ext (.t 66) 0), zv 70 (.ext (.t 66) 1), zn (.st 8 zC (.t 1) (.t 69))]
def qbhl : IC := .drw [zp (zv 71 (.ld true 8 (.t 1))), (zi 72 (.call (.c (.fn 120 [] [])) [((.t 71), zC)]), []), (zv 73 (.ld true 5 (.t 5)), [1]), (zn (.st 8 zC (.t 2) (.t 72)), [2]), (zn (.st 5 zN (.t 3) (.t 73)), [])]
def k0gb : IC := (.seq qbtj (.seq qbw9 (.seq (.block 0 (.seq qcbw (.cond (.t 8) (.seq qb5x .ret) (.seq qbwk (.cond (.t 14) (.seq qbqo (.seq qcbt .ret)) (.seq qb9n (.cond (.t 29) (.seq qb3f (.seq qccs .ret)) (.seq qbd3 (.cond (.t 44) (.seq qbkn .ret) .skip))))))))) (.seq qbhq (.seq qbf7 (.seq qbic (.seq qbgh (.seq qbhl .ret))))))))
@[go_sem] def s0gb : List (RV × Co) := [(.c true 8 2, zC), (.c true 5 3, zN)]
theorem c0gb : cFun Tryz.prog 81 = some (74, k0gb, s0gb) := by kernel_rfl

def qb7r : IC := zr [zi 2 (.box (.t 0)), zi 4 zaC, zv 5 zf]
def qby0 : IC := zr [zv 9 (.ld true 8 (.t 2)), zm 10 1, zi 11 (.call (.c (.fn 23 [] [])) [((.t 9), zC), ((.t 10), .id)]), zm 8 11, zv 12 (.ext (.t 8) 0), zv 13 (.ext (.t 8) 1), zi 6 zaC, zn (.st 8 zC (.t 6) (.t 12)), zm 7 13]
def qbz1 : IC := zr [zm 14 7, zv 15 (.un .not (.t 14))]
def qcah : IC := zr [zv 16 (.ld true 8 (.t 2)), zi 17 (.call (.c (.fn 117 [] [])) [((.t 16), zC), ((zc 5), .id)]), zn (.st 8 zC (.t 4) (.t 17)), zv 5 zf]
def qbvo : IC := zr [zv 18 (.ld true 8 (.t 6)), zn (.st 8 zC (.t 4) (.t 18)), zv 5 (.mov (.c (.bool true)))]
def k0cl : IC := (.seq qb7r (.seq qby0 (.seq (.seq qbz1 (.cond (.t 15) (.seq qcah .ret) .skip)) (.seq qbvo .ret))))
@[go_sem] def s0cl : List (RV × Co) := [(.c true 8 4, zC), (.t 5, .id)]
theorem c0cl : cFun Tryz.prog 82 = some (19, k0cl, s0cl) := by kernel_rfl

def qcez : IC := zr [zi 1 (.box (.t 0)), zi 2 zaC, zi 3 zaN]
def qchw : IC := zr [zv 10 (.ld true 8 (.t 1)), zi 11 (.call (.c (.fn 80 [] [])) [((.t 10), zC), ((zc 2), .id)]), zm 9 11, zv 12 (.ext (.t 9) 0), zv 13 (.ext (.t 9) 1), zv 14 (.ext (.t 9) 2), zi 4 zaT, zn (.st 8 zC (.t 1) (.t 12)), zn (.st 4 .id (.t 4) (.t 13)), zm 5 14]
def qce8 : IC := zr [zv 15 (.fad (.t 4) 1), zv 16 (.ld false 1 (.t 15)), zv 17 (.fad (.t 4) 3), zv 18 (.ld false 1 (.t 17)), zv 19 (.bld [(.int .i64 0), (.int .i64 0), (.int .i64 0), (.str []), .nils] [(0, 1, (zc 34)), (1, 1, (.t 16)), (3, 1, (.t 18))]), zi 6 zaN, zn (.st 5 zN (.t 6) (.t 19))]
def qcit : IC := zr [zv 20 (.ld true 8 (.t 1)), zi 21 (.call (.c (.fn 121 [] [])) [((.t 20), zC)])]
def qci4 : IC := zr [zv 23 (.ld true 8 (.t 1)), zi 24 (.call (.c (.fn 81 [] [])) [((.t 23), zC)]), zm 22 24, zv 25 (.ext (.t 22) 0), zv 26 (.ext (.t 22) 1), zi 7 zaC, zi 8 zaN, zn (.st 8 zC (.t 7) (.t 25)), zn (.st 5 zN (.t 8) (.t 26))]
def qcey : IC := zr [zv 27 (.ld true 8 (.t 7)), zn (.st 8 zC (.t 1) (.t 27))]
def qcib : IC := zr [zv 28 (.fad (.t 6) 4), zv 29 (.ld false 1 (.t 28)), zv 30 (.ld true 5 (.t 8)), zv 31 (.bsl 5 [((.t 30), zN)]), zi 32 (.app 5 zZ 64 (.sl 5) (.t 29) (.t 31)), zv 33 (.fad (.t 6) 4), zn (.st 1 (.sl 5) (.t 33) (.t 32))]
def qchj : IC := (.seq (.seq qcit (.cond (.t 21) .skip (.exit 0))) (.block 1 (.seq qci4 (.seq qcey qcib))))
def qce3 : IC := .drw [zp (zv 34 (.ld true 8 (.t 1))), zp (zv 35 (.ld true 5 (.t 6))), (zn (.st 8 zC (.t 2) (.t 34)), [1]), (zn (.st 5 zN (.t 3) (.t 35)), [])]
def k0g : IC := (.seq qcez (.seq qchw (.seq qce8 (.seq (.block 0 (.loop qchj)) (.seq qce3 .ret)))))
@[go_sem] def s0g : List (RV × Co) := [(.c true 8 2, zC), (.c true 5 3, zN)]
theorem c0g : cFun Tryz.prog 83 = some (36, k0g, s0g) := by kernel_rfl

def qbrl : IC := zr [zi 1 (.box (.t 0)), zi 2 zaC, zv 3 (.mov (.c .nils))]
def qb5s : IC := zr [zv 12 (.ld true 8 (.t 1)), zi 13 (.call (.c (.fn 122 [] [])) [((.t 12), zC), ((.c (.str [61, 62])), .id)]), zv 14 (.un .not (.t 13))]
def qb9t : IC := zr [zv 15 (.ld true 8 (.t 1)), zn (.st 8 zC (.t 2) (.t 15)), zv 3 (.mov (.c .nils))]
def qccb : IC := zr [zv 4 (.mov (.c .nils))]
def qbrm : IC := zr [zv 17 (.ld true 8 (.t 1)), zi 18 (.call (.c (.fn 23 [] [])) [((.t 17), zC), ((.c (.str [40])), .id)]), zm 16 18, zv 19 (.ext (.t 16) 0), zv 20 (.ext (.t 16) 1), zi 5 zaC, zn (.st 8 zC (.t 5) (.t 19)), zm 6 20]
def qbt4 : IC := zr [zm 21 6, zv 22 (.un .not (.t 21))]
def qb2v : IC := zr [zv 24 (.ld true 8 (.t 1)), zi 25 (.call (.c (.fn 123 [] [])) [((.t 24), zC)]), zm 23 25, zv 26 (.ext (.t 23) 0), zv 27 (.ext (.t 23) 1), zi 7 zaC, zi 8 zaN, zn (.st 8 zC (.t 7) (.t 26)), zn (.st 5 zN (.t 8) (.t 27))]
def qbm2 : IC := zr [zv 29 (.ld true 8 (.t 7)), zi 30 (.call (.c (.fn 82 [] [])) [((.t 29), zC), ((.c (.str [61, 62])), .id)]), zm 28 30, zv 31 (.ext (.t 28) 0), zv 32 (.ext (.t 28) 1), zn (.st 8 zC (.t 7) (.t 31))]
def qb2r : IC := .drw [zp (zv 33 (.ld true 8 (.t 7))), zp (zv 34 (.ld true 5 (.t 8))), (zv 35 (.bsl 5 [((.t 34), zN)]), []), (zn (.st 8 zC (.t 2) (.t 33)), [1, 2]), zp (zm 3 35)]
def qbu2 : IC := zr [zv 36 (.ld true 8 (.t 5)), zi 37 (.call (.c (.fn 46 [] [])) [((.t 36), zC), ((.c (.str [41])), .id)]), zv 38 (.un .not (.t 37))]
def qbel : IC := zr [zv 9 (.mov (.c (.bool true)))]
def qbkz : IC := zr [zm 39 9]
def qbei : IC := zr [zv 41 (.ld true 8 (.t 5)), zi 42 (.call (.c (.fn 123 [] [])) [((.t 41), zC)]), zm 40 42, zv 43 (.ext (.t 40) 0), zv 44 (.ext (.t 40) 1), zi 10 zaC, zi 11 zaN, zn (.st 8 zC (.t 10) (.t 43)), zn (.st 5 zN (.t 11) (.t 44))]
def qbh8 : IC := zr [zm 45 4, zv 46 (.ld true 5 (.t 11)), zv 47 (.bsl 5 [((.t 46), zN)]), zi 48 (.app 5 zZ 64 (.sl 5) (.t 45) (.t 47)), zm 4 48]
def qbfa : IC := zr [zv 50 (.ld true 8 (.t 10)), zi 51 (.call (.c (.fn 23 [] [])) [((.t 50), zC), ((.c (.str [44])), .id)]), zm 49 51, zv 52 (.ext (.t 49) 0), zv 53 (.ext (.t 49) 1), zn (.st 8 zC (.t 5) (.t 52)), zm 9 53]
def qbiq : IC := (.seq (.seq qbkz (.cond (.t 39) .skip (.exit 0))) (.block 1 (.seq qbei (.seq qbh8 qbfa))))
def qbb9 : IC := zr [zv 55 (.ld true 8 (.t 5)), zi 56 (.call (.c (.fn 82 [] [])) [((.t 55), zC), ((.c (.str [41])), .id)]), zm 54 56, zv 57 (.ext (.t 54) 0), zv 58 (.ext (.t 54) 1), zn (.st 8 zC (.t 5) (.t 57))]
def qbk0 : IC := zr [zv 60 (.ld true 8 (.t 5)), zi 61 (.call (.c (.fn 82 [] [])) [((.t 60), zC), ((.c (.str [61, 62])), .id)]), zm 59 61, zv 62 (.ext (.t 59) 0), zv 63 (.ext (.t 59) 1), zn (.st 8 zC (.t 5) (.t 62))]
def qbjx : IC := zr [zv 64 (.ld true 8 (.t 5)), zm 65 4, zn (.st 8 zC (.t 2) (.t 64)), zm 3 65]
def k0fy : IC := (.seq qbrl (.seq (.seq qb5s (.cond (.t 14) (.seq qb9t .ret) .skip)) (.seq qccb (.seq qbrm (.seq (.seq qbt4 (.cond (.t 22) (.seq qb2v (.seq qbm2 (.seq qb2r .ret))) .skip)) (.seq (.seq qbu2 (.cond (.t 38) (.seq qbel (.block 0 (.loop qbiq))) .skip)) (.seq qbb9 (.seq qbk0 (.seq qbjx .ret)))))))))
@[go_sem] def s0fy : List (RV × Co) := [(.c true 8 2, zC), (.t 3, (.sl 5))]
theorem c0fy : cFun Tryz.prog 84 = some (66, k0fy, s0fy) := by kernel_rfl

def qcf8 : IC := zr [zi 2 (.box (.t 0)), zi 4 zaC, zv 5 (.mov (.c .nils))]
def qche : IC := zr [zv 12 (.ld true 8 (.t 2)), zi 13 (.call (.c (.fn 82 [] [])) [((.t 12), zC), ((.c (.str [119, 104, 101, 114, 101])), .id)]), zm 11 13, zv 14 (.ext (.t 11) 0), zv 15 (.ext (.t 11) 1), zn (.st 8 zC (.t 2) (.t 14))]
def qcio : IC := zr [zv 17 (.ld true 8 (.t 2)), zi 18 (.call (.c (.fn 82 [] [])) [((.t 17), zC), ((.c (.str [123])), .id)]), zm 16 18, zv 19 (.ext (.t 16) 0), zv 20 (.ext (.t 16) 1), zn (.st 8 zC (.t 2) (.t 19))]
def qcei : IC := zr [zv 6 (.mov (.c .nils))]
def qcjg : IC := zr [zv 21 (.fad (.t 2) 6), zv 22 (.ld false 1 (.t 21)), zv 23 (.bin .eql .no (.t 22) (zc 0)), zm 24 23, zw 24 true 25 (.ld true 8 (.t 2)), ⟨some (24, true), some 26, .call (.c (.fn 46 [] [])) [((.t 25), zC), ((.c (.str [125])), .id)]⟩, zw 24 true 27 (.un .not (.t 26)), zv 28 (.pick (.t 24) (.t 27) (.c (.bool false))), zm 7 28]
def qcev : IC := zr [zm 29 7]
def qcff : IC := zr [zv 31 (.ld true 8 (.t 2)), zi 32 (.call (.c (.fn 45 [] [])) [((.t 31), zC)]), zm 30 32, zv 33 (.ext (.t 30) 0), zv 34 (.ext (.t 30) 1), zi 8 zaC, zi 9 zaN, zn (.st 8 zC (.t 8) (.t 33)), zn (.st 5 zN (.t 9) (.t 34))]
def qck0 : IC := zr [zv 35 (.fad (.t 8) 6), zv 36 (.ld false 1 (.t 35)), zv 37 (.bin .eql .no (.t 36) (zc 0)), zm 38 37, zw 38 true 39 (.fad (.t 9) 0), zw 38 true 40 (.ld false 1 (.t 39)), zw 38 true 41 (.mov (.t 1)), zw 38 true 42 (.bin .neq .no (.t 40) (.t 41)), zv 43 (.pick (.t 38) (.t 42) (.c (.bool false)))]
def qce6 : IC := zr [zv 44 (.ld true 8 (.t 8)), zi 45 (.call (.c (.fn 117 [] [])) [((.t 44), zC), ((zc 5), .id)]), zn (.st 8 zC (.t 8) (.t 45))]
def qbm6 : IC := zr [zm 46 6, zv 47 (.ld true 5 (.t 9)), zv 48 (.bsl 5 [((.t 47), zN)]), zi 49 (.app 5 zZ 64 (.sl 5) (.t 46) (.t 48)), zm 6 49]
def qccm : IC := zr [zv 51 (.ld true 8 (.t 8)), zi 52 (.call (.c (.fn 23 [] [])) [((.t 51), zC), ((.c (.str [59])), .id)]), zm 50 52, zv 53 (.ext (.t 50) 0), zv 54 (.ext (.t 50) 1), zn (.st 8 zC (.t 8) (.t 53)), zm 10 54]
def qb53 : IC := zr [zm 55 10, zm 56 55, zw 56 true 57 (.ld true 8 (.t 8)), ⟨some (56, true), some 58, .call (.c (.fn 46 [] [])) [((.t 57), zC), ((.c (.str [125])), .id)]⟩, zw 56 true 59 (.un .not (.t 58)), zv 60 (.pick (.t 56) (.t 59) (.c (.bool false))), zm 7 60]
def qbs4 : IC := zr [zv 61 (.ld true 8 (.t 8)), zn (.st 8 zC (.t 2) (.t 61))]
def qchi : IC := (.seq (.seq qcev (.cond (.t 29) .skip (.exit 0))) (.block 1 (.seq qcff (.seq (.seq qck0 (.cond (.t 43) qce6 .skip)) (.seq qbm6 (.seq qccm (.seq qb53 qbs4)))))))
def qb8e : IC := zr [zv 63 (.ld true 8 (.t 2)), zi 64 (.call (.c (.fn 82 [] [])) [((.t 63), zC), ((.c (.str [125])), .id)]), zm 62 64, zv 65 (.ext (.t 62) 0), zv 66 (.ext (.t 62) 1), zn (.st 8 zC (.t 2) (.t 65))]
def qbwo : IC := zr [zv 67 (.ld true 8 (.t 2)), zm 68 6, zn (.st 8 zC (.t 4) (.t 67)), zm 5 68]
def k0d : IC := (.seq qcf8 (.seq qche (.seq qcio (.seq qcei (.seq qcjg (.seq (.block 0 (.loop qchi)) (.seq qb8e (.seq qbwo .ret))))))))
@[go_sem] def s0d : List (RV × Co) := [(.c true 8 4, zC), (.t 5, (.sl 5))]
theorem c0d : cFun Tryz.prog 85 = some (69, k0d, s0d) := by kernel_rfl

def qbxd : IC := zr [zi 1 (.box (.t 0)), zi 2 zaC, zi 3 zaN]
def qb8h : IC := zr [zv 7 (.ld true 8 (.t 1)), zi 8 (.call (.c (.fn 42 [] [])) [((.t 7), zC)]), zv 9 (.fld false 1 1 (.t 8)), zm 4 9]
def qb0c : IC := zr [zv 11 (.ld true 8 (.t 1)), zi 12 (.call (.c (.fn 84 [] [])) [((.t 11), zC)]), zm 10 12, zv 13 (.ext (.t 10) 0), zv 14 (.ext (.t 10) 1), zn (.st 8 zC (.t 1) (.t 13)), zm 5 14]
def qbxk : IC := zr [zv 16 (.ld true 8 (.t 1)), zi 17 (.call (.c (.fn 119 [] [])) [((.t 16), zC)]), zm 15 17, zv 18 (.ext (.t 15) 0), zv 19 (.ext (.t 15) 1), zi 6 zaN, zn (.st 8 zC (.t 1) (.t 18)), zn (.st 5 zN (.t 6) (.t 19))]
def qboq : IC := .drw [zp (zv 20 (.ld true 8 (.t 1))), zp (zm 21 4), zp (zm 22 5), (zi 23 (.app 5 zZ 64 (.sl 5) (.c .nils) (.t 22)), [0]), (zv 24 (.ld true 5 (.t 6)), [3]), (zv 25 (.bsl 5 [((.t 24), zN)]), [3]), (zi 26 (.app 5 zZ 64 (.sl 5) (.t 23) (.t 25)), [0]), (zv 27 (.bld [(.int .i64 0), (.int .i64 0), (.int .i64 0), (.str []), .nils] [(0, 1, (zc 4)), (1, 1, (.t 21)), (4, 1, (.t 26))]), []), (zn (.st 8 zC (.t 2) (.t 20)), []), (zn (.st 5 zN (.t 3) (.t 27)), [])]
def k0fz : IC := (.seq qbxd (.seq qb8h (.seq qb0c (.seq qbxk (.seq qboq .ret)))))
@[go_sem] def s0fz : List (RV × Co) := [(.c true 8 2, zC), (.c true 5 3, zN)]
theorem c0fz : cFun Tryz.prog 86 = some (28, k0fz, s0fz) := by kernel_rfl

def qb1f : IC := zr [zi 1 (.box (.t 0)), zi 2 zaC, zv 3 (.mov (.c .nils))]
def qb1v : IC := zr [zv 4 (.mov (.c .nils))]
def qb6f : IC := zr [zv 7 (.fad (.t 1) 6), zv 8 (.ld false 1 (.t 7)), zv 9 (.bin .eql .no (.t 8) (zc 0)), zm 10 9, zw 10 true 11 (.ld true 8 (.t 1)), ⟨some (10, true), some 12, .call (.c (.fn 42 [] [])) [((.t 11), zC)]⟩, zw 10 true 13 (.fld false 1 0 (.t 12)), zw 10 true 14 (.bin .eql .no (.t 13) (zc 1)), zv 15 (.pick (.t 10) (.t 14) (.c (.bool false)))]
def qb0i : IC := zr [zv 17 (.ld true 8 (.t 1)), zi 18 (.call (.c (.fn 47 [] [])) [((.t 17), zC)]), zm 16 18, zv 19 (.ext (.t 16) 0), zv 20 (.ext (.t 16) 1), zi 5 zaC, zi 6 zaT, zn (.st 8 zC (.t 5) (.t 19)), zn (.st 4 .id (.t 6) (.t 20))]
def qbyy : IC := zr [zv 21 (.ld true 8 (.t 5)), zn (.st 8 zC (.t 1) (.t 21))]
def qbo8 : IC := zr [zm 22 4, zv 23 (.ld true 4 (.t 6)), zv 24 (.bsl 4 [((.t 23), .id)]), zi 25 (.app 4 (.agg [(.int .i64 0), (.int .i64 0), (.int .i64 0), (.str [])]) 40 (.sl 4) (.t 22) (.t 24)), zm 4 25]
def qbr9 : IC := (.seq (.seq qb6f (.cond (.t 15) .skip (.exit 0))) (.block 1 (.seq qb0i (.seq qbyy qbo8))))
def qb0l : IC := zr [zv 26 (.ld true 8 (.t 1)), zm 27 4, zn (.st 8 zC (.t 2) (.t 26)), zm 3 27]
def k0ft : IC := (.seq qb1f (.seq qb1v (.seq (.block 0 (.loop qbr9)) (.seq qb0l .ret))))
@[go_sem] def s0ft : List (RV × Co) := [(.c true 8 2, zC), (.t 3, (.sl 4))]
theorem c0ft : cFun Tryz.prog 87 = some (28, k0ft, s0ft) := by kernel_rfl

def qb5i : IC := zr [zi 1 (.box (.t 0)), zi 2 zaC, zi 3 zaN]
def qbzm : IC := zr [zv 6 (.ld true 8 (.t 1)), zi 7 (.call (.c (.fn 118 [] [])) [((.t 6), zC)]), zm 5 7, zv 8 (.ext (.t 5) 0), zv 9 (.ext (.t 5) 1), zn (.st 8 zC (.t 1) (.t 8))]
def qcci : IC := zr [zv 11 (.ld true 8 (.t 1)), zi 12 (.call (.c (.fn 124 [] [])) [((.t 11), zC)]), zm 10 12, zv 13 (.ext (.t 10) 0), zv 14 (.ext (.t 10) 1), zi 4 zaN, zn (.st 8 zC (.t 1) (.t 13)), zn (.st 5 zN (.t 4) (.t 14))]
def qb2a : IC := .drw [zp (zv 15 (.ld true 8 (.t 1))), (zi 16 (.call (.c (.fn 120 [] [])) [((.t 15), zC)]), []), (zv 17 (.ld true 5 (.t 4)), [1]), (zn (.st 8 zC (.t 2) (.t 16)), [2]), (zn (.st 5 zN (.t 3) (.t 17)), [])]
def k0fj : IC := (.seq qb5i (.seq qbzm (.seq qcci (.seq qb2a .ret))))
@[go_sem] def s0fj : List (RV × Co) := [(.c true 8 2, zC), (.c true 5 3, zN)]
theorem c0fj : cFun Tryz.prog 88 = some (18, k0fj, s0fj) := by kernel_rfl

def qbzb : IC := zr [zi 3 (.box (.t 1)), zi 4 zaN]
def qb20 : IC := zr [zm 6 0, zv 7 (.len false (.t 6)), zv 8 (.bin .sub .no (.t 7) (zc 1)), zm 5 8]
def qb6t : IC := zr [zm 9 5, zv 10 (.bin .geq .no (.t 9) (zc 0))]
def qb1o : IC := .drw [zp (zm 13 0), zp (zm 14 5), zp (zv 15 (.iad 4 (.t 13) (.t 14))), zp (zv 16 (.fad (.t 15) 1)), zp (zv 17 (.ld false 1 (.t 16))), zp (zm 18 0), zp (zm 19 5), zp (zv 20 (.iad 4 (.t 18) (.t 19))), zp (zv 21 (.fad (.t 20) 3)), zp (zv 22 (.ld false 1 (.t 21))), zp (zv 23 (.ld true 5 (.t 3))), (zv 24 (.bsl 5 [((.t 23), zN)]), []), (zv 25 (.bld [(.int .i64 0), (.int .i64 0), (.int .i64 0), (.str []), .nils] [(0, 1, (zc 25)), (1, 1, (.t 17)), (3, 1, (.t 22)), (4, 1, (.t 24))]), []), (zn (.st 5 zN (.t 3) (.t 25)), [])]
def qb8p : IC := zr [zm 11 5, zv 12 (.bin .sub .no (.t 11) (zc 1)), zm 5 12]
def qbn3 : IC := (.seq (.seq qb6t (.cond (.t 10) .skip (.exit 0))) (.seq (.block 1 qb1o) qb8p))
def qbob : IC := zr [zv 26 (.ld true 5 (.t 3)), zn (.st 5 zN (.t 4) (.t 26))]
def k0fn : IC := (.seq qbzb (.seq (.seq qb20 (.block 0 (.loop qbn3))) (.seq qbob .ret)))
@[go_sem] def s0fn : List (RV × Co) := [(.c true 5 4, zN)]
theorem c0fn : cFun Tryz.prog 89 = some (27, k0fn, s0fn) := by kernel_rfl

def qccc : IC := zr [zi 2 (.box (.t 0)), zv 4 zf]
def qbsr : IC := zr [zv 5 (.fad (.t 2) 0), zv 6 (.ld false 1 (.t 5)), zv 7 (.bin .eql .no (.t 6) (zc 4)), zm 8 7, zw 8 false 9 (.fad (.t 2) 0), zw 8 false 10 (.ld false 1 (.t 9)), zw 8 false 11 (.bin .eql .no (.t 10) (zc 5)), zv 12 (.pick (.t 8) (.c (.bool true)) (.t 11)), zm 13 12, zw 13 true 14 (.fad (.t 2) 3), zw 13 true 15 (.ld false 1 (.t 14)), zw 13 true 16 (.mov (.t 1)), zw 13 true 17 (.bin .eql .no (.t 15) (.t 16)), zv 18 (.pick (.t 13) (.t 17) (.c (.bool false))), zm 4 18]
def k0ch : IC := (.seq qccc (.seq qbsr .ret))
@[go_sem] def s0ch : List (RV × Co) := [(.t 4, .id)]
theorem c0ch : cFun Tryz.prog 90 = some (19, k0ch, s0ch) := by kernel_rfl

def qbuz : IC := zr [zv 4 (.ld true 5 (.t 1)), zv 5 (.ld false 1 (.t 2)), zm 6 0, zi 7 (.call (.c (.fn 92 [] [])) [((.t 4), zN), ((.t 5), .id), ((.t 6), .id)])]
def k0fa : IC := qbuz
@[go_sem] def s0fa : List (RV × Co) := []
theorem c0fa : cFun Tryz.prog 91 = some (8, k0fa, s0fa) := by kernel_rfl

def qcdf : IC := zr [zi 3 (.box (.t 0)), zv 6 zf]
def qb27 : IC := zr [zm 9 2, zm 10 1, zv 11 (.ld true 5 (.t 3)), zi 12 (.call (.t 9) [((.t 10), .id), ((.t 11), zN)]), zv 13 (.un .not (.t 12))]
def qbyp : IC := zr [zv 6 zf]
def qbsx : IC := zr [zv 14 (.fad (.t 3) 4), zv 15 (.ld false 1 (.t 14)), zv 16 (.len false (.t 15)), zv 17 (.mov (zc 0))]
def qb0p : IC := zr [zv 18 (.bin .lss .no (.t 17) (.t 16))]
def qb9k : IC := zr [zv 19 (.iad 5 (.t 15) (.t 17)), zv 20 (.ld true 5 (.t 19)), zi 8 zaN, zn (.st 5 zN (.t 8) (.t 20))]
def qb9i : IC := zr [zv 21 (.ld true 5 (.t 8)), zm 22 1, zv 23 (.bin .add .no (.t 22) (zc 1)), zm 24 2, zi 25 (.call (.c (.fn 92 [] [])) [((.t 21), zN), ((.t 23), .id), ((.t 24), .id)]), zv 26 (.un .not (.t 25))]
def qcbv : IC := zr [zv 6 zf]
def qbu8 : IC := zr [zv 27 (.bin .add .no (.t 17) (zc 1)), zm 17 27]
def qcbl : IC := (.seq qb0p (.seq (.cond (.t 18) .skip (.exit 0)) (.seq (.block 1 (.seq qb9k (.seq qb9i (.cond (.t 26) (.seq qcbv .ret) .skip)))) qbu8)))
def qbct : IC := zr [zv 6 (.mov (.c (.bool true)))]
def k0ez : IC := (.seq qcdf (.seq (.seq qb27 (.cond (.t 13) (.seq qbyp .ret) .skip)) (.seq (.seq qbsx (.block 0 (.loop qcbl))) (.seq qbct .ret))))
@[go_sem] def s0ez : List (RV × Co) := [(.t 6, .id)]
theorem c0ez : cFun Tryz.prog 92 = some (28, k0ez, s0ez) := by kernel_rfl

def qcbd : IC := zr [zi 2 (.box (.t 0)), zv 4 zf]
def qccx : IC := zr [zv 5 (.fad (.t 2) 2), zv 6 (.ld false 1 (.t 5)), zv 7 (.bin .eql .no (.t 6) (zc 0)), zm 8 7, zw 8 true 9 (.mov (.t 1)), zw 8 true 10 (.fad (.t 2) 3), zw 8 true 11 (.ld false 1 (.t 10)), ⟨some (8, true), some 12, .call (.t 9) [((.t 11), .id)]⟩, zv 13 (.pick (.t 8) (.t 12) (.c (.bool false))), zm 4 13]
def k0ev : IC := (.seq qcbd (.seq qccx .ret))
@[go_sem] def s0ev : List (RV × Co) := [(.t 4, .id)]
theorem c0ev : cFun Tryz.prog 93 = some (14, k0ev, s0ev) := by kernel_rfl

def qbur : IC := zr [zv 2 zf]
def qbqf : IC := zr [zm 3 0, zv 4 (.bin .neq .no (.t 3) (.c (.str []))), zm 5 4, zw 5 true 6 (.mov (.t 0)), zw 5 true 7 (.bin .neq .no (.t 6) (.c (.str [95]))), zv 8 (.pick (.t 5) (.t 7) (.c (.bool false))), zm 9 8, zw 9 true 10 (.mov (.t 0)), zw 9 true 11 (.idx (.t 10) (zc 0)), ⟨some (9, true), some 12, .call (.c (.fn 125 [] [])) [((.t 11), .id)]⟩, zv 13 (.pick (.t 9) (.t 12) (.c (.bool false))), zm 14 13, zw 14 true 15 (.mov (.t 0)), ⟨some (14, true), some 16, .call (.c (.fn 98 [] [])) [((.t 15), .id)]⟩, zv 17 (.pick (.t 14) (.t 16) (.c (.bool false))), zm 18 17, zw 18 true 19 (.mov (.t 0)), ⟨some (18, true), some 20, .call (.c (.fn 126 [] [])) [((.t 19), .id)]⟩, zw 18 true 21 (.un .not (.t 20)), zv 22 (.pick (.t 18) (.t 21) (.c (.bool false))), zm 2 22]
def k0eg : IC := (.seq qbur (.seq qbqf .ret))
@[go_sem] def s0eg : List (RV × Co) := [(.t 2, .id)]
theorem c0eg : cFun Tryz.prog 94 = some (23, k0eg, s0eg) := by kernel_rfl

def qb2q : IC := zr [zi 1 (.box (.t 0)), zv 2 zf]
def qb0m : IC := zr [zv 5 (.fad (.t 1) 4), zv 6 (.ld false 1 (.t 5)), zv 7 (.len false (.t 6)), zm 3 7]
def qb6i : IC := zr [zv 8 (.fad (.t 1) 0), zv 9 (.ld false 1 (.t 8))]
def qcba : IC := zr [zv 11 (.bin .eql .no (.t 9) (zc 21)), zm 10 11]
def qbof : IC := zr [zv 12 (.ld true 5 (.t 1)), zi 13 (.call (.c (.fn 93 [] [])) [((.t 12), zN), ((.c (.fn 94 [] [])), .id)]), zm 14 13, zw 14 true 15 (.mov (.t 3)), zw 14 true 16 (.bin .eql .no (.t 15) (zc 0)), zv 17 (.pick (.t 14) (.t 16) (.c (.bool false))), zm 2 17]
def qcd7 : IC := zr [zv 19 (.bin .eql .no (.t 9) (zc 22)), zm 18 19]
def qb97 : IC := zr [zv 20 (.ld true 5 (.t 1)), zi 21 (.call (.c (.fn 93 [] [])) [((.t 20), zN), ((.c (.fn 53 [] [])), .id)]), zm 22 21, zw 22 true 23 (.mov (.t 3)), zw 22 true 24 (.bin .eql .no (.t 23) (zc 0)), zv 25 (.pick (.t 22) (.t 24) (.c (.bool false))), zm 2 25]
def qbt1 : IC := zr [zv 27 (.bin .eql .no (.t 9) (zc 23)), zm 26 27]
def qb57 : IC := zr [zv 28 (.fad (.t 1) 3), zv 29 (.ld false 1 (.t 28)), zv 30 (.bin .eql .no (.t 29) (.c (.str []))), zm 31 30, zw 31 true 32 (.fad (.t 1) 2), zw 31 true 33 (.ld false 1 (.t 32)), zw 31 true 34 (.bin .geq .no (.t 33) (zc 0)), zv 35 (.pick (.t 31) (.t 34) (.c (.bool false))), zm 36 35, zw 36 true 37 (.mov (.t 3)), zw 36 true 38 (.bin .eql .no (.t 37) (zc 0)), zv 39 (.pick (.t 36) (.t 38) (.c (.bool false))), zm 2 39]
def qbxt : IC := zr [zv 41 (.bin .eql .no (.t 9) (zc 24)), zm 40 41]
def qbee : IC := zr [zv 42 (.ld true 5 (.t 1)), zi 43 (.call (.c (.fn 26 [] [])) [((.t 42), zN)]), zm 44 43, zw 44 true 45 (.mov (.t 3)), zw 44 true 46 (.bin .eql .no (.t 45) (zc 2)), zv 47 (.pick (.t 44) (.t 46) (.c (.bool false))), zm 48 47, zw 48 true 49 (.fad (.t 1) 4), zw 48 true 50 (.ld false 1 (.t 49)), ⟨some (48, true), some 51, .call (.c (.fn 27 [] [])) [((.t 50), (.sl 5)), ((.c (.fn 95 [] [])), .id)]⟩, zv 52 (.pick (.t 48) (.t 51) (.c (.bool false))), zm 2 52]
def qbfe : IC := zr [zv 54 (.bin .eql .no (.t 9) (zc 25)), zm 53 54]
def qber : IC := zr [zv 55 (.ld true 5 (.t 1)), zi 56 (.call (.c (.fn 93 [] [])) [((.t 55), zN), ((.c (.fn 94 [] [])), .id)]), zm 57 56, zw 57 true 58 (.mov (.t 3)), zw 57 true 59 (.bin .eql .no (.t 58) (zc 1)), zv 60 (.pick (.t 57) (.t 59) (.c (.bool false))), zm 61 60, zw 61 true 62 (.fad (.t 1) 4), zw 61 true 63 (.ld false 1 (.t 62)), zw 61 true 64 (.iad 5 (.t 63) (zc 0)), zw 61 true 65 (.ld true 5 (.t 64)), ⟨some (61, true), some 66, .call (.c (.fn 95 [] [])) [((.t 65), zN)]⟩, zv 67 (.pick (.t 61) (.t 66) (.c (.bool false))), zm 2 67]
def qbl0 : IC := zr [zv 69 (.bin .eql .no (.t 9) (zc 26)), zm 68 69]
def qbg4 : IC := zr [zv 4 (.mov (.c (.fn 127 [] [])))]
def qbke : IC := zr [zv 70 (.ld true 5 (.t 1)), zi 71 (.call (.c (.fn 26 [] [])) [((.t 70), zN)]), zm 72 71, zw 72 true 73 (.mov (.t 3)), zw 72 true 74 (.bin .geq .no (.t 73) (zc 2)), zv 75 (.pick (.t 72) (.t 74) (.c (.bool false))), zm 76 75, zw 76 true 77 (.fad (.t 1) 4), zw 76 true 78 (.ld false 1 (.t 77)), zw 76 true 79 (.mov (.t 3)), zw 76 true 80 (.bin .sub .no (.t 79) (zc 1)), zw 76 true 81 (.slv 5 (.t 78) none (some (.t 80)) none), zw 76 true 82 (.mov (.t 4)), ⟨some (76, true), some 83, .call (.c (.fn 27 [] [])) [((.t 81), (.sl 5)), ((.t 82), .id)]⟩, zv 84 (.pick (.t 76) (.t 83) (.c (.bool false))), zm 85 84, zw 85 true 86 (.fad (.t 1) 4), zw 85 true 87 (.ld false 1 (.t 86)), zw 85 true 88 (.mov (.t 3)), zw 85 true 89 (.bin .sub .no (.t 88) (zc 1)), zw 85 true 90 (.iad 5 (.t 87) (.t 89)), zw 85 true 91 (.ld true 5 (.t 90)), ⟨some (85, true), some 92, .call (.c (.fn 95 [] [])) [((.t 91), zN)]⟩, zv 93 (.pick (.t 85) (.t 92) (.c (.bool false))), zm 2 93]
def qbfw : IC := zr [zv 95 (.bin .eql .no (.t 9) (zc 27)), zm 94 95]
def qblv : IC := zr [zv 96 (.ld true 5 (.t 1)), zi 97 (.call (.c (.fn 26 [] [])) [((.t 96), zN)]), zm 98 97, zw 98 true 99 (.mov (.t 3)), zw 98 true 100 (.bin .geq .no (.t 99) (zc 2)), zv 101 (.pick (.t 98) (.t 100) (.c (.bool false))), zm 102 101, zw 102 true 103 (.fad (.t 1) 4), zw 102 true 104 (.ld false 1 (.t 103)), zw 102 true 105 (.iad 5 (.t 104) (zc 0)), zw 102 true 106 (.ld true 5 (.t 105)), ⟨some (102, true), some 107, .call (.c (.fn 95 [] [])) [((.t 106), zN)]⟩, zv 108 (.pick (.t 102) (.t 107) (.c (.bool false))), zm 109 108, zw 109 true 110 (.fad (.t 1) 4), zw 109 true 111 (.ld false 1 (.t 110)), zw 109 true 112 (.slv 5 (.t 111) (some (zc 1)) none none), ⟨some (109, true), some 113, .call (.c (.fn 27 [] [])) [((.t 112), (.sl 5)), ((.c (.fn 128 [] [])), .id)]⟩, zv 114 (.pick (.t 109) (.t 113) (.c (.bool false))), zm 2 114]
def qbdq : IC := zr [zv 116 (.bin .eql .no (.t 9) (zc 28)), zm 115 116]
def qbim : IC := zr [zv 117 (.ld true 5 (.t 1)), zi 118 (.call (.c (.fn 26 [] [])) [((.t 117), zN)]), zm 119 118, zw 119 true 120 (.mov (.t 3)), zw 119 true 121 (.bin .eql .no (.t 120) (zc 3)), zv 122 (.pick (.t 119) (.t 121) (.c (.bool false))), zm 123 122, zw 123 true 124 (.fad (.t 1) 4), zw 123 true 125 (.ld false 1 (.t 124)), ⟨some (123, true), some 126, .call (.c (.fn 27 [] [])) [((.t 125), (.sl 5)), ((.c (.fn 95 [] [])), .id)]⟩, zv 127 (.pick (.t 123) (.t 126) (.c (.bool false))), zm 2 127]
def qbhb : IC := zr [zv 2 zf]
def k0em : IC := (.seq qb2q (.seq qb0m (.seq (.seq qb6i (.block 0 (.seq qcba (.cond (.t 10) (.seq qbof .ret) (.seq qcd7 (.cond (.t 18) (.seq qb97 .ret) (.seq qbt1 (.cond (.t 26) (.seq qb57 .ret) (.seq qbxt (.cond (.t 40) (.seq qbee .ret) (.seq qbfe (.cond (.t 53) (.seq qber .ret) (.seq qbl0 (.cond (.t 68) (.seq qbg4 (.seq qbke .ret)) (.seq qbfw (.cond (.t 94) (.seq qblv .ret) (.seq qbdq (.cond (.t 115) (.seq qbim .ret) .skip)))))))))))))))))) (.seq qbhb .ret))))
@[go_sem] def s0em : List (RV × Co) := [(.t 2, .id)]
theorem c0em : cFun Tryz.prog 95 = some (128, k0em, s0em) := by kernel_rfl

def qb96 : IC := zr [zi 1 (.box (.t 0)), zv 2 zf]
def qb3c : IC := zr [zv 4 (.fad (.t 1) 4), zv 5 (.ld false 1 (.t 4)), zv 6 (.len false (.t 5)), zv 7 (.bin .sub .no (.t 6) (zc 1)), zm 3 7]
def qbo4 : IC := zr [zv 8 (.fad (.t 1) 0), zv 9 (.ld false 1 (.t 8)), zv 10 (.bin .eql .no (.t 9) (zc 4)), zm 11 10, zw 11 true 12 (.ld true 5 (.t 1)), ⟨some (11, true), some 13, .call (.c (.fn 26 [] [])) [((.t 12), zN)]⟩, zv 14 (.pick (.t 11) (.t 13) (.c (.bool false))), zm 15 14, zw 15 true 16 (.mov (.t 3)), zw 15 true 17 (.bin .geq .no (.t 16) (zc 0)), zv 18 (.pick (.t 15) (.t 17) (.c (.bool false))), zm 19 18, zw 19 true 20 (.fad (.t 1) 4), zw 19 true 21 (.ld false 1 (.t 20)), zw 19 true 22 (.mov (.t 3)), zw 19 true 23 (.slv 5 (.t 21) none (some (.t 22)) none), ⟨some (19, true), some 24, .call (.c (.fn 27 [] [])) [((.t 23), (.sl 5)), ((.c (.fn 56 [] [])), .id)]⟩, zv 25 (.pick (.t 19) (.t 24) (.c (.bool false))), zm 26 25, zw 26 true 27 (.fad (.t 1) 4), zw 26 true 28 (.ld false 1 (.t 27)), zw 26 true 29 (.mov (.t 3)), zw 26 true 30 (.iad 5 (.t 28) (.t 29)), zw 26 true 31 (.ld true 5 (.t 30)), ⟨some (26, true), some 32, .call (.c (.fn 57 [] [])) [((.t 31), zN)]⟩, zv 33 (.pick (.t 26) (.t 32) (.c (.bool false))), zm 2 33]
def k0es : IC := (.seq qb96 (.seq qb3c (.seq qbo4 .ret)))
@[go_sem] def s0es : List (RV × Co) := [(.t 2, .id)]
theorem c0es : cFun Tryz.prog 96 = some (34, k0es, s0es) := by kernel_rfl

def qb7a : IC := zr [zv 2 zf]
def qb0q : IC := zr [zm 3 0, zv 4 (.bin .geq .no (.t 3) (.c (.int .u8 65))), zm 5 4, zw 5 true 6 (.mov (.t 0)), zw 5 true 7 (.bin .leq .no (.t 6) (.c (.int .u8 90))), zv 8 (.pick (.t 5) (.t 7) (.c (.bool false))), zm 2 8]
def k0dy : IC := (.seq qb7a (.seq qb0q .ret))
@[go_sem] def s0dy : List (RV × Co) := [(.t 2, .id)]
theorem c0dy : cFun Tryz.prog 97 = some (9, k0dy, s0dy) := by kernel_rfl

def qbnd : IC := zr [zv 2 zf]
def qbst : IC := zr [zm 5 0, zv 6 (.len true (.t 5)), zv 7 (.mov (zc 0))]
def qb3o : IC := zr [zv 8 (.bin .lss .no (.t 7) (.t 6))]
def qbz2 : IC := zr [zm 9 7, zm 3 9]
def qb3k : IC := zr [zm 10 0, zm 11 3, zv 12 (.idx (.t 10) (.t 11)), zm 4 12]
def qbxg : IC := zr [zm 13 4, zi 14 (.call (.c (.fn 125 [] [])) [((.t 13), .id)]), zv 15 (.un .not (.t 14)), zm 16 15, zw 16 true 17 (.mov (.t 4)), ⟨some (16, true), some 18, .call (.c (.fn 97 [] [])) [((.t 17), .id)]⟩, zw 16 true 19 (.un .not (.t 18)), zv 20 (.pick (.t 16) (.t 19) (.c (.bool false))), zm 21 20, zw 21 true 22 (.mov (.t 4)), zw 21 true 23 (.bin .lss .no (.t 22) (.c (.int .u8 48))), zw 21 true 24 (.mov (.t 23)), zw 24 false 25 (.mov (.t 4)), zw 24 false 26 (.bin .gtr .no (.t 25) (.c (.int .u8 57))), zw 21 true 27 (.pick (.t 24) (.c (.bool true)) (.t 26)), zv 28 (.pick (.t 21) (.t 27) (.c (.bool false))), zm 29 28, zw 29 true 30 (.mov (.t 4)), zw 29 true 31 (.bin .neq .no (.t 30) (.c (.int .u8 39))), zv 32 (.pick (.t 29) (.t 31) (.c (.bool false)))]
def qb7p : IC := zr [zv 2 zf]
def qccp : IC := zr [zv 33 (.bin .add .no (.t 7) (zc 1)), zm 7 33]
def qcdj : IC := (.seq qb3o (.seq (.cond (.t 8) .skip (.exit 0)) (.seq (.block 1 (.seq qbz2 (.seq qb3k (.seq qbxg (.cond (.t 32) (.seq qb7p .ret) .skip))))) qccp)))
def qbco : IC := zr [zv 2 (.mov (.c (.bool true)))]
def k0ec : IC := (.seq qbnd (.seq (.seq qbst (.block 0 (.loop qcdj))) (.seq qbco .ret)))
@[go_sem] def s0ec : List (RV × Co) := [(.t 2, .id)]
theorem c0ec : cFun Tryz.prog 98 = some (34, k0ec, s0ec) := by kernel_rfl

def qbod : IC := zr [zv 6 (.ld false 1 (.t 1)), zi 7 (.call (.c (.fn 100 [] [])) [((.t 6), .id)]), zm 3 7]
def qb26 : IC := zr [zm 8 3, zv 9 (.ld false 1 (.t 1)), zv 10 (.len true (.t 9)), zv 11 (.bin .lss .no (.t 8) (.t 10))]
def qb82 : IC := zr [zv 13 (.ld false 1 (.t 1)), zm 14 3, zv 15 (.sls (.t 13) (some (.t 14)) none), zi 16 (.call (.c (.fn 101 [] [])) [((.t 15), .id)]), zm 12 16, zv 17 (.ext (.t 12) 0), zv 18 (.ext (.t 12) 1), zi 4 zaT, zn (.st 4 .id (.t 4) (.t 17)), zm 5 18]
def qbnn : IC := zr [zm 19 3, zv 20 (.fad (.t 4) 1), zn (.st 1 .id (.t 20) (.t 19))]
def qbwf : IC := zr [zm 21 0, zv 22 (.ld true 4 (.t 4)), zm 23 5, zi 24 (.call (.t 21) [((.t 22), .id), ((.t 23), .id)]), zv 25 (.un .not (.t 24))]
def qb0z : IC := zr [zm 26 3, zv 27 (.fad (.t 4) 3), zv 28 (.ld false 1 (.t 27)), zv 29 (.len true (.t 28)), zv 30 (.bin .add .no (.t 26) (.t 29)), zm 3 30]
def qbrw : IC := zr [zm 31 3, zv 32 (.ld false 1 (.t 1)), zm 33 3, zv 34 (.sls (.t 32) (some (.t 33)) none), zi 35 (.call (.c (.fn 100 [] [])) [((.t 34), .id)]), zv 36 (.bin .add .no (.t 31) (.t 35)), zm 3 36]
def qbn4 : IC := (.seq (.seq qb26 (.cond (.t 11) .skip (.exit 0))) (.block 1 (.seq qb82 (.seq qbnn (.seq (.seq qbwf (.cond (.t 25) .ret .skip)) (.seq qb0z qbrw))))))
def k0dg : IC := (.seq qbod (.block 0 (.loop qbn4)))
@[go_sem] def s0dg : List (RV × Co) := []
theorem c0dg : cFun Tryz.prog 99 = some (37, k0dg, s0dg) := by kernel_rfl

def qcc8 : IC := zr [zv 2 (.mov (zc 0))]
def qbq8 : IC := zr [zv 3 (.mov (zc 0))]
def qb5m : IC := zr [zm 5 0, zm 6 3, zv 7 (.sls (.t 5) (some (.t 6)) none), zi 8 (.call (.c (.fn 129 [] [])) [((.t 7), .id), ((.c (.fn 130 [] [])), .id)]), zm 4 8]
def qcdw : IC := zr [zm 9 0, zm 10 3, zm 11 4, zv 12 (.bin .add .no (.t 10) (.t 11)), zv 13 (.sls (.t 9) (some (.t 12)) none), zi 14 (.call (.c (.fn 131 [] [])) [((.t 13), .id), ((.c (.str [45, 45])), .id)])]
def qb69 : IC := zr [zm 15 4, zm 16 0, zm 17 3, zm 18 4, zv 19 (.bin .add .no (.t 17) (.t 18)), zv 20 (.sls (.t 16) (some (.t 19)) none), zi 21 (.call (.c (.fn 129 [] [])) [((.t 20), .id), ((.c (.fn 132 [] [])), .id)]), zv 22 (.bin .add .no (.t 15) (.t 21)), zm 4 22]
def qbx3 : IC := zr [zm 23 4, zv 24 (.bin .eql .no (.t 23) (zc 0))]
def qb5n : IC := zr [zm 25 3, zm 2 25]
def qb8g : IC := zr [zm 26 3, zm 27 4, zv 28 (.bin .add .no (.t 26) (.t 27)), zm 3 28]
def qbnv : IC := (.block 1 (.seq qb5m (.seq (.seq qcdw (.cond (.t 14) qb69 .skip)) (.seq (.seq qbx3 (.cond (.t 24) (.seq qb5n .ret) .skip)) qb8g))))
def k0dt : IC := (.seq qcc8 (.seq qbq8 (.block 0 (.loop qbnv))))
@[go_sem] def s0dt : List (RV × Co) := [(.t 2, .id)]
theorem c0dt : cFun Tryz.prog 100 = some (29, k0dt, s0dt) := by kernel_rfl

def qcb5 : IC := zr [zi 2 zaT, zv 3 (.mov (zc 0))]
def qbyz : IC := zr [zm 9 0, zv 10 (.idx (.t 9) (zc 0)), zm 4 10]
def qb7t : IC := zr [zm 12 4, zi 13 (.call (.c (.fn 133 [] [])) [((.t 12), .id)]), zm 11 13]
def qbsp : IC := zr [zm 14 0, zm 15 0, zi 16 (.call (.c (.fn 129 [] [])) [((.t 15), .id), ((.c (.fn 133 [] [])), .id)]), zv 17 (.sls (.t 14) none (some (.t 16))), zm 5 17]
def qcc4 : IC := zr [zm 19 5, zi 20 (.call (.c (.fn 134 [] [])) [((.t 19), .id)]), zm 18 20, zv 21 (.ext (.t 18) 0), zv 22 (.ext (.t 18) 1), zm 6 21, zm 7 22]
def qbol : IC := zr [zm 23 6, zm 24 5, zv 25 (.bld [(.int .i64 0), (.int .i64 0), (.int .i64 0), (.str [])] [(0, 1, (zc 3)), (2, 1, (.t 23)), (3, 1, (.t 24))]), zm 26 7, zn (.st 4 .id (.t 2) (.t 25)), zm 3 26]
def qbsy : IC := zr [zm 28 4, zi 29 (.call (.c (.fn 135 [] [])) [((.t 28), .id)]), zm 30 29, zw 30 true 31 (.mov (.t 4)), zw 30 true 32 (.bin .neq .no (.t 31) (.c (.int .u8 39))), zv 33 (.pick (.t 30) (.t 32) (.c (.bool false))), zm 27 33]
def qb8i : IC := zr [zm 34 0, zm 35 0, zi 36 (.call (.c (.fn 129 [] [])) [((.t 35), .id), ((.c (.fn 135 [] [])), .id)]), zv 37 (.sls (.t 34) none (some (.t 36))), zi 38 (.call (.c (.fn 136 [] [])) [((.t 37), .id)]), zn (.st 4 .id (.t 2) (.t 38)), zv 3 (.mov (zc 0))]
def qb9g : IC := zr [zm 39 0, zi 40 (.call (.c (.fn 137 [] [])) [((.t 39), .id)]), zm 8 40]
def qb5f : IC := zr [zm 41 8, zv 42 (.bin .eql .no (.t 41) (zc 0))]
def qbjl : IC := zr [zv 43 (.bld [(.int .i64 0), (.int .i64 0), (.int .i64 0), (.str [])] []), zn (.st 4 .id (.t 2) (.t 43)), zv 3 (.mov (zc 3))]
def qbjf : IC := zr [zm 44 0, zm 45 8, zv 46 (.sls (.t 44) none (some (.t 45))), zv 47 (.bld [(.int .i64 0), (.int .i64 0), (.int .i64 0), (.str [])] [(0, 1, (zc 5)), (3, 1, (.t 46))]), zn (.st 4 .id (.t 2) (.t 47)), zv 3 (.mov (zc 0))]
def k0dl : IC := (.seq qcb5 (.seq (.seq qbyz (.block 0 (.seq qb7t (.cond (.t 11) (.seq qbsp (.seq qcc4 (.seq qbol .ret))) (.seq qbsy (.cond (.t 27) (.seq qb8i .ret) .skip)))))) (.seq qb9g (.seq (.seq qb5f (.cond (.t 42) (.seq qbjl .ret) .skip)) (.seq qbjf .ret)))))
@[go_sem] def s0dl : List (RV × Co) := [(.c true 4 2, .id), (.t 3, .id)]
theorem c0dl : cFun Tryz.prog 101 = some (48, k0dl, s0dl) := by kernel_rfl

def qbv9 : IC := zr [zi 2 (.box (.t 0)), zv 4 zf]
def qbzs : IC := zr [zv 7 (.fad (.t 2) 0), zv 8 (.ld false 1 (.t 7)), zv 9 (.bin .neq .no (.t 8) (zc 4)), zm 10 9, zw 10 true 11 (.fad (.t 2) 0), zw 10 true 12 (.ld false 1 (.t 11)), zw 10 true 13 (.bin .neq .no (.t 12) (zc 5)), zv 14 (.pick (.t 10) (.t 13) (.c (.bool false)))]
def qb3m : IC := zr [zv 4 zf]
def qb2p : IC := zr [zm 15 1, zv 16 (.len false (.t 15)), zv 17 (.mov (zc 0))]
def qb7s : IC := zr [zv 18 (.bin .lss .no (.t 17) (.t 16))]
def qbqh : IC := zr [zv 19 (.iad 1 (.t 15) (.t 17)), zv 20 (.ld false 1 (.t 19)), zm 6 20]
def qbwn : IC := zr [zv 21 (.fad (.t 2) 3), zv 22 (.ld false 1 (.t 21)), zm 23 6, zv 24 (.bin .eql .no (.t 22) (.t 23))]
def qb0u : IC := zr [zv 4 (.mov (.c (.bool true)))]
def qcab : IC := zr [zv 25 (.bin .add .no (.t 17) (zc 1)), zm 17 25]
def k0ct_l4 : IC := (.seq qb7s (.seq (.cond (.t 18) .skip (.exit 0)) (.seq (.block 1 (.seq qbqh (.seq qbwn (.cond (.t 24) (.seq qb0u .ret) .skip)))) qcab)))
def k0ct_r11 : IC := zr [zv 4 zf]
def k0ct : IC := (.seq qbv9 (.seq (.seq qbzs (.cond (.t 14) (.seq qb3m .ret) .skip)) (.seq (.seq qb2p (.block 0 (.loop k0ct_l4))) (.seq k0ct_r11 .ret))))
@[go_sem] def s0ct : List (RV × Co) := [(.t 4, .id)]
theorem c0ct : cFun Tryz.prog 102 = some (26, k0ct, s0ct) := by kernel_rfl

def qb3g : IC := zr [zv 2 zf]
def qbuo : IC := zr [zm 3 0, zi 4 (.call (.c (.fn 39 [] [])) [((.t 3), .id)]), zm 5 4, zw 5 false 6 (.mov (.t 0)), zw 5 false 7 (.nck (.t 6)), zw 5 false 8 (.fad (.t 7) 6), zw 5 false 9 (.ld false 1 (.t 8)), zw 5 false 10 (.bin .geq .no (.t 9) (zc 200)), zv 11 (.pick (.t 5) (.c (.bool true)) (.t 10))]
def qbt5 : IC := zr [zm 12 0, zi 13 (.call (.c (.fn 69 [] [])) [((.t 12), .id), ((zc 2), .id)]), zm 2 13]
def qbq7 : IC := zr [zm 14 0, zv 15 (.nck (.t 14)), zv 16 (.fad (.t 15) 6), zv 17 (.ld false 1 (.t 16)), zv 18 (.bin .add .no (.t 17) (zc 1)), zv 19 (.nck (.t 14)), zv 20 (.fad (.t 19) 6), zn (.st 1 .id (.t 20) (.t 18))]
def qb29 : IC := zr [zv 2 (.mov (.c (.bool true)))]
def k0cz : IC := (.seq qb3g (.seq (.seq qbuo (.cond (.t 11) (.seq qbt5 .ret) .skip)) (.seq qbq7 (.seq qb29 .ret))))
@[go_sem] def s0cz : List (RV × Co) := [(.t 2, .id)]
theorem c0cz : cFun Tryz.prog 103 = some (21, k0cz, s0cz) := by kernel_rfl

def qbwj : IC := zr [zi 2 zaN, zv 3 zf]
def qb0b : IC := zr [zm 8 0, zi 9 (.call (.c (.fn 103 [] [])) [((.t 8), .id)]), zv 10 (.un .not (.t 9))]
def qb9w : IC := zr [zv 11 (.bld [(.int .i64 0), (.int .i64 0), (.int .i64 0), (.str []), .nils] []), zn (.st 5 zN (.t 2) (.t 11)), zv 3 zf]
def qb9o : IC := zr [zm 13 0, zi 14 (.call (.c (.fn 138 [] [])) [((.t 13), .id)]), zm 12 14, zv 15 (.ext (.t 12) 0), zv 16 (.ext (.t 12) 1), zi 4 zaN, zn (.st 5 zN (.t 4) (.t 15)), zm 5 16]
def qb7w : IC := zr [zm 17 5, zm 18 17, zw 18 true 19 (.mov (.t 0)), ⟨some (18, true), some 20, .call (.c (.fn 35 [] [])) [((.t 19), .id), ((.c (.str [45, 62])), .id)]⟩, zv 21 (.pick (.t 18) (.t 20) (.c (.bool false)))]
def qcdv : IC := zr [zm 23 0, zi 24 (.call (.c (.fn 104 [] [])) [((.t 23), .id)]), zm 22 24, zv 25 (.ext (.t 22) 0), zv 26 (.ext (.t 22) 1), zi 6 zaN, zn (.st 5 zN (.t 6) (.t 25)), zm 7 26]
def qb3a : IC := zr [zv 27 (.fad (.t 4) 1), zv 28 (.ld false 1 (.t 27)), zv 29 (.ld true 5 (.t 4)), zv 30 (.ld true 5 (.t 6)), zv 31 (.bsl 5 [((.t 29), zN), ((.t 30), zN)]), zv 32 (.bld [(.int .i64 0), (.int .i64 0), (.int .i64 0), (.str []), .nils] [(0, 1, (zc 2)), (1, 1, (.t 28)), (3, 1, (.c (.str [45, 62]))), (4, 1, (.t 31))]), zm 33 7, zn (.st 5 zN (.t 4) (.t 32)), zm 5 33]
def qcb1 : IC := zr [zm 34 0, zi 35 (.call (.c (.fn 105 [] [])) [((.t 34), .id)])]
def qbm0 : IC := zr [zm 36 0, zv 37 (.ld true 5 (.t 4)), zm 38 5, zi 39 (.call (.c (.fn 106 [] [])) [((.t 36), .id), ((.t 37), zN), ((.t 38), .id)]), zv 40 (.ext (.t 39) 0), zv 41 (.ext (.t 39) 1), zn (.st 5 zN (.t 2) (.t 40)), zm 3 41]
def k0ce : IC := (.seq qbwj (.seq (.seq qb0b (.cond (.t 10) (.seq qb9w .ret) .skip)) (.seq qb9o (.seq (.seq qb7w (.cond (.t 21) (.seq qcdv qb3a) .skip)) (.seq qcb1 (.seq qbm0 .ret))))))
@[go_sem] def s0ce : List (RV × Co) := [(.c true 5 2, zN), (.t 3, .id)]
theorem c0ce : cFun Tryz.prog 104 = some (42, k0ce, s0ce) := by kernel_rfl

def qb74 : IC := zr [zm 2 0, zi 3 (.call (.c (.fn 39 [] [])) [((.t 2), .id)]), zv 4 (.un .not (.t 3)), zm 5 4, zw 5 true 6 (.mov (.t 0)), zw 5 true 7 (.nck (.t 6)), zw 5 true 8 (.fad (.t 7) 6), zw 5 true 9 (.ld false 1 (.t 8)), zw 5 true 10 (.bin .gtr .no (.t 9) (zc 0)), zv 11 (.pick (.t 5) (.t 10) (.c (.bool false)))]
def qbw8 : IC := zr [zm 12 0, zv 13 (.nck (.t 12)), zv 14 (.fad (.t 13) 6), zv 15 (.ld false 1 (.t 14)), zv 16 (.bin .sub .no (.t 15) (zc 1)), zv 17 (.nck (.t 12)), zv 18 (.fad (.t 17) 6), zn (.st 1 .id (.t 18) (.t 16))]
def k0da : IC := (.seq qb74 (.cond (.t 11) qbw8 .skip))
@[go_sem] def s0da : List (RV × Co) := []
theorem c0da : cFun Tryz.prog 105 = some (19, k0da, s0da) := by kernel_rfl

def qcd3 : IC := zr [zi 4 (.box (.t 1)), zi 6 zaN, zv 7 zf]
def qbn5 : IC := zr [zm 8 2, zv 9 (.un .not (.t 8))]
def qbt3 : IC := zr [zv 10 (.bld [(.int .i64 0), (.int .i64 0), (.int .i64 0), (.str []), .nils] []), zn (.st 5 zN (.t 6) (.t 10)), zv 7 zf]
def qbya : IC := zr [zv 11 (.ld true 5 (.t 4)), zn (.st 5 zN (.t 6) (.t 11)), zv 7 (.mov (.c (.bool true)))]
def k0ca : IC := (.seq qcd3 (.seq (.seq qbn5 (.cond (.t 9) (.seq qbt3 .ret) .skip)) (.seq qbya .ret)))
@[go_sem] def s0ca : List (RV × Co) := [(.c true 5 6, zN), (.t 7, .id)]
theorem c0ca : cFun Tryz.prog 106 = some (12, k0ca, s0ca) := by kernel_rfl

def qcge : IC := zr [zi 1 zaN, zv 2 zf]
def qch2 : IC := zr [zv 3 (.ld false 1 (.t 0)), zi 4 (.call (.c (.fn 63 [] [])) [((.t 3), .id)]), zv 5 (.ext (.t 4) 0), zv 6 (.ext (.t 4) 1), zn (.st 5 zN (.t 1) (.t 5)), zm 2 6]
def k0z : IC := (.seq qcge (.seq qch2 .ret))
@[go_sem] def s0z : List (RV × Co) := [(.c true 5 1, zN), (.t 2, .id)]
theorem c0z : cFun Tryz.prog 107 = some (7, k0z, s0z) := by kernel_rfl

def qb4y : IC := zr [zv 1 zf]
def qbzr : IC := zr [zv 2 (.ld false 1 (.t 0)), zi 3 (.call (.c (.fn 109 [] [])) [((.t 2), .id)]), zm 1 3]
def k0ba : IC := (.seq qb4y (.seq qbzr .ret))
@[go_sem] def s0ba : List (RV × Co) := [(.t 1, .id)]
theorem c0ba : cFun Tryz.prog 108 = some (4, k0ba, s0ba) := by kernel_rfl

def qcjx : IC := zr [zv 2 zf]
def qcgi : IC := zr [zm 4 0, zi 5 (.call (.c (.fn 19 [] [])) [((.t 4), .id)]), zv 6 (.fld false 1 0 (.t 5)), zm 3 6]
def qcgc : IC := zr [zm 7 3, zv 8 (.bin .eql .no (.t 7) (zc 1)), zm 9 8, zw 9 false 10 (.mov (.t 3)), zw 9 false 11 (.bin .eql .no (.t 10) (zc 2)), zv 12 (.pick (.t 9) (.c (.bool true)) (.t 11)), zm 13 12, zw 13 false 14 (.mov (.t 0)), ⟨some (13, false), some 15, .call (.c (.fn 59 [] [])) [((.t 14), .id), ((.c (.str [40])), .id)]⟩, zv 16 (.pick (.t 13) (.c (.bool true)) (.t 15)), zm 2 16]
def k0y : IC := (.seq qcjx (.seq qcgi (.seq qcgc .ret)))
@[go_sem] def s0y : List (RV × Co) := [(.t 2, .id)]
theorem c0y : cFun Tryz.prog 109 = some (17, k0y, s0y) := by kernel_rfl

def qbzw : IC := zr [zv 4 zf]
def qb4p : IC := zr [zm 8 0, zi 9 (.call (.c (.fn 39 [] [])) [((.t 8), .id)])]
def qbzd : IC := zr [zv 4 zf]
def qbs5 : IC := zr [zv 5 (.mov (zc 0))]
def qb5p : IC := .drw [zp (zm 10 0), zp (zv 11 (.nck (.t 10))), zp (zv 12 (.fad (.t 11) 0)), zp (zv 13 (.ld false 1 (.t 12))), zp (zm 14 0), zp (zv 15 (.nck (.t 14))), zp (zv 16 (.fad (.t 15) 5)), zp (zv 17 (.ld false 1 (.t 16))), zp (zv 18 (.slv 4 (.t 13) (some (.t 17)) none none)), zp (zv 19 (.len false (.t 18))), zp (zv 20 (.mov (zc 0)))]
def qbto : IC := zr [zv 21 (.bin .lss .no (.t 20) (.t 19))]
def qboj : IC := zr [zv 22 (.iad 4 (.t 18) (.t 20)), zv 23 (.ld true 4 (.t 22)), zi 7 zaT, zn (.st 4 .id (.t 7) (.t 23))]
def qbys : IC := zr [zv 25 (.ld true 4 (.t 7)), zv 26 (.bsl 1 [((.c (.str [40])), .id), ((.c (.str [123])), .id)]), zi 27 (.call (.c (.fn 102 [] [])) [((.t 25), .id), ((.t 26), (.sl 1))]), zm 24 27]
def qcaz : IC := zr [zm 28 5, zv 29 (.bin .add .no (.t 28) (zc 1)), zm 5 29]
def qbie : IC := zr [zv 31 (.ld true 4 (.t 7)), zv 32 (.bsl 1 [((.c (.str [41])), .id), ((.c (.str [125])), .id)]), zi 33 (.call (.c (.fn 102 [] [])) [((.t 31), .id), ((.t 32), (.sl 1))]), zm 30 33]
def qbk3 : IC := zr [zm 34 5, zv 35 (.bin .sub .no (.t 34) (zc 1)), zm 5 35]
def qblk : IC := zr [zm 36 5, zv 37 (.bin .lss .no (.t 36) (zc 0))]
def qbi3 : IC := zr [zv 4 zf]
def qbi7 : IC := zr [zm 39 5, zv 40 (.bin .gtr .no (.t 39) (zc 0)), zm 38 40]
def qbgc : IC := zr [zv 42 (.ld true 4 (.t 7)), zv 43 (.bsl 1 [((.c (.str [59])), .id)]), zi 44 (.call (.c (.fn 102 [] [])) [((.t 42), .id), ((.t 43), (.sl 1))]), zm 41 44]
def qbkv : IC := zr [zv 4 zf]
def qbgw : IC := zr [zv 46 (.ld true 4 (.t 7)), zm 47 1, zv 48 (.bsl 1 [((.t 47), .id)]), zi 49 (.call (.c (.fn 102 [] [])) [((.t 46), .id), ((.t 48), (.sl 1))]), zm 45 49]
def qbj4 : IC := zr [zv 4 (.mov (.c (.bool true)))]
def qbf0 : IC := zr [zv 50 (.bin .add .no (.t 20) (zc 1)), zm 20 50]
def qb1z : IC := (.seq qbto (.seq (.cond (.t 21) .skip (.exit 0)) (.seq (.block 1 (.seq qboj (.block 2 (.seq qbys (.cond (.t 24) qcaz (.seq qbie (.cond (.t 30) (.seq qbk3 (.seq qblk (.cond (.t 37) (.seq qbi3 .ret) .skip))) (.seq qbi7 (.cond (.t 38) .skip (.seq qbgc (.cond (.t 41) (.seq qbkv .ret) (.seq qbgw (.cond (.t 45) (.seq qbj4 .ret) .skip))))))))))))) qbf0)))
def qbka : IC := zr [zv 4 zf]
def k0fg : IC := (.seq qbzw (.seq (.seq qb4p (.cond (.t 9) (.seq qbzd .ret) .skip)) (.seq qbs5 (.seq (.seq qb5p (.block 0 (.loop qb1z))) (.seq qbka .ret)))))
@[go_sem] def s0fg : List (RV × Co) := [(.t 4, .id)]
theorem c0fg : cFun Tryz.prog 110 = some (51, k0fg, s0fg) := by kernel_rfl

def qbow : IC := zr [zv 2 zf]
def qbs7 : IC := zr [zm 6 0, zi 7 (.call (.c (.fn 32 [] [])) [((.t 6), .id)]), zm 5 7, zv 8 (.ext (.t 5) 0), zv 9 (.ext (.t 5) 1), zm 3 8, zm 4 9]
def qcc5 : IC := zr [zm 10 4, zv 11 (.bin .neq .no (.t 10) (zc 0)), zm 12 11, zw 12 true 13 (.mov (.t 4)), zw 12 true 14 (.bin .neq .no (.t 13) (zc 5)), zw 12 true 15 (.mov (.t 14)), zw 15 false 16 (.mov (.t 0)), ⟨some (15, false), some 17, .call (.c (.fn 19 [] [])) [((.t 16), .id)]⟩, zw 15 false 18 (.fld false 1 0 (.t 17)), zw 15 false 19 (.bin .eql .no (.t 18) (zc 0)), zw 12 true 20 (.pick (.t 15) (.c (.bool true)) (.t 19)), zv 21 (.pick (.t 12) (.t 20) (.c (.bool false))), zm 2 21]
def k0by : IC := (.seq qbow (.seq qbs7 (.seq qcc5 .ret)))
@[go_sem] def s0by : List (RV × Co) := [(.t 2, .id)]
theorem c0by : cFun Tryz.prog 111 = some (22, k0by, s0by) := by kernel_rfl

def qb7v : IC := zr [zi 2 zaN, zv 3 zf]
def qbq9 : IC := zr [zm 8 0, zi 9 (.call (.c (.fn 61 [] [])) [((.t 8), .id), ((zc 2), .id)]), zm 7 9, zv 10 (.ext (.t 7) 0), zv 11 (.ext (.t 7) 1), zi 4 zaT, zn (.st 4 .id (.t 4) (.t 10)), zm 5 11]
def qb36 : IC := zr [zm 12 5, zv 13 (.un .not (.t 12))]
def qb88 : IC := zr [zv 14 (.bld [(.int .i64 0), (.int .i64 0), (.int .i64 0), (.str []), .nils] []), zn (.st 5 zN (.t 2) (.t 14)), zv 3 zf]
def qb2g : IC := zr [zm 16 0, zi 17 (.call (.c (.fn 63 [] [])) [((.t 16), .id)]), zm 15 17, zv 18 (.ext (.t 15) 0), zv 19 (.ext (.t 15) 1), zi 6 zaN, zn (.st 5 zN (.t 6) (.t 18)), zm 5 19]
def qb59 : IC := zr [zm 20 0, zv 21 (.fad (.t 4) 1), zv 22 (.ld false 1 (.t 21)), zv 23 (.fad (.t 4) 3), zv 24 (.ld false 1 (.t 23)), zv 25 (.ld true 5 (.t 6)), zv 26 (.bsl 5 [((.t 25), zN)]), zv 27 (.bld [(.int .i64 0), (.int .i64 0), (.int .i64 0), (.str []), .nils] [(0, 1, (zc 3)), (1, 1, (.t 22)), (3, 1, (.t 24)), (4, 1, (.t 26))]), zm 28 5, zi 29 (.call (.c (.fn 106 [] [])) [((.t 20), .id), ((.t 27), zN), ((.t 28), .id)]), zv 30 (.ext (.t 29) 0), zv 31 (.ext (.t 29) 1), zn (.st 5 zN (.t 2) (.t 30)), zm 3 31]
def k0bz : IC := (.seq qb7v (.seq qbq9 (.seq (.seq qb36 (.cond (.t 13) (.seq qb88 .ret) .skip)) (.seq qb2g (.seq qb59 .ret)))))
@[go_sem] def s0bz : List (RV × Co) := [(.c true 5 2, zN), (.t 3, .id)]
theorem c0bz : cFun Tryz.prog 112 = some (32, k0bz, s0bz) := by kernel_rfl

def qcfq : IC := zr [zi 2 zaN, zv 3 zf]
def qcgo : IC := zr [zv 4 (.ld false 1 (.t 0)), zv 5 (.ld false 1 (.t 1)), zi 6 (.call (.c (.fn 114 [] [])) [((.t 4), .id), ((.t 5), .id)]), zv 7 (.ext (.t 6) 0), zv 8 (.ext (.t 6) 1), zn (.st 5 zN (.t 2) (.t 7)), zm 3 8]
def k0r : IC := (.seq qcfq (.seq qcgo .ret))
@[go_sem] def s0r : List (RV × Co) := [(.c true 5 2, zN), (.t 3, .id)]
theorem c0r : cFun Tryz.prog 113 = some (9, k0r, s0r) := by kernel_rfl

def qci2 : IC := zr [zi 4 zaN, zv 5 zf]
def qcgu : IC := zr [zm 9 0, zi 10 (.call (.c (.fn 38 [] [])) [((.t 9), .id)]), zm 8 10, zv 11 (.ext (.t 8) 0), zv 12 (.ext (.t 8) 1), zi 6 zaN, zn (.st 5 zN (.t 6) (.t 11)), zm 7 12]
def qcgt : IC := zr [zm 13 7, zm 14 13, zw 14 true 15 (.fad (.t 6) 0), zw 14 true 16 (.ld false 1 (.t 15)), zw 14 true 17 (.mov (.t 1)), zw 14 true 18 (.bin .neq .no (.t 16) (.t 17)), zv 19 (.pick (.t 14) (.t 18) (.c (.bool false)))]
def qcew : IC := .drw [zp (zv 20 (.ld true 5 (.t 6))), zp (zm 21 0), (zi 22 (.call (.c (.fn 69 [] [])) [((.t 21), .id), ((zc 5), .id)]), [0]), (zn (.st 5 zN (.t 4) (.t 20)), []), zp (zm 5 22)]
def qcfs : IC := zr [zv 23 (.ld true 5 (.t 6)), zm 24 7, zn (.st 5 zN (.t 4) (.t 23)), zm 5 24]
def k0q : IC := (.seq qci2 (.seq qcgu (.seq (.seq qcgt (.cond (.t 19) (.seq qcew .ret) .skip)) (.seq qcfs .ret))))
@[go_sem] def s0q : List (RV × Co) := [(.c true 5 4, zN), (.t 5, .id)]
theorem c0q : cFun Tryz.prog 114 = some (25, k0q, s0q) := by kernel_rfl

def qchm : IC := zr [zv 2 zf]
def qce7 : IC := zr [zv 3 (.ld false 1 (.t 0)), zi 4 (.call (.c (.fn 59 [] [])) [((.t 3), .id), ((.c (.str [125])), .id)]), zv 5 (.un .not (.t 4)), zm 6 5, zw 6 true 7 (.ld false 1 (.t 1)), ⟨some (6, true), some 8, .call (.t 7) []⟩, zv 9 (.pick (.t 6) (.t 8) (.c (.bool false))), zm 10 9, zw 10 true 11 (.ld false 1 (.t 0)), ⟨some (10, true), some 12, .call (.c (.fn 59 [] [])) [((.t 11), .id), ((.c (.str [125])), .id)]⟩, zw 10 true 13 (.un .not (.t 12)), zv 14 (.pick (.t 10) (.t 13) (.c (.bool false))), zm 2 14]
def k0s : IC := (.seq qchm (.seq qce7 .ret))
@[go_sem] def s0s : List (RV × Co) := [(.t 2, .id)]
theorem c0s : cFun Tryz.prog 115 = some (15, k0s, s0s) := by kernel_rfl

def qby7 : IC := zr [zi 2 zaN, zv 3 zf]
def qbrs : IC := zr [zm 6 0, zi 7 (.call (.c (.fn 103 [] [])) [((.t 6), .id)]), zv 8 (.un .not (.t 7))]
def qb99 : IC := zr [zv 9 (.bld [(.int .i64 0), (.int .i64 0), (.int .i64 0), (.str []), .nils] []), zn (.st 5 zN (.t 2) (.t 9)), zv 3 zf]
def qbye : IC := zr [zm 11 0, zi 12 (.call (.c (.fn 139 [] [])) [((.t 11), .id)]), zm 10 12, zv 13 (.ext (.t 10) 0), zv 14 (.ext (.t 10) 1), zi 4 zaN, zn (.st 5 zN (.t 4) (.t 13)), zm 5 14]
def qbuj : IC := zr [zm 15 0, zi 16 (.call (.c (.fn 105 [] [])) [((.t 15), .id)])]
def qb6k : IC := zr [zm 17 5, zv 18 (.un .not (.t 17))]
def qcbg : IC := zr [zv 19 (.bld [(.int .i64 0), (.int .i64 0), (.int .i64 0), (.str []), .nils] []), zn (.st 5 zN (.t 2) (.t 19)), zv 3 zf]
def qcd2 : IC := zr [zv 20 (.ld true 5 (.t 4)), zn (.st 5 zN (.t 2) (.t 20)), zv 3 (.mov (.c (.bool true)))]
def k0bf : IC := (.seq qby7 (.seq (.seq qbrs (.cond (.t 8) (.seq qb99 .ret) .skip)) (.seq qbye (.seq qbuj (.seq (.seq qb6k (.cond (.t 18) (.seq qcbg .ret) .skip)) (.seq qcd2 .ret))))))
@[go_sem] def s0bf : List (RV × Co) := [(.c true 5 2, zN), (.t 3, .id)]
theorem c0bf : cFun Tryz.prog 116 = some (21, k0bf, s0bf) := by kernel_rfl

def qcat : IC := zr [zi 2 (.box (.t 0)), zi 4 zaC]
def qccq : IC := zr [zv 6 (.fad (.t 2) 6), zv 7 (.ld false 1 (.t 6)), zv 8 (.bin .neq .no (.t 7) (zc 0))]
def qbuf : IC := zr [zv 9 (.ld true 8 (.t 2)), zn (.st 8 zC (.t 4) (.t 9))]
def qcdq : IC := zr [zv 10 (.ld true 8 (.t 2)), zi 11 (.call (.c (.fn 42 [] [])) [((.t 10), zC)]), zv 12 (.fld false 1 1 (.t 11)), zm 5 12]
def qbzf : IC := zr [zm 13 1, zv 14 (.bin .eql .no (.t 13) (zc 0))]
def qbwg : IC := zr [zv 1 (.mov (zc 1))]
def qbxw : IC := zr [zm 15 1, zv 16 (.fad (.t 2) 6), zn (.st 1 .id (.t 16) (.t 15))]
def qb3w : IC := zr [zm 17 5, zv 18 (.fad (.t 2) 7), zn (.st 1 .id (.t 18) (.t 17))]
def qb0e : IC := zr [zv 19 (.ld true 8 (.t 2)), zn (.st 8 zC (.t 4) (.t 19))]
def k0ck : IC := (.seq qcat (.seq (.seq qccq (.cond (.t 8) (.seq qbuf .ret) .skip)) (.seq qcdq (.seq (.seq qbzf (.cond (.t 14) qbwg .skip)) (.seq qbxw (.seq qb3w (.seq qb0e .ret)))))))
@[go_sem] def s0ck : List (RV × Co) := [(.c true 8 4, zC)]
theorem c0ck : cFun Tryz.prog 117 = some (20, k0ck, s0ck) := by kernel_rfl

def qbrj : IC := zr [zi 1 (.box (.t 0)), zi 2 zaC, zv 3 zf]
def qcdh : IC := zr [zv 4 (.fad (.t 1) 6), zv 5 (.ld false 1 (.t 4)), zv 6 (.bin .neq .no (.t 5) (zc 0))]
def qbse : IC := zr [zv 7 (.ld true 8 (.t 1)), zn (.st 8 zC (.t 2) (.t 7)), zv 3 zf]
def qbrv : IC := zr [zv 8 (.fad (.t 1) 5), zv 9 (.ld false 1 (.t 8)), zv 10 (.bin .geq .no (.t 9) (zc 200))]
def qb05 : IC := zr [zv 11 (.ld true 8 (.t 1)), zi 12 (.call (.c (.fn 117 [] [])) [((.t 11), zC), ((zc 2), .id)]), zn (.st 8 zC (.t 2) (.t 12)), zv 3 zf]
def qbzz : IC := zr [zv 13 (.fad (.t 1) 5), zv 14 (.ld false 1 (.t 13)), zv 15 (.bin .add .no (.t 14) (zc 1)), zv 16 (.fad (.t 1) 5), zn (.st 1 .id (.t 16) (.t 15))]
def qb0g : IC := zr [zv 17 (.ld true 8 (.t 1)), zn (.st 8 zC (.t 2) (.t 17)), zv 3 (.mov (.c (.bool true)))]
def k0cm : IC := (.seq qbrj (.seq (.seq qcdh (.cond (.t 6) (.seq qbse .ret) .skip)) (.seq (.seq qbrv (.cond (.t 10) (.seq qb05 .ret) .skip)) (.seq qbzz (.seq qb0g .ret)))))
@[go_sem] def s0cm : List (RV × Co) := [(.c true 8 2, zC), (.t 3, .id)]
theorem c0cm : cFun Tryz.prog 118 = some (18, k0cm, s0cm) := by kernel_rfl

def qb6v : IC := zr [zi 1 (.box (.t 0)), zi 2 zaC, zi 3 zaN]
def qb93 : IC := zr [zv 10 (.ld true 8 (.t 1)), zi 11 (.call (.c (.fn 118 [] [])) [((.t 10), zC)]), zm 9 11, zv 12 (.ext (.t 9) 0), zv 13 (.ext (.t 9) 1), zn (.st 8 zC (.t 1) (.t 12))]
def qcby : IC := zr [zv 15 (.ld true 8 (.t 1)), zi 16 (.call (.c (.fn 140 [] [])) [((.t 15), zC)]), zm 14 16, zv 17 (.ext (.t 14) 0), zv 18 (.ext (.t 14) 1), zi 4 zaN, zn (.st 8 zC (.t 1) (.t 17)), zn (.st 5 zN (.t 4) (.t 18))]
def qbz3 : IC := zr [zv 20 (.ld true 8 (.t 1)), zi 21 (.call (.c (.fn 23 [] [])) [((.t 20), zC), ((.c (.str [45, 62])), .id)]), zm 19 21, zv 22 (.ext (.t 19) 0), zv 23 (.ext (.t 19) 1), zi 5 zaC, zn (.st 8 zC (.t 5) (.t 22)), zm 6 23]
def qbze : IC := zr [zm 24 6]
def qbne : IC := zr [zv 26 (.ld true 8 (.t 5)), zi 27 (.call (.c (.fn 119 [] [])) [((.t 26), zC)]), zm 25 27, zv 28 (.ext (.t 25) 0), zv 29 (.ext (.t 25) 1), zi 7 zaC, zi 8 zaN, zn (.st 8 zC (.t 7) (.t 28)), zn (.st 5 zN (.t 8) (.t 29))]
def qbpc : IC := zr [zv 30 (.ld true 8 (.t 7)), zn (.st 8 zC (.t 5) (.t 30))]
def qby8 : IC := zr [zv 31 (.fad (.t 4) 1), zv 32 (.ld false 1 (.t 31)), zv 33 (.ld true 5 (.t 4)), zv 34 (.ld true 5 (.t 8)), zv 35 (.bsl 5 [((.t 33), zN), ((.t 34), zN)]), zv 36 (.bld [(.int .i64 0), (.int .i64 0), (.int .i64 0), (.str []), .nils] [(0, 1, (zc 2)), (1, 1, (.t 32)), (3, 1, (.c (.str [45, 62]))), (4, 1, (.t 35))]), zn (.st 5 zN (.t 4) (.t 36))]
def qb73 : IC := .drw [zp (zv 37 (.ld true 8 (.t 5))), (zi 38 (.call (.c (.fn 120 [] [])) [((.t 37), zC)]), []), (zv 39 (.ld true 5 (.t 4)), [1]), (zn (.st 8 zC (.t 2) (.t 38)), [2]), (zn (.st 5 zN (.t 3) (.t 39)), [])]
def k0gd : IC := (.seq qb6v (.seq qb93 (.seq qcby (.seq qbz3 (.seq (.seq qbze (.cond (.t 24) (.seq qbne (.seq qbpc qby8)) .skip)) (.seq qb73 .ret))))))
@[go_sem] def s0gd : List (RV × Co) := [(.c true 8 2, zC), (.c true 5 3, zN)]
theorem c0gd : cFun Tryz.prog 119 = some (40, k0gd, s0gd) := by kernel_rfl

def qb2t : IC := zr [zi 1 (.box (.t 0)), zi 2 zaC]
def qb2w : IC := zr [zv 3 (.fad (.t 1) 6), zv 4 (.ld false 1 (.t 3)), zv 5 (.bin .eql .no (.t 4) (zc 0)), zm 6 5, zw 6 true 7 (.fad (.t 1) 5), zw 6 true 8 (.ld false 1 (.t 7)), zw 6 true 9 (.bin .gtr .no (.t 8) (zc 0)), zv 10 (.pick (.t 6) (.t 9) (.c (.bool false)))]
def qcbo : IC := zr [zv 11 (.fad (.t 1) 5), zv 12 (.ld false 1 (.t 11)), zv 13 (.bin .sub .no (.t 12) (zc 1)), zv 14 (.fad (.t 1) 5), zn (.st 1 .id (.t 14) (.t 13))]
def qbxq : IC := zr [zv 15 (.ld true 8 (.t 1)), zn (.st 8 zC (.t 2) (.t 15))]
def k0cn : IC := (.seq qb2t (.seq (.seq qb2w (.cond (.t 10) qcbo .skip)) (.seq qbxq .ret)))
@[go_sem] def s0cn : List (RV × Co) := [(.c true 8 2, zC)]
theorem c0cn : cFun Tryz.prog 120 = some (16, k0cn, s0cn) := by kernel_rfl

def qceh : IC := zr [zi 1 (.box (.t 0)), zv 2 zf]
def qckv : IC := zr [zv 4 (.ld true 8 (.t 1)), zi 5 (.call (.c (.fn 42 [] [])) [((.t 4), zC)]), zv 6 (.fld false 1 0 (.t 5)), zm 3 6]
def qcie : IC := zr [zv 7 (.fad (.t 1) 6), zv 8 (.ld false 1 (.t 7)), zv 9 (.bin .eql .no (.t 8) (zc 0)), zm 10 9, zw 10 true 11 (.mov (.t 3)), zw 10 true 12 (.bin .eql .no (.t 11) (zc 1)), zw 10 true 13 (.mov (.t 12)), zw 13 false 14 (.mov (.t 3)), zw 13 false 15 (.bin .eql .no (.t 14) (zc 2)), zw 10 true 16 (.pick (.t 13) (.c (.bool true)) (.t 15)), zw 10 true 17 (.mov (.t 16)), zw 17 false 18 (.ld true 8 (.t 1)), ⟨some (17, false), some 19, .call (.c (.fn 46 [] [])) [((.t 18), zC), ((.c (.str [40])), .id)]⟩, zw 10 true 20 (.pick (.t 17) (.c (.bool true)) (.t 19)), zv 21 (.pick (.t 10) (.t 20) (.c (.bool false))), zm 2 21]
def k0f : IC := (.seq qceh (.seq qckv (.seq qcie .ret)))
@[go_sem] def s0f : List (RV × Co) := [(.t 2, .id)]
theorem c0f : cFun Tryz.prog 121 = some (22, k0f, s0f) := by kernel_rfl

def qcbm : IC := zr [zi 2 (.box (.t 0)), zv 4 zf]
def qccd : IC := zr [zv 8 (.fad (.t 2) 6), zv 9 (.ld false 1 (.t 8)), zv 10 (.bin .neq .no (.t 9) (zc 0))]
def qb91 : IC := zr [zv 4 zf]
def qbsd : IC := zr [zv 5 (.mov (zc 0))]
def qbnk : IC := zr [zv 6 (.mov (zc 0))]
def qb7j : IC := zr [zm 11 6, zv 12 (.fad (.t 2) 0), zv 13 (.ld false 1 (.t 12)), zv 14 (.len false (.t 13)), zv 15 (.bin .lss .no (.t 11) (.t 14))]
def qb1q : IC := zr [zv 18 (.fad (.t 2) 0), zv 19 (.ld false 1 (.t 18)), zm 20 6, zv 21 (.iad 4 (.t 19) (.t 20)), zv 22 (.ld true 4 (.t 21)), zi 7 zaT, zn (.st 4 .id (.t 7) (.t 22))]
def qb6w : IC := zr [zv 24 (.ld true 4 (.t 7)), zi 25 (.call (.c (.fn 90 [] [])) [((.t 24), .id), ((.c (.str [40])), .id)]), zm 26 25, zw 26 false 27 (.ld true 4 (.t 7)), ⟨some (26, false), some 28, .call (.c (.fn 90 [] [])) [((.t 27), .id), ((.c (.str [123])), .id)]⟩, zv 29 (.pick (.t 26) (.c (.bool true)) (.t 28)), zm 23 29]
def qboc : IC := zr [zm 30 5, zv 31 (.bin .add .no (.t 30) (zc 1)), zm 5 31]
def qbdv : IC := zr [zv 33 (.ld true 4 (.t 7)), zi 34 (.call (.c (.fn 90 [] [])) [((.t 33), .id), ((.c (.str [41])), .id)]), zm 35 34, zw 35 false 36 (.ld true 4 (.t 7)), ⟨some (35, false), some 37, .call (.c (.fn 90 [] [])) [((.t 36), .id), ((.c (.str [125])), .id)]⟩, zv 38 (.pick (.t 35) (.c (.bool true)) (.t 37)), zm 32 38]
def qbho : IC := zr [zm 39 5, zv 40 (.bin .sub .no (.t 39) (zc 1)), zm 5 40]
def qbj9 : IC := zr [zm 42 5, zv 43 (.bin .eql .no (.t 42) (zc 0)), zm 44 43, zw 44 true 45 (.ld true 4 (.t 7)), ⟨some (44, true), some 46, .call (.c (.fn 90 [] [])) [((.t 45), .id), ((.c (.str [59])), .id)]⟩, zv 47 (.pick (.t 44) (.t 46) (.c (.bool false))), zm 41 47]
def qbjh : IC := zr [zv 4 zf]
def qbg8 : IC := zr [zm 49 5, zv 50 (.bin .eql .no (.t 49) (zc 0)), zm 51 50, zw 51 true 52 (.ld true 4 (.t 7)), zw 51 true 53 (.mov (.t 1)), ⟨some (51, true), some 54, .call (.c (.fn 90 [] [])) [((.t 52), .id), ((.t 53), .id)]⟩, zv 55 (.pick (.t 51) (.t 54) (.c (.bool false))), zm 48 55]
def qblr : IC := zr [zv 4 (.mov (.c (.bool true)))]
def qblx : IC := zr [zm 56 5, zv 57 (.bin .lss .no (.t 56) (zc 0))]
def qblw : IC := zr [zv 4 zf]
def qbf9 : IC := zr [zm 16 6, zv 17 (.bin .add .no (.t 16) (zc 1)), zm 6 17]
def qbqv : IC := (.seq (.seq qb7j (.cond (.t 15) .skip (.exit 0))) (.seq (.block 1 (.seq qb1q (.seq (.block 2 (.seq qb6w (.cond (.t 23) qboc (.seq qbdv (.cond (.t 32) qbho (.seq qbj9 (.cond (.t 41) (.seq qbjh .ret) (.seq qbg8 (.cond (.t 48) (.seq qblr .ret) .skip))))))))) (.seq qblx (.cond (.t 57) (.seq qblw .ret) .skip))))) qbf9))
def qbcn : IC := zr [zv 4 zf]
def k0fh : IC := (.seq qcbm (.seq (.seq qccd (.cond (.t 10) (.seq qb91 .ret) .skip)) (.seq qbsd (.seq (.seq qbnk (.block 0 (.loop qbqv))) (.seq qbcn .ret)))))
@[go_sem] def s0fh : List (RV × Co) := [(.t 4, .id)]
theorem c0fh : cFun Tryz.prog 122 = some (58, k0fh, s0fh) := by kernel_rfl

def qbm4 : IC := zr [zi 1 (.box (.t 0)), zi 2 zaC, zi 3 zaN]
def qb22 : IC := zr [zv 8 (.ld true 8 (.t 1)), zi 9 (.call (.c (.fn 80 [] [])) [((.t 8), zC), ((zc 2), .id)]), zm 7 9, zv 10 (.ext (.t 7) 0), zv 11 (.ext (.t 7) 1), zv 12 (.ext (.t 7) 2), zi 4 zaT, zn (.st 8 zC (.t 1) (.t 10)), zn (.st 4 .id (.t 4) (.t 11)), zm 5 12]
def qbo1 : IC := zr [zv 14 (.ld true 8 (.t 1)), zi 15 (.call (.c (.fn 81 [] [])) [((.t 14), zC)]), zm 13 15, zv 16 (.ext (.t 13) 0), zv 17 (.ext (.t 13) 1), zi 6 zaN, zn (.st 8 zC (.t 1) (.t 16)), zn (.st 5 zN (.t 6) (.t 17))]
def qboi : IC := .drw [zp (zv 18 (.ld true 8 (.t 1))), zp (zv 19 (.fad (.t 4) 1)), zp (zv 20 (.ld false 1 (.t 19))), zp (zv 21 (.fad (.t 4) 3)), zp (zv 22 (.ld false 1 (.t 21))), zp (zv 23 (.ld true 5 (.t 6))), (zv 24 (.bsl 5 [((.t 23), zN)]), []), (zv 25 (.bld [(.int .i64 0), (.int .i64 0), (.int .i64 0), (.str []), .nils] [(0, 1, (zc 3)), (1, 1, (.t 20)), (3, 1, (.t 22)), (4, 1, (.t 24))]), []), (zn (.st 8 zC (.t 2) (.t 18)), [2, 4, 5, 6]), (zn (.st 5 zN (.t 3) (.t 25)), [])]
def k0fx : IC := (.seq qbm4 (.seq qb22 (.seq qbo1 (.seq qboi .ret))))
@[go_sem] def s0fx : List (RV × Co) := [(.c true 8 2, zC), (.c true 5 3, zN)]
theorem c0fx : cFun Tryz.prog 123 = some (26, k0fx, s0fx) := by kernel_rfl

def qb68 : IC := zr [zi 1 (.box (.t 0)), zi 2 zaC, zi 3 zaN]
def qbp7 : IC := zr [zv 16 (.ld true 8 (.t 1)), zi 17 (.call (.c (.fn 42 [] [])) [((.t 16), zC)]), zv 18 (.fld false 1 1 (.t 17)), zm 4 18]
def qb6n : IC := zr [zv 20 (.ld true 8 (.t 1)), zv 21 (.bsl 1 [((.c (.int .u8 92)), .id)]), zv 22 (.cbs (.t 21)), zi 23 (.call (.c (.fn 23 [] [])) [((.t 20), zC), ((.t 22), .id)]), zm 19 23, zv 24 (.ext (.t 19) 0), zv 25 (.ext (.t 19) 1), zi 5 zaC, zn (.st 8 zC (.t 5) (.t 24)), zm 6 25]
def qbss : IC := zr [zm 26 6]
def qbtv : IC := zr [zv 27 (.ld true 8 (.t 5)), zi 28 (.call (.c (.fn 141 [] [])) [((.t 27), zC)]), zv 29 (.ext (.t 28) 0), zv 30 (.ext (.t 28) 1), zn (.st 8 zC (.t 2) (.t 29)), zn (.st 5 zN (.t 3) (.t 30))]
def qbpk : IC := zr [zv 32 (.ld true 8 (.t 1)), zi 33 (.call (.c (.fn 23 [] [])) [((.t 32), zC), ((.c (.str [108, 101, 116])), .id)]), zm 31 33, zv 34 (.ext (.t 31) 0), zv 35 (.ext (.t 31) 1), zi 7 zaC, zn (.st 8 zC (.t 7) (.t 34)), zm 8 35]
def qbsn : IC := zr [zm 36 8]
def qbp6 : IC := zr [zv 37 (.ld true 8 (.t 7)), zm 38 4, zi 39 (.call (.c (.fn 142 [] [])) [((.t 37), zC), ((.t 38), .id)]), zv 40 (.ext (.t 39) 0), zv 41 (.ext (.t 39) 1), zn (.st 8 zC (.t 2) (.t 40)), zn (.st 5 zN (.t 3) (.t 41))]
def qbrt : IC := zr [zv 43 (.ld true 8 (.t 1)), zi 44 (.call (.c (.fn 23 [] [])) [((.t 43), zC), ((.c (.str [99, 97, 115, 101])), .id)]), zm 42 44, zv 45 (.ext (.t 42) 0), zv 46 (.ext (.t 42) 1), zi 9 zaC, zn (.st 8 zC (.t 9) (.t 45)), zm 10 46]
def qbv7 : IC := zr [zm 47 10]
def qbi0 : IC := zr [zv 48 (.ld true 8 (.t 9)), zm 49 4, zi 50 (.call (.c (.fn 143 [] [])) [((.t 48), zC), ((.t 49), .id)]), zv 51 (.ext (.t 50) 0), zv 52 (.ext (.t 50) 1), zn (.st 8 zC (.t 2) (.t 51)), zn (.st 5 zN (.t 3) (.t 52))]
def qbez : IC := zr [zv 54 (.ld true 8 (.t 1)), zi 55 (.call (.c (.fn 23 [] [])) [((.t 54), zC), ((.c (.str [105, 102])), .id)]), zm 53 55, zv 56 (.ext (.t 53) 0), zv 57 (.ext (.t 53) 1), zi 11 zaC, zn (.st 8 zC (.t 11) (.t 56)), zm 12 57]
def qbet : IC := zr [zm 58 12]
def qbcy : IC := zr [zv 59 (.ld true 8 (.t 11)), zm 60 4, zi 61 (.call (.c (.fn 144 [] [])) [((.t 59), zC), ((.t 60), .id)]), zv 62 (.ext (.t 61) 0), zv 63 (.ext (.t 61) 1), zn (.st 8 zC (.t 2) (.t 62)), zn (.st 5 zN (.t 3) (.t 63))]
def qblc : IC := zr [zv 65 (.ld true 8 (.t 1)), zi 66 (.call (.c (.fn 145 [] [])) [((.t 65), zC)]), zm 64 66, zv 67 (.ext (.t 64) 0), zv 68 (.ext (.t 64) 1), zi 13 zaN, zn (.st 8 zC (.t 1) (.t 67)), zn (.st 5 zN (.t 13) (.t 68))]
def qbkc : IC := zr [zv 69 (.ld true 8 (.t 1)), zi 70 (.call (.c (.fn 146 [] [])) [((.t 69), zC)])]
def qbev : IC := zr [zv 72 (.ld true 8 (.t 1)), zi 73 (.call (.c (.fn 145 [] [])) [((.t 72), zC)]), zm 71 73, zv 74 (.ext (.t 71) 0), zv 75 (.ext (.t 71) 1), zi 14 zaC, zi 15 zaN, zn (.st 8 zC (.t 14) (.t 74)), zn (.st 5 zN (.t 15) (.t 75))]
def qbc7 : IC := zr [zv 76 (.ld true 8 (.t 14)), zn (.st 8 zC (.t 1) (.t 76))]
def qbhy : IC := zr [zv 77 (.fad (.t 13) 1), zv 78 (.ld false 1 (.t 77)), zv 79 (.ld true 5 (.t 13)), zv 80 (.ld true 5 (.t 15)), zv 81 (.bsl 5 [((.t 79), zN), ((.t 80), zN)]), zv 82 (.bld [(.int .i64 0), (.int .i64 0), (.int .i64 0), (.str []), .nils] [(0, 1, (zc 24)), (1, 1, (.t 78)), (4, 1, (.t 81))]), zn (.st 5 zN (.t 13) (.t 82))]
def qbcz : IC := (.seq (.seq qbkc (.cond (.t 70) .skip (.exit 0))) (.block 1 (.seq qbev (.seq qbc7 qbhy))))
def qbli : IC := .drw [zp (zv 83 (.ld true 8 (.t 1))), zp (zv 84 (.ld true 5 (.t 13))), (zn (.st 8 zC (.t 2) (.t 83)), [1]), (zn (.st 5 zN (.t 3) (.t 84)), [])]
def k0fi : IC := (.seq qb68 (.seq qbp7 (.seq (.seq qb6n (.seq qbss (.cond (.t 26) (.seq qbtv .ret) .skip))) (.seq (.seq qbpk (.seq qbsn (.cond (.t 36) (.seq qbp6 .ret) .skip))) (.seq (.seq qbrt (.seq qbv7 (.cond (.t 47) (.seq qbi0 .ret) .skip))) (.seq (.seq qbez (.seq qbet (.cond (.t 58) (.seq qbcy .ret) .skip))) (.seq qblc (.seq (.block 0 (.loop qbcz)) (.seq qbli .ret)))))))))
@[go_sem] def s0fi : List (RV × Co) := [(.c true 8 2, zC), (.c true 5 3, zN)]
theorem c0fi : cFun Tryz.prog 124 = some (85, k0fi, s0fi) := by kernel_rfl

def qb2j : IC := zr [zv 2 zf]
def qbrn : IC := zr [zm 3 0, zv 4 (.bin .geq .no (.t 3) (.c (.int .u8 97))), zm 5 4, zw 5 true 6 (.mov (.t 0)), zw 5 true 7 (.bin .leq .no (.t 6) (.c (.int .u8 122))), zv 8 (.pick (.t 5) (.t 7) (.c (.bool false))), zm 9 8, zw 9 false 10 (.mov (.t 0)), zw 9 false 11 (.bin .eql .no (.t 10) (.c (.int .u8 95))), zv 12 (.pick (.t 9) (.c (.bool true)) (.t 11)), zm 2 12]
def k0dw : IC := (.seq qb2j (.seq qbrn .ret))
@[go_sem] def s0dw : List (RV × Co) := [(.t 2, .id)]
theorem c0dw : cFun Tryz.prog 125 = some (13, k0dw, s0dw) := by kernel_rfl

def qb42 : IC := zr [zv 2 zf]
def qbux : IC := zr [zv 3 zf]
def qcam : IC := zr [zv 6 (.bld [(.str []), (.str []), (.str []), (.str []), (.str []), (.str []), (.str []), (.str []), (.str []), (.str []), (.str [])] [(0, 1, (.c (.str [100, 97, 116, 97]))), (1, 1, (.c (.str [99, 108, 97, 115, 115]))), (2, 1, (.c (.str [105, 110, 115, 116, 97, 110, 99, 101]))), (3, 1, (.c (.str [119, 104, 101, 114, 101]))), (4, 1, (.c (.str [108, 101, 116]))), (5, 1, (.c (.str [105, 110]))), (6, 1, (.c (.str [99, 97, 115, 101]))), (7, 1, (.c (.str [111, 102]))), (8, 1, (.c (.str [105, 102]))), (9, 1, (.c (.str [116, 104, 101, 110]))), (10, 1, (.c (.str [101, 108, 115, 101])))]), zv 7 (.mov (zc 0))]
def qbu1 : IC := zr [zv 8 (.bin .lss .no (.t 7) (zc 11))]
def qbuw : IC := zr [zv 9 (.ida false 1 11 (.t 6) (.t 7)), zm 5 9]
def qbph : IC := zr [zm 10 5, zm 11 0, zv 12 (.bin .neq .no (.t 10) (.t 11))]
def qca6 : IC := zr [zv 3 (.mov (.c (.bool true)))]
def qbv6 : IC := zr [zv 13 (.bin .add .no (.t 7) (zc 1)), zm 7 13]
def qbpv : IC := (.seq qbu1 (.seq (.cond (.t 8) .skip (.exit 0)) (.seq (.block 1 (.seq qbuw (.seq (.seq qbph (.cond (.t 12) (.exit 1) .skip)) (.seq qca6 (.exit 0))))) qbv6)))
def qbhp : IC := zr [zm 14 3, zm 2 14]
def k0ee : IC := (.seq qb42 (.scope (.seq qbux (.seq (.label 0) (.seq (.seq qcam (.block 0 (.loop qbpv))) (.seq qbhp .ret))))))
@[go_sem] def s0ee : List (RV × Co) := [(.t 2, .id)]
theorem c0ee : cFun Tryz.prog 126 = some (15, k0ee, s0ee) := by kernel_rfl

def qb2f : IC := zr [zi 1 (.box (.t 0)), zv 2 zf]
def qb1x : IC := zr [zv 3 (.ld true 5 (.t 1)), zi 4 (.call (.c (.fn 51 [] [])) [((.t 3), zN)]), zm 5 4, zw 5 false 6 (.ld true 5 (.t 1)), ⟨some (5, false), some 7, .call (.c (.fn 52 [] [])) [((.t 6), zN)]⟩, zv 8 (.pick (.t 5) (.c (.bool true)) (.t 7)), zm 2 8]
def k0el : IC := (.seq qb2f (.seq qb1x .ret))
@[go_sem] def s0el : List (RV × Co) := [(.t 2, .id)]
theorem c0el : cFun Tryz.prog 127 = some (9, k0el, s0el) := by kernel_rfl

def qb6z : IC := zr [zi 1 (.box (.t 0)), zv 2 zf]
def qcbu : IC := zr [zv 3 (.fad (.t 1) 0), zv 4 (.ld false 1 (.t 3)), zv 5 (.bin .eql .no (.t 4) (zc 15)), zm 6 5, zw 6 true 7 (.ld true 5 (.t 1)), ⟨some (6, true), some 8, .call (.c (.fn 26 [] [])) [((.t 7), zN)]⟩, zv 9 (.pick (.t 6) (.t 8) (.c (.bool false))), zm 10 9, zw 10 true 11 (.fad (.t 1) 4), zw 10 true 12 (.ld false 1 (.t 11)), zw 10 true 13 (.len false (.t 12)), zw 10 true 14 (.bin .eql .no (.t 13) (zc 2)), zv 15 (.pick (.t 10) (.t 14) (.c (.bool false))), zm 16 15, zw 16 true 17 (.fad (.t 1) 4), zw 16 true 18 (.ld false 1 (.t 17)), zw 16 true 19 (.iad 5 (.t 18) (zc 0)), zw 16 true 20 (.ld true 5 (.t 19)), ⟨some (16, true), some 21, .call (.c (.fn 147 [] [])) [((.t 20), zN)]⟩, zv 22 (.pick (.t 16) (.t 21) (.c (.bool false))), zm 23 22, zw 23 true 24 (.fad (.t 1) 4), zw 23 true 25 (.ld false 1 (.t 24)), zw 23 true 26 (.iad 5 (.t 25) (zc 1)), zw 23 true 27 (.ld true 5 (.t 26)), ⟨some (23, true), some 28, .call (.c (.fn 95 [] [])) [((.t 27), zN)]⟩, zv 29 (.pick (.t 23) (.t 28) (.c (.bool false))), zm 2 29]
def k0eo : IC := (.seq qb6z (.seq qcbu .ret))
@[go_sem] def s0eo : List (RV × Co) := [(.t 2, .id)]
theorem c0eo : cFun Tryz.prog 128 = some (30, k0eo, s0eo) := by kernel_rfl

def qbxx : IC := zr [zv 4 (.mov (zc 0))]
def qbxl : IC := zr [zm 6 0, zv 7 (.len true (.t 6)), zv 8 (.mov (zc 0))]
def qb71 : IC := zr [zv 9 (.bin .lss .no (.t 8) (.t 7))]
def qbnr : IC := zr [zm 10 8, zm 5 10]
def qcaw : IC := zr [zm 11 1, zm 12 0, zm 13 5, zv 14 (.idx (.t 12) (.t 13)), zi 15 (.call (.t 11) [((.t 14), .id)]), zv 16 (.un .not (.t 15))]
def qbyn : IC := zr [zm 17 5, zm 4 17]
def qb6b : IC := zr [zv 18 (.bin .add .no (.t 8) (zc 1)), zm 8 18]
def qbzi : IC := (.seq qb71 (.seq (.cond (.t 9) .skip (.exit 0)) (.seq (.block 1 (.seq qbnr (.seq qcaw (.cond (.t 16) (.seq qbyn .ret) .skip)))) qb6b)))
def qb3p : IC := zr [zm 19 0, zv 20 (.len true (.t 19)), zm 4 20]
def k0dq : IC := (.seq qbxx (.seq (.seq qbxl (.block 0 (.loop qbzi))) (.seq qb3p .ret)))
@[go_sem] def s0dq : List (RV × Co) := [(.t 4, .id)]
theorem c0dq : cFun Tryz.prog 129 = some (21, k0dq, s0dq) := by kernel_rfl

def qbru : IC := zr [zv 2 zf]
def qb4e : IC := zr [zm 3 0, zv 4 (.bin .eql .no (.t 3) (.c (.int .u8 9))), zm 5 4, zw 5 false 6 (.mov (.t 0)), zw 5 false 7 (.bin .eql .no (.t 6) (.c (.int .u8 10))), zv 8 (.pick (.t 5) (.c (.bool true)) (.t 7)), zm 9 8, zw 9 false 10 (.mov (.t 0)), zw 9 false 11 (.bin .eql .no (.t 10) (.c (.int .u8 13))), zv 12 (.pick (.t 9) (.c (.bool true)) (.t 11)), zm 13 12, zw 13 false 14 (.mov (.t 0)), zw 13 false 15 (.bin .eql .no (.t 14) (.c (.int .u8 32))), zv 16 (.pick (.t 13) (.c (.bool true)) (.t 15)), zm 2 16]
def k0do : IC := (.seq qbru (.seq qb4e .ret))
@[go_sem] def s0do : List (RV × Co) := [(.t 2, .id)]
theorem c0do : cFun Tryz.prog 130 = some (17, k0do, s0do) := by kernel_rfl

def qbpx : IC := zr [zv 4 zf]
def qb2o : IC := zr [zm 5 0, zm 6 1, zi 7 (.call (.c (.fn 148 [] [])) [((.t 5), .id), ((.t 6), .id)]), zm 4 7]
def k0ds : IC := (.seq qbpx (.seq qb2o .ret))
@[go_sem] def s0ds : List (RV × Co) := [(.t 4, .id)]
theorem c0ds : cFun Tryz.prog 131 = some (8, k0ds, s0ds) := by kernel_rfl

def qcbz : IC := zr [zv 2 zf]
def qb4g : IC := zr [zm 3 0, zv 4 (.bin .neq .no (.t 3) (.c (.int .u8 10))), zm 2 4]
def k0dp : IC := (.seq qcbz (.seq qb4g .ret))
@[go_sem] def s0dp : List (RV × Co) := [(.t 2, .id)]
theorem c0dp : cFun Tryz.prog 132 = some (5, k0dp, s0dp) := by kernel_rfl

def qcdr : IC := zr [zv 2 zf]
def qb2x : IC := zr [zm 3 0, zv 4 (.bin .geq .no (.t 3) (.c (.int .u8 48))), zm 5 4, zw 5 true 6 (.mov (.t 0)), zw 5 true 7 (.bin .leq .no (.t 6) (.c (.int .u8 57))), zv 8 (.pick (.t 5) (.t 7) (.c (.bool false))), zm 2 8]
def k0dm : IC := (.seq qcdr (.seq qb2x .ret))
@[go_sem] def s0dm : List (RV × Co) := [(.t 2, .id)]
theorem c0dm : cFun Tryz.prog 133 = some (9, k0dm, s0dm) := by kernel_rfl

def qcaf : IC := zr [zv 2 (.mov (zc 0)), zv 3 (.mov (zc 0))]
def qbp8 : IC := zr [zm 8 0, zv 9 (.len true (.t 8)), zv 10 (.mov (zc 0))]
def qbnu : IC := zr [zv 11 (.bin .lss .no (.t 10) (.t 9))]
def qb40 : IC := zr [zm 12 10, zm 4 12]
def qby4 : IC := zr [zm 13 0, zm 14 4, zv 15 (.idx (.t 13) (.t 14)), zv 16 (.bin .lss .no (.t 15) (.c (.int .u8 48))), zm 17 16, zw 17 false 18 (.mov (.t 0)), zw 17 false 19 (.mov (.t 4)), zw 17 false 20 (.idx (.t 18) (.t 19)), zw 17 false 21 (.bin .gtr .no (.t 20) (.c (.int .u8 57))), zv 22 (.pick (.t 17) (.c (.bool true)) (.t 21))]
def qbm1 : IC := zr [zv 2 (.mov (zc 0)), zv 3 (.mov (zc 5))]
def qb6l : IC := zr [zv 23 (.bin .add .no (.t 10) (zc 1)), zm 10 23]
def qcae : IC := (.seq qbnu (.seq (.cond (.t 11) .skip (.exit 0)) (.seq (.block 1 (.seq qb40 (.seq qby4 (.cond (.t 22) (.seq qbm1 .ret) .skip)))) qb6l)))
def qcdi : IC := zr [zm 24 0, zv 25 (.bin .eql .no (.t 24) (.c (.str [])))]
def qbea : IC := zr [zv 2 (.mov (zc 0)), zv 3 (.mov (zc 5))]
def qbde : IC := zr [zv 5 (.mov (zc 0)), zv 6 (.mov (zc 0))]
def qbg2 : IC := zr [zm 26 0, zm 27 6, zv 28 (.idx (.t 26) (.t 27)), zv 29 (.bin .sub .no (.t 28) (.c (.int .u8 48))), zv 30 (.cvi .i64 (.t 29)), zm 7 30]
def qbkf : IC := zr [zm 31 5, zm 32 7, zv 33 (.bin .sub .no (zc 9223372036854775807) (.t 32)), zv 34 (.bin .quo .no (.t 33) (zc 10)), zv 35 (.bin .gtr .no (.t 31) (.t 34))]
def qbjz : IC := zr [zv 2 (.mov (zc 0)), zv 3 (.mov (zc 4))]
def qble : IC := zr [zm 36 5, zv 37 (.bin .mul .no (zc 10) (.t 36)), zm 38 7, zv 39 (.bin .add .no (.t 37) (.t 38)), zm 5 39]
def qbld : IC := zr [zm 40 6, zv 41 (.bin .add .no (.t 40) (zc 1)), zm 6 41]
def qbcu : IC := zr [zm 42 6, zm 43 0, zv 44 (.len true (.t 43)), zv 45 (.bin .lss .no (.t 42) (.t 44))]
def qblo : IC := zr [zm 46 5, zm 2 46, zv 3 (.mov (zc 0))]
def k0dv : IC := (.seq qcaf (.scope (.seq (.seq qbp8 (.block 0 (.loop qcae))) (.seq (.seq qcdi (.cond (.t 25) (.seq qbea .ret) .skip)) (.seq qbde (.seq (.label 0) (.seq qbg2 (.seq (.seq qbkf (.cond (.t 35) (.seq qbjz .ret) .skip)) (.seq qble (.seq (.seq qbld (.seq qbcu (.cond (.t 45) (.goto 0) .skip))) (.seq qblo .ret)))))))))))
@[go_sem] def s0dv : List (RV × Co) := [(.t 2, .id), (.t 3, .id)]
theorem c0dv : cFun Tryz.prog 134 = some (47, k0dv, s0dv) := by kernel_rfl

def qbo2 : IC := zr [zv 2 zf]
def qboa : IC := zr [zm 3 0, zv 4 (.bin .geq .no (.t 3) (.c (.int .u8 97))), zm 5 4, zw 5 true 6 (.mov (.t 0)), zw 5 true 7 (.bin .leq .no (.t 6) (.c (.int .u8 122))), zv 8 (.pick (.t 5) (.t 7) (.c (.bool false))), zm 9 8, zw 9 false 10 (.mov (.t 0)), zw 9 false 11 (.bin .geq .no (.t 10) (.c (.int .u8 65))), zw 9 false 12 (.mov (.t 11)), zw 12 true 13 (.mov (.t 0)), zw 12 true 14 (.bin .leq .no (.t 13) (.c (.int .u8 90))), zw 9 false 15 (.pick (.t 12) (.t 14) (.c (.bool false))), zv 16 (.pick (.t 9) (.c (.bool true)) (.t 15)), zm 17 16, zw 17 false 18 (.mov (.t 0)), zw 17 false 19 (.bin .eql .no (.t 18) (.c (.int .u8 95))), zv 20 (.pick (.t 17) (.c (.bool true)) (.t 19)), zm 21 20, zw 21 false 22 (.mov (.t 0)), zw 21 false 23 (.bin .eql .no (.t 22) (.c (.int .u8 39))), zv 24 (.pick (.t 21) (.c (.bool true)) (.t 23)), zm 25 24, zw 25 false 26 (.mov (.t 0)), ⟨some (25, false), some 27, .call (.c (.fn 133 [] [])) [((.t 26), .id)]⟩, zv 28 (.pick (.t 25) (.c (.bool true)) (.t 27)), zm 2 28]
def k0dn : IC := (.seq qbo2 (.seq qboa .ret))
@[go_sem] def s0dn : List (RV × Co) := [(.t 2, .id)]
theorem c0dn : cFun Tryz.prog 135 = some (29, k0dn, s0dn) := by kernel_rfl

def qb46 : IC := zr [zi 2 zaT]
def qb47 : IC := zr [zm 4 0, zv 5 (.bld [(.int .i64 0), (.int .i64 0), (.int .i64 0), (.str [])] [(0, 1, (zc 1)), (3, 1, (.t 4))]), zi 3 zaT, zn (.st 4 .id (.t 3) (.t 5))]
def qbvi : IC := zr [zm 7 0, zv 8 (.bin .eql .no (.t 7) (.c (.str [95]))), zm 6 8]
def qbpg : IC := zr [zv 9 (.fad (.t 3) 0), zn (.st 1 .id (.t 9) (zc 5))]
def qb72 : IC := zr [zm 11 0, zi 12 (.call (.c (.fn 126 [] [])) [((.t 11), .id)]), zm 10 12]
def qb8l : IC := zr [zv 13 (.fad (.t 3) 0), zn (.st 1 .id (.t 13) (zc 4))]
def qbxe : IC := zr [zm 15 0, zi 16 (.call (.c (.fn 53 [] [])) [((.t 15), .id)]), zm 14 16]
def qbon : IC := zr [zv 17 (.fad (.t 3) 0), zn (.st 1 .id (.t 17) (zc 2))]
def qbym : IC := zr [zv 18 (.ld true 4 (.t 3)), zn (.st 4 .id (.t 2) (.t 18))]
def k0di : IC := (.seq qb46 (.seq qb47 (.seq (.block 0 (.seq qbvi (.cond (.t 6) qbpg (.seq qb72 (.cond (.t 10) qb8l (.seq qbxe (.cond (.t 14) qbon .skip))))))) (.seq qbym .ret))))
@[go_sem] def s0di : List (RV × Co) := [(.c true 4 2, .id)]
theorem c0di : cFun Tryz.prog 136 = some (19, k0di, s0di) := by kernel_rfl

def qb9h : IC := zr [zv 2 (.mov (zc 0))]
def qbpm : IC := zr [zv 5 (.bld [(.str []), (.str []), (.str []), (.str []), (.str []), (.str []), (.str []), (.str []), (.str []), (.str []), (.str []), (.str [])] [(0, 1, (.c (.str [45, 62]))), (1, 1, (.c (.str [61, 62]))), (2, 1, (.c (.str [58, 58]))), (3, 1, (.c (.str [40]))), (4, 1, (.c (.str [41]))), (5, 1, (.c (.str [123]))), (6, 1, (.c (.str [125]))), (7, 1, (.c (.str [59]))), (8, 1, (.c (.str [44]))), (9, 1, (.c (.str [61]))), (10, 1, (.c (.str [124]))), (11, 1, (.c (.str [92])))]), zv 6 (.mov (zc 0))]
def qbrh : IC := zr [zv 7 (.bin .lss .no (.t 6) (zc 12))]
def qbom : IC := zr [zv 8 (.ida false 1 12 (.t 5) (.t 6)), zm 4 8]
def qb86 : IC := zr [zm 9 0, zm 10 4, zi 11 (.call (.c (.fn 131 [] [])) [((.t 9), .id), ((.t 10), .id)])]
def qb2d : IC := zr [zm 12 4, zv 13 (.len true (.t 12)), zm 2 13]
def qbwy : IC := zr [zv 14 (.bin .add .no (.t 6) (zc 1)), zm 6 14]
def qb3q : IC := (.seq qbrh (.seq (.cond (.t 7) .skip (.exit 0)) (.seq (.block 1 (.seq qbom (.seq qb86 (.cond (.t 11) (.seq qb2d .ret) .skip)))) qbwy)))
def qccw : IC := zr [zv 2 (.mov (zc 0))]
def k0dj : IC := (.seq qb9h (.seq (.seq qbpm (.block 0 (.loop qb3q))) (.seq qccw .ret)))
@[go_sem] def s0dj : List (RV × Co) := [(.t 2, .id)]
theorem c0dj : cFun Tryz.prog 137 = some (15, k0dj, s0dj) := by kernel_rfl

def qbm5 : IC := zr [zi 2 zaN, zv 3 zf]
def qbp3 : IC := zr [zm 8 0, zi 9 (.call (.c (.fn 19 [] [])) [((.t 8), .id)]), zv 10 (.fld false 1 0 (.t 9)), zv 11 (.bin .neq .no (.t 10) (zc 2))]
def qbxo : IC := zr [zm 12 0, zi 13 (.call (.c (.fn 63 [] [])) [((.t 12), .id)]), zv 14 (.ext (.t 13) 0), zv 15 (.ext (.t 13) 1), zn (.st 5 zN (.t 2) (.t 14)), zm 3 15]
def qcce : IC := zr [zm 16 0, zi 17 (.call (.c (.fn 60 [] [])) [((.t 16), .id)]), zi 4 zaT, zn (.st 4 .id (.t 4) (.t 17))]
def qb90 : IC := zr [zv 18 (.fad (.t 4) 1), zv 19 (.ld false 1 (.t 18)), zv 20 (.fad (.t 4) 3), zv 21 (.ld false 1 (.t 20)), zv 22 (.bld [(.int .i64 0), (.int .i64 0), (.int .i64 0), (.str []), .nils] [(0, 1, (zc 2)), (1, 1, (.t 19)), (3, 1, (.t 21))]), zi 5 zaN, zn (.st 5 zN (.t 5) (.t 22))]
def qb1r : IC := zr [zm 23 0, zi 24 (.call (.c (.fn 149 [] [])) [((.t 23), .id)])]
def qbtm : IC := zr [zm 26 0, zi 27 (.call (.c (.fn 63 [] [])) [((.t 26), .id)]), zm 25 27, zv 28 (.ext (.t 25) 0), zv 29 (.ext (.t 25) 1), zi 6 zaN, zn (.st 5 zN (.t 6) (.t 28)), zm 7 29]
def qbpj : IC := zr [zm 30 7, zv 31 (.un .not (.t 30))]
def qcch : IC := zr [zv 32 (.bld [(.int .i64 0), (.int .i64 0), (.int .i64 0), (.str []), .nils] []), zn (.st 5 zN (.t 2) (.t 32)), zv 3 zf]
def qbf5 : IC := zr [zv 33 (.fad (.t 5) 4), zv 34 (.ld false 1 (.t 33)), zv 35 (.ld true 5 (.t 6)), zv 36 (.bsl 5 [((.t 35), zN)]), zi 37 (.app 5 zZ 64 (.sl 5) (.t 34) (.t 36)), zv 38 (.fad (.t 5) 4), zn (.st 1 (.sl 5) (.t 38) (.t 37))]
def qbq3 : IC := (.seq (.seq qb1r (.cond (.t 24) .skip (.exit 0))) (.block 1 (.seq qbtm (.seq (.seq qbpj (.cond (.t 31) (.seq qcch .ret) .skip)) qbf5))))
def qbdd : IC := zr [zv 39 (.ld true 5 (.t 5)), zn (.st 5 zN (.t 2) (.t 39)), zv 3 (.mov (.c (.bool true)))]
def k0cd : IC := (.seq qbm5 (.seq (.seq qbp3 (.cond (.t 11) (.seq qbxo .ret) .skip)) (.seq qcce (.seq qb90 (.seq (.block 0 (.loop qbq3)) (.seq qbdd .ret))))))
@[go_sem] def s0cd : List (RV × Co) := [(.c true 5 2, zN), (.t 3, .id)]
theorem c0cd : cFun Tryz.prog 138 = some (40, k0cd, s0cd) := by kernel_rfl

def qb87 : IC := zr [zi 2 zaN, zv 3 zf]
def qb78 : IC := zr [zm 5 0, zi 6 (.call (.c (.fn 19 [] [])) [((.t 5), .id)]), zv 7 (.fld false 1 1 (.t 6)), zv 8 (.bld [(.int .i64 0), (.int .i64 0), (.int .i64 0), (.str []), .nils] [(1, 1, (.t 7))]), zi 4 zaN, zn (.st 5 zN (.t 4) (.t 8))]
def qb0s : IC := zr [zm 10 0, zi 11 (.call (.c (.fn 35 [] [])) [((.t 10), .id), ((.c (.str [92])), .id)]), zm 9 11]
def qbu4 : IC := zr [zm 12 0, zi 13 (.call (.c (.fn 19 [] [])) [((.t 12), .id)]), zv 14 (.fld false 1 0 (.t 13)), zv 15 (.bin .neq .no (.t 14) (zc 1))]
def qcdy : IC := .drw [zp (zv 16 (.ld true 5 (.t 4))), zp (zm 17 0), (zi 18 (.call (.c (.fn 69 [] [])) [((.t 17), .id), ((zc 5), .id)]), [0]), (zn (.st 5 zN (.t 2) (.t 16)), []), zp (zm 3 18)]
def qb4u : IC := zr [zm 19 0, zi 20 (.call (.c (.fn 72 [] [])) [((.t 19), .id), ((.c (.str [45, 62])), .id)]), zv 21 (.ext (.t 20) 0), zv 22 (.ext (.t 20) 1), zn (.st 5 zN (.t 2) (.t 21)), zm 3 22]
def qbnp : IC := zr [zm 24 0, zi 25 (.call (.c (.fn 35 [] [])) [((.t 24), .id), ((.c (.str [108, 101, 116])), .id)]), zm 23 25]
def qbty : IC := zr [zm 26 0, zv 27 (.ld true 5 (.t 4)), zi 28 (.call (.c (.fn 150 [] [])) [((.t 26), .id), ((.t 27), zN)]), zv 29 (.ext (.t 28) 0), zv 30 (.ext (.t 28) 1), zn (.st 5 zN (.t 2) (.t 29)), zm 3 30]
def qbpr : IC := zr [zm 32 0, zi 33 (.call (.c (.fn 35 [] [])) [((.t 32), .id), ((.c (.str [99, 97, 115, 101])), .id)]), zm 31 33]
def qbr1 : IC := zr [zm 34 0, zv 35 (.ld true 5 (.t 4)), zi 36 (.call (.c (.fn 151 [] [])) [((.t 34), .id), ((.t 35), zN)]), zv 37 (.ext (.t 36) 0), zv 38 (.ext (.t 36) 1), zn (.st 5 zN (.t 2) (.t 37)), zm 3 38]
def qbks : IC := zr [zm 40 0, zi 41 (.call (.c (.fn 35 [] [])) [((.t 40), .id), ((.c (.str [105, 102])), .id)]), zm 39 41]
def qbge : IC := zr [zm 42 0, zv 43 (.ld true 5 (.t 4)), zi 44 (.call (.c (.fn 152 [] [])) [((.t 42), .id), ((.t 43), zN)]), zv 45 (.ext (.t 44) 0), zv 46 (.ext (.t 44) 1), zn (.st 5 zN (.t 2) (.t 45)), zm 3 46]
def qblg : IC := zr [zm 47 0, zi 48 (.call (.c (.fn 153 [] [])) [((.t 47), .id)]), zv 49 (.ext (.t 48) 0), zv 50 (.ext (.t 48) 1), zn (.st 5 zN (.t 2) (.t 49)), zm 3 50]
def k0bj : IC := (.seq qb87 (.seq qb78 (.seq (.block 0 (.seq qb0s (.cond (.t 9) (.seq (.seq qbu4 (.cond (.t 15) (.seq qcdy .ret) .skip)) (.seq qb4u .ret)) (.seq qbnp (.cond (.t 23) (.seq qbty .ret) (.seq qbpr (.cond (.t 31) (.seq qbr1 .ret) (.seq qbks (.cond (.t 39) (.seq qbge .ret) .skip))))))))) (.seq qblg .ret))))
@[go_sem] def s0bj : List (RV × Co) := [(.c true 5 2, zN), (.t 3, .id)]
theorem c0bj : cFun Tryz.prog 139 = some (51, k0bj, s0bj) := by kernel_rfl

def qb9u : IC := zr [zi 1 (.box (.t 0)), zi 2 zaC, zi 3 zaN]
def qbny : IC := zr [zv 8 (.ld true 8 (.t 1)), zi 9 (.call (.c (.fn 42 [] [])) [((.t 8), zC)]), zi 4 zaT, zn (.st 4 .id (.t 4) (.t 9))]
def qb32 : IC := zr [zv 10 (.fad (.t 4) 0), zv 11 (.ld false 1 (.t 10)), zv 12 (.bin .neq .no (.t 11) (zc 2))]
def qbnh : IC := zr [zv 13 (.ld true 8 (.t 1)), zi 14 (.call (.c (.fn 81 [] [])) [((.t 13), zC)]), zv 15 (.ext (.t 14) 0), zv 16 (.ext (.t 14) 1), zn (.st 8 zC (.t 2) (.t 15)), zn (.st 5 zN (.t 3) (.t 16))]
def qb48 : IC := zr [zv 18 (.ld true 8 (.t 1)), zi 19 (.call (.c (.fn 47 [] [])) [((.t 18), zC)]), zm 17 19, zv 20 (.ext (.t 17) 0), zv 21 (.ext (.t 17) 1), zn (.st 8 zC (.t 1) (.t 20))]
def qbyc : IC := zr [zv 22 (.fad (.t 4) 1), zv 23 (.ld false 1 (.t 22)), zv 24 (.fad (.t 4) 3), zv 25 (.ld false 1 (.t 24)), zv 26 (.bld [(.int .i64 0), (.int .i64 0), (.int .i64 0), (.str []), .nils] [(0, 1, (zc 2)), (1, 1, (.t 23)), (3, 1, (.t 25))]), zi 5 zaN, zn (.st 5 zN (.t 5) (.t 26))]
def qb6d : IC := zr [zv 27 (.ld true 8 (.t 1)), zi 28 (.call (.c (.fn 154 [] [])) [((.t 27), zC)])]
def qcdg : IC := zr [zv 30 (.ld true 8 (.t 1)), zi 31 (.call (.c (.fn 81 [] [])) [((.t 30), zC)]), zm 29 31, zv 32 (.ext (.t 29) 0), zv 33 (.ext (.t 29) 1), zi 6 zaC, zi 7 zaN, zn (.st 8 zC (.t 6) (.t 32)), zn (.st 5 zN (.t 7) (.t 33))]
def qcc1 : IC := zr [zv 34 (.ld true 8 (.t 6)), zn (.st 8 zC (.t 1) (.t 34))]
def qbdp : IC := zr [zv 35 (.fad (.t 5) 4), zv 36 (.ld false 1 (.t 35)), zv 37 (.ld true 5 (.t 7)), zv 38 (.bsl 5 [((.t 37), zN)]), zi 39 (.app 5 zZ 64 (.sl 5) (.t 36) (.t 38)), zv 40 (.fad (.t 5) 4), zn (.st 1 (.sl 5) (.t 40) (.t 39))]
def qbnc : IC := (.seq (.seq qb6d (.cond (.t 28) .skip (.exit 0))) (.block 1 (.seq qcdg (.seq qcc1 qbdp))))
def qbk1 : IC := .drw [zp (zv 41 (.ld true 8 (.t 1))), zp (zv 42 (.ld true 5 (.t 5))), (zn (.st 8 zC (.t 2) (.t 41)), [1]), (zn (.st 5 zN (.t 3) (.t 42)), [])]
def k0gc : IC := (.seq qb9u (.seq qbny (.seq (.seq qb32 (.cond (.t 12) (.seq qbnh .ret) .skip)) (.seq qb48 (.seq qbyc (.seq (.block 0 (.loop qbnc)) (.seq qbk1 .ret)))))))
@[go_sem] def s0gc : List (RV × Co) := [(.c true 8 2, zC), (.c true 5 3, zN)]
theorem c0gc : cFun Tryz.prog 140 = some (43, k0gc, s0gc) := by kernel_rfl

def qbzo : IC := zr [zi 1 (.box (.t 0)), zi 2 zaC, zi 3 zaN]
def qbqe : IC := zr [zv 6 (.ld true 8 (.t 1)), zi 7 (.call (.c (.fn 42 [] [])) [((.t 6), zC)]), zv 8 (.fld false 1 0 (.t 7)), zv 9 (.bin .neq .no (.t 8) (zc 1))]
def qbyh : IC := zr [zv 10 (.ld true 8 (.t 1)), zi 11 (.call (.c (.fn 117 [] [])) [((.t 10), zC), ((zc 5), .id)]), zv 12 (.bld [(.int .i64 0), (.int .i64 0), (.int .i64 0), (.str []), .nils] []), zn (.st 8 zC (.t 2) (.t 11)), zn (.st 5 zN (.t 3) (.t 12))]
def qb4a : IC := zr [zv 14 (.ld true 8 (.t 1)), zi 15 (.call (.c (.fn 87 [] [])) [((.t 14), zC)]), zm 13 15, zv 16 (.ext (.t 13) 0), zv 17 (.ext (.t 13) 1), zn (.st 8 zC (.t 1) (.t 16)), zm 4 17]
def qb45 : IC := zr [zv 19 (.ld true 8 (.t 1)), zi 20 (.call (.c (.fn 82 [] [])) [((.t 19), zC), ((.c (.str [45, 62])), .id)]), zm 18 20, zv 21 (.ext (.t 18) 0), zv 22 (.ext (.t 18) 1), zn (.st 8 zC (.t 1) (.t 21))]
def qbyi : IC := zr [zv 24 (.ld true 8 (.t 1)), zi 25 (.call (.c (.fn 88 [] [])) [((.t 24), zC)]), zm 23 25, zv 26 (.ext (.t 23) 0), zv 27 (.ext (.t 23) 1), zi 5 zaN, zn (.st 8 zC (.t 1) (.t 26)), zn (.st 5 zN (.t 5) (.t 27))]
def qb9v : IC := .drw [zp (zv 28 (.ld true 8 (.t 1))), zp (zm 29 4), zp (zv 30 (.ld true 5 (.t 5))), (zi 31 (.call (.c (.fn 89 [] [])) [((.t 29), (.sl 4)), ((.t 30), zN)]), [0]), (zn (.st 8 zC (.t 2) (.t 28)), []), (zn (.st 5 zN (.t 3) (.t 31)), [])]
def k0fp : IC := (.seq qbzo (.seq (.seq qbqe (.cond (.t 9) (.seq qbyh .ret) .skip)) (.seq qb4a (.seq qb45 (.seq qbyi (.seq qb9v .ret))))))
@[go_sem] def s0fp : List (RV × Co) := [(.c true 8 2, zC), (.c true 5 3, zN)]
theorem c0fp : cFun Tryz.prog 141 = some (32, k0fp, s0fp) := by kernel_rfl

def qbun : IC := zr [zi 2 (.box (.t 0)), zi 4 zaC, zi 5 zaN]
def qb1a : IC := zr [zm 11 1, zv 12 (.bld [(.int .i64 0), (.int .i64 0), (.int .i64 0), (.str []), .nils] [(0, 1, (zc 26)), (1, 1, (.t 11))]), zi 6 zaN, zn (.st 5 zN (.t 6) (.t 12))]
def qbv5 : IC := zr [zv 14 (.ld true 8 (.t 2)), zi 15 (.call (.c (.fn 82 [] [])) [((.t 14), zC), ((.c (.str [123])), .id)]), zm 13 15, zv 16 (.ext (.t 13) 0), zv 17 (.ext (.t 13) 1), zn (.st 8 zC (.t 2) (.t 16))]
def qbu7 : IC := zr [zv 7 (.mov (.c (.bool true)))]
def qb9f : IC := zr [zm 18 7]
def qcb7 : IC := zr [zv 20 (.ld true 8 (.t 2)), zi 21 (.call (.c (.fn 45 [] [])) [((.t 20), zC)]), zm 19 21, zv 22 (.ext (.t 19) 0), zv 23 (.ext (.t 19) 1), zi 8 zaC, zi 9 zaN, zn (.st 8 zC (.t 8) (.t 22)), zn (.st 5 zN (.t 9) (.t 23))]
def qb1g : IC := zr [zv 24 (.fad (.t 6) 4), zv 25 (.ld false 1 (.t 24)), zv 26 (.ld true 5 (.t 9)), zv 27 (.bsl 5 [((.t 26), zN)]), zi 28 (.app 5 zZ 64 (.sl 5) (.t 25) (.t 27)), zv 29 (.fad (.t 6) 4), zn (.st 1 (.sl 5) (.t 29) (.t 28))]
def qcdb : IC := zr [zv 31 (.ld true 8 (.t 8)), zi 32 (.call (.c (.fn 155 [] [])) [((.t 31), zC)]), zm 30 32, zv 33 (.ext (.t 30) 0), zv 34 (.ext (.t 30) 1), zn (.st 8 zC (.t 2) (.t 33)), zm 7 34]
def qb0a : IC := (.seq (.seq qb9f (.cond (.t 18) .skip (.exit 0))) (.block 1 (.seq qcb7 (.seq qb1g qcdb))))
def qbjo : IC := zr [zv 36 (.ld true 8 (.t 2)), zi 37 (.call (.c (.fn 82 [] [])) [((.t 36), zC), ((.c (.str [125])), .id)]), zm 35 37, zv 38 (.ext (.t 35) 0), zv 39 (.ext (.t 35) 1), zn (.st 8 zC (.t 2) (.t 38))]
def qbeu : IC := zr [zv 41 (.ld true 8 (.t 2)), zi 42 (.call (.c (.fn 82 [] [])) [((.t 41), zC), ((.c (.str [105, 110])), .id)]), zm 40 42, zv 43 (.ext (.t 40) 0), zv 44 (.ext (.t 40) 1), zn (.st 8 zC (.t 2) (.t 43))]
def qbja : IC := zr [zv 46 (.ld true 8 (.t 2)), zi 47 (.call (.c (.fn 88 [] [])) [((.t 46), zC)]), zm 45 47, zv 48 (.ext (.t 45) 0), zv 49 (.ext (.t 45) 1), zi 10 zaN, zn (.st 8 zC (.t 2) (.t 48)), zn (.st 5 zN (.t 10) (.t 49))]
def qbj2 : IC := zr [zv 50 (.fad (.t 6) 4), zv 51 (.ld false 1 (.t 50)), zv 52 (.ld true 5 (.t 10)), zv 53 (.bsl 5 [((.t 52), zN)]), zi 54 (.app 5 zZ 64 (.sl 5) (.t 51) (.t 53)), zv 55 (.fad (.t 6) 4), zn (.st 1 (.sl 5) (.t 55) (.t 54))]
def qbfc : IC := .drw [zp (zv 56 (.ld true 8 (.t 2))), zp (zv 57 (.ld true 5 (.t 6))), (zn (.st 8 zC (.t 4) (.t 56)), [1]), (zn (.st 5 zN (.t 5) (.t 57)), [])]
def k0fm : IC := (.seq qbun (.seq qb1a (.seq qbv5 (.seq qbu7 (.seq (.block 0 (.loop qb0a)) (.seq qbjo (.seq qbeu (.seq qbja (.seq qbj2 (.seq qbfc .ret))))))))))
@[go_sem] def s0fm : List (RV × Co) := [(.c true 8 4, zC), (.c true 5 5, zN)]
theorem c0fm : cFun Tryz.prog 142 = some (58, k0fm, s0fm) := by kernel_rfl

def qbpo : IC := zr [zi 2 (.box (.t 0)), zi 4 zaC, zi 5 zaN]
def qb4m : IC := zr [zv 13 (.ld true 8 (.t 2)), zi 14 (.call (.c (.fn 88 [] [])) [((.t 13), zC)]), zm 12 14, zv 15 (.ext (.t 12) 0), zv 16 (.ext (.t 12) 1), zi 6 zaN, zn (.st 8 zC (.t 2) (.t 15)), zn (.st 5 zN (.t 6) (.t 16))]
def qbup : IC := zr [zm 17 1, zv 18 (.ld true 5 (.t 6)), zv 19 (.bsl 5 [((.t 18), zN)]), zv 20 (.bld [(.int .i64 0), (.int .i64 0), (.int .i64 0), (.str []), .nils] [(0, 1, (zc 27)), (1, 1, (.t 17)), (4, 1, (.t 19))]), zi 7 zaN, zn (.st 5 zN (.t 7) (.t 20))]
def qbxm : IC := zr [zv 22 (.ld true 8 (.t 2)), zi 23 (.call (.c (.fn 82 [] [])) [((.t 22), zC), ((.c (.str [111, 102])), .id)]), zm 21 23, zv 24 (.ext (.t 21) 0), zv 25 (.ext (.t 21) 1), zn (.st 8 zC (.t 2) (.t 24))]
def qbov : IC := zr [zv 27 (.ld true 8 (.t 2)), zi 28 (.call (.c (.fn 82 [] [])) [((.t 27), zC), ((.c (.str [123])), .id)]), zm 26 28, zv 29 (.ext (.t 26) 0), zv 30 (.ext (.t 26) 1), zn (.st 8 zC (.t 2) (.t 29))]
def qbz5 : IC := zr [zv 8 (.mov (.c (.bool true)))]
def qbxs : IC := zr [zm 31 8]
def qbzy : IC := zr [zv 33 (.ld true 8 (.t 2)), zi 34 (.call (.c (.fn 156 [] [])) [((.t 33), zC)]), zm 32 34, zv 35 (.ext (.t 32) 0), zv 36 (.ext (.t 32) 1), zi 9 zaC, zi 10 zaN, zn (.st 8 zC (.t 9) (.t 35)), zn (.st 5 zN (.t 10) (.t 36))]
def qca7 : IC := zr [zv 38 (.ld true 8 (.t 9)), zi 39 (.call (.c (.fn 82 [] [])) [((.t 38), zC), ((.c (.str [45, 62])), .id)]), zm 37 39, zv 40 (.ext (.t 37) 0), zv 41 (.ext (.t 37) 1), zn (.st 8 zC (.t 9) (.t 40))]
def qbil : IC := zr [zv 43 (.ld true 8 (.t 9)), zi 44 (.call (.c (.fn 88 [] [])) [((.t 43), zC)]), zm 42 44, zv 45 (.ext (.t 42) 0), zv 46 (.ext (.t 42) 1), zi 11 zaN, zn (.st 8 zC (.t 9) (.t 45)), zn (.st 5 zN (.t 11) (.t 46))]
def qbjd : IC := zr [zv 47 (.fad (.t 7) 4), zv 48 (.ld false 1 (.t 47)), zv 49 (.fad (.t 10) 1), zv 50 (.ld false 1 (.t 49)), zv 51 (.ld true 5 (.t 10)), zv 52 (.ld true 5 (.t 11)), zv 53 (.bsl 5 [((.t 51), zN), ((.t 52), zN)]), zv 54 (.bld [(.int .i64 0), (.int .i64 0), (.int .i64 0), (.str []), .nils] [(0, 1, (zc 15)), (1, 1, (.t 50)), (4, 1, (.t 53))]), zv 55 (.bsl 5 [((.t 54), zN)]), zi 56 (.app 5 zZ 64 (.sl 5) (.t 48) (.t 55)), zv 57 (.fad (.t 7) 4), zn (.st 1 (.sl 5) (.t 57) (.t 56))]
def qbhd : IC := zr [zv 59 (.ld true 8 (.t 9)), zi 60 (.call (.c (.fn 155 [] [])) [((.t 59), zC)]), zm 58 60, zv 61 (.ext (.t 58) 0), zv 62 (.ext (.t 58) 1), zn (.st 8 zC (.t 2) (.t 61)), zm 8 62]
def qbn7 : IC := (.seq (.seq qbxs (.cond (.t 31) .skip (.exit 0))) (.block 1 (.seq qbzy (.seq qca7 (.seq qbil (.seq qbjd qbhd))))))
def qbjw : IC := zr [zv 64 (.ld true 8 (.t 2)), zi 65 (.call (.c (.fn 82 [] [])) [((.t 64), zC), ((.c (.str [125])), .id)]), zm 63 65, zv 66 (.ext (.t 63) 0), zv 67 (.ext (.t 63) 1), zn (.st 8 zC (.t 2) (.t 66))]
def qbiv : IC := .drw [zp (zv 68 (.ld true 8 (.t 2))), zp (zv 69 (.ld true 5 (.t 7))), (zn (.st 8 zC (.t 4) (.t 68)), [1]), (zn (.st 5 zN (.t 5) (.t 69)), [])]
def k0fk : IC := (.seq qbpo (.seq qb4m (.seq qbup (.seq qbxm (.seq qbov (.seq qbz5 (.seq (.block 0 (.loop qbn7)) (.seq qbjw (.seq qbiv .ret)))))))))
@[go_sem] def s0fk : List (RV × Co) := [(.c true 8 4, zC), (.c true 5 5, zN)]
theorem c0fk : cFun Tryz.prog 143 = some (70, k0fk, s0fk) := by kernel_rfl

def qca2 : IC := zr [zi 2 (.box (.t 0)), zi 4 zaC, zi 5 zaN]
def qbv3 : IC := zr [zv 10 (.ld true 8 (.t 2)), zi 11 (.call (.c (.fn 88 [] [])) [((.t 10), zC)]), zm 9 11, zv 12 (.ext (.t 9) 0), zv 13 (.ext (.t 9) 1), zi 6 zaN, zn (.st 8 zC (.t 2) (.t 12)), zn (.st 5 zN (.t 6) (.t 13))]
def qb6r : IC := zr [zv 15 (.ld true 8 (.t 2)), zi 16 (.call (.c (.fn 82 [] [])) [((.t 15), zC), ((.c (.str [116, 104, 101, 110])), .id)]), zm 14 16, zv 17 (.ext (.t 14) 0), zv 18 (.ext (.t 14) 1), zn (.st 8 zC (.t 2) (.t 17))]
def qca5 : IC := zr [zv 20 (.ld true 8 (.t 2)), zi 21 (.call (.c (.fn 88 [] [])) [((.t 20), zC)]), zm 19 21, zv 22 (.ext (.t 19) 0), zv 23 (.ext (.t 19) 1), zi 7 zaN, zn (.st 8 zC (.t 2) (.t 22)), zn (.st 5 zN (.t 7) (.t 23))]
def qb5q : IC := zr [zv 25 (.ld true 8 (.t 2)), zi 26 (.call (.c (.fn 82 [] [])) [((.t 25), zC), ((.c (.str [101, 108, 115, 101])), .id)]), zm 24 26, zv 27 (.ext (.t 24) 0), zv 28 (.ext (.t 24) 1), zn (.st 8 zC (.t 2) (.t 27))]
def qcd4 : IC := zr [zv 30 (.ld true 8 (.t 2)), zi 31 (.call (.c (.fn 88 [] [])) [((.t 30), zC)]), zm 29 31, zv 32 (.ext (.t 29) 0), zv 33 (.ext (.t 29) 1), zi 8 zaN, zn (.st 8 zC (.t 2) (.t 32)), zn (.st 5 zN (.t 8) (.t 33))]
def qcd8 : IC := .drw [zp (zv 34 (.ld true 8 (.t 2))), zp (zm 35 1), zp (zv 36 (.ld true 5 (.t 6))), zp (zv 37 (.ld true 5 (.t 7))), zp (zv 38 (.ld true 5 (.t 8))), (zv 39 (.bsl 5 [((.t 36), zN), ((.t 37), zN), ((.t 38), zN)]), []), (zv 40 (.bld [(.int .i64 0), (.int .i64 0), (.int .i64 0), (.str []), .nils] [(0, 1, (zc 28)), (1, 1, (.t 35)), (4, 1, (.t 39))]), []), (zn (.st 8 zC (.t 4) (.t 34)), [2, 3, 4, 5]), (zn (.st 5 zN (.t 5) (.t 40)), [])]
def k0fl : IC := (.seq qca2 (.seq qbv3 (.seq qb6r (.seq qca5 (.seq qb5q (.seq qcd4 (.seq qcd8 .ret)))))))
@[go_sem] def s0fl : List (RV × Co) := [(.c true 8 4, zC), (.c true 5 5, zN)]
theorem c0fl : cFun Tryz.prog 144 = some (41, k0fl, s0fl) := by kernel_rfl

def qcb2 : IC := zr [zi 1 (.box (.t 0)), zi 2 zaC, zi 3 zaN]
def qbvv : IC := zr [zv 7 (.ld true 8 (.t 1)), zi 8 (.call (.c (.fn 42 [] [])) [((.t 7), zC)]), zi 4 zaT, zn (.st 4 .id (.t 4) (.t 8))]
def qbn2 : IC := zr [zv 9 (.ld true 8 (.t 1)), zi 10 (.call (.c (.fn 146 [] [])) [((.t 9), zC)]), zv 11 (.un .not (.t 10))]
def qbu5 : IC := zr [zv 12 (.ld true 8 (.t 1)), zi 13 (.call (.c (.fn 117 [] [])) [((.t 12), zC), ((zc 5), .id)]), zv 14 (.bld [(.int .i64 0), (.int .i64 0), (.int .i64 0), (.str []), .nils] []), zn (.st 8 zC (.t 2) (.t 13)), zn (.st 5 zN (.t 3) (.t 14))]
def qb4b : IC := zr [zv 15 (.ld true 8 (.t 1)), zi 16 (.call (.c (.fn 46 [] [])) [((.t 15), zC), ((.c (.str [40])), .id)])]
def qb1b : IC := zr [zv 18 (.ld true 8 (.t 1)), zi 19 (.call (.c (.fn 118 [] [])) [((.t 18), zC)]), zm 17 19, zv 20 (.ext (.t 17) 0), zv 21 (.ext (.t 17) 1), zn (.st 8 zC (.t 1) (.t 20))]
def qbz8 : IC := zr [zv 23 (.ld true 8 (.t 1)), zi 24 (.call (.c (.fn 82 [] [])) [((.t 23), zC), ((.c (.str [40])), .id)]), zm 22 24, zv 25 (.ext (.t 22) 0), zv 26 (.ext (.t 22) 1), zn (.st 8 zC (.t 1) (.t 25))]
def qbxa : IC := zr [zv 28 (.ld true 8 (.t 1)), zi 29 (.call (.c (.fn 88 [] [])) [((.t 28), zC)]), zm 27 29, zv 30 (.ext (.t 27) 0), zv 31 (.ext (.t 27) 1), zi 5 zaC, zi 6 zaN, zn (.st 8 zC (.t 5) (.t 30)), zn (.st 5 zN (.t 6) (.t 31))]
def qb5c : IC := zr [zv 33 (.ld true 8 (.t 5)), zi 34 (.call (.c (.fn 82 [] [])) [((.t 33), zC), ((.c (.str [41])), .id)]), zm 32 34, zv 35 (.ext (.t 32) 0), zv 36 (.ext (.t 32) 1), zn (.st 8 zC (.t 5) (.t 35))]
def qbpq : IC := .drw [zp (zv 37 (.ld true 8 (.t 5))), (zi 38 (.call (.c (.fn 120 [] [])) [((.t 37), zC)]), []), (zv 39 (.ld true 5 (.t 6)), [1]), (zn (.st 8 zC (.t 2) (.t 38)), [2]), (zn (.st 5 zN (.t 3) (.t 39)), [])]
def qbeh : IC := zr [zv 41 (.ld true 8 (.t 1)), zi 42 (.call (.c (.fn 47 [] [])) [((.t 41), zC)]), zm 40 42, zv 43 (.ext (.t 40) 0), zv 44 (.ext (.t 40) 1), zn (.st 8 zC (.t 1) (.t 43))]
def qbds : IC := zr [zv 45 (.fad (.t 4) 0), zv 46 (.ld false 1 (.t 45))]
def qbgi : IC := zr [zv 48 (.bin .eql .no (.t 46) (zc 1)), zm 47 48]
def qbgd : IC := .drw [zp (zv 49 (.ld true 8 (.t 1))), zp (zv 50 (.fad (.t 4) 1)), zp (zv 51 (.ld false 1 (.t 50))), zp (zv 52 (.fad (.t 4) 3)), zp (zv 53 (.ld false 1 (.t 52))), (zv 54 (.bld [(.int .i64 0), (.int .i64 0), (.int .i64 0), (.str []), .nils] [(0, 1, (zc 21)), (1, 1, (.t 51)), (3, 1, (.t 53))]), []), (zn (.st 8 zC (.t 2) (.t 49)), [2, 4]), (zn (.st 5 zN (.t 3) (.t 54)), [])]
def qbl1 : IC := zr [zv 56 (.bin .eql .no (.t 46) (zc 2)), zm 55 56]
def qbff : IC := .drw [zp (zv 57 (.ld true 8 (.t 1))), zp (zv 58 (.fad (.t 4) 1)), zp (zv 59 (.ld false 1 (.t 58))), zp (zv 60 (.fad (.t 4) 3)), zp (zv 61 (.ld false 1 (.t 60))), (zv 62 (.bld [(.int .i64 0), (.int .i64 0), (.int .i64 0), (.str []), .nils] [(0, 1, (zc 22)), (1, 1, (.t 59)), (3, 1, (.t 61))]), []), (zn (.st 8 zC (.t 2) (.t 57)), [2, 4]), (zn (.st 5 zN (.t 3) (.t 62)), [])]
def qbiy : IC := .drw [zp (zv 63 (.ld true 8 (.t 1))), zp (zv 64 (.fad (.t 4) 1)), zp (zv 65 (.ld false 1 (.t 64))), zp (zv 66 (.fad (.t 4) 2)), zp (zv 67 (.ld false 1 (.t 66))), (zv 68 (.bld [(.int .i64 0), (.int .i64 0), (.int .i64 0), (.str []), .nils] [(0, 1, (zc 23)), (1, 1, (.t 65)), (2, 1, (.t 67))]), []), (zn (.st 8 zC (.t 2) (.t 63)), [2, 4]), (zn (.st 5 zN (.t 3) (.t 68)), [])]
def k0fo : IC := (.seq qcb2 (.seq qbvv (.seq (.seq qbn2 (.cond (.t 11) (.seq qbu5 .ret) .skip)) (.seq (.seq qb4b (.cond (.t 16) (.seq qb1b (.seq qbz8 (.seq qbxa (.seq qb5c (.seq qbpq .ret))))) .skip)) (.seq qbeh (.seq (.seq qbds (.block 0 (.seq qbgi (.cond (.t 47) (.seq qbgd .ret) (.seq qbl1 (.cond (.t 55) (.seq qbff .ret) .skip)))))) (.seq qbiy .ret)))))))
@[go_sem] def s0fo : List (RV × Co) := [(.c true 8 2, zC), (.c true 5 3, zN)]
theorem c0fo : cFun Tryz.prog 145 = some (69, k0fo, s0fo) := by kernel_rfl

def qbte : IC := zr [zi 1 (.box (.t 0)), zv 2 zf]
def qb1d : IC := zr [zv 4 (.ld true 8 (.t 1)), zi 5 (.call (.c (.fn 42 [] [])) [((.t 4), zC)]), zv 6 (.fld false 1 0 (.t 5)), zm 3 6]
def qbzh : IC := zr [zv 7 (.fad (.t 1) 6), zv 8 (.ld false 1 (.t 7)), zv 9 (.bin .eql .no (.t 8) (zc 0)), zm 10 9, zw 10 true 11 (.mov (.t 3)), zw 10 true 12 (.bin .eql .no (.t 11) (zc 1)), zw 10 true 13 (.mov (.t 12)), zw 13 false 14 (.mov (.t 3)), zw 13 false 15 (.bin .eql .no (.t 14) (zc 2)), zw 10 true 16 (.pick (.t 13) (.c (.bool true)) (.t 15)), zw 10 true 17 (.mov (.t 16)), zw 17 false 18 (.mov (.t 3)), zw 17 false 19 (.bin .eql .no (.t 18) (zc 3)), zw 10 true 20 (.pick (.t 17) (.c (.bool true)) (.t 19)), zw 10 true 21 (.mov (.t 20)), zw 21 false 22 (.ld true 8 (.t 1)), ⟨some (21, false), some 23, .call (.c (.fn 46 [] [])) [((.t 22), zC), ((.c (.str [40])), .id)]⟩, zw 10 true 24 (.pick (.t 21) (.c (.bool true)) (.t 23)), zv 25 (.pick (.t 10) (.t 24) (.c (.bool false))), zm 2 25]
def k0fr : IC := (.seq qbte (.seq qb1d (.seq qbzh .ret)))
@[go_sem] def s0fr : List (RV × Co) := [(.t 2, .id)]
theorem c0fr : cFun Tryz.prog 146 = some (26, k0fr, s0fr) := by kernel_rfl

def qbwq : IC := zr [zi 1 (.box (.t 0)), zv 2 zf]
def qcck : IC := zr [zv 3 (.fad (.t 1) 0), zv 4 (.ld false 1 (.t 3))]
def qb79 : IC := zr [zv 6 (.bin .eql .no (.t 4) (zc 11)), zm 5 6]
def qb4i : IC := zr [zv 7 (.ld true 5 (.t 1)), zi 8 (.call (.c (.fn 93 [] [])) [((.t 7), zN), ((.c (.fn 94 [] [])), .id)]), zm 9 8, zw 9 true 10 (.fad (.t 1) 4), zw 9 true 11 (.ld false 1 (.t 10)), zw 9 true 12 (.len false (.t 11)), zw 9 true 13 (.bin .eql .no (.t 12) (zc 0)), zv 14 (.pick (.t 9) (.t 13) (.c (.bool false))), zm 2 14]
def qbtr : IC := zr [zv 16 (.bin .eql .no (.t 4) (zc 12)), zm 15 16]
def qb33 : IC := zr [zv 17 (.ld true 5 (.t 1)), zi 18 (.call (.c (.fn 26 [] [])) [((.t 17), zN)]), zm 19 18, zw 19 true 20 (.fad (.t 1) 4), zw 19 true 21 (.ld false 1 (.t 20)), zw 19 true 22 (.len false (.t 21)), zw 19 true 23 (.bin .eql .no (.t 22) (zc 0)), zv 24 (.pick (.t 19) (.t 23) (.c (.bool false))), zm 2 24]
def qcbf : IC := zr [zv 26 (.bin .eql .no (.t 4) (zc 13)), zm 25 26]
def qbvu : IC := zr [zv 27 (.fad (.t 1) 3), zv 28 (.ld false 1 (.t 27)), zv 29 (.bin .eql .no (.t 28) (.c (.str []))), zm 30 29, zw 30 true 31 (.fad (.t 1) 2), zw 30 true 32 (.ld false 1 (.t 31)), zw 30 true 33 (.bin .geq .no (.t 32) (zc 0)), zv 34 (.pick (.t 30) (.t 33) (.c (.bool false))), zm 35 34, zw 35 true 36 (.fad (.t 1) 4), zw 35 true 37 (.ld false 1 (.t 36)), zw 35 true 38 (.len false (.t 37)), zw 35 true 39 (.bin .eql .no (.t 38) (zc 0)), zv 40 (.pick (.t 35) (.t 39) (.c (.bool false))), zm 2 40]
def qb8w : IC := zr [zv 42 (.bin .eql .no (.t 4) (zc 14)), zm 41 42]
def qb8b : IC := zr [zv 43 (.ld true 5 (.t 1)), zi 44 (.call (.c (.fn 93 [] [])) [((.t 43), zN), ((.c (.fn 53 [] [])), .id)]), zm 45 44, zw 45 true 46 (.fad (.t 1) 4), zw 45 true 47 (.ld false 1 (.t 46)), ⟨some (45, true), some 48, .call (.c (.fn 27 [] [])) [((.t 47), (.sl 5)), ((.c (.fn 147 [] [])), .id)]⟩, zv 49 (.pick (.t 45) (.t 48) (.c (.bool false))), zm 2 49]
def qbhf : IC := zr [zv 2 zf]
def k0eq : IC := (.seq qbwq (.seq (.seq qcck (.block 0 (.seq qb79 (.cond (.t 5) (.seq qb4i .ret) (.seq qbtr (.cond (.t 15) (.seq qb33 .ret) (.seq qcbf (.cond (.t 25) (.seq qbvu .ret) (.seq qb8w (.cond (.t 41) (.seq qb8b .ret) .skip)))))))))) (.seq qbhf .ret)))
@[go_sem] def s0eq : List (RV × Co) := [(.t 2, .id)]
theorem c0eq : cFun Tryz.prog 147 = some (50, k0eq, s0eq) := by kernel_rfl

def qb7z : IC := zr [zv 4 zf]
def qb0f : IC := zr [zm 5 0, zv 6 (.len true (.t 5)), zm 7 1, zv 8 (.len true (.t 7)), zv 9 (.bin .geq .no (.t 6) (.t 8)), zm 10 9, zw 10 true 11 (.mov (.t 0)), zw 10 true 12 (.mov (.t 1)), zw 10 true 13 (.len true (.t 12)), zw 10 true 14 (.sls (.t 11) none (some (.t 13))), zw 10 true 15 (.mov (.t 1)), zw 10 true 16 (.bin .eql .no (.t 14) (.t 15)), zv 17 (.pick (.t 10) (.t 16) (.c (.bool false))), zm 4 17]
def k0dr : IC := (.seq qb7z (.seq qb0f .ret))
@[go_sem] def s0dr : List (RV × Co) := [(.t 4, .id)]
theorem c0dr : cFun Tryz.prog 148 = some (18, k0dr, s0dr) := by kernel_rfl

def qbxj : IC := zr [zv 2 zf]
def qb9s : IC := zr [zm 4 0, zi 5 (.call (.c (.fn 19 [] [])) [((.t 4), .id)]), zv 6 (.fld false 1 0 (.t 5)), zm 3 6]
def qcap : IC := zr [zm 7 3, zv 8 (.bin .eql .no (.t 7) (zc 1)), zm 9 8, zw 9 false 10 (.mov (.t 3)), zw 9 false 11 (.bin .eql .no (.t 10) (zc 2)), zv 12 (.pick (.t 9) (.c (.bool true)) (.t 11)), zm 13 12, zw 13 false 14 (.mov (.t 0)), ⟨some (13, false), some 15, .call (.c (.fn 59 [] [])) [((.t 14), .id), ((.c (.str [40])), .id)]⟩, zv 16 (.pick (.t 13) (.c (.bool true)) (.t 15)), zm 2 16]
def k0cb : IC := (.seq qbxj (.seq qb9s (.seq qcap .ret)))
@[go_sem] def s0cb : List (RV × Co) := [(.t 2, .id)]
theorem c0cb : cFun Tryz.prog 149 = some (17, k0cb, s0cb) := by kernel_rfl

def qccl : IC := zr [zi 2 (.box (.t 0)), zi 3 (.box (.t 1)), zi 4 zaN, zv 5 zf]
def qbt7 : IC := zr [zv 10 (.ld false 1 (.t 2)), zv 11 (.mfn 158 [] [(.t 2)]), zi 12 (.call (.c (.fn 157 [] [])) [((.t 10), .id), ((.t 11), .id)]), zm 9 12, zv 13 (.ext (.t 9) 0), zv 14 (.ext (.t 9) 1), zm 6 13, zm 7 14]
def qcc6 : IC := zr [zm 15 7, zv 16 (.un .not (.t 15)), zm 17 16, zw 17 false 18 (.ld false 1 (.t 2)), ⟨some (17, false), some 19, .call (.c (.fn 65 [] [])) [((.t 18), .id), ((.c (.str [105, 110])), .id)]⟩, zw 17 false 20 (.un .not (.t 19)), zv 21 (.pick (.t 17) (.c (.bool true)) (.t 20))]
def qcbp : IC := zr [zv 22 (.ld true 5 (.t 3)), zn (.st 5 zN (.t 4) (.t 22)), zv 5 zf]
def qb6a : IC := zr [zv 24 (.ld false 1 (.t 2)), zi 25 (.call (.c (.fn 116 [] [])) [((.t 24), .id)]), zm 23 25, zv 26 (.ext (.t 23) 0), zv 27 (.ext (.t 23) 1), zi 8 zaN, zn (.st 5 zN (.t 8) (.t 26)), zm 7 27]
def qbpd : IC := zr [zm 28 6, zv 29 (.ld true 5 (.t 8)), zv 30 (.bsl 5 [((.t 29), zN)]), zi 31 (.app 5 zZ 64 (.sl 5) (.t 28) (.t 30)), zv 32 (.fad (.t 3) 0), zn (.st 1 .id (.t 32) (zc 26)), zv 33 (.fad (.t 3) 4), zn (.st 1 (.sl 5) (.t 33) (.t 31))]
def qb4s : IC := zr [zv 34 (.ld true 5 (.t 3)), zm 35 7, zn (.st 5 zN (.t 4) (.t 34)), zm 5 35]
def k0bg : IC := (.seq qccl (.seq qbt7 (.seq (.seq qcc6 (.cond (.t 21) (.seq qcbp .ret) .skip)) (.seq qb6a (.seq qbpd (.seq qb4s .ret))))))
@[go_sem] def s0bg : List (RV × Co) := [(.c true 5 4, zN), (.t 5, .id)]
theorem c0bg : cFun Tryz.prog 150 = some (36, k0bg, s0bg) := by kernel_rfl

def qbyb : IC := zr [zi 2 (.box (.t 0)), zi 3 (.box (.t 1)), zi 4 zaN, zv 5 zf]
def qb51 : IC := zr [zv 10 (.ld false 1 (.t 2)), zi 11 (.call (.c (.fn 116 [] [])) [((.t 10), .id)]), zm 9 11, zv 12 (.ext (.t 9) 0), zv 13 (.ext (.t 9) 1), zi 6 zaN, zn (.st 5 zN (.t 6) (.t 12)), zm 7 13]
def qb66 : IC := zr [zm 14 7, zv 15 (.un .not (.t 14)), zm 16 15, zw 16 false 17 (.ld false 1 (.t 2)), ⟨some (16, false), some 18, .call (.c (.fn 65 [] [])) [((.t 17), .id), ((.c (.str [111, 102])), .id)]⟩, zw 16 false 19 (.un .not (.t 18)), zv 20 (.pick (.t 16) (.c (.bool true)) (.t 19))]
def qb07 : IC := zr [zv 21 (.ld true 5 (.t 3)), zn (.st 5 zN (.t 4) (.t 21)), zv 5 zf]
def qbw6 : IC := zr [zv 23 (.ld false 1 (.t 2)), zv 24 (.mfn 159 [] [(.t 2)]), zi 25 (.call (.c (.fn 157 [] [])) [((.t 23), .id), ((.t 24), .id)]), zm 22 25, zv 26 (.ext (.t 22) 0), zv 27 (.ext (.t 22) 1), zm 8 26, zm 7 27]
def qb7i : IC := zr [zv 28 (.ld true 5 (.t 6)), zv 29 (.bsl 5 [((.t 28), zN)]), zm 30 8, zi 31 (.app 5 zZ 64 (.sl 5) (.t 29) (.t 30)), zv 32 (.fad (.t 3) 0), zn (.st 1 .id (.t 32) (zc 27)), zv 33 (.fad (.t 3) 4), zn (.st 1 (.sl 5) (.t 33) (.t 31))]
def qbyo : IC := zr [zv 34 (.ld true 5 (.t 3)), zm 35 7, zn (.st 5 zN (.t 4) (.t 34)), zm 5 35]
def k0bh : IC := (.seq qbyb (.seq qb51 (.seq (.seq qb66 (.cond (.t 20) (.seq qb07 .ret) .skip)) (.seq qbw6 (.seq qb7i (.seq qbyo .ret))))))
@[go_sem] def s0bh : List (RV × Co) := [(.c true 5 4, zN), (.t 5, .id)]
theorem c0bh : cFun Tryz.prog 151 = some (36, k0bh, s0bh) := by kernel_rfl

def qb4f : IC := zr [zi 3 (.box (.t 1)), zi 4 zaN, zv 5 zf]
def qca8 : IC := zr [zv 10 (.fad (.t 3) 0), zn (.st 1 .id (.t 10) (zc 28))]
def qccn : IC := zr [zv 11 (.bld [(.str []), (.str []), (.str [])] [(0, 1, (.c (.str []))), (1, 1, (.c (.str [116, 104, 101, 110]))), (2, 1, (.c (.str [101, 108, 115, 101])))]), zv 12 (.mov (zc 0))]
def qbog : IC := zr [zv 13 (.bin .lss .no (.t 12) (zc 3))]
def qcbi : IC := zr [zv 14 (.ida false 1 3 (.t 11) (.t 12)), zm 7 14]
def qb61 : IC := zr [zm 15 7, zv 16 (.bin .neq .no (.t 15) (.c (.str []))), zm 17 16, zw 17 true 18 (.mov (.t 0)), zw 17 true 19 (.mov (.t 7)), ⟨some (17, true), some 20, .call (.c (.fn 65 [] [])) [((.t 18), .id), ((.t 19), .id)]⟩, zw 17 true 21 (.un .not (.t 20)), zv 22 (.pick (.t 17) (.t 21) (.c (.bool false)))]
def qbtx : IC := zr [zv 23 (.ld true 5 (.t 3)), zn (.st 5 zN (.t 4) (.t 23)), zv 5 zf]
def qcaa : IC := zr [zm 25 0, zi 26 (.call (.c (.fn 116 [] [])) [((.t 25), .id)]), zm 24 26, zv 27 (.ext (.t 24) 0), zv 28 (.ext (.t 24) 1), zi 8 zaN, zn (.st 5 zN (.t 8) (.t 27)), zm 9 28]
def qbni : IC := zr [zm 29 9, zv 30 (.un .not (.t 29))]
def qbkd : IC := zr [zv 31 (.ld true 5 (.t 3)), zn (.st 5 zN (.t 4) (.t 31)), zv 5 zf]
def qbeb : IC := zr [zv 32 (.fad (.t 3) 4), zv 33 (.ld false 1 (.t 32)), zv 34 (.ld true 5 (.t 8)), zv 35 (.bsl 5 [((.t 34), zN)]), zi 36 (.app 5 zZ 64 (.sl 5) (.t 33) (.t 35)), zv 37 (.fad (.t 3) 4), zn (.st 1 (.sl 5) (.t 37) (.t 36))]
def qbdb : IC := zr [zv 38 (.bin .add .no (.t 12) (zc 1)), zm 12 38]
def qb5w : IC := (.seq qbog (.seq (.cond (.t 13) .skip (.exit 0)) (.seq (.block 1 (.seq qcbi (.seq (.seq qb61 (.cond (.t 22) (.seq qbtx .ret) .skip)) (.seq qcaa (.seq (.seq qbni (.cond (.t 30) (.seq qbkd .ret) .skip)) qbeb))))) qbdb)))
def qbjg : IC := zr [zv 39 (.ld true 5 (.t 3)), zn (.st 5 zN (.t 4) (.t 39)), zv 5 (.mov (.c (.bool true)))]
def k0bi : IC := (.seq qb4f (.seq qca8 (.seq (.seq qccn (.block 0 (.loop qb5w))) (.seq qbjg .ret))))
@[go_sem] def s0bi : List (RV × Co) := [(.c true 5 4, zN), (.t 5, .id)]
theorem c0bi : cFun Tryz.prog 152 = some (40, k0bi, s0bi) := by kernel_rfl

def qbx9 : IC := zr [zi 2 zaN, zv 3 zf]
def qb8n : IC := zr [zm 10 0, zi 11 (.call (.c (.fn 161 [] [])) [((.t 10), .id)]), zm 9 11, zv 12 (.ext (.t 9) 0), zv 13 (.ext (.t 9) 1), zi 4 zaN, zn (.st 5 zN (.t 4) (.t 12)), zm 5 13]
def qbos : IC := zr [zm 14 5]
def qb2i : IC := zr [zm 16 0, zi 17 (.call (.c (.fn 162 [] [])) [((.t 16), .id)]), zm 15 17, zv 18 (.ext (.t 15) 0), zv 19 (.ext (.t 15) 1), zi 6 zaN, zn (.st 5 zN (.t 6) (.t 18)), zm 7 19]
def qb81 : IC := zr [zm 20 7, zv 21 (.un .not (.t 20)), zm 22 21, zw 22 true 23 (.mov (.t 0)), ⟨some (22, true), some 24, .call (.c (.fn 59 [] [])) [((.t 23), .id), ((.c (.str [40])), .id)]⟩, zw 22 true 25 (.un .not (.t 24)), zv 26 (.pick (.t 22) (.t 25) (.c (.bool false)))]
def qb4l : IC := zr [zi 8 zaN]
def qb0h : IC := zr [zm 28 0, zi 29 (.call (.c (.fn 161 [] [])) [((.t 28), .id)]), zm 27 29, zv 30 (.ext (.t 27) 0), zv 31 (.ext (.t 27) 1), zn (.st 5 zN (.t 8) (.t 30)), zm 5 31]
def qb4h : IC := zr [zv 32 (.fad (.t 4) 1), zv 33 (.ld false 1 (.t 32)), zv 34 (.ld true 5 (.t 4)), zv 35 (.ld true 5 (.t 8)), zv 36 (.bsl 5 [((.t 34), zN), ((.t 35), zN)]), zv 37 (.bld [(.int .i64 0), (.int .i64 0), (.int .i64 0), (.str []), .nils] [(0, 1, (zc 24)), (1, 1, (.t 33)), (4, 1, (.t 36))]), zn (.st 5 zN (.t 4) (.t 37))]
def qboh : IC := (.seq (.seq qbos (.cond (.t 14) .skip (.exit 0))) (.block 1 (.seq (.seq qb2i (.seq qb81 (.cond (.t 26) (.exit 0) .skip))) (.seq qb4l (.seq qb0h qb4h)))))
def qbew : IC := zr [zv 38 (.ld true 5 (.t 4)), zm 39 5, zn (.st 5 zN (.t 2) (.t 38)), zm 3 39]
def k0br : IC := (.seq qbx9 (.seq qb8n (.seq (.block 0 (.loop qboh)) (.seq qbew .ret))))
@[go_sem] def s0br : List (RV × Co) := [(.c true 5 2, zN), (.t 3, .id)]
theorem c0br : cFun Tryz.prog 153 = some (40, k0br, s0br) := by kernel_rfl

def qb7g : IC := zr [zi 1 (.box (.t 0)), zv 2 zf]
def qcds : IC := zr [zv 4 (.ld true 8 (.t 1)), zi 5 (.call (.c (.fn 42 [] [])) [((.t 4), zC)]), zv 6 (.fld false 1 0 (.t 5)), zm 3 6]
def qbpa : IC := zr [zv 7 (.fad (.t 1) 6), zv 8 (.ld false 1 (.t 7)), zv 9 (.bin .eql .no (.t 8) (zc 0)), zm 10 9, zw 10 true 11 (.mov (.t 3)), zw 10 true 12 (.bin .eql .no (.t 11) (zc 1)), zw 10 true 13 (.mov (.t 12)), zw 13 false 14 (.mov (.t 3)), zw 13 false 15 (.bin .eql .no (.t 14) (zc 2)), zw 10 true 16 (.pick (.t 13) (.c (.bool true)) (.t 15)), zw 10 true 17 (.mov (.t 16)), zw 17 false 18 (.ld true 8 (.t 1)), ⟨some (17, false), some 19, .call (.c (.fn 46 [] [])) [((.t 18), zC), ((.c (.str [40])), .id)]⟩, zw 10 true 20 (.pick (.t 17) (.c (.bool true)) (.t 19)), zv 21 (.pick (.t 10) (.t 20) (.c (.bool false))), zm 2 21]
def k0ga : IC := (.seq qb7g (.seq qcds (.seq qbpa .ret)))
@[go_sem] def s0ga : List (RV × Co) := [(.t 2, .id)]
theorem c0ga : cFun Tryz.prog 154 = some (22, k0ga, s0ga) := by kernel_rfl

def qbn1 : IC := zr [zi 1 (.box (.t 0)), zi 2 zaC, zv 3 zf]
def qbno : IC := zr [zv 6 (.ld true 8 (.t 1)), zi 7 (.call (.c (.fn 23 [] [])) [((.t 6), zC), ((.c (.str [59])), .id)]), zm 5 7, zv 8 (.ext (.t 5) 0), zv 9 (.ext (.t 5) 1), zn (.st 8 zC (.t 1) (.t 8)), zm 4 9]
def qcax : IC := .drw [zp (zv 10 (.ld true 8 (.t 1))), zp (zm 11 4), zp (zm 12 11), zp (zw 12 true 13 (.ld true 8 (.t 1))), (⟨some (12, true), some 14, .call (.c (.fn 46 [] [])) [((.t 13), zC), ((.c (.str [125])), .id)]⟩, [0]), zp (zw 12 true 15 (.un .not (.t 14))), zp (zv 16 (.pick (.t 12) (.t 15) (.c (.bool false)))), (zn (.st 8 zC (.t 2) (.t 10)), []), zp (zm 3 16)]
def k0fs : IC := (.seq qbn1 (.seq qbno (.seq qcax .ret)))
@[go_sem] def s0fs : List (RV × Co) := [(.c true 8 2, zC), (.t 3, .id)]
theorem c0fs : cFun Tryz.prog 155 = some (17, k0fs, s0fs) := by kernel_rfl

def qb8z : IC := zr [zi 1 (.box (.t 0)), zi 2 zaC, zi 3 zaN]
def qbx6 : IC := zr [zv 11 (.ld true 8 (.t 1)), zi 12 (.call (.c (.fn 118 [] [])) [((.t 11), zC)]), zm 10 12, zv 13 (.ext (.t 10) 0), zv 14 (.ext (.t 10) 1), zn (.st 8 zC (.t 1) (.t 13))]
def qbnq : IC := zr [zv 15 (.ld true 8 (.t 1)), zi 16 (.call (.c (.fn 42 [] [])) [((.t 15), zC)]), zv 17 (.fld false 1 0 (.t 16)), zv 18 (.bin .neq .no (.t 17) (zc 2))]
def qbu6 : IC := zr [zv 20 (.ld true 8 (.t 1)), zi 21 (.call (.c (.fn 163 [] [])) [((.t 20), zC)]), zm 19 21, zv 22 (.ext (.t 19) 0), zv 23 (.ext (.t 19) 1), zi 4 zaC, zi 5 zaN, zn (.st 8 zC (.t 4) (.t 22)), zn (.st 5 zN (.t 5) (.t 23))]
def qbwl : IC := .drw [zp (zv 24 (.ld true 8 (.t 4))), (zi 25 (.call (.c (.fn 120 [] [])) [((.t 24), zC)]), []), (zv 26 (.ld true 5 (.t 5)), [1]), (zn (.st 8 zC (.t 2) (.t 25)), [2]), (zn (.st 5 zN (.t 3) (.t 26)), [])]
def qbvt : IC := zr [zv 28 (.ld true 8 (.t 1)), zi 29 (.call (.c (.fn 47 [] [])) [((.t 28), zC)]), zm 27 29, zv 30 (.ext (.t 27) 0), zv 31 (.ext (.t 27) 1), zi 6 zaT, zn (.st 8 zC (.t 1) (.t 30)), zn (.st 4 .id (.t 6) (.t 31))]
def qb2m : IC := zr [zv 32 (.fad (.t 6) 1), zv 33 (.ld false 1 (.t 32)), zv 34 (.fad (.t 6) 3), zv 35 (.ld false 1 (.t 34)), zv 36 (.bld [(.int .i64 0), (.int .i64 0), (.int .i64 0), (.str []), .nils] [(0, 1, (zc 14)), (1, 1, (.t 33)), (3, 1, (.t 35))]), zi 7 zaN, zn (.st 5 zN (.t 7) (.t 36))]
def qbtg : IC := zr [zv 37 (.ld true 8 (.t 1)), zi 38 (.call (.c (.fn 164 [] [])) [((.t 37), zC)])]
def qb14 : IC := zr [zv 40 (.ld true 8 (.t 1)), zi 41 (.call (.c (.fn 163 [] [])) [((.t 40), zC)]), zm 39 41, zv 42 (.ext (.t 39) 0), zv 43 (.ext (.t 39) 1), zi 8 zaC, zi 9 zaN, zn (.st 8 zC (.t 8) (.t 42)), zn (.st 5 zN (.t 9) (.t 43))]
def qbgs : IC := zr [zv 44 (.ld true 8 (.t 8)), zn (.st 8 zC (.t 1) (.t 44))]
def qbji : IC := zr [zv 45 (.fad (.t 7) 4), zv 46 (.ld false 1 (.t 45)), zv 47 (.ld true 5 (.t 9)), zv 48 (.bsl 5 [((.t 47), zN)]), zi 49 (.app 5 zZ 64 (.sl 5) (.t 46) (.t 48)), zv 50 (.fad (.t 7) 4), zn (.st 1 (.sl 5) (.t 50) (.t 49))]
def qbzc : IC := (.seq (.seq qbtg (.cond (.t 38) .skip (.exit 0))) (.block 1 (.seq qb14 (.seq qbgs qbji))))
def qbcw : IC := .drw [zp (zv 51 (.ld true 8 (.t 1))), (zi 52 (.call (.c (.fn 120 [] [])) [((.t 51), zC)]), []), (zv 53 (.ld true 5 (.t 7)), [1]), (zn (.st 8 zC (.t 2) (.t 52)), [2]), (zn (.st 5 zN (.t 3) (.t 53)), [])]
def k0fw : IC := (.seq qb8z (.seq qbx6 (.seq (.seq qbnq (.cond (.t 18) (.seq qbu6 (.seq qbwl .ret)) .skip)) (.seq qbvt (.seq qb2m (.seq (.block 0 (.loop qbzc)) (.seq qbcw .ret)))))))
@[go_sem] def s0fw : List (RV × Co) := [(.c true 8 2, zC), (.c true 5 3, zN)]
theorem c0fw : cFun Tryz.prog 156 = some (54, k0fw, s0fw) := by kernel_rfl

def qbq4 : IC := zr [zv 4 (.mov (.c .nils)), zv 5 zf]
def qb70 : IC := zr [zm 9 0, zi 10 (.call (.c (.fn 65 [] [])) [((.t 9), .id), ((.c (.str [123])), .id)]), zv 11 (.un .not (.t 10))]
def qbuh : IC := zr [zv 4 (.mov (.c .nils)), zv 5 zf]
def qbyf : IC := zr [zv 6 (.mov (.c .nils))]
def qb4k : IC := zr [zm 13 1, zi 14 (.call (.t 13) []), zm 12 14, zv 15 (.ext (.t 12) 0), zv 16 (.ext (.t 12) 1), zi 7 zaN, zn (.st 5 zN (.t 7) (.t 15)), zm 8 16]
def qbx4 : IC := zr [zm 17 8, zv 18 (.un .not (.t 17))]
def qbqz : IC := zr [zv 4 (.mov (.c .nils)), zv 5 zf]
def qbpe : IC := zr [zm 19 6, zv 20 (.ld true 5 (.t 7)), zv 21 (.bsl 5 [((.t 20), zN)]), zi 22 (.app 5 zZ 64 (.sl 5) (.t 19) (.t 21)), zm 6 22]
def qbae : IC := zr [zm 23 0, zi 24 (.call (.c (.fn 35 [] [])) [((.t 23), .id), ((.c (.str [59])), .id)]), zv 25 (.un .not (.t 24)), zm 26 25, zw 26 false 27 (.mov (.t 0)), ⟨some (26, false), some 28, .call (.c (.fn 59 [] [])) [((.t 27), .id), ((.c (.str [125])), .id)]⟩, zv 29 (.pick (.t 26) (.c (.bool true)) (.t 28))]
def qbls : IC := zr [zm 30 6, zm 31 0, zi 32 (.call (.c (.fn 65 [] [])) [((.t 31), .id), ((.c (.str [125])), .id)]), zm 4 30, zm 5 32]
def q63 : IC := (.block 1 (.seq qb4k (.seq (.seq qbx4 (.cond (.t 18) (.seq qbqz .ret) .skip)) (.seq qbpe (.seq qbae (.cond (.t 29) (.seq qbls .ret) .skip))))))
def k0bm : IC := (.seq qbq4 (.seq (.seq qb70 (.cond (.t 11) (.seq qbuh .ret) .skip)) (.seq qbyf (.block 0 (.loop q63)))))
@[go_sem] def s0bm : List (RV × Co) := [(.t 4, (.sl 5)), (.t 5, .id)]
theorem c0bm : cFun Tryz.prog 157 = some (33, k0bm, s0bm) := by kernel_rfl

def qb9p : IC := zr [zi 1 zaN, zv 2 zf]
def qbt6 : IC := zr [zv 3 (.ld false 1 (.t 0)), zi 4 (.call (.c (.fn 38 [] [])) [((.t 3), .id)]), zv 5 (.ext (.t 4) 0), zv 6 (.ext (.t 4) 1), zn (.st 5 zN (.t 1) (.t 5)), zm 2 6]
def k0bk : IC := (.seq qb9p (.seq qbt6 .ret))
@[go_sem] def s0bk : List (RV × Co) := [(.c true 5 1, zN), (.t 2, .id)]
theorem c0bk : cFun Tryz.prog 158 = some (7, k0bk, s0bk) := by kernel_rfl

def qbw0 : IC := zr [zi 1 zaN, zv 2 zf]
def qbuk : IC := zr [zv 7 (.ld false 1 (.t 0)), zi 8 (.call (.c (.fn 160 [] [])) [((.t 7), .id)]), zm 6 8, zv 9 (.ext (.t 6) 0), zv 10 (.ext (.t 6) 1), zi 3 zaN, zn (.st 5 zN (.t 3) (.t 9)), zm 4 10]
def qbwm : IC := zr [zm 11 4, zv 12 (.un .not (.t 11)), zm 13 12, zw 13 false 14 (.ld false 1 (.t 0)), ⟨some (13, false), some 15, .call (.c (.fn 65 [] [])) [((.t 14), .id), ((.c (.str [45, 62])), .id)]⟩, zw 13 false 16 (.un .not (.t 15)), zv 17 (.pick (.t 13) (.c (.bool true)) (.t 16))]
def qbvz : IC := zr [zv 18 (.ld true 5 (.t 3)), zn (.st 5 zN (.t 1) (.t 18)), zv 2 zf]
def qbra : IC := zr [zv 20 (.ld false 1 (.t 0)), zi 21 (.call (.c (.fn 116 [] [])) [((.t 20), .id)]), zm 19 21, zv 22 (.ext (.t 19) 0), zv 23 (.ext (.t 19) 1), zi 5 zaN, zn (.st 5 zN (.t 5) (.t 22)), zm 4 23]
def qbnj : IC := zr [zv 24 (.fad (.t 3) 1), zv 25 (.ld false 1 (.t 24)), zv 26 (.ld true 5 (.t 3)), zv 27 (.ld true 5 (.t 5)), zv 28 (.bsl 5 [((.t 26), zN), ((.t 27), zN)]), zv 29 (.bld [(.int .i64 0), (.int .i64 0), (.int .i64 0), (.str []), .nils] [(0, 1, (zc 15)), (1, 1, (.t 25)), (4, 1, (.t 28))]), zm 30 4, zn (.st 5 zN (.t 1) (.t 29)), zm 2 30]
def k0bl : IC := (.seq qbw0 (.seq qbuk (.seq (.seq qbwm (.cond (.t 17) (.seq qbvz .ret) .skip)) (.seq qbra (.seq qbnj .ret)))))
@[go_sem] def s0bl : List (RV × Co) := [(.c true 5 1, zN), (.t 2, .id)]
theorem c0bl : cFun Tryz.prog 159 = some (31, k0bl, s0bl) := by kernel_rfl

def qb0t : IC := zr [zi 2 zaN, zv 3 zf]
def qbzn : IC := zr [zm 8 0, zi 9 (.call (.c (.fn 103 [] [])) [((.t 8), .id)]), zv 10 (.un .not (.t 9))]
def qbop : IC := zr [zv 11 (.bld [(.int .i64 0), (.int .i64 0), (.int .i64 0), (.str []), .nils] []), zn (.st 5 zN (.t 2) (.t 11)), zv 3 zf]
def qbql : IC := zr [zm 12 0, zi 13 (.call (.c (.fn 19 [] [])) [((.t 12), .id)]), zv 14 (.fld false 1 0 (.t 13)), zv 15 (.bin .eql .no (.t 14) (zc 2)), zm 4 15]
def qbsg : IC := zr [zm 17 0, zi 18 (.call (.c (.fn 165 [] [])) [((.t 17), .id)]), zm 16 18, zv 19 (.ext (.t 16) 0), zv 20 (.ext (.t 16) 1), zi 5 zaN, zn (.st 5 zN (.t 5) (.t 19)), zm 6 20]
def qb8t : IC := zr [zm 21 6, zm 22 21, zw 22 true 23 (.mov (.t 4)), zv 24 (.pick (.t 22) (.t 23) (.c (.bool false))), zm 25 24, zw 25 true 26 (.mov (.t 0)), ⟨some (25, true), some 27, .call (.c (.fn 166 [] [])) [((.t 26), .id)]⟩, zv 28 (.pick (.t 25) (.t 27) (.c (.bool false)))]
def qbzl : IC := zr [zi 7 zaN]
def qcbe : IC := zr [zm 30 0, zi 31 (.call (.c (.fn 165 [] [])) [((.t 30), .id)]), zm 29 31, zv 32 (.ext (.t 29) 0), zv 33 (.ext (.t 29) 1), zn (.st 5 zN (.t 7) (.t 32)), zm 6 33]
def qb2s : IC := zr [zm 34 6]
def qbg9 : IC := zr [zv 35 (.fad (.t 5) 4), zv 36 (.ld false 1 (.t 35)), zv 37 (.ld true 5 (.t 7)), zv 38 (.bsl 5 [((.t 37), zN)]), zi 39 (.app 5 zZ 64 (.sl 5) (.t 36) (.t 38)), zv 40 (.fad (.t 5) 4), zn (.st 1 (.sl 5) (.t 40) (.t 39))]
def qb3l : IC := (.seq (.seq qb8t (.cond (.t 28) .skip (.exit 0))) (.block 1 (.seq qbzl (.seq qcbe (.seq qb2s (.cond (.t 34) qbg9 .skip))))))
def qbf3 : IC := zr [zm 41 0, zi 42 (.call (.c (.fn 105 [] [])) [((.t 41), .id)])]
def qblz : IC := zr [zm 43 6, zv 44 (.un .not (.t 43))]
def qbf4 : IC := zr [zv 45 (.bld [(.int .i64 0), (.int .i64 0), (.int .i64 0), (.str []), .nils] []), zn (.st 5 zN (.t 2) (.t 45)), zv 3 zf]
def qbd2 : IC := zr [zv 46 (.ld true 5 (.t 5)), zn (.st 5 zN (.t 2) (.t 46)), zv 3 (.mov (.c (.bool true)))]
def k0bv : IC := (.seq qb0t (.seq (.seq qbzn (.cond (.t 10) (.seq qbop .ret) .skip)) (.seq qbql (.seq qbsg (.seq (.block 0 (.loop qb3l)) (.seq qbf3 (.seq (.seq qblz (.cond (.t 44) (.seq qbf4 .ret) .skip)) (.seq qbd2 .ret))))))))
@[go_sem] def s0bv : List (RV × Co) := [(.c true 5 2, zN), (.t 3, .id)]
theorem c0bv : cFun Tryz.prog 160 = some (47, k0bv, s0bv) := by kernel_rfl

def qccz : IC := zr [zi 2 zaN, zv 3 zf]
def qb6p : IC := zr [zm 9 0, zi 10 (.call (.c (.fn 162 [] [])) [((.t 9), .id)]), zm 8 10, zv 11 (.ext (.t 8) 0), zv 12 (.ext (.t 8) 1), zi 4 zaN, zn (.st 5 zN (.t 4) (.t 11)), zm 5 12]
def qcay : IC := zr [zm 13 5]
def qbp5 : IC := zr [zm 14 0, zi 15 (.call (.c (.fn 60 [] [])) [((.t 14), .id)])]
def qb98 : IC := zr [zv 16 (.ld true 5 (.t 4)), zn (.st 5 zN (.t 2) (.t 16)), zv 3 (.mov (.c (.bool true)))]
def qb0y : IC := zr [zm 17 0, zi 18 (.call (.c (.fn 59 [] [])) [((.t 17), .id), ((.c (.str [40])), .id)]), zv 19 (.un .not (.t 18))]
def qb7m : IC := zr [zv 20 (.bld [(.int .i64 0), (.int .i64 0), (.int .i64 0), (.str []), .nils] []), zm 21 0, zi 22 (.call (.c (.fn 69 [] [])) [((.t 21), .id), ((zc 5), .id)]), zn (.st 5 zN (.t 2) (.t 20)), zm 3 22]
def qbtq : IC := zr [zm 23 0, zi 24 (.call (.c (.fn 103 [] [])) [((.t 23), .id)]), zv 25 (.un .not (.t 24))]
def qbxr : IC := zr [zv 26 (.bld [(.int .i64 0), (.int .i64 0), (.int .i64 0), (.str []), .nils] []), zn (.st 5 zN (.t 2) (.t 26)), zv 3 zf]
def qbor : IC := zr [zm 27 0, zi 28 (.call (.c (.fn 60 [] [])) [((.t 27), .id)])]
def qblu : IC := zr [zm 30 0, zi 31 (.call (.c (.fn 116 [] [])) [((.t 30), .id)]), zm 29 31, zv 32 (.ext (.t 29) 0), zv 33 (.ext (.t 29) 1), zi 6 zaN, zn (.st 5 zN (.t 6) (.t 32)), zm 7 33]
def qbh2 : IC := zr [zm 34 7, zv 35 (.un .not (.t 34)), zm 36 35, zw 36 false 37 (.mov (.t 0)), ⟨some (36, false), some 38, .call (.c (.fn 65 [] [])) [((.t 37), .id), ((.c (.str [41])), .id)]⟩, zw 36 false 39 (.un .not (.t 38)), zv 40 (.pick (.t 36) (.c (.bool true)) (.t 39))]
def qbkm : IC := zr [zv 41 (.bld [(.int .i64 0), (.int .i64 0), (.int .i64 0), (.str []), .nils] []), zn (.st 5 zN (.t 2) (.t 41)), zv 3 zf]
def qbcm : IC := zr [zm 42 0, zi 43 (.call (.c (.fn 105 [] [])) [((.t 42), .id)])]
def qbfx : IC := zr [zv 44 (.ld true 5 (.t 6)), zn (.st 5 zN (.t 2) (.t 44)), zv 3 (.mov (.c (.bool true)))]
def k0bq : IC := (.seq qccz (.seq (.seq qb6p (.seq qcay (.cond (.t 13) (.seq qbp5 (.seq qb98 .ret)) .skip))) (.seq (.seq qb0y (.cond (.t 19) (.seq qb7m .ret) .skip)) (.seq (.seq qbtq (.cond (.t 25) (.seq qbxr .ret) .skip)) (.seq qbor (.seq qblu (.seq (.seq qbh2 (.cond (.t 40) (.seq qbkm .ret) .skip)) (.seq qbcm (.seq qbfx .ret)))))))))
@[go_sem] def s0bq : List (RV × Co) := [(.c true 5 2, zN), (.t 3, .id)]
theorem c0bq : cFun Tryz.prog 161 = some (45, k0bq, s0bq) := by kernel_rfl

def qb77 : IC := zr [zi 2 zaN, zv 3 zf]
def qbxh : IC := zr [zm 5 0, zi 6 (.call (.c (.fn 19 [] [])) [((.t 5), .id)]), zi 4 zaT, zn (.st 4 .id (.t 4) (.t 6))]
def qb49 : IC := zr [zv 7 (.fad (.t 4) 0), zv 8 (.ld false 1 (.t 7))]
def qbz7 : IC := zr [zv 10 (.bin .eql .no (.t 8) (zc 1)), zm 9 10]
def qca4 : IC := zr [zv 11 (.fad (.t 4) 1), zv 12 (.ld false 1 (.t 11)), zv 13 (.fad (.t 4) 3), zv 14 (.ld false 1 (.t 13)), zv 15 (.bld [(.int .i64 0), (.int .i64 0), (.int .i64 0), (.str []), .nils] [(0, 1, (zc 21)), (1, 1, (.t 12)), (3, 1, (.t 14))]), zn (.st 5 zN (.t 2) (.t 15)), zv 3 (.mov (.c (.bool true)))]
def qb4q : IC := zr [zv 17 (.bin .eql .no (.t 8) (zc 2)), zm 16 17]
def qbs3 : IC := zr [zv 18 (.fad (.t 4) 1), zv 19 (.ld false 1 (.t 18)), zv 20 (.fad (.t 4) 3), zv 21 (.ld false 1 (.t 20)), zv 22 (.bld [(.int .i64 0), (.int .i64 0), (.int .i64 0), (.str []), .nils] [(0, 1, (zc 22)), (1, 1, (.t 19)), (3, 1, (.t 21))]), zn (.st 5 zN (.t 2) (.t 22)), zv 3 (.mov (.c (.bool true)))]
def qbvp : IC := zr [zv 24 (.bin .eql .no (.t 8) (zc 3)), zm 23 24]
def qcau : IC := zr [zv 25 (.fad (.t 4) 1), zv 26 (.ld false 1 (.t 25)), zv 27 (.fad (.t 4) 2), zv 28 (.ld false 1 (.t 27)), zv 29 (.bld [(.int .i64 0), (.int .i64 0), (.int .i64 0), (.str []), .nils] [(0, 1, (zc 23)), (1, 1, (.t 26)), (2, 1, (.t 28))]), zn (.st 5 zN (.t 2) (.t 29)), zv 3 (.mov (.c (.bool true)))]
def qbr3 : IC := zr [zv 30 (.bld [(.int .i64 0), (.int .i64 0), (.int .i64 0), (.str []), .nils] []), zn (.st 5 zN (.t 2) (.t 30)), zv 3 zf]
def k0bp : IC := (.seq qb77 (.seq qbxh (.seq (.seq qb49 (.block 0 (.seq qbz7 (.cond (.t 9) (.seq qca4 .ret) (.seq qb4q (.cond (.t 16) (.seq qbs3 .ret) (.seq qbvp (.cond (.t 23) (.seq qcau .ret) .skip)))))))) (.seq qbr3 .ret))))
@[go_sem] def s0bp : List (RV × Co) := [(.c true 5 2, zN), (.t 3, .id)]
theorem c0bp : cFun Tryz.prog 162 = some (31, k0bp, s0bp) := by kernel_rfl

def qcbb : IC := zr [zi 1 (.box (.t 0)), zi 2 zaC, zi 3 zaN]
def qcbc : IC := zr [zv 7 (.ld true 8 (.t 1)), zi 8 (.call (.c (.fn 42 [] [])) [((.t 7), zC)]), zi 4 zaT, zn (.st 4 .id (.t 4) (.t 8))]
def qbpp : IC := zr [zv 9 (.ld true 8 (.t 1)), zi 10 (.call (.c (.fn 164 [] [])) [((.t 9), zC)]), zv 11 (.un .not (.t 10))]
def qboz : IC := zr [zv 12 (.ld true 8 (.t 1)), zi 13 (.call (.c (.fn 117 [] [])) [((.t 12), zC), ((zc 5), .id)]), zv 14 (.bld [(.int .i64 0), (.int .i64 0), (.int .i64 0), (.str []), .nils] []), zn (.st 8 zC (.t 2) (.t 13)), zn (.st 5 zN (.t 3) (.t 14))]
def qbu0 : IC := zr [zv 15 (.ld true 8 (.t 1)), zi 16 (.call (.c (.fn 46 [] [])) [((.t 15), zC), ((.c (.str [40])), .id)])]
def qbot : IC := zr [zv 18 (.ld true 8 (.t 1)), zi 19 (.call (.c (.fn 118 [] [])) [((.t 18), zC)]), zm 17 19, zv 20 (.ext (.t 17) 0), zv 21 (.ext (.t 17) 1), zn (.st 8 zC (.t 1) (.t 20))]
def qbuy : IC := zr [zv 23 (.ld true 8 (.t 1)), zi 24 (.call (.c (.fn 82 [] [])) [((.t 23), zC), ((.c (.str [40])), .id)]), zm 22 24, zv 25 (.ext (.t 22) 0), zv 26 (.ext (.t 22) 1), zn (.st 8 zC (.t 1) (.t 25))]
def qbo5 : IC := zr [zv 28 (.ld true 8 (.t 1)), zi 29 (.call (.c (.fn 156 [] [])) [((.t 28), zC)]), zm 27 29, zv 30 (.ext (.t 27) 0), zv 31 (.ext (.t 27) 1), zi 5 zaC, zi 6 zaN, zn (.st 8 zC (.t 5) (.t 30)), zn (.st 5 zN (.t 6) (.t 31))]
def qcdz : IC := zr [zv 33 (.ld true 8 (.t 5)), zi 34 (.call (.c (.fn 82 [] [])) [((.t 33), zC), ((.c (.str [41])), .id)]), zm 32 34, zv 35 (.ext (.t 32) 0), zv 36 (.ext (.t 32) 1), zn (.st 8 zC (.t 5) (.t 35))]
def qbxc : IC := .drw [zp (zv 37 (.ld true 8 (.t 5))), (zi 38 (.call (.c (.fn 120 [] [])) [((.t 37), zC)]), []), (zv 39 (.ld true 5 (.t 6)), [1]), (zn (.st 8 zC (.t 2) (.t 38)), [2]), (zn (.st 5 zN (.t 3) (.t 39)), [])]
def qbe4 : IC := zr [zv 41 (.ld true 8 (.t 1)), zi 42 (.call (.c (.fn 47 [] [])) [((.t 41), zC)]), zm 40 42, zv 43 (.ext (.t 40) 0), zv 44 (.ext (.t 40) 1), zn (.st 8 zC (.t 1) (.t 43))]
def qbid : IC := zr [zv 45 (.fad (.t 4) 0), zv 46 (.ld false 1 (.t 45))]
def qbgr : IC := zr [zv 48 (.bin .eql .no (.t 46) (zc 1)), zm 47 48]
def qbjn : IC := .drw [zp (zv 49 (.ld true 8 (.t 1))), zp (zv 50 (.fad (.t 4) 1)), zp (zv 51 (.ld false 1 (.t 50))), zp (zv 52 (.fad (.t 4) 3)), zp (zv 53 (.ld false 1 (.t 52))), (zv 54 (.bld [(.int .i64 0), (.int .i64 0), (.int .i64 0), (.str []), .nils] [(0, 1, (zc 11)), (1, 1, (.t 51)), (3, 1, (.t 53))]), []), (zn (.st 8 zC (.t 2) (.t 49)), [2, 4]), (zn (.st 5 zN (.t 3) (.t 54)), [])]
def qblm : IC := zr [zv 56 (.bin .eql .no (.t 46) (zc 2)), zm 55 56]
def qbdg : IC := .drw [zp (zv 57 (.ld true 8 (.t 1))), zp (zv 58 (.fad (.t 4) 1)), zp (zv 59 (.ld false 1 (.t 58))), zp (zv 60 (.fad (.t 4) 3)), zp (zv 61 (.ld false 1 (.t 60))), (zv 62 (.bld [(.int .i64 0), (.int .i64 0), (.int .i64 0), (.str []), .nils] [(0, 1, (zc 14)), (1, 1, (.t 59)), (3, 1, (.t 61))]), []), (zn (.st 8 zC (.t 2) (.t 57)), [2, 4]), (zn (.st 5 zN (.t 3) (.t 62)), [])]
def qbcb : IC := zr [zv 64 (.bin .eql .no (.t 46) (zc 3)), zm 63 64]
def qblf : IC := .drw [zp (zv 65 (.ld true 8 (.t 1))), zp (zv 66 (.fad (.t 4) 1)), zp (zv 67 (.ld false 1 (.t 66))), zp (zv 68 (.fad (.t 4) 2)), zp (zv 69 (.ld false 1 (.t 68))), (zv 70 (.bld [(.int .i64 0), (.int .i64 0), (.int .i64 0), (.str []), .nils] [(0, 1, (zc 13)), (1, 1, (.t 67)), (2, 1, (.t 69))]), []), (zn (.st 8 zC (.t 2) (.t 65)), [2, 4]), (zn (.st 5 zN (.t 3) (.t 70)), [])]
def qbhk : IC := .drw [zp (zv 71 (.ld true 8 (.t 1))), zp (zv 72 (.fad (.t 4) 1)), zp (zv 73 (.ld false 1 (.t 72))), (zv 74 (.bld [(.int .i64 0), (.int .i64 0), (.int .i64 0), (.str []), .nils] [(0, 1, (zc 12)), (1, 1, (.t 73))]), []), (zn (.st 8 zC (.t 2) (.t 71)), [2]), (zn (.st 5 zN (.t 3) (.t 74)), [])]
def k0fv : IC := (.seq qcbb (.seq qcbc (.seq (.seq qbpp (.cond (.t 11) (.seq qboz .ret) .skip)) (.seq (.seq qbu0 (.cond (.t 16) (.seq qbot (.seq qbuy (.seq qbo5 (.seq qcdz (.seq qbxc .ret))))) .skip)) (.seq qbe4 (.seq (.seq qbid (.block 0 (.seq qbgr (.cond (.t 47) (.seq qbjn .ret) (.seq qblm (.cond (.t 55) (.seq qbdg .ret) (.seq qbcb (.cond (.t 63) (.seq qblf .ret) .skip)))))))) (.seq qbhk .ret)))))))
@[go_sem] def s0fv : List (RV × Co) := [(.c true 8 2, zC), (.c true 5 3, zN)]
theorem c0fv : cFun Tryz.prog 163 = some (75, k0fv, s0fv) := by kernel_rfl

def qb2c : IC := zr [zi 1 (.box (.t 0)), zv 2 zf]
def qccu : IC := zr [zv 4 (.ld true 8 (.t 1)), zi 5 (.call (.c (.fn 42 [] [])) [((.t 4), zC)]), zv 6 (.fld false 1 0 (.t 5)), zm 3 6]
def qcb3 : IC := zr [zv 7 (.fad (.t 1) 6), zv 8 (.ld false 1 (.t 7)), zv 9 (.bin .eql .no (.t 8) (zc 0)), zm 10 9, zw 10 true 11 (.mov (.t 3)), zw 10 true 12 (.bin .eql .no (.t 11) (zc 1)), zw 10 true 13 (.mov (.t 12)), zw 13 false 14 (.mov (.t 3)), zw 13 false 15 (.bin .eql .no (.t 14) (zc 2)), zw 10 true 16 (.pick (.t 13) (.c (.bool true)) (.t 15)), zw 10 true 17 (.mov (.t 16)), zw 17 false 18 (.mov (.t 3)), zw 17 false 19 (.bin .eql .no (.t 18) (zc 3)), zw 10 true 20 (.pick (.t 17) (.c (.bool true)) (.t 19)), zw 10 true 21 (.mov (.t 20)), zw 21 false 22 (.ld true 8 (.t 1)), ⟨some (21, false), some 23, .call (.c (.fn 46 [] [])) [((.t 22), zC), ((.c (.str [95])), .id)]⟩, zw 10 true 24 (.pick (.t 21) (.c (.bool true)) (.t 23)), zw 10 true 25 (.mov (.t 24)), zw 25 false 26 (.ld true 8 (.t 1)), ⟨some (25, false), some 27, .call (.c (.fn 46 [] [])) [((.t 26), zC), ((.c (.str [40])), .id)]⟩, zw 10 true 28 (.pick (.t 25) (.c (.bool true)) (.t 27)), zv 29 (.pick (.t 10) (.t 28) (.c (.bool false))), zm 2 29]
def k0fu : IC := (.seq qb2c (.seq qccu (.seq qcb3 .ret)))
@[go_sem] def s0fu : List (RV × Co) := [(.t 2, .id)]
theorem c0fu : cFun Tryz.prog 164 = some (30, k0fu, s0fu) := by kernel_rfl

def qb6c : IC := zr [zi 2 zaN, zv 3 zf]
def qbwv : IC := zr [zm 9 0, zi 10 (.call (.c (.fn 167 [] [])) [((.t 9), .id)]), zm 8 10, zv 11 (.ext (.t 8) 0), zv 12 (.ext (.t 8) 1), zi 4 zaN, zn (.st 5 zN (.t 4) (.t 11)), zm 5 12]
def qcdk : IC := zr [zm 13 5]
def qbtn : IC := zr [zm 14 0, zi 15 (.call (.c (.fn 60 [] [])) [((.t 14), .id)])]
def qcc2 : IC := zr [zv 16 (.ld true 5 (.t 4)), zn (.st 5 zN (.t 2) (.t 16)), zv 3 (.mov (.c (.bool true)))]
def qb43 : IC := zr [zm 17 0, zi 18 (.call (.c (.fn 59 [] [])) [((.t 17), .id), ((.c (.str [40])), .id)]), zv 19 (.un .not (.t 18))]
def qcb8 : IC := zr [zv 20 (.bld [(.int .i64 0), (.int .i64 0), (.int .i64 0), (.str []), .nils] []), zm 21 0, zi 22 (.call (.c (.fn 69 [] [])) [((.t 21), .id), ((zc 5), .id)]), zn (.st 5 zN (.t 2) (.t 20)), zm 3 22]
def qbqs : IC := zr [zm 23 0, zi 24 (.call (.c (.fn 103 [] [])) [((.t 23), .id)]), zv 25 (.un .not (.t 24))]
def qbyv : IC := zr [zv 26 (.bld [(.int .i64 0), (.int .i64 0), (.int .i64 0), (.str []), .nils] []), zn (.st 5 zN (.t 2) (.t 26)), zv 3 zf]
def qbth : IC := zr [zm 27 0, zi 28 (.call (.c (.fn 60 [] [])) [((.t 27), .id)])]
def qbc5 : IC := zr [zm 30 0, zi 31 (.call (.c (.fn 160 [] [])) [((.t 30), .id)]), zm 29 31, zv 32 (.ext (.t 29) 0), zv 33 (.ext (.t 29) 1), zi 6 zaN, zn (.st 5 zN (.t 6) (.t 32)), zm 7 33]
def qbfu : IC := zr [zm 34 7, zv 35 (.un .not (.t 34)), zm 36 35, zw 36 false 37 (.mov (.t 0)), ⟨some (36, false), some 38, .call (.c (.fn 65 [] [])) [((.t 37), .id), ((.c (.str [41])), .id)]⟩, zw 36 false 39 (.un .not (.t 38)), zv 40 (.pick (.t 36) (.c (.bool true)) (.t 39))]
def qblt : IC := zr [zv 41 (.bld [(.int .i64 0), (.int .i64 0), (.int .i64 0), (.str []), .nils] []), zn (.st 5 zN (.t 2) (.t 41)), zv 3 zf]
def qbh4 : IC := zr [zm 42 0, zi 43 (.call (.c (.fn 105 [] [])) [((.t 42), .id)])]
def qbjr : IC := zr [zv 44 (.ld true 5 (.t 6)), zn (.st 5 zN (.t 2) (.t 44)), zv 3 (.mov (.c (.bool true)))]
def k0bu : IC := (.seq qb6c (.seq (.seq qbwv (.seq qcdk (.cond (.t 13) (.seq qbtn (.seq qcc2 .ret)) .skip))) (.seq (.seq qb43 (.cond (.t 19) (.seq qcb8 .ret) .skip)) (.seq (.seq qbqs (.cond (.t 25) (.seq qbyv .ret) .skip)) (.seq qbth (.seq qbc5 (.seq (.seq qbfu (.cond (.t 40) (.seq qblt .ret) .skip)) (.seq qbh4 (.seq qbjr .ret)))))))))
@[go_sem] def s0bu : List (RV × Co) := [(.c true 5 2, zN), (.t 3, .id)]
theorem c0bu : cFun Tryz.prog 165 = some (45, k0bu, s0bu) := by kernel_rfl

def qbs8 : IC := zr [zv 2 zf]
def qbyj : IC := zr [zm 6 0, zi 7 (.call (.c (.fn 167 [] [])) [((.t 6), .id)]), zm 5 7, zv 8 (.ext (.t 5) 0), zv 9 (.ext (.t 5) 1), zi 3 zaN, zn (.st 5 zN (.t 3) (.t 8)), zm 4 9]
def qbn0 : IC := zr [zm 10 4, zm 11 10, zw 11 false 12 (.mov (.t 0)), ⟨some (11, false), some 13, .call (.c (.fn 59 [] [])) [((.t 12), .id), ((.c (.str [40])), .id)]⟩, zv 14 (.pick (.t 11) (.c (.bool true)) (.t 13)), zm 2 14]
def k0bt : IC := (.seq qbs8 (.seq qbyj (.seq qbn0 .ret)))
@[go_sem] def s0bt : List (RV × Co) := [(.t 2, .id)]
theorem c0bt : cFun Tryz.prog 166 = some (15, k0bt, s0bt) := by kernel_rfl

def qbso : IC := zr [zi 2 zaN, zv 3 zf]
def qccj : IC := zr [zm 6 0, zi 7 (.call (.c (.fn 19 [] [])) [((.t 6), .id)]), zi 4 zaT, zn (.st 4 .id (.t 4) (.t 7))]
def qb5h : IC := zr [zv 8 (.fad (.t 4) 1), zv 9 (.ld false 1 (.t 8)), zv 10 (.fad (.t 4) 3), zv 11 (.ld false 1 (.t 10)), zv 12 (.bld [(.int .i64 0), (.int .i64 0), (.int .i64 0), (.str []), .nils] [(1, 1, (.t 9)), (3, 1, (.t 11))]), zi 5 zaN, zn (.st 5 zN (.t 5) (.t 12))]
def qb1u : IC := zr [zv 15 (.fad (.t 4) 0), zv 16 (.ld false 1 (.t 15)), zv 17 (.bin .eql .no (.t 16) (zc 1)), zm 14 17]
def qb7f : IC := zr [zv 18 (.fad (.t 5) 0), zn (.st 1 .id (.t 18) (zc 11))]
def qb37 : IC := zr [zv 20 (.fad (.t 4) 0), zv 21 (.ld false 1 (.t 20)), zv 22 (.bin .eql .no (.t 21) (zc 2)), zm 19 22]
def qb5t : IC := zr [zv 23 (.fad (.t 5) 0), zn (.st 1 .id (.t 23) (zc 14))]
def qb2u : IC := zr [zv 25 (.fad (.t 4) 0), zv 26 (.ld false 1 (.t 25)), zv 27 (.bin .eql .no (.t 26) (zc 3)), zm 24 27]
def qbum : IC := .drw [zp (zv 28 (.fad (.t 4) 2)), zp (zv 29 (.ld false 1 (.t 28))), zp (zv 30 (.fad (.t 5) 0)), (zn (.st 1 .id (.t 30) (zc 13)), [1]), zp (zv 31 (.fad (.t 5) 2)), (zn (.st 1 .id (.t 31) (.t 29)), []), zp (zv 32 (.fad (.t 5) 3)), (zn (.st 1 .id (.t 32) (.c (.str []))), [])]
def qby9 : IC := zr [zm 34 0, zi 35 (.call (.c (.fn 59 [] [])) [((.t 34), .id), ((.c (.str [95])), .id)]), zm 33 35]
def qbcx : IC := zr [zv 36 (.fad (.t 5) 0), zn (.st 1 .id (.t 36) (zc 12)), zv 37 (.fad (.t 5) 3), zn (.st 1 .id (.t 37) (.c (.str [])))]
def qbjj : IC := zr [zv 13 (.bld [(.int .i64 0), (.int .i64 0), (.int .i64 0), (.str []), .nils] []), zn (.st 5 zN (.t 2) (.t 13)), zv 3 zf]
def qblb : IC := zr [zv 38 (.ld true 5 (.t 5)), zn (.st 5 zN (.t 2) (.t 38)), zv 3 (.mov (.c (.bool true)))]
def k0bs : IC := (.seq qbso (.seq qccj (.seq qb5h (.seq (.block 0 (.seq qb1u (.cond (.t 14) qb7f (.seq qb37 (.cond (.t 19) qb5t (.seq qb2u (.cond (.t 24) qbum (.seq qby9 (.cond (.t 33) qbcx (.seq qbjj .ret)))))))))) (.seq qblb .ret)))))
@[go_sem] def s0bs : List (RV × Co) := [(.c true 5 2, zN), (.t 3, .id)]
theorem c0bs : cFun Tryz.prog 167 = some (39, k0bs, s0bs) := by kernel_rfl

end Go.Proofs.YtfjbmjplnmaclaaGreat
