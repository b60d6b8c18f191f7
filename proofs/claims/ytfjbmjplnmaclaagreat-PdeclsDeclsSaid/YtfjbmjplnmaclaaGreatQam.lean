/- A text of this proof. -/
import Derived.Test.YtfjbmjplnmaclaaGreatQag
import Derived.Test.YtfjbmjplnmaclaaGreatProg
/- The compiled code of the functions. -/
namespace Go.Proofs.YtfjbmjplnmaclaaGreat
open Go Go.V
@[reducible] def zm (d s : Nat) : GI := ⟨none, some d, .v (.mov (.t s))⟩
@[reducible] def zv (d : Nat) (x : IV) : GI := ⟨none, some d, .v x⟩
@[reducible] def zi (d : Nat) (i : I) : GI := ⟨none, some d, i⟩
@[reducible] def zn (i : I) : GI := ⟨none, none, i⟩
@[reducible] def zw (j : Nat) (b : Bool) (d : Nat) (x : IV) : GI := ⟨some (j, b), some d, .v x⟩
@[reducible] def zp (g : GI) : GI × List Nat := (g, [])
@[reducible] def zN : Co := .agg [.id, .id, .id, .id, (.sl 5)]
@[reducible] def zC : Co := .agg [(.sl 4), .id, .id, .id, .id, .id, .id, .id]
@[reducible] def zaN : I := .alo [(.int .i64 0), (.int .i64 0), (.int .i64 0), (.str []), .nils]
@[reducible] def zaC : I := .alo [.nils, (.int .i64 0), (.int .i64 0), (.int .i64 0), (.str []), (.int .i64 0), (.int .i64 0), (.int .i64 0)]
@[reducible] def zaT : I := .alo [(.int .i64 0), (.int .i64 0), (.int .i64 0), (.str [])]
@[reducible] def zZ : AV := .agg [(.int .i64 0), (.int .i64 0), (.int .i64 0), (.str []), .nils]
@[reducible] def zc (n : Int) : Opd := .c (.int .i64 n)
@[reducible] def zf : IV := .mov (.c (.bool false))
@[reducible] def zr (l : List GI) : IC := .reg false l
def qcfp : IC := zr [zv 2 zf]
def qckn : IC := zr [zm 9 0, zv 10 (.len true (.t 9)), zv 11 (.bin .gtr .no (.t 10) (zc 3000))]
def qcez : IC := zr [zi 12 (.call (.c (.fn 5 [] [])) []), zm 2 12]
def qcij : IC := zr [zm 14 0, zi 15 (.call (.c (.fn 6 [] [])) [((.t 14), .id)]), zm 13 15, zv 16 (.ext (.t 13) 0), zv 17 (.ext (.t 13) 1), zv 18 (.ext (.t 13) 2), zi 3 zaN, zn (.st 5 zN (.t 3) (.t 16)), zm 4 17, zm 5 18]
def qchd : IC := zr [zm 20 0, zi 21 (.call (.c (.fn 7 [] [])) [((.t 20), .id)]), zm 19 21, zv 22 (.ext (.t 19) 0), zv 23 (.ext (.t 19) 1), zv 24 (.ext (.t 19) 2), zi 6 zaN, zn (.st 5 zN (.t 6) (.t 22)), zm 7 23, zm 8 24]
def qcen : IC := zr [zv 25 (.ld true 5 (.t 3)), zv 26 (.ld true 5 (.t 6)), zi 27 (.call (.c (.fn 8 [] [])) [((.t 25), zN), ((.t 26), zN)]), zm 28 27, zw 28 true 29 (.mov (.t 4)), zw 28 true 30 (.mov (.t 7)), zw 28 true 31 (.bin .eql .no (.t 29) (.t 30)), zv 32 (.pick (.t 28) (.t 31) (.c (.bool false))), zm 33 32, zw 33 true 34 (.mov (.t 5)), zw 33 true 35 (.mov (.t 8)), zw 33 true 36 (.bin .eql .no (.t 34) (.t 35)), zv 37 (.pick (.t 33) (.t 36) (.c (.bool false))), zm 38 37, zw 38 true 39 (.mov (.t 5)), zw 38 true 40 (.bin .neq .no (.t 39) (zc 0)), zw 38 true 41 (.mov (.t 40)), zw 41 false 42 (.ld true 5 (.t 3)), ⟨some (41, false), some 43, .call (.c (.fn 9 [] [])) [((.t 42), zN)]⟩, zw 41 false 44 (.mov (.t 43)), zw 44 true 45 (.fad (.t 3) 0), zw 44 true 46 (.ld false 1 (.t 45)), zw 44 true 47 (.bin .eql .no (.t 46) (zc 37)), zw 41 false 48 (.pick (.t 44) (.t 47) (.c (.bool false))), zw 38 true 49 (.pick (.t 41) (.c (.bool true)) (.t 48)), zv 50 (.pick (.t 38) (.t 49) (.c (.bool false))), zm 51 50, ⟨some (51, true), some 52, .call (.c (.fn 5 [] [])) []⟩, zv 53 (.pick (.t 51) (.t 52) (.c (.bool false))), zm 2 53]
def k0a : IC := (.seq qcfp (.seq (.seq qckn (.cond (.t 11) (.seq qcez .ret) .skip)) (.seq qcij (.seq qchd (.seq qcen .ret)))))
@[go_sem] def s0a : List (RV × Co) := [(.t 2, .id)]
theorem c0a : cFun Tryz.prog 3 = some (54, k0a, s0a) := by kernel_rfl

def qck6 : IC := zr [zv 2 zf]
def qcgj : IC := zr [zm 9 0, zv 10 (.len true (.t 9)), zv 11 (.bin .gtr .no (.t 10) (zc 3000))]
def qcgy : IC := zr [zi 12 (.call (.c (.fn 5 [] [])) []), zm 2 12]
def qckv : IC := zr [zm 14 0, zi 15 (.call (.c (.fn 10 [] [])) [((.t 14), .id)]), zm 13 15, zv 16 (.ext (.t 13) 0), zv 17 (.ext (.t 13) 1), zv 18 (.ext (.t 13) 2), zi 3 zaN, zn (.st 5 zN (.t 3) (.t 16)), zm 4 17, zm 5 18]
def qcfy : IC := zr [zm 20 0, zi 21 (.call (.c (.fn 11 [] [])) [((.t 20), .id)]), zm 19 21, zv 22 (.ext (.t 19) 0), zv 23 (.ext (.t 19) 1), zv 24 (.ext (.t 19) 2), zi 6 zaN, zn (.st 5 zN (.t 6) (.t 22)), zm 7 23, zm 8 24]
def qch1 : IC := zr [zv 25 (.ld true 5 (.t 3)), zv 26 (.ld true 5 (.t 6)), zi 27 (.call (.c (.fn 8 [] [])) [((.t 25), zN), ((.t 26), zN)]), zm 28 27, zw 28 true 29 (.mov (.t 4)), zw 28 true 30 (.mov (.t 7)), zw 28 true 31 (.bin .eql .no (.t 29) (.t 30)), zv 32 (.pick (.t 28) (.t 31) (.c (.bool false))), zm 33 32, zw 33 true 34 (.mov (.t 5)), zw 33 true 35 (.mov (.t 8)), zw 33 true 36 (.bin .eql .no (.t 34) (.t 35)), zv 37 (.pick (.t 33) (.t 36) (.c (.bool false))), zm 38 37, zw 38 true 39 (.mov (.t 5)), zw 38 true 40 (.bin .neq .no (.t 39) (zc 0)), zw 38 true 41 (.mov (.t 40)), zw 41 false 42 (.ld true 5 (.t 3)), ⟨some (41, false), some 43, .call (.c (.fn 9 [] [])) [((.t 42), zN)]⟩, zw 41 false 44 (.mov (.t 43)), zw 44 true 45 (.fad (.t 3) 0), zw 44 true 46 (.ld false 1 (.t 45)), zw 44 true 47 (.bin .neq .no (.t 46) (zc 37)), zw 41 false 48 (.pick (.t 44) (.t 47) (.c (.bool false))), zw 38 true 49 (.pick (.t 41) (.c (.bool true)) (.t 48)), zv 50 (.pick (.t 38) (.t 49) (.c (.bool false))), zm 51 50, ⟨some (51, true), some 52, .call (.c (.fn 5 [] [])) []⟩, zv 53 (.pick (.t 51) (.t 52) (.c (.bool false))), zm 2 53]
def k0b : IC := (.seq qck6 (.seq (.seq qcgj (.cond (.t 11) (.seq qcgy .ret) .skip)) (.seq qckv (.seq qcfy (.seq qch1 .ret)))))
@[go_sem] def s0b : List (RV × Co) := [(.t 2, .id)]
theorem c0b : cFun Tryz.prog 4 = some (54, k0b, s0b) := by kernel_rfl

def qb0k : IC := zr [zv 0 zf]
def qbxr : IC := zr [zi 17 (.call (.c (.fn 6 [] [])) [((.c (.str [100, 97, 116, 97, 32, 66, 32, 61, 32, 84, 32, 124, 32, 70, 59])), .id)]), zm 16 17, zv 18 (.ext (.t 16) 0), zv 19 (.ext (.t 16) 1), zv 20 (.ext (.t 16) 2), zi 1 zaN, zn (.st 5 zN (.t 1) (.t 18)), zm 2 19, zm 3 20]
def qb6k : IC := zr [zi 22 (.call (.c (.fn 6 [] [])) [((.c (.str [99, 108, 97, 115, 115, 32, 69, 113, 32, 97, 32, 61, 62, 32, 79, 114, 100, 32, 97, 32, 119, 104, 101, 114, 101, 32, 123, 32, 108, 116, 32, 58, 58, 32, 97, 32, 45, 62, 32, 97, 32, 45, 62, 32, 66, 32, 125, 59, 32, 105, 110, 115, 116, 97, 110, 99, 101, 32, 69, 113, 32, 66, 32, 119, 104, 101, 114, 101, 32, 123, 32, 101, 113, 32, 120, 32, 121, 32, 61, 32, 84, 59, 32, 125, 59, 32, 102, 32, 58, 58, 32, 66, 59, 32, 102, 32, 61, 32, 84])), .id)]), zm 21 22, zv 23 (.ext (.t 21) 0), zv 24 (.ext (.t 21) 1), zv 25 (.ext (.t 21) 2), zi 4 zaN, zn (.st 5 zN (.t 4) (.t 23)), zm 5 24, zm 6 25]
def qbny : IC := zr [zi 27 (.call (.c (.fn 10 [] [])) [((.c (.str [100, 97, 116, 97, 32, 77, 32, 97, 32, 61, 32, 78, 32, 124, 32, 74, 32, 97])), .id)]), zm 26 27, zv 28 (.ext (.t 26) 0), zv 29 (.ext (.t 26) 1), zv 30 (.ext (.t 26) 2), zi 7 zaN, zn (.st 5 zN (.t 7) (.t 28)), zm 8 29, zm 9 30]
def qby1 : IC := zr [zi 32 (.call (.c (.fn 6 [] [])) [((.c (.str [120, 32, 61, 32, 49, 59, 32, 59])), .id)]), zm 31 32, zv 33 (.ext (.t 31) 0), zv 34 (.ext (.t 31) 1), zv 35 (.ext (.t 31) 2), zi 10 zaN, zn (.st 5 zN (.t 10) (.t 33)), zm 11 34, zm 12 35]
def qbqu : IC := zr [zi 37 (.call (.c (.fn 6 [] [])) [((.c (.str [])), .id)]), zm 36 37, zv 38 (.ext (.t 36) 0), zv 39 (.ext (.t 36) 1), zv 40 (.ext (.t 36) 2), zi 13 zaN, zn (.st 5 zN (.t 13) (.t 38)), zm 14 39, zm 15 40]
def qb2m : IC := zr [zv 41 (.fad (.t 1) 4), zv 42 (.ld false 1 (.t 41)), zv 43 (.len false (.t 42)), zv 44 (.bin .neq .no (.t 43) (zc 1)), zm 45 44, zw 45 false 46 (.fad (.t 4) 4), zw 45 false 47 (.ld false 1 (.t 46)), zw 45 false 48 (.len false (.t 47)), zw 45 false 49 (.bin .neq .no (.t 48) (zc 4)), zv 50 (.pick (.t 45) (.c (.bool true)) (.t 49))]
def qb9y : IC := zr [zv 0 zf]
def qb79 : IC := zr [zv 51 (.fad (.t 1) 4), zv 52 (.ld false 1 (.t 51)), zv 53 (.iad 5 (.t 52) (zc 0)), zv 54 (.fad (.t 53) 3), zv 55 (.ld false 1 (.t 54)), zv 56 (.bin .eql .no (.t 55) (.c (.str [66]))), zm 57 56, zw 57 true 58 (.mov (.t 2)), zw 57 true 59 (.bin .eql .no (.t 58) (zc 0)), zv 60 (.pick (.t 57) (.t 59) (.c (.bool false))), zm 61 60, zw 61 true 62 (.mov (.t 3)), zw 61 true 63 (.bin .eql .no (.t 62) (zc 0)), zv 64 (.pick (.t 61) (.t 63) (.c (.bool false))), zm 65 64, zw 65 true 66 (.fad (.t 4) 4), zw 65 true 67 (.ld false 1 (.t 66)), zw 65 true 68 (.iad 5 (.t 67) (zc 0)), zw 65 true 69 (.fad (.t 68) 2), zw 65 true 70 (.ld false 1 (.t 69)), zw 65 true 71 (.bin .eql .no (.t 70) (zc 1)), zv 72 (.pick (.t 65) (.t 71) (.c (.bool false))), zm 73 72, zw 73 true 74 (.fad (.t 4) 4), zw 73 true 75 (.ld false 1 (.t 74)), zw 73 true 76 (.iad 5 (.t 75) (zc 1)), zw 73 true 77 (.fad (.t 76) 0), zw 73 true 78 (.ld false 1 (.t 77)), zw 73 true 79 (.bin .eql .no (.t 78) (zc 36)), zv 80 (.pick (.t 73) (.t 79) (.c (.bool false))), zm 81 80, zw 81 true 82 (.mov (.t 6)), zw 81 true 83 (.bin .eql .no (.t 82) (zc 0)), zv 84 (.pick (.t 81) (.t 83) (.c (.bool false))), zm 85 84, zw 85 true 86 (.fad (.t 7) 2), zw 85 true 87 (.ld false 1 (.t 86)), zw 85 true 88 (.bin .eql .no (.t 87) (zc 1)), zv 89 (.pick (.t 85) (.t 88) (.c (.bool false))), zm 90 89, zw 90 true 91 (.fad (.t 7) 4), zw 90 true 92 (.ld false 1 (.t 91)), zw 90 true 93 (.len false (.t 92)), zw 90 true 94 (.bin .eql .no (.t 93) (zc 3)), zv 95 (.pick (.t 90) (.t 94) (.c (.bool false))), zm 96 95, zw 96 true 97 (.mov (.t 9)), zw 96 true 98 (.bin .eql .no (.t 97) (zc 0)), zv 99 (.pick (.t 96) (.t 98) (.c (.bool false))), zm 100 99, zw 100 true 101 (.mov (.t 11)), zw 100 true 102 (.bin .eql .no (.t 101) (zc 7)), zv 103 (.pick (.t 100) (.t 102) (.c (.bool false))), zm 104 103, zw 104 true 105 (.mov (.t 12)), zw 104 true 106 (.bin .eql .no (.t 105) (zc 5)), zv 107 (.pick (.t 104) (.t 106) (.c (.bool false))), zm 108 107, zw 108 true 109 (.fad (.t 13) 0), zw 108 true 110 (.ld false 1 (.t 109)), zw 108 true 111 (.bin .eql .no (.t 110) (zc 37)), zv 112 (.pick (.t 108) (.t 111) (.c (.bool false))), zm 113 112, zw 113 true 114 (.mov (.t 15)), zw 113 true 115 (.bin .eql .no (.t 114) (zc 0)), zv 116 (.pick (.t 113) (.t 115) (.c (.bool false))), zm 0 116]
def k0gi : IC := (.seq qb0k (.seq qbxr (.seq qb6k (.seq qbny (.seq qby1 (.seq qbqu (.seq (.seq qb2m (.cond (.t 50) (.seq qb9y .ret) .skip)) (.seq qb79 .ret))))))))
@[go_sem] def s0gi : List (RV × Co) := [(.t 0, .id)]
theorem c0gi : cFun Tryz.prog 5 = some (117, k0gi, s0gi) := by kernel_rfl

def qcga : IC := zr [zi 2 zaN, zv 3 (.mov (zc 0)), zv 4 (.mov (zc 0))]
def qcey : IC := zr [zm 5 0, zi 6 (.call (.c (.fn 12 [] [])) [((.t 5), .id), ((.c (.fn 13 [] [])), .id)]), zv 7 (.ext (.t 6) 0), zv 8 (.ext (.t 6) 1), zv 9 (.ext (.t 6) 2), zn (.st 5 zN (.t 2) (.t 7)), zm 3 8, zm 4 9]
def k0p : IC := (.seq qcga (.seq qcey .ret))
@[go_sem] def s0p : List (RV × Co) := [(.c true 5 2, zN), (.t 3, .id), (.t 4, .id)]
theorem c0p : cFun Tryz.prog 6 = some (10, k0p, s0p) := by kernel_rfl

def qb3b : IC := zr [zi 2 zaN, zv 3 (.mov (zc 0)), zv 4 (.mov (zc 0))]
def qbte : IC := zr [zm 15 0, zi 16 (.call (.c (.fn 20 [] [])) [((.t 15), .id)]), zm 14 16, zv 17 (.ext (.t 14) 0), zv 18 (.ext (.t 14) 1), zv 19 (.ext (.t 14) 2), zm 5 17, zm 6 18, zm 7 19]
def qb1r : IC := zr [zm 20 7, zv 21 (.bin .neq .no (.t 20) (zc 0))]
def qb4c : IC := zr [zv 22 (.bld [(.int .i64 0), (.int .i64 0), (.int .i64 0), (.str []), .nils] []), zm 23 6, zm 24 7, zn (.st 5 zN (.t 2) (.t 22)), zm 3 23, zm 4 24]
def qbnm : IC := zr [zm 25 5, zi 26 (.call (.c (.fn 21 [] [])) [((.t 25), (.sl 4))]), zi 8 zaC, zn (.st 8 zC (.t 8) (.t 26))]
def qb39 : IC := zr [zv 27 (.bld [(.int .i64 0), (.int .i64 0), (.int .i64 0), (.str []), .nils] [(0, 1, (zc 37))]), zi 9 zaN, zn (.st 5 zN (.t 9) (.t 27))]
def qbw1 : IC := zr [zv 28 (.fad (.t 8) 0), zv 29 (.ld false 1 (.t 28)), zv 30 (.len false (.t 29)), zv 31 (.bin .gtr .no (.t 30) (zc 0)), zm 10 31]
def qbm6 : IC := zr [zm 32 10]
def qb3v : IC := zr [zv 34 (.ld true 8 (.t 8)), zi 35 (.call (.c (.fn 22 [] [])) [((.t 34), zC)]), zm 33 35, zv 36 (.ext (.t 33) 0), zv 37 (.ext (.t 33) 1), zi 11 zaC, zi 12 zaN, zn (.st 8 zC (.t 11) (.t 36)), zn (.st 5 zN (.t 12) (.t 37))]
def qbej : IC := zr [zv 38 (.fad (.t 9) 4), zv 39 (.ld false 1 (.t 38)), zv 40 (.ld true 5 (.t 12)), zv 41 (.bsl 5 [((.t 40), zN)]), zi 42 (.app 5 zZ 64 (.sl 5) (.t 39) (.t 41)), zv 43 (.fad (.t 9) 4), zn (.st 1 (.sl 5) (.t 43) (.t 42))]
def qbku : IC := zr [zv 45 (.ld true 8 (.t 11)), zi 46 (.call (.c (.fn 23 [] [])) [((.t 45), zC), ((.c (.str [59])), .id)]), zm 44 46, zv 47 (.ext (.t 44) 0), zv 48 (.ext (.t 44) 1), zn (.st 8 zC (.t 11) (.t 47)), zm 13 48]
def qbd3 : IC := zr [zm 49 13, zm 50 49, zw 50 true 51 (.fad (.t 11) 6), zw 50 true 52 (.ld false 1 (.t 51)), zw 50 true 53 (.bin .eql .no (.t 52) (zc 0)), zv 54 (.pick (.t 50) (.t 53) (.c (.bool false))), zm 55 54, zw 55 true 56 (.fad (.t 11) 0), zw 55 true 57 (.ld false 1 (.t 56)), zw 55 true 58 (.len false (.t 57)), zw 55 true 59 (.bin .gtr .no (.t 58) (zc 0)), zv 60 (.pick (.t 55) (.t 59) (.c (.bool false))), zm 10 60]
def qbgi : IC := zr [zv 61 (.ld true 8 (.t 11)), zn (.st 8 zC (.t 8) (.t 61))]
def qbw9 : IC := (.seq (.seq qbm6 (.cond (.t 32) .skip (.exit 0))) (.block 1 (.seq qb3v (.seq qbej (.seq qbku (.seq qbd3 qbgi))))))
def qbll : IC := zr [zv 62 (.ld true 8 (.t 8)), zv 63 (.ld true 5 (.t 9)), zi 64 (.call (.c (.fn 24 [] [])) [((.t 62), zC), ((.t 63), zN)]), zv 65 (.ext (.t 64) 0), zv 66 (.ext (.t 64) 1), zv 67 (.ext (.t 64) 2), zn (.st 5 zN (.t 2) (.t 65)), zm 3 66, zm 4 67]
def k0gh : IC := (.seq qb3b (.seq qbte (.seq (.seq qb1r (.cond (.t 21) (.seq qb4c .ret) .skip)) (.seq qbnm (.seq qb39 (.seq qbw1 (.seq (.block 0 (.loop qbw9)) (.seq qbll .ret))))))))
@[go_sem] def s0gh : List (RV × Co) := [(.c true 5 2, zN), (.t 3, .id), (.t 4, .id)]
theorem c0gh : cFun Tryz.prog 7 = some (68, k0gh, s0gh) := by kernel_rfl

def qbr8 : IC := zr [zi 2 (.box (.t 0)), zi 3 (.box (.t 1)), zv 4 zf]
def qbxb : IC := zr [zv 6 (.fad (.t 2) 1), zv 7 (.ld false 1 (.t 6)), zv 8 (.fad (.t 3) 1), zv 9 (.ld false 1 (.t 8)), zv 10 (.bin .neq .no (.t 7) (.t 9)), zm 11 10, zw 11 false 12 (.fad (.t 2) 0), zw 11 false 13 (.ld false 1 (.t 12)), zw 11 false 14 (.fad (.t 3) 0), zw 11 false 15 (.ld false 1 (.t 14)), zw 11 false 16 (.bin .neq .no (.t 13) (.t 15)), zv 17 (.pick (.t 11) (.c (.bool true)) (.t 16)), zm 18 17, zw 18 false 19 (.fad (.t 2) 3), zw 18 false 20 (.ld false 1 (.t 19)), zw 18 false 21 (.fad (.t 3) 3), zw 18 false 22 (.ld false 1 (.t 21)), zw 18 false 23 (.bin .neq .no (.t 20) (.t 22)), zv 24 (.pick (.t 18) (.c (.bool true)) (.t 23)), zm 25 24, zw 25 false 26 (.fad (.t 2) 2), zw 25 false 27 (.ld false 1 (.t 26)), zw 25 false 28 (.fad (.t 3) 2), zw 25 false 29 (.ld false 1 (.t 28)), zw 25 false 30 (.bin .neq .no (.t 27) (.t 29)), zv 31 (.pick (.t 25) (.c (.bool true)) (.t 30)), zm 32 31, zw 32 false 33 (.fad (.t 2) 4), zw 32 false 34 (.ld false 1 (.t 33)), zw 32 false 35 (.len false (.t 34)), zw 32 false 36 (.fad (.t 3) 4), zw 32 false 37 (.ld false 1 (.t 36)), zw 32 false 38 (.len false (.t 37)), zw 32 false 39 (.bin .neq .no (.t 35) (.t 38)), zv 40 (.pick (.t 32) (.c (.bool true)) (.t 39))]
def qb52 : IC := zr [zv 4 zf]
def qcam : IC := zr [zv 5 (.mov (zc 0))]
def qbu0 : IC := zr [zm 41 5, zv 42 (.fad (.t 2) 4), zv 43 (.ld false 1 (.t 42)), zv 44 (.len false (.t 43)), zv 45 (.bin .lss .no (.t 41) (.t 44))]
def qb40 : IC := .drw [zp (zv 48 (.fad (.t 2) 4)), zp (zv 49 (.ld false 1 (.t 48))), zp (zm 50 5), zp (zv 51 (.iad 5 (.t 49) (.t 50))), zp (zv 52 (.ld true 5 (.t 51))), zp (zv 53 (.fad (.t 3) 4)), zp (zv 54 (.ld false 1 (.t 53))), zp (zm 55 5), zp (zv 56 (.iad 5 (.t 54) (.t 55))), zp (zv 57 (.ld true 5 (.t 56))), (zi 58 (.call (.c (.fn 8 [] [])) [((.t 52), zN), ((.t 57), zN)]), []), zp (zv 59 (.un .not (.t 58)))]
def qbwm : IC := zr [zv 4 zf]
def qbtq : IC := zr [zm 46 5, zv 47 (.bin .add .no (.t 46) (zc 1)), zm 5 47]
def qcbd : IC := (.seq (.seq qbu0 (.cond (.t 45) .skip (.exit 0))) (.seq (.block 1 (.seq qb40 (.cond (.t 59) (.seq qbwm .ret) .skip))) qbtq))
def qbhf : IC := zr [zv 4 (.mov (.c (.bool true)))]
def k0fa : IC := (.seq qbr8 (.seq (.seq qbxb (.cond (.t 40) (.seq qb52 .ret) .skip)) (.seq (.seq qcam (.block 0 (.loop qcbd))) (.seq qbhf .ret))))
@[go_sem] def s0fa : List (RV × Co) := [(.t 4, .id)]
theorem c0fa : cFun Tryz.prog 8 = some (60, k0fa, s0fa) := by kernel_rfl

def qbpd : IC := zr [zi 1 (.box (.t 0)), zv 2 zf]
def qb48 : IC := zr [zv 3 (.fad (.t 1) 0), zv 4 (.ld false 1 (.t 3)), zv 5 (.bin .eql .no (.t 4) (zc 37))]
def qb9d : IC := zr [zv 6 (.ld true 5 (.t 1)), zi 7 (.call (.c (.fn 25 [] [])) [((.t 6), zN)]), zm 8 7, zw 8 true 9 (.ld true 5 (.t 1)), ⟨some (8, true), some 10, .call (.c (.fn 26 [] [])) [((.t 9), zN)]⟩, zv 11 (.pick (.t 8) (.t 10) (.c (.bool false))), zm 12 11, zw 12 true 13 (.fad (.t 1) 4), zw 12 true 14 (.ld false 1 (.t 13)), ⟨some (12, true), some 15, .call (.c (.fn 27 [] [])) [((.t 14), (.sl 5)), ((.c (.fn 28 [] [])), .id)]⟩, zv 16 (.pick (.t 12) (.t 15) (.c (.bool false))), zm 2 16]
def qb1o : IC := zr [zv 17 (.ld true 5 (.t 1)), zi 18 (.call (.c (.fn 25 [] [])) [((.t 17), zN)]), zm 19 18, zw 19 true 20 (.ld true 5 (.t 1)), ⟨some (19, true), some 21, .call (.c (.fn 28 [] [])) [((.t 20), zN)]⟩, zv 22 (.pick (.t 19) (.t 21) (.c (.bool false))), zm 2 22]
def k0em : IC := (.seq qbpd (.seq (.seq qb48 (.cond (.t 5) (.seq qb9d .ret) .skip)) (.seq qb1o .ret)))
@[go_sem] def s0em : List (RV × Co) := [(.t 2, .id)]
theorem c0em : cFun Tryz.prog 9 = some (23, k0em, s0em) := by kernel_rfl

def qcjb : IC := zr [zi 2 zaN, zv 3 (.mov (zc 0)), zv 4 (.mov (zc 0))]
def qcge : IC := zr [zm 5 0, zi 6 (.call (.c (.fn 12 [] [])) [((.t 5), .id), ((.c (.fn 29 [] [])), .id)]), zv 7 (.ext (.t 6) 0), zv 8 (.ext (.t 6) 1), zv 9 (.ext (.t 6) 2), zn (.st 5 zN (.t 2) (.t 7)), zm 3 8, zm 4 9]
def k0q : IC := (.seq qcjb (.seq qcge .ret))
@[go_sem] def s0q : List (RV × Co) := [(.c true 5 2, zN), (.t 3, .id), (.t 4, .id)]
theorem c0q : cFun Tryz.prog 10 = some (10, k0q, s0q) := by kernel_rfl

def qcf0 : IC := zr [zi 2 zaN, zv 3 (.mov (zc 0)), zv 4 (.mov (zc 0))]
def qcek : IC := zr [zm 11 0, zi 12 (.call (.c (.fn 20 [] [])) [((.t 11), .id)]), zm 10 12, zv 13 (.ext (.t 10) 0), zv 14 (.ext (.t 10) 1), zv 15 (.ext (.t 10) 2), zm 5 13, zm 6 14, zm 7 15]
def qcj3 : IC := zr [zm 16 7, zv 17 (.bin .neq .no (.t 16) (zc 0))]
def qcih : IC := zr [zv 18 (.bld [(.int .i64 0), (.int .i64 0), (.int .i64 0), (.str []), .nils] []), zm 19 6, zm 20 7, zn (.st 5 zN (.t 2) (.t 18)), zm 3 19, zm 4 20]
def qcla : IC := zr [zm 22 5, zi 23 (.call (.c (.fn 21 [] [])) [((.t 22), (.sl 4))]), zi 24 (.call (.c (.fn 22 [] [])) [((.t 23), zC)]), zm 21 24, zv 25 (.ext (.t 21) 0), zv 26 (.ext (.t 21) 1), zi 8 zaC, zi 9 zaN, zn (.st 8 zC (.t 8) (.t 25)), zn (.st 5 zN (.t 9) (.t 26))]
def qcks : IC := zr [zv 27 (.ld true 8 (.t 8)), zv 28 (.ld true 5 (.t 9)), zi 29 (.call (.c (.fn 24 [] [])) [((.t 27), zC), ((.t 28), zN)]), zv 30 (.ext (.t 29) 0), zv 31 (.ext (.t 29) 1), zv 32 (.ext (.t 29) 2), zn (.st 5 zN (.t 2) (.t 30)), zm 3 31, zm 4 32]
def k0c : IC := (.seq qcf0 (.seq qcek (.seq (.seq qcj3 (.cond (.t 17) (.seq qcih .ret) .skip)) (.seq qcla (.seq qcks .ret)))))
@[go_sem] def s0c : List (RV × Co) := [(.c true 5 2, zN), (.t 3, .id), (.t 4, .id)]
theorem c0c : cFun Tryz.prog 11 = some (33, k0c, s0c) := by kernel_rfl

def qcha : IC := zr [zi 4 zaN, zv 5 (.mov (zc 0)), zv 6 (.mov (zc 0))]
def qck0 : IC := zr [zm 15 0, zi 16 (.call (.c (.fn 30 [] [])) [((.t 15), .id)]), zm 14 16, zv 17 (.ext (.t 14) 0), zv 18 (.ext (.t 14) 1), zv 19 (.ext (.t 14) 2), zm 7 17, zm 8 18, zm 9 19]
def qcii : IC := zr [zm 20 9, zv 21 (.bin .neq .no (.t 20) (zc 0))]
def qcfq : IC := zr [zv 22 (.bld [(.int .i64 0), (.int .i64 0), (.int .i64 0), (.str []), .nils] []), zm 23 8, zm 24 9, zn (.st 5 zN (.t 4) (.t 22)), zm 5 23, zm 6 24]
def qcjn : IC := zr [zm 25 7, zi 26 (.call (.c (.fn 31 [] [])) [((.t 25), (.sl 4))]), zm 10 26]
def qcgs : IC := zr [zm 27 1, zm 28 10, zi 29 (.call (.t 27) [((.t 28), .id)]), zi 11 zaN, zn (.st 5 zN (.t 11) (.t 29))]
def qciv : IC := zr [zm 31 10, zi 32 (.call (.c (.fn 32 [] [])) [((.t 31), .id)]), zm 30 32, zv 33 (.ext (.t 30) 0), zv 34 (.ext (.t 30) 1), zm 12 33, zm 13 34]
def qci6 : IC := zr [zm 35 13, zv 36 (.bin .neq .no (.t 35) (zc 0))]
def qcfu : IC := zr [zv 37 (.bld [(.int .i64 0), (.int .i64 0), (.int .i64 0), (.str []), .nils] []), zm 38 12, zm 39 13, zn (.st 5 zN (.t 4) (.t 37)), zm 5 38, zm 6 39]
def qci5 : IC := zr [zv 40 (.ld true 5 (.t 11)), zi 41 (.call (.c (.fn 33 [] [])) [((.t 40), zN)]), zv 42 (.bin .gtr .no (.t 41) (zc 100))]
def qb2b : IC := .drw [(zv 43 (.bld [(.int .i64 0), (.int .i64 0), (.int .i64 0), (.str []), .nils] []), []), zp (zv 44 (.fad (.t 11) 1)), zp (zv 45 (.ld false 1 (.t 44))), (zn (.st 5 zN (.t 4) (.t 43)), [2]), zp (zm 5 45), zp (zv 6 (.mov (zc 2)))]
def qbqm : IC := zr [zv 46 (.ld true 5 (.t 11)), zn (.st 5 zN (.t 4) (.t 46)), zv 5 (.mov (zc 0)), zv 6 (.mov (zc 0))]
def k0o : IC := (.seq qcha (.seq qck0 (.seq (.seq qcii (.cond (.t 21) (.seq qcfq .ret) .skip)) (.seq qcjn (.seq qcgs (.seq (.seq qciv (.seq qci6 (.cond (.t 36) (.seq qcfu .ret) .skip))) (.seq (.seq qci5 (.cond (.t 42) (.seq qb2b .ret) .skip)) (.seq qbqm .ret))))))))
@[go_sem] def s0o : List (RV × Co) := [(.c true 5 4, zN), (.t 5, .id), (.t 6, .id)]
theorem c0o : cFun Tryz.prog 12 = some (47, k0o, s0o) := by kernel_rfl

def qck4 : IC := zr [zi 1 (.box (.t 0)), zi 2 zaN]
def qcfc : IC := zr [zv 6 (.ld false 1 (.t 1)), zi 7 (.call (.c (.fn 14 [] [])) [((.t 6), .id), ((.c (.str [59])), .id)]), zi 3 (.alo [.nilf]), zn (.st 1 .id (.t 3) (.t 7))]
def qcif : IC := zr [zv 9 (.mfn 16 [] [(.t 1)]), zv 10 (.mfn 18 [] [(.t 1), (.t 3)]), zi 11 (.call (.c (.fn 15 [] [])) [((.c .nils), (.sl 5)), ((.t 9), .id), ((.t 10), .id)]), zm 8 11, zv 12 (.ext (.t 8) 0), zv 13 (.ext (.t 8) 1), zm 4 12, zm 5 13]
def qcg5 : IC := zr [zm 14 4, zv 15 (.bld [(.int .i64 0), (.int .i64 0), (.int .i64 0), (.str []), .nils] [(0, 1, (zc 37)), (4, 1, (.t 14))]), zn (.st 5 zN (.t 2) (.t 15))]
def k0m : IC := (.seq qck4 (.seq qcfc (.seq qcif (.seq qcg5 .ret))))
@[go_sem] def s0m : List (RV × Co) := [(.c true 5 2, zN)]
theorem c0m : cFun Tryz.prog 13 = some (16, k0m, s0m) := by kernel_rfl

def qcgp : IC := zr [zi 2 (.box (.t 0)), zi 3 (.box (.t 1)), zv 4 (.mov (.c .nilf))]
def qchq : IC := zr [zi 5 (.alo [(.bool false)]), zn (.st 1 .id (.t 5) (.c (.bool false)))]
def qcit : IC := zr [zv 6 (.mfn 34 [] [(.t 5), (.t 2), (.t 3)]), zm 4 6]
def k0y : IC := (.seq qcgp (.seq qchq (.seq qcit .ret)))
@[go_sem] def s0y : List (RV × Co) := [(.t 4, .id)]
theorem c0y : cFun Tryz.prog 14 = some (7, k0y, s0y) := by kernel_rfl

def qbxu : IC := zr [zv 6 (.mov (.c .nils)), zv 7 zf]
def qcco : IC := zr [zm 10 2, zi 11 (.call (.t 10) [])]
def qb6d : IC := zr [zm 13 1, zi 14 (.call (.t 13) []), zm 12 14, zv 15 (.ext (.t 12) 0), zv 16 (.ext (.t 12) 1), zi 8 zaN, zn (.st 5 zN (.t 8) (.t 15)), zm 9 16]
def qboh : IC := zr [zm 17 9, zv 18 (.un .not (.t 17))]
def qb2r : IC := zr [zm 19 0, zm 6 19, zv 7 zf]
def qb6q : IC := zr [zm 20 0, zv 21 (.ld true 5 (.t 8)), zv 22 (.bsl 5 [((.t 21), zN)]), zi 23 (.app 5 zZ 64 (.sl 5) (.t 20) (.t 22)), zm 0 23]
def qb22 : IC := (.seq (.seq qcco (.cond (.t 11) .skip (.exit 0))) (.block 1 (.seq qb6d (.seq (.seq qboh (.cond (.t 18) (.seq qb2r .ret) .skip)) qb6q))))
def qbt2 : IC := zr [zm 24 0, zm 6 24, zv 7 (.mov (.c (.bool true)))]
def k0bg : IC := (.seq qbxu (.seq (.block 0 (.loop qb22)) (.seq qbt2 .ret)))
@[go_sem] def s0bg : List (RV × Co) := [(.t 6, (.sl 5)), (.t 7, .id)]
theorem c0bg : cFun Tryz.prog 15 = some (25, k0bg, s0bg) := by kernel_rfl

def qck8 : IC := zr [zi 1 zaN, zv 2 zf]
def qchz : IC := zr [zv 3 (.ld false 1 (.t 0)), zi 4 (.call (.c (.fn 17 [] [])) [((.t 3), .id)]), zv 5 (.ext (.t 4) 0), zv 6 (.ext (.t 4) 1), zn (.st 5 zN (.t 1) (.t 5)), zm 2 6]
def k0k : IC := (.seq qck8 (.seq qchz .ret))
@[go_sem] def s0k : List (RV × Co) := [(.c true 5 1, zN), (.t 2, .id)]
theorem c0k : cFun Tryz.prog 16 = some (7, k0k, s0k) := by kernel_rfl

def qchw : IC := zr [zi 2 zaN, zv 3 zf]
def qchk : IC := zr [zm 5 0, zi 6 (.call (.c (.fn 19 [] [])) [((.t 5), .id)]), zv 7 (.fld false 1 1 (.t 6)), zv 8 (.bld [(.int .i64 0), (.int .i64 0), (.int .i64 0), (.str []), .nils] [(1, 1, (.t 7))]), zi 4 zaN, zn (.st 5 zN (.t 4) (.t 8))]
def qchm : IC := zr [zm 10 0, zi 11 (.call (.c (.fn 35 [] [])) [((.t 10), .id), ((.c (.str [100, 97, 116, 97])), .id)]), zm 9 11]
def qcil : IC := zr [zm 12 0, zv 13 (.ld true 5 (.t 4)), zi 14 (.call (.c (.fn 36 [] [])) [((.t 12), .id), ((.t 13), zN)]), zv 15 (.ext (.t 14) 0), zv 16 (.ext (.t 14) 1), zn (.st 5 zN (.t 2) (.t 15)), zm 3 16]
def qcgv : IC := zr [zm 18 0, zi 19 (.call (.c (.fn 35 [] [])) [((.t 18), .id), ((.c (.str [99, 108, 97, 115, 115])), .id)]), zm 17 19]
def qcg2 : IC := zr [zv 20 (.fad (.t 4) 0), zn (.st 1 .id (.t 20) (zc 35))]
def qci1 : IC := zr [zm 21 0, zv 22 (.ld true 5 (.t 4)), zi 23 (.call (.c (.fn 37 [] [])) [((.t 21), .id), ((.t 22), zN)]), zv 24 (.ext (.t 23) 0), zv 25 (.ext (.t 23) 1), zn (.st 5 zN (.t 2) (.t 24)), zm 3 25]
def qcjt : IC := zr [zm 27 0, zi 28 (.call (.c (.fn 35 [] [])) [((.t 27), .id), ((.c (.str [105, 110, 115, 116, 97, 110, 99, 101])), .id)]), zm 26 28]
def qcj5 : IC := zr [zv 29 (.fad (.t 4) 0), zn (.st 1 .id (.t 29) (zc 36))]
def qcgz : IC := zr [zm 30 0, zv 31 (.ld true 5 (.t 4)), zi 32 (.call (.c (.fn 37 [] [])) [((.t 30), .id), ((.t 31), zN)]), zv 33 (.ext (.t 32) 0), zv 34 (.ext (.t 32) 1), zn (.st 5 zN (.t 2) (.t 33)), zm 3 34]
def qbpg : IC := zr [zm 35 0, zi 36 (.call (.c (.fn 38 [] [])) [((.t 35), .id)]), zv 37 (.ext (.t 36) 0), zv 38 (.ext (.t 36) 1), zn (.st 5 zN (.t 2) (.t 37)), zm 3 38]
def k0j : IC := (.seq qchw (.seq qchk (.seq (.block 0 (.seq qchm (.cond (.t 9) (.seq qcil .ret) (.seq qcgv (.cond (.t 17) (.seq qcg2 (.seq qci1 .ret)) (.seq qcjt (.cond (.t 26) (.seq qcj5 (.seq qcgz .ret)) .skip))))))) (.seq qbpg .ret))))
@[go_sem] def s0j : List (RV × Co) := [(.c true 5 2, zN), (.t 3, .id)]
theorem c0j : cFun Tryz.prog 17 = some (39, k0j, s0j) := by kernel_rfl

def qckg : IC := zr [zv 2 zf]
def qciq : IC := zr [zv 3 (.ld false 1 (.t 0)), zi 4 (.call (.c (.fn 19 [] [])) [((.t 3), .id)]), zv 5 (.fld false 1 0 (.t 4)), zv 6 (.bin .neq .no (.t 5) (zc 0)), zm 7 6, zw 7 true 8 (.ld false 1 (.t 1)), ⟨some (7, true), some 9, .call (.t 8) []⟩, zv 10 (.pick (.t 7) (.t 9) (.c (.bool false))), zm 11 10, zw 11 true 12 (.ld false 1 (.t 0)), ⟨some (11, true), some 13, .call (.c (.fn 19 [] [])) [((.t 12), .id)]⟩, zw 11 true 14 (.fld false 1 0 (.t 13)), zw 11 true 15 (.bin .neq .no (.t 14) (zc 0)), zv 16 (.pick (.t 11) (.t 15) (.c (.bool false))), zm 2 16]
def k0l : IC := (.seq qckg (.seq qciq .ret))
@[go_sem] def s0l : List (RV × Co) := [(.t 2, .id)]
theorem c0l : cFun Tryz.prog 18 = some (17, k0l, s0l) := by kernel_rfl

def qbsm : IC := zr [zi 2 zaT]
def qb98 : IC := zr [zm 4 0, zi 5 (.call (.c (.fn 39 [] [])) [((.t 4), .id)]), zm 3 5]
def qb3y : IC := zr [zv 6 (.bld [(.int .i64 0), (.int .i64 0), (.int .i64 0), (.str [])] []), zn (.st 4 .id (.t 2) (.t 6))]
def qb7r : IC := .drw [zp (zm 8 0), zp (zv 9 (.nck (.t 8))), zp (zv 10 (.fad (.t 9) 5)), zp (zv 11 (.ld false 1 (.t 10))), zp (zm 12 0), zp (zv 13 (.nck (.t 12))), zp (zv 14 (.fad (.t 13) 0)), zp (zv 15 (.ld false 1 (.t 14))), zp (zv 16 (.len false (.t 15))), zp (zv 17 (.bin .lss .no (.t 11) (.t 16))), zp (zm 7 17)]
def qcdo : IC := .drw [zp (zm 18 0), zp (zv 19 (.nck (.t 18))), zp (zv 20 (.fad (.t 19) 0)), zp (zv 21 (.ld false 1 (.t 20))), zp (zm 22 0), zp (zv 23 (.nck (.t 22))), zp (zv 24 (.fad (.t 23) 5)), zp (zv 25 (.ld false 1 (.t 24))), zp (zv 26 (.iad 4 (.t 21) (.t 25))), zp (zv 27 (.ld true 4 (.t 26))), (zn (.st 4 .id (.t 2) (.t 27)), [])]
def qb9i : IC := zr [zm 28 0, zv 29 (.nck (.t 28)), zv 30 (.fad (.t 29) 1), zv 31 (.ld true 4 (.t 30)), zn (.st 4 .id (.t 2) (.t 31))]
def k0cu : IC := (.seq qbsm (.seq (.block 0 (.seq qb98 (.cond (.t 3) (.seq qb3y .ret) (.seq qb7r (.cond (.t 7) (.seq qcdo .ret) .skip))))) (.seq qb9i .ret)))
@[go_sem] def s0cu : List (RV × Co) := [(.c true 4 2, .id)]
theorem c0cu : cFun Tryz.prog 19 = some (32, k0cu, s0cu) := by kernel_rfl

def qb6c : IC := zr [zv 2 (.mov (.c .nils)), zv 3 (.mov (zc 0)), zv 4 (.mov (zc 0))]
def qb2i : IC := zr [zm 9 0, zv 10 (.len true (.t 9)), zv 11 (.bin .gtr .no (.t 10) (zc 1048576))]
def qcay : IC := zr [zv 2 (.mov (.c .nils)), zv 3 (.mov (zc 0)), zv 4 (.mov (zc 2))]
def qca3 : IC := zr [zv 5 (.mov (.c .nils))]
def qcac : IC := zr [zm 12 0, zi 13 (.call (.c (.fn 40 [] [])) [((.t 12), .id), ((zc 0), .id)]), zm 6 13]
def qb6v : IC := zr [zm 14 6, zm 15 0, zv 16 (.len true (.t 15)), zv 17 (.bin .lss .no (.t 14) (.t 16))]
def qb2f : IC := zr [zm 19 0, zm 20 6, zv 21 (.sls (.t 19) (some (.t 20)) none), zi 22 (.call (.c (.fn 41 [] [])) [((.t 21), .id)]), zm 18 22, zv 23 (.ext (.t 18) 0), zv 24 (.ext (.t 18) 1), zi 7 zaT, zn (.st 4 .id (.t 7) (.t 23)), zm 8 24]
def qbn3 : IC := zr [zm 25 8, zv 26 (.bin .neq .no (.t 25) (zc 0))]
def qbo7 : IC := zr [zm 27 6, zm 28 8, zv 2 (.mov (.c .nils)), zm 3 27, zm 4 28]
def qbdv : IC := zr [zm 29 6, zv 30 (.fad (.t 7) 1), zn (.st 1 .id (.t 30) (.t 29))]
def qbko : IC := zr [zm 31 5, zv 32 (.ld true 4 (.t 7)), zv 33 (.bsl 4 [((.t 32), .id)]), zi 34 (.app 4 (.agg [(.int .i64 0), (.int .i64 0), (.int .i64 0), (.str [])]) 40 (.sl 4) (.t 31) (.t 33)), zm 5 34]
def qbjf : IC := zr [zm 35 0, zm 36 6, zv 37 (.fad (.t 7) 3), zv 38 (.ld false 1 (.t 37)), zv 39 (.len true (.t 38)), zv 40 (.bin .add .no (.t 36) (.t 39)), zi 41 (.call (.c (.fn 40 [] [])) [((.t 35), .id), ((.t 40), .id)]), zm 6 41]
def qbvz : IC := (.seq (.seq qb6v (.cond (.t 17) .skip (.exit 0))) (.block 1 (.seq qb2f (.seq (.seq qbn3 (.cond (.t 26) (.seq qbo7 .ret) .skip)) (.seq qbdv (.seq qbko qbjf))))))
def qbkg : IC := zr [zm 42 5, zm 43 0, zv 44 (.len true (.t 43)), zv 45 (.bld [(.int .i64 0), (.int .i64 0), (.int .i64 0), (.str [])] [(0, 1, (zc 0)), (1, 1, (.t 44))]), zv 46 (.bsl 4 [((.t 45), .id)]), zi 47 (.app 4 (.agg [(.int .i64 0), (.int .i64 0), (.int .i64 0), (.str [])]) 40 (.sl 4) (.t 42) (.t 46)), zm 2 47, zv 3 (.mov (zc 0)), zv 4 (.mov (zc 0))]
def k0df : IC := (.seq qb6c (.seq (.seq qb2i (.cond (.t 11) (.seq qcay .ret) .skip)) (.seq qca3 (.seq qcac (.seq (.block 0 (.loop qbvz)) (.seq qbkg .ret))))))
@[go_sem] def s0df : List (RV × Co) := [(.t 2, (.sl 4)), (.t 3, .id), (.t 4, .id)]
theorem c0df : cFun Tryz.prog 20 = some (48, k0df, s0df) := by kernel_rfl

def qbsh : IC := zr [zi 2 zaC]
def qca2 : IC := zr [zv 3 (.mov (zc 0))]
def qbsl : IC := zr [zm 4 3, zm 5 0, zv 6 (.len false (.t 5)), zv 7 (.bin .lss .no (.t 4) (.t 6))]
def qcb7 : IC := zr [zm 10 0, zm 11 3, zv 12 (.iad 4 (.t 10) (.t 11)), zv 13 (.fad (.t 12) 0), zv 14 (.ld false 1 (.t 13)), zv 15 (.bin .eql .no (.t 14) (zc 0))]
def qb8d : IC := .drw [zp (zm 16 0), zp (zm 17 3), zp (zv 18 (.slv 4 (.t 16) none (some (.t 17)) none)), zp (zm 19 0), zp (zm 20 3), zp (zv 21 (.iad 4 (.t 19) (.t 20))), zp (zv 22 (.fad (.t 21) 1)), zp (zv 23 (.ld false 1 (.t 22))), (zv 24 (.bld [(.int .i64 0), (.int .i64 0), (.int .i64 0), (.str [])] [(0, 1, (zc 0)), (1, 1, (.t 23))]), []), (zv 25 (.bld [.nils, (.int .i64 0), (.int .i64 0), (.int .i64 0), (.str []), (.int .i64 0), (.int .i64 0), (.int .i64 0)] [(0, 1, (.t 18)), (1, 4, (.t 24))]), []), (zn (.st 8 zC (.t 2) (.t 25)), [])]
def qbut : IC := zr [zm 8 3, zv 9 (.bin .add .no (.t 8) (zc 1)), zm 3 9]
def qbot : IC := (.seq (.seq qbsl (.cond (.t 7) .skip (.exit 0))) (.seq (.block 1 (.seq qcb7 (.cond (.t 15) (.seq qb8d .ret) .skip))) qbut))
def qbxs : IC := zr [zm 26 0, zv 27 (.bld [.nils, (.int .i64 0), (.int .i64 0), (.int .i64 0), (.str []), (.int .i64 0), (.int .i64 0), (.int .i64 0)] [(0, 1, (.t 26))]), zn (.st 8 zC (.t 2) (.t 27))]
def k0cr : IC := (.seq qbsh (.seq (.seq qca2 (.block 0 (.loop qbot))) (.seq qbxs .ret)))
@[go_sem] def s0cr : List (RV × Co) := [(.c true 8 2, zC)]
theorem c0cr : cFun Tryz.prog 21 = some (28, k0cr, s0cr) := by kernel_rfl

def qch6 : IC := zr [zi 1 (.box (.t 0)), zi 2 zaC, zi 3 zaN]
def qcjp : IC := zr [zv 11 (.ld true 8 (.t 1)), zi 12 (.call (.c (.fn 42 [] [])) [((.t 11), zC)]), zv 13 (.fld false 1 1 (.t 12)), zm 4 13]
def qcgu : IC := zr [zv 15 (.ld true 8 (.t 1)), zi 16 (.call (.c (.fn 23 [] [])) [((.t 15), zC), ((.c (.str [100, 97, 116, 97])), .id)]), zm 14 16, zv 17 (.ext (.t 14) 0), zv 18 (.ext (.t 14) 1), zi 5 zaC, zn (.st 8 zC (.t 5) (.t 17)), zm 6 18]
def qcgr : IC := zr [zm 19 6]
def qce5 : IC := zr [zv 20 (.ld true 8 (.t 5)), zm 21 4, zi 22 (.call (.c (.fn 43 [] [])) [((.t 20), zC), ((.t 21), .id)]), zv 23 (.ext (.t 22) 0), zv 24 (.ext (.t 22) 1), zn (.st 8 zC (.t 2) (.t 23)), zn (.st 5 zN (.t 3) (.t 24))]
def qch2 : IC := zr [zv 26 (.ld true 8 (.t 1)), zi 27 (.call (.c (.fn 23 [] [])) [((.t 26), zC), ((.c (.str [99, 108, 97, 115, 115])), .id)]), zm 25 27, zv 28 (.ext (.t 25) 0), zv 29 (.ext (.t 25) 1), zi 7 zaC, zn (.st 8 zC (.t 7) (.t 28)), zm 8 29]
def qciu : IC := zr [zm 30 8]
def qciy : IC := zr [zv 31 (.ld true 8 (.t 7)), zm 32 4, zi 33 (.call (.c (.fn 44 [] [])) [((.t 31), zC), ((zc 35), .id), ((.t 32), .id)]), zv 34 (.ext (.t 33) 0), zv 35 (.ext (.t 33) 1), zn (.st 8 zC (.t 2) (.t 34)), zn (.st 5 zN (.t 3) (.t 35))]
def qck1 : IC := zr [zv 37 (.ld true 8 (.t 1)), zi 38 (.call (.c (.fn 23 [] [])) [((.t 37), zC), ((.c (.str [105, 110, 115, 116, 97, 110, 99, 101])), .id)]), zm 36 38, zv 39 (.ext (.t 36) 0), zv 40 (.ext (.t 36) 1), zi 9 zaC, zn (.st 8 zC (.t 9) (.t 39)), zm 10 40]
def qckd : IC := zr [zm 41 10]
def qcad : IC := zr [zv 42 (.ld true 8 (.t 9)), zm 43 4, zi 44 (.call (.c (.fn 44 [] [])) [((.t 42), zC), ((zc 36), .id), ((.t 43), .id)]), zv 45 (.ext (.t 44) 0), zv 46 (.ext (.t 44) 1), zn (.st 8 zC (.t 2) (.t 45)), zn (.st 5 zN (.t 3) (.t 46))]
def qbvm : IC := zr [zv 47 (.ld true 8 (.t 1)), zi 48 (.call (.c (.fn 45 [] [])) [((.t 47), zC)]), zv 49 (.ext (.t 48) 0), zv 50 (.ext (.t 48) 1), zn (.st 8 zC (.t 2) (.t 49)), zn (.st 5 zN (.t 3) (.t 50))]
def k0e : IC := (.seq qch6 (.seq qcjp (.seq (.seq qcgu (.seq qcgr (.cond (.t 19) (.seq qce5 .ret) .skip))) (.seq (.seq qch2 (.seq qciu (.cond (.t 30) (.seq qciy .ret) .skip))) (.seq (.seq qck1 (.seq qckd (.cond (.t 41) (.seq qcad .ret) .skip))) (.seq qbvm .ret))))))
@[go_sem] def s0e : List (RV × Co) := [(.c true 8 2, zC), (.c true 5 3, zN)]
theorem c0e : cFun Tryz.prog 22 = some (51, k0e, s0e) := by kernel_rfl

def qbsi : IC := zr [zi 2 (.box (.t 0)), zi 4 zaC, zv 5 zf]
def qcbw : IC := zr [zv 8 (.ld true 8 (.t 2)), zm 9 1, zi 10 (.call (.c (.fn 46 [] [])) [((.t 8), zC), ((.t 9), .id)]), zv 11 (.un .not (.t 10))]
def qb5w : IC := zr [zv 12 (.ld true 8 (.t 2)), zn (.st 8 zC (.t 4) (.t 12)), zv 5 zf]
def qb4r : IC := zr [zv 14 (.ld true 8 (.t 2)), zi 15 (.call (.c (.fn 47 [] [])) [((.t 14), zC)]), zm 13 15, zv 16 (.ext (.t 13) 0), zv 17 (.ext (.t 13) 1), zi 6 zaC, zi 7 zaT, zn (.st 8 zC (.t 6) (.t 16)), zn (.st 4 .id (.t 7) (.t 17))]
def qb2h : IC := zr [zv 18 (.ld true 8 (.t 6)), zn (.st 8 zC (.t 4) (.t 18)), zv 5 (.mov (.c (.bool true)))]
def k0cl : IC := (.seq qbsi (.seq (.seq qcbw (.cond (.t 11) (.seq qb5w .ret) .skip)) (.seq qb4r (.seq qb2h .ret))))
@[go_sem] def s0cl : List (RV × Co) := [(.c true 8 4, zC), (.t 5, .id)]
theorem c0cl : cFun Tryz.prog 23 = some (19, k0cl, s0cl) := by kernel_rfl

def qb2k : IC := zr [zi 2 (.box (.t 0)), zi 3 (.box (.t 1)), zi 4 zaN, zv 5 (.mov (zc 0)), zv 6 (.mov (zc 0))]
def qb7k : IC := zr [zv 10 (.ld true 8 (.t 2)), zi 11 (.call (.c (.fn 48 [] [])) [((.t 10), zC)]), zm 9 11, zv 12 (.ext (.t 9) 0), zv 13 (.ext (.t 9) 1), zm 7 12, zm 8 13]
def qb35 : IC := zr [zm 14 8, zv 15 (.bin .neq .no (.t 14) (zc 0))]
def qb12 : IC := zr [zv 16 (.bld [(.int .i64 0), (.int .i64 0), (.int .i64 0), (.str []), .nils] []), zm 17 7, zm 18 8, zn (.st 5 zN (.t 4) (.t 16)), zm 5 17, zm 6 18]
def qbqz : IC := zr [zv 19 (.ld true 5 (.t 3)), zi 20 (.call (.c (.fn 49 [] [])) [((.t 19), zN)]), zv 21 (.bin .gtr .no (.t 20) (zc 100))]
def qb6i : IC := .drw [(zv 22 (.bld [(.int .i64 0), (.int .i64 0), (.int .i64 0), (.str []), .nils] []), []), zp (zv 23 (.fad (.t 3) 1)), zp (zv 24 (.ld false 1 (.t 23))), (zn (.st 5 zN (.t 4) (.t 22)), [2]), zp (zm 5 24), zp (zv 6 (.mov (zc 2)))]
def qbzp : IC := zr [zv 25 (.ld true 5 (.t 3)), zn (.st 5 zN (.t 4) (.t 25)), zv 5 (.mov (zc 0)), zv 6 (.mov (zc 0))]
def k0gg : IC := (.seq qb2k (.seq qb7k (.seq (.seq qb35 (.cond (.t 15) (.seq qb12 .ret) .skip)) (.seq (.seq qbqz (.cond (.t 21) (.seq qb6i .ret) .skip)) (.seq qbzp .ret)))))
@[go_sem] def s0gg : List (RV × Co) := [(.c true 5 4, zN), (.t 5, .id), (.t 6, .id)]
theorem c0gg : cFun Tryz.prog 24 = some (26, k0gg, s0gg) := by kernel_rfl

def qb1y : IC := zr [zi 1 (.box (.t 0)), zi 2 (.alo [(.bool false)])]
def qbtb : IC := zr [zv 4 (.ld true 5 (.t 1)), zi 5 (.call (.c (.fn 50 [] [])) [((.t 4), zN), ((zc 1), .id)])]
def qcd5 : IC := zr [zm 8 3, zv 9 (.bin .gtr .no (.t 8) (zc 100))]
def qbvq : IC := zr [zn (.st 1 .id (.t 2) (.c (.bool false)))]
def qbag : IC := (.block 1 (.seq qcd5 (.cond (.t 9) (.seq qbvq .ret) .skip)))
def q9f : IC := zr [zm 3 6]
def qcaq : IC := zr [zn (.st 1 .id (.t 2) (.c (.bool true)))]
def k0ez : IC := (.seq qb1y (.seq (.seq qbtb (.block 0 (.rng (.t 5) [6, 7] q9f qbag))) (.seq qcaq .ret)))
@[go_sem] def s0ez : List (RV × Co) := [(.c false 1 2, .id)]
theorem c0ez : cFun Tryz.prog 25 = some (10, k0ez, s0ez) := by kernel_rfl

def qbqo : IC := zr [zi 1 (.box (.t 0)), zv 2 zf]
def qbpf : IC := zr [zv 3 (.fad (.t 1) 3), zv 4 (.ld false 1 (.t 3)), zv 5 (.bin .eql .no (.t 4) (.c (.str []))), zm 6 5, zw 6 true 7 (.fad (.t 1) 2), zw 6 true 8 (.ld false 1 (.t 7)), zw 6 true 9 (.bin .eql .no (.t 8) (zc 0)), zv 10 (.pick (.t 6) (.t 9) (.c (.bool false))), zm 2 10]
def k0ew : IC := (.seq qbqo (.seq qbpf .ret))
@[go_sem] def s0ew : List (RV × Co) := [(.t 2, .id)]
theorem c0ew : cFun Tryz.prog 26 = some (11, k0ew, s0ew) := by kernel_rfl

def qbr5 : IC := zr [zv 4 zf]
def qbrt : IC := zr [zm 7 0, zv 8 (.len false (.t 7)), zv 9 (.mov (zc 0))]
def qb93 : IC := zr [zv 10 (.bin .lss .no (.t 9) (.t 8))]
def qbq9 : IC := zr [zv 11 (.iad 5 (.t 7) (.t 9)), zv 12 (.ld true 5 (.t 11)), zi 6 zaN, zn (.st 5 zN (.t 6) (.t 12))]
def qbs3 : IC := zr [zm 13 1, zv 14 (.ld true 5 (.t 6)), zi 15 (.call (.t 13) [((.t 14), zN)]), zv 16 (.un .not (.t 15))]
def qbn1 : IC := zr [zv 4 zf]
def qcd4 : IC := zr [zv 17 (.bin .add .no (.t 9) (zc 1)), zm 9 17]
def qb5h : IC := (.seq qb93 (.seq (.cond (.t 10) .skip (.exit 0)) (.seq (.block 1 (.seq qbq9 (.seq qbs3 (.cond (.t 16) (.seq qbn1 .ret) .skip)))) qcd4)))
def qb9b : IC := zr [zv 4 (.mov (.c (.bool true)))]
def k0ey : IC := (.seq qbr5 (.seq (.seq qbrt (.block 0 (.loop qb5h))) (.seq qb9b .ret)))
@[go_sem] def s0ey : List (RV × Co) := [(.t 4, .id)]
theorem c0ey : cFun Tryz.prog 27 = some (18, k0ey, s0ey) := by kernel_rfl

def qceg : IC := zr [zi 1 (.box (.t 0)), zv 2 zf]
def qbrg : IC := zr [zv 6 (.fad (.t 1) 0), zv 7 (.ld false 1 (.t 6))]
def qbwh : IC := zr [zv 9 (.bin .eql .no (.t 7) (zc 31)), zm 8 9]
def qbnu : IC := zr [zv 10 (.ld true 5 (.t 1)), zi 11 (.call (.c (.fn 51 [] [])) [((.t 10), zN)]), zm 2 11]
def qcae : IC := zr [zv 13 (.bin .eql .no (.t 7) (zc 32)), zm 12 13]
def qbwo : IC := zr [zv 14 (.ld true 5 (.t 1)), zi 15 (.call (.c (.fn 52 [] [])) [((.t 14), zN)]), zm 2 15]
def qbph : IC := zr [zv 16 (.fad (.t 1) 3), zv 17 (.ld false 1 (.t 16)), zi 18 (.call (.c (.fn 53 [] [])) [((.t 17), .id)]), zv 19 (.un .not (.t 18)), zm 20 19, zw 20 false 21 (.fad (.t 1) 2), zw 20 false 22 (.ld false 1 (.t 21)), zw 20 false 23 (.bin .lss .no (.t 22) (zc 0)), zv 24 (.pick (.t 20) (.c (.bool true)) (.t 23)), zm 25 24, zw 25 false 26 (.fad (.t 1) 2), zw 25 false 27 (.ld false 1 (.t 26)), zw 25 false 28 (.fad (.t 1) 4), zw 25 false 29 (.ld false 1 (.t 28)), zw 25 false 30 (.len false (.t 29)), zw 25 false 31 (.bin .geq .no (.t 27) (.t 30)), zv 32 (.pick (.t 25) (.c (.bool true)) (.t 31))]
def qb1f : IC := zr [zv 2 zf]
def qbth : IC := .drw [zp (zv 33 (.fad (.t 1) 4)), zp (zv 34 (.ld false 1 (.t 33))), zp (zv 35 (.fad (.t 1) 2)), zp (zv 36 (.ld false 1 (.t 35))), zp (zv 37 (.slv 5 (.t 34) none (some (.t 36)) none)), zp (zv 38 (.fad (.t 1) 4)), zp (zv 39 (.ld false 1 (.t 38))), zp (zv 40 (.fad (.t 1) 2)), zp (zv 41 (.ld false 1 (.t 40))), zp (zv 42 (.iad 5 (.t 39) (.t 41))), zp (zv 43 (.ld true 5 (.t 42))), zp (zv 44 (.fad (.t 1) 4)), zp (zv 45 (.ld false 1 (.t 44))), zp (zv 46 (.fad (.t 1) 2)), zp (zv 47 (.ld false 1 (.t 46))), zp (zv 48 (.bin .add .no (.t 47) (zc 1))), zp (zv 49 (.slv 5 (.t 45) (some (.t 48)) none none)), (zi 4 zaN, [1, 3, 4, 6, 8, 10, 12, 14, 16]), zp (zm 3 37), (zn (.st 5 zN (.t 4) (.t 43)), [12, 14, 16]), zp (zm 5 49)]
def qb4v : IC := zr [zv 50 (.fad (.t 1) 0), zv 51 (.ld false 1 (.t 50))]
def qbix : IC := zr [zv 53 (.bin .eql .no (.t 51) (zc 33)), zm 52 53]
def qbjt : IC := zr [zm 54 3, zi 55 (.call (.c (.fn 27 [] [])) [((.t 54), (.sl 5)), ((.c (.fn 54 [] [])), .id)]), zm 56 55, zw 56 true 57 (.ld true 5 (.t 4)), ⟨some (56, true), some 58, .call (.c (.fn 55 [] [])) [((.t 57), zN)]⟩, zv 59 (.pick (.t 56) (.t 58) (.c (.bool false))), zm 60 59, zw 60 true 61 (.mov (.t 5)), ⟨some (60, true), some 62, .call (.c (.fn 27 [] [])) [((.t 61), (.sl 5)), ((.c (.fn 55 [] [])), .id)]⟩, zv 63 (.pick (.t 60) (.t 62) (.c (.bool false))), zm 2 63]
def qbi6 : IC := zr [zv 65 (.bin .eql .no (.t 51) (zc 35)), zm 64 65]
def qbfu : IC := zr [zm 66 3, zi 67 (.call (.c (.fn 27 [] [])) [((.t 66), (.sl 5)), ((.c (.fn 56 [] [])), .id)]), zm 68 67, zw 68 true 69 (.ld true 5 (.t 4)), ⟨some (68, true), some 70, .call (.c (.fn 54 [] [])) [((.t 69), zN)]⟩, zv 71 (.pick (.t 68) (.t 70) (.c (.bool false))), zm 72 71, zw 72 true 73 (.mov (.t 5)), ⟨some (72, true), some 74, .call (.c (.fn 27 [] [])) [((.t 73), (.sl 5)), ((.c (.fn 52 [] [])), .id)]⟩, zv 75 (.pick (.t 72) (.t 74) (.c (.bool false))), zm 2 75]
def qbcj : IC := zr [zv 77 (.bin .eql .no (.t 51) (zc 36)), zm 76 77]
def qbhj : IC := zr [zm 78 3, zi 79 (.call (.c (.fn 27 [] [])) [((.t 78), (.sl 5)), ((.c (.fn 56 [] [])), .id)]), zm 80 79, zw 80 true 81 (.ld true 5 (.t 4)), ⟨some (80, true), some 82, .call (.c (.fn 57 [] [])) [((.t 81), zN)]⟩, zv 83 (.pick (.t 80) (.t 82) (.c (.bool false))), zm 84 83, zw 84 true 85 (.mov (.t 5)), ⟨some (84, true), some 86, .call (.c (.fn 27 [] [])) [((.t 85), (.sl 5)), ((.c (.fn 51 [] [])), .id)]⟩, zv 87 (.pick (.t 84) (.t 86) (.c (.bool false))), zm 2 87]
def qbgr : IC := zr [zv 2 zf]
def k0el : IC := (.seq qceg (.seq (.seq qbrg (.block 0 (.seq qbwh (.cond (.t 8) (.seq qbnu .ret) (.seq qcae (.cond (.t 12) (.seq qbwo .ret) .skip)))))) (.seq (.seq qbph (.cond (.t 32) (.seq qb1f .ret) .skip)) (.seq qbth (.seq (.seq qb4v (.block 1 (.seq qbix (.cond (.t 52) (.seq qbjt .ret) (.seq qbi6 (.cond (.t 64) (.seq qbfu .ret) (.seq qbcj (.cond (.t 76) (.seq qbhj .ret) .skip)))))))) (.seq qbgr .ret))))))
@[go_sem] def s0el : List (RV × Co) := [(.t 2, .id)]
theorem c0el : cFun Tryz.prog 28 = some (88, k0el, s0el) := by kernel_rfl

def qcet : IC := zr [zi 2 zaN]
def qck9 : IC := zr [zm 6 0, zi 7 (.call (.c (.fn 17 [] [])) [((.t 6), .id)]), zm 5 7, zv 8 (.ext (.t 5) 0), zv 9 (.ext (.t 5) 1), zi 3 zaN, zn (.st 5 zN (.t 3) (.t 8)), zm 4 9]
def qcfn : IC := zr [zv 10 (.ld true 5 (.t 3)), zn (.st 5 zN (.t 2) (.t 10))]
def k0n : IC := (.seq qcet (.seq qck9 (.seq qcfn .ret)))
@[go_sem] def s0n : List (RV × Co) := [(.c true 5 2, zN)]
theorem c0n : cFun Tryz.prog 29 = some (11, k0n, s0n) := by kernel_rfl

def qboe : IC := zr [zi 2 (.alo [.nils]), zi 3 (.alo [(.int .i64 0)]), zi 4 (.alo [(.int .i64 0)])]
def qb2q : IC := zr [zm 8 0, zv 9 (.len true (.t 8)), zv 10 (.bin .gtr .no (.t 9) (zc 1048576))]
def qb0j : IC := zr [zn (.st 1 (.sl 4) (.t 2) (.c .nils)), zn (.st 1 .id (.t 3) (zc 0)), zn (.st 1 .id (.t 4) (zc 2))]
def qb7e : IC := zr [zi 5 (.alo [.nils])]
def qbv4 : IC := zr [zm 11 0, zi 12 (.call (.c (.fn 58 [] [])) [((.t 11), .id)])]
def qbp3 : IC := zr [zm 15 7, zv 16 (.bin .neq .no (.t 15) (zc 0))]
def qbxw : IC := .drw [zp (zv 17 (.fad (.t 6) 1)), zp (zv 18 (.ld false 1 (.t 17))), zp (zm 19 7), (zn (.st 1 (.sl 4) (.t 2) (.c .nils)), [1]), (zn (.st 1 .id (.t 3) (.t 18)), []), (zn (.st 1 .id (.t 4) (.t 19)), [])]
def qby0 : IC := zr [zv 20 (.ld false 1 (.t 5)), zv 21 (.ld true 4 (.t 6)), zv 22 (.bsl 4 [((.t 21), .id)]), zi 23 (.app 4 (.agg [(.int .i64 0), (.int .i64 0), (.int .i64 0), (.str [])]) 40 (.sl 4) (.t 20) (.t 22)), zn (.st 1 (.sl 4) (.t 5) (.t 23))]
def q0v : IC := (.block 1 (.seq (.seq qbp3 (.cond (.t 16) (.seq qbxw .ret) .skip)) qby0))
def qvy : IC := zr [zi 6 zaT, zn (.st 4 .id (.t 6) (.t 13))]
def qws : IC := zr [zm 7 14]
def qbi9 : IC := zr [zv 24 (.ld false 1 (.t 5)), zm 25 0, zv 26 (.len true (.t 25)), zv 27 (.bld [(.int .i64 0), (.int .i64 0), (.int .i64 0), (.str [])] [(0, 1, (zc 0)), (1, 1, (.t 26))]), zv 28 (.bsl 4 [((.t 27), .id)]), zi 29 (.app 4 (.agg [(.int .i64 0), (.int .i64 0), (.int .i64 0), (.str [])]) 40 (.sl 4) (.t 24) (.t 28)), zn (.st 1 (.sl 4) (.t 2) (.t 29)), zn (.st 1 .id (.t 3) (zc 0)), zn (.st 1 .id (.t 4) (zc 0))]
def k0dh : IC := (.seq qboe (.seq (.seq qb2q (.cond (.t 10) (.seq qb0j .ret) .skip)) (.seq qb7e (.seq (.seq qbv4 (.block 0 (.rng (.t 12) [13, 14] (.seq qvy qws) q0v))) (.seq qbi9 .ret)))))
@[go_sem] def s0dh : List (RV × Co) := [(.c false 1 2, (.sl 4)), (.c false 1 3, .id), (.c false 1 4, .id)]
theorem c0dh : cFun Tryz.prog 30 = some (30, k0dh, s0dh) := by kernel_rfl

def qbyi : IC := zr [zv 2 (.mov (.c .nilp))]
def qbzz : IC := zr [zv 6 (.bld [.nils, (.int .i64 0), (.int .i64 0), (.int .i64 0), (.str []), (.int .i64 0), (.int .i64 0), (.int .i64 0), (.int .i64 0)] []), zi 7 (.box (.t 6)), zm 3 7]
def qbol : IC := zr [zm 8 0, zv 9 (.len false (.t 8)), zv 10 (.mov (zc 0))]
def qb3j : IC := zr [zv 11 (.bin .lss .no (.t 10) (.t 9))]
def qb9z : IC := zr [zv 12 (.iad 4 (.t 8) (.t 10)), zv 13 (.ld true 4 (.t 12)), zi 5 zaT, zn (.st 4 .id (.t 5) (.t 13))]
def qbvi : IC := zr [zv 14 (.fad (.t 5) 0), zv 15 (.ld false 1 (.t 14)), zv 16 (.bin .eql .no (.t 15) (zc 0))]
def qb8h : IC := zr [zm 17 3, zv 18 (.fad (.t 5) 1), zv 19 (.ld false 1 (.t 18)), zv 20 (.nck (.t 17)), zv 21 (.fad (.t 20) 1), zv 22 (.fad (.t 21) 1), zn (.st 1 .id (.t 22) (.t 19))]
def qb6p : IC := .drw [zp (zm 23 3), zp (zm 24 3), zp (zv 25 (.nck (.t 24))), zp (zv 26 (.fad (.t 25) 0)), zp (zv 27 (.ld false 1 (.t 26))), zp (zv 28 (.ld true 4 (.t 5))), (zv 29 (.bsl 4 [((.t 28), .id)]), []), (zi 30 (.app 4 (.agg [(.int .i64 0), (.int .i64 0), (.int .i64 0), (.str [])]) 40 (.sl 4) (.t 27) (.t 29)), []), zp (zv 31 (.nck (.t 23))), zp (zv 32 (.fad (.t 31) 0)), (zn (.st 1 (.sl 4) (.t 32) (.t 30)), [])]
def qcct : IC := zr [zv 33 (.bin .add .no (.t 10) (zc 1)), zm 10 33]
def qb7z : IC := (.seq qb3j (.seq (.cond (.t 11) .skip (.exit 0)) (.seq (.block 1 (.seq qb9z (.seq (.seq qbvi (.cond (.t 16) (.seq qb8h (.exit 0)) .skip)) qb6p))) qcct)))
def qbl2 : IC := zr [zm 34 3, zm 2 34]
def k0cs : IC := (.seq qbyi (.seq qbzz (.seq (.seq qbol (.block 0 (.loop qb7z))) (.seq qbl2 .ret))))
@[go_sem] def s0cs : List (RV × Co) := [(.t 2, .id)]
theorem c0cs : cFun Tryz.prog 31 = some (35, k0cs, s0cs) := by kernel_rfl

def qb5y : IC := zr [zv 2 (.mov (zc 0)), zv 3 (.mov (zc 0))]
def qccj : IC := zr [zm 5 0, zv 6 (.bin .eql .ptr (.t 5) (.c .nilp)), zm 4 6]
def qb9c : IC := zr [zv 2 (.mov (zc 0)), zv 3 (.mov (zc 1))]
def qbnn : IC := zr [zm 8 0, zv 9 (.nck (.t 8)), zv 10 (.fad (.t 9) 7), zv 11 (.ld false 1 (.t 10)), zv 12 (.bin .neq .no (.t 11) (zc 0)), zm 7 12]
def qbwq : IC := .drw [zp (zm 13 0), zp (zv 14 (.nck (.t 13))), zp (zv 15 (.fad (.t 14) 8)), zp (zv 16 (.ld false 1 (.t 15))), zp (zm 17 0), zp (zv 18 (.nck (.t 17))), zp (zv 19 (.fad (.t 18) 7)), zp (zv 20 (.ld false 1 (.t 19))), zp (zm 2 16), zp (zm 3 20)]
def qbtr : IC := .drw [zp (zm 22 0), zp (zv 23 (.nck (.t 22))), zp (zv 24 (.fad (.t 23) 5)), zp (zv 25 (.ld false 1 (.t 24))), zp (zm 26 0), zp (zv 27 (.nck (.t 26))), zp (zv 28 (.fad (.t 27) 0)), zp (zv 29 (.ld false 1 (.t 28))), zp (zv 30 (.len false (.t 29))), zp (zv 31 (.bin .lss .no (.t 25) (.t 30))), zp (zm 21 31)]
def qbzi : IC := .drw [zp (zm 32 0), zp (zv 33 (.nck (.t 32))), zp (zv 34 (.fad (.t 33) 0)), zp (zv 35 (.ld false 1 (.t 34))), zp (zm 36 0), zp (zv 37 (.nck (.t 36))), zp (zv 38 (.fad (.t 37) 5)), zp (zv 39 (.ld false 1 (.t 38))), zp (zv 40 (.iad 4 (.t 35) (.t 39))), zp (zv 41 (.fad (.t 40) 1)), zp (zv 42 (.ld false 1 (.t 41))), zp (zm 2 42), zp (zv 3 (.mov (zc 5)))]
def qcbp : IC := zr [zm 43 0, zv 44 (.nck (.t 43)), zv 45 (.fad (.t 44) 1), zv 46 (.fad (.t 45) 1), zv 47 (.ld false 1 (.t 46)), zm 2 47, zv 3 (.mov (zc 0))]
def k0dd : IC := (.seq qb5y (.seq (.block 0 (.seq qccj (.cond (.t 4) (.seq qb9c .ret) (.seq qbnn (.cond (.t 7) (.seq qbwq .ret) (.seq qbtr (.cond (.t 21) (.seq qbzi .ret) .skip))))))) (.seq qcbp .ret)))
@[go_sem] def s0dd : List (RV × Co) := [(.t 2, .id), (.t 3, .id)]
theorem c0dd : cFun Tryz.prog 32 = some (48, k0dd, s0dd) := by kernel_rfl

def qb17 : IC := zr [zi 1 (.box (.t 0)), zv 2 (.mov (zc 0))]
def qbxd : IC := zr [zi 3 (.alo [(.int .i64 0)]), zn (.st 1 .id (.t 3) (zc 0))]
def qbuv : IC := zr [zv 5 (.ld true 5 (.t 1)), zi 6 (.call (.c (.fn 50 [] [])) [((.t 5), zN), ((zc 1), .id)])]
def qbz9 : IC := zr [zv 9 (.ld false 1 (.t 3)), zm 10 4, zv 11 (.mm true (.t 9) (.t 10)), zn (.st 1 .id (.t 3) (.t 11))]
def q8x : IC := (.block 1 qbz9)
def q89 : IC := zr [zm 4 7]
def qbt3 : IC := zr [zv 12 (.ld false 1 (.t 3)), zm 2 12]
def k0fe : IC := (.seq qb17 (.seq qbxd (.seq (.seq qbuv (.block 0 (.rng (.t 6) [7, 8] q89 q8x))) (.seq qbt3 .ret))))
@[go_sem] def s0fe : List (RV × Co) := [(.t 2, .id)]
theorem c0fe : cFun Tryz.prog 33 = some (13, k0fe, s0fe) := by kernel_rfl

def qchv : IC := zr [zv 3 zf]
def qcix : IC := zr [zv 4 (.ld false 1 (.t 0))]
def qcfh : IC := zr [zv 5 (.ld false 1 (.t 1)), zv 6 (.ld false 1 (.t 2)), zi 7 (.call (.c (.fn 35 [] [])) [((.t 5), .id), ((.t 6), .id)]), zm 3 7]
def qcfv : IC := zr [zn (.st 1 .id (.t 0) (.c (.bool true)))]
def qcew : IC := zr [zv 3 (.mov (.c (.bool true)))]
def k0z : IC := (.seq qchv (.seq (.seq qcix (.cond (.t 4) (.seq qcfh .ret) .skip)) (.seq qcfv (.seq qcew .ret))))
@[go_sem] def s0z : List (RV × Co) := [(.t 3, .id)]
theorem c0z : cFun Tryz.prog 34 = some (8, k0z, s0z) := by kernel_rfl

def qbsb : IC := zr [zv 4 zf]
def qb10 : IC := zr [zm 5 0, zm 6 1, zi 7 (.call (.c (.fn 59 [] [])) [((.t 5), .id), ((.t 6), .id)]), zv 8 (.un .not (.t 7))]
def qbqw : IC := zr [zv 4 zf]
def qbyk : IC := zr [zm 9 0, zi 10 (.call (.c (.fn 60 [] [])) [((.t 9), .id)])]
def qbuu : IC := zr [zv 4 (.mov (.c (.bool true)))]
def k0cz : IC := (.seq qbsb (.seq (.seq qb10 (.cond (.t 8) (.seq qbqw .ret) .skip)) (.seq qbyk (.seq qbuu .ret))))
@[go_sem] def s0cz : List (RV × Co) := [(.t 4, .id)]
theorem c0cz : cFun Tryz.prog 35 = some (11, k0cz, s0cz) := by kernel_rfl

def qchb : IC := zr [zi 2 (.box (.t 0)), zi 3 (.box (.t 1)), zi 4 zaN, zv 5 zf]
def qchc : IC := zr [zv 11 (.ld false 1 (.t 2)), zi 12 (.call (.c (.fn 61 [] [])) [((.t 11), .id), ((zc 2), .id)]), zm 10 12, zv 13 (.ext (.t 10) 0), zv 14 (.ext (.t 10) 1), zi 6 zaT, zn (.st 4 .id (.t 6) (.t 13)), zm 7 14]
def qcir : IC := zr [zm 15 7, zv 16 (.un .not (.t 15))]
def qcel : IC := zr [zv 17 (.ld true 5 (.t 3)), zn (.st 5 zN (.t 4) (.t 17)), zv 5 zf]
def qcfe : IC := zr [zv 19 (.mfn 62 [] [(.t 2)]), zv 20 (.mfn 64 [] [(.t 2)]), zi 21 (.call (.c (.fn 15 [] [])) [((.c .nils), (.sl 5)), ((.t 19), .id), ((.t 20), .id)]), zm 18 21, zv 22 (.ext (.t 18) 0), zv 23 (.ext (.t 18) 1), zm 8 22, zm 9 23]
def qchf : IC := zr [zv 24 (.ld false 1 (.t 2)), zi 25 (.call (.c (.fn 65 [] [])) [((.t 24), .id), ((.c (.str [61])), .id)]), zv 26 (.un .not (.t 25))]
def qcgd : IC := zr [zv 27 (.ld true 5 (.t 3)), zn (.st 5 zN (.t 4) (.t 27)), zv 5 zf]
def qclh : IC := .drw [zp (zv 28 (.fad (.t 6) 3)), zp (zv 29 (.ld false 1 (.t 28))), zp (zm 30 8), zp (zv 31 (.len false (.t 30))), zp (zv 32 (.fad (.t 3) 0)), (zn (.st 1 .id (.t 32) (zc 33)), [1]), zp (zv 33 (.fad (.t 3) 3)), (zn (.st 1 .id (.t 33) (.t 29)), []), zp (zv 34 (.fad (.t 3) 2)), (zn (.st 1 .id (.t 34) (.t 31)), [])]
def qcfk : IC := zr [zm 36 8, zv 37 (.mfn 66 [] [(.t 2)]), zv 38 (.ld false 1 (.t 2)), zi 39 (.call (.c (.fn 14 [] [])) [((.t 38), .id), ((.c (.str [124])), .id)]), zi 40 (.call (.c (.fn 15 [] [])) [((.t 36), (.sl 5)), ((.t 37), .id), ((.t 39), .id)]), zm 35 40, zv 41 (.ext (.t 35) 0), zv 42 (.ext (.t 35) 1), zv 43 (.fad (.t 3) 4), zn (.st 1 (.sl 5) (.t 43) (.t 41)), zm 7 42]
def qclf : IC := zr [zv 44 (.ld true 5 (.t 3)), zm 45 7, zn (.st 5 zN (.t 4) (.t 44)), zm 5 45]
def k0x : IC := (.seq qchb (.seq qchc (.seq (.seq qcir (.cond (.t 16) (.seq qcel .ret) .skip)) (.seq qcfe (.seq (.seq qchf (.cond (.t 26) (.seq qcgd .ret) .skip)) (.seq qclh (.seq qcfk (.seq qclf .ret))))))))
@[go_sem] def s0x : List (RV × Co) := [(.c true 5 4, zN), (.t 5, .id)]
theorem c0x : cFun Tryz.prog 36 = some (46, k0x, s0x) := by kernel_rfl

def qci7 : IC := zr [zi 3 (.box (.t 1)), zi 4 zaN, zv 5 zf]
def qce4 : IC := zr [zm 12 0, zi 13 (.call (.c (.fn 68 [] [])) [((.t 12), .id)]), zm 11 13, zv 14 (.ext (.t 11) 0), zv 15 (.ext (.t 11) 1), zm 6 14, zm 7 15]
def qcgl : IC := zr [zm 16 7, zv 17 (.un .not (.t 16))]
def qcgm : IC := zr [zv 18 (.ld true 5 (.t 3)), zn (.st 5 zN (.t 4) (.t 18)), zv 5 zf]
def qckc : IC := zr [zm 20 0, zi 21 (.call (.c (.fn 61 [] [])) [((.t 20), .id), ((zc 2), .id)]), zm 19 21, zv 22 (.ext (.t 19) 0), zv 23 (.ext (.t 19) 1), zi 8 zaT, zn (.st 4 .id (.t 8) (.t 22)), zm 7 23]
def qcft : IC := zr [zm 24 7, zv 25 (.un .not (.t 24))]
def qcgi : IC := zr [zv 26 (.ld true 5 (.t 3)), zn (.st 5 zN (.t 4) (.t 26)), zv 5 zf]
def qcgx : IC := zr [zv 27 (.fad (.t 8) 3), zv 28 (.ld false 1 (.t 27)), zm 29 6, zv 30 (.len false (.t 29)), zv 31 (.fad (.t 3) 3), zn (.st 1 .id (.t 31) (.t 28)), zv 32 (.fad (.t 3) 2), zn (.st 1 .id (.t 32) (.t 30))]
def qcfz : IC := zr [zv 9 (.mov (zc 31))]
def qch0 : IC := zr [zv 33 (.fad (.t 3) 0), zv 34 (.ld false 1 (.t 33)), zv 35 (.bin .eql .no (.t 34) (zc 35))]
def qb8v : IC := zr [zv 9 (.mov (zc 32))]
def qbu8 : IC := zr [zm 36 0, zi 37 (.call (.c (.fn 19 [] [])) [((.t 36), .id)]), zv 38 (.fld false 1 0 (.t 37)), zv 39 (.bin .neq .no (.t 38) (zc 1))]
def qb0i : IC := .drw [zp (zv 40 (.ld true 5 (.t 3))), zp (zm 41 0), (zi 42 (.call (.c (.fn 69 [] [])) [((.t 41), .id), ((zc 5), .id)]), [0]), (zn (.st 5 zN (.t 4) (.t 40)), []), zp (zm 5 42)]
def qb74 : IC := zr [zm 44 0, zi 45 (.call (.c (.fn 63 [] [])) [((.t 44), .id)]), zm 43 45, zv 46 (.ext (.t 43) 0), zv 47 (.ext (.t 43) 1), zi 10 zaN, zn (.st 5 zN (.t 10) (.t 46)), zm 7 47]
def qbsa : IC := zr [zm 48 7, zv 49 (.un .not (.t 48))]
def qcak : IC := zr [zv 50 (.ld true 5 (.t 3)), zn (.st 5 zN (.t 4) (.t 50)), zv 5 zf]
def qb14 : IC := zr [zm 52 0, zm 53 6, zv 54 (.ld true 5 (.t 10)), zv 55 (.bsl 5 [((.t 54), zN)]), zi 56 (.app 5 zZ 64 (.sl 5) (.t 53) (.t 55)), zm 57 9, zi 58 (.call (.c (.fn 70 [] [])) [((.t 52), .id), ((.t 56), (.sl 5)), ((.t 57), .id)]), zm 51 58, zv 59 (.ext (.t 51) 0), zv 60 (.ext (.t 51) 1), zv 61 (.fad (.t 3) 4), zn (.st 1 (.sl 5) (.t 61) (.t 59)), zm 7 60]
def qbvk : IC := zr [zv 62 (.ld true 5 (.t 3)), zm 63 7, zn (.st 5 zN (.t 4) (.t 62)), zm 5 63]
def k0r : IC := (.seq qci7 (.seq qce4 (.seq (.seq qcgl (.cond (.t 17) (.seq qcgm .ret) .skip)) (.seq qckc (.seq (.seq qcft (.cond (.t 25) (.seq qcgi .ret) .skip)) (.seq qcgx (.seq qcfz (.seq (.seq qch0 (.cond (.t 35) (.seq qb8v (.seq qbu8 (.cond (.t 39) (.seq qb0i .ret) .skip))) .skip)) (.seq qb74 (.seq (.seq qbsa (.cond (.t 49) (.seq qcak .ret) .skip)) (.seq qb14 (.seq qbvk .ret))))))))))))
@[go_sem] def s0r : List (RV × Co) := [(.c true 5 4, zN), (.t 5, .id)]
theorem c0r : cFun Tryz.prog 37 = some (64, k0r, s0r) := by kernel_rfl

def qb23 : IC := zr [zi 2 zaN, zv 3 zf]
def qbwv : IC := zr [zm 9 0, zi 10 (.call (.c (.fn 61 [] [])) [((.t 9), .id), ((zc 1), .id)]), zm 8 10, zv 11 (.ext (.t 8) 0), zv 12 (.ext (.t 8) 1), zi 4 zaT, zn (.st 4 .id (.t 4) (.t 11)), zm 5 12]
def qb9h : IC := zr [zm 13 5, zv 14 (.un .not (.t 13))]
def qbpn : IC := zr [zv 15 (.bld [(.int .i64 0), (.int .i64 0), (.int .i64 0), (.str []), .nils] []), zn (.st 5 zN (.t 2) (.t 15)), zv 3 zf]
def qbv8 : IC := zr [zv 16 (.fad (.t 4) 1), zv 17 (.ld false 1 (.t 16)), zv 18 (.fad (.t 4) 3), zv 19 (.ld false 1 (.t 18)), zv 20 (.bld [(.int .i64 0), (.int .i64 0), (.int .i64 0), (.str []), .nils] [(0, 1, (zc 31)), (1, 1, (.t 17)), (3, 1, (.t 19))]), zi 6 zaN, zn (.st 5 zN (.t 6) (.t 20))]
def qbr3 : IC := zr [zi 7 zaN]
def qbvr : IC := zr [zm 21 0, zi 22 (.call (.c (.fn 35 [] [])) [((.t 21), .id), ((.c (.str [58, 58])), .id)])]
def qbzy : IC := zr [zv 23 (.fad (.t 6) 0), zn (.st 1 .id (.t 23) (zc 32))]
def qb6g : IC := zr [zm 25 0, zi 26 (.call (.c (.fn 71 [] [])) [((.t 25), .id)]), zm 24 26, zv 27 (.ext (.t 24) 0), zv 28 (.ext (.t 24) 1), zn (.st 5 zN (.t 7) (.t 27)), zm 5 28]
def qb3c : IC := zr [zm 30 0, zi 31 (.call (.c (.fn 72 [] [])) [((.t 30), .id), ((.c (.str [61])), .id)]), zm 29 31, zv 32 (.ext (.t 29) 0), zv 33 (.ext (.t 29) 1), zn (.st 5 zN (.t 7) (.t 32)), zm 5 33]
def qblu : IC := zr [zm 34 5, zv 35 (.un .not (.t 34))]
def qbff : IC := zr [zv 36 (.bld [(.int .i64 0), (.int .i64 0), (.int .i64 0), (.str []), .nils] []), zn (.st 5 zN (.t 2) (.t 36)), zv 3 zf]
def qbkj : IC := zr [zv 37 (.ld true 5 (.t 7)), zv 38 (.bsl 5 [((.t 37), zN)]), zv 39 (.fad (.t 6) 4), zn (.st 1 (.sl 5) (.t 39) (.t 38))]
def qbg7 : IC := zr [zv 40 (.ld true 5 (.t 6)), zn (.st 5 zN (.t 2) (.t 40)), zv 3 (.mov (.c (.bool true)))]
def k0bq : IC := (.seq qb23 (.seq qbwv (.seq (.seq qb9h (.cond (.t 14) (.seq qbpn .ret) .skip)) (.seq qbv8 (.seq qbr3 (.seq (.seq qbvr (.cond (.t 22) (.seq qbzy qb6g) qb3c)) (.seq (.seq qblu (.cond (.t 35) (.seq qbff .ret) .skip)) (.seq qbkj (.seq qbg7 .ret)))))))))
@[go_sem] def s0bq : List (RV × Co) := [(.c true 5 2, zN), (.t 3, .id)]
theorem c0bq : cFun Tryz.prog 38 = some (41, k0bq, s0bq) := by kernel_rfl

def qbwk : IC := zr [zv 2 zf]
def qbvx : IC := zr [zm 3 0, zv 4 (.bin .eql .ptr (.t 3) (.c .nilp)), zm 5 4, zw 5 false 6 (.mov (.t 0)), zw 5 false 7 (.nck (.t 6)), zw 5 false 8 (.fad (.t 7) 7), zw 5 false 9 (.ld false 1 (.t 8)), zw 5 false 10 (.bin .neq .no (.t 9) (zc 0)), zv 11 (.pick (.t 5) (.c (.bool true)) (.t 10)), zm 2 11]
def k0ct : IC := (.seq qbwk (.seq qbvx .ret))
@[go_sem] def s0ct : List (RV × Co) := [(.t 2, .id)]
theorem c0ct : cFun Tryz.prog 39 = some (12, k0ct, s0ct) := by kernel_rfl

def qcc8 : IC := zr [zv 4 (.mov (zc 0))]
def qb7v : IC := zr [zm 5 1, zm 6 0, zv 7 (.len true (.t 6)), zv 8 (.bin .lss .no (.t 5) (.t 7))]
def qb9q : IC := zr [zm 11 0, zm 12 1, zv 13 (.idx (.t 11) (.t 12)), zv 14 (.bin .eql .no (.t 13) (.c (.int .u8 9))), zm 15 14, zw 15 false 16 (.mov (.t 0)), zw 15 false 17 (.mov (.t 1)), zw 15 false 18 (.idx (.t 16) (.t 17)), zw 15 false 19 (.bin .eql .no (.t 18) (.c (.int .u8 10))), zv 20 (.pick (.t 15) (.c (.bool true)) (.t 19)), zm 21 20, zw 21 false 22 (.mov (.t 0)), zw 21 false 23 (.mov (.t 1)), zw 21 false 24 (.idx (.t 22) (.t 23)), zw 21 false 25 (.bin .eql .no (.t 24) (.c (.int .u8 13))), zv 26 (.pick (.t 21) (.c (.bool true)) (.t 25)), zm 27 26, zw 27 false 28 (.mov (.t 0)), zw 27 false 29 (.mov (.t 1)), zw 27 false 30 (.idx (.t 28) (.t 29)), zw 27 false 31 (.bin .eql .no (.t 30) (.c (.int .u8 32))), zv 32 (.pick (.t 27) (.c (.bool true)) (.t 31)), zm 10 32]
def qbt0 : IC := zr [zm 33 1, zv 34 (.bin .add .no (.t 33) (zc 1)), zm 1 34]
def qccu : IC := zr [zm 36 0, zm 37 1, zv 38 (.idx (.t 36) (.t 37)), zv 39 (.bin .eql .no (.t 38) (.c (.int .u8 45))), zm 40 39, zw 40 true 41 (.mov (.t 1)), zw 40 true 42 (.bin .add .no (.t 41) (zc 1)), zw 40 true 43 (.mov (.t 0)), zw 40 true 44 (.len true (.t 43)), zw 40 true 45 (.bin .lss .no (.t 42) (.t 44)), zv 46 (.pick (.t 40) (.t 45) (.c (.bool false))), zm 47 46, zw 47 true 48 (.mov (.t 0)), zw 47 true 49 (.mov (.t 1)), zw 47 true 50 (.bin .add .no (.t 49) (zc 1)), zw 47 true 51 (.idx (.t 48) (.t 50)), zw 47 true 52 (.bin .eql .no (.t 51) (.c (.int .u8 45))), zv 53 (.pick (.t 47) (.t 52) (.c (.bool false))), zm 35 53]
def qbnz : IC := zr [zm 54 1, zm 55 0, zv 56 (.len true (.t 55)), zv 57 (.bin .lss .no (.t 54) (.t 56)), zm 58 57, zw 58 true 59 (.mov (.t 0)), zw 58 true 60 (.mov (.t 1)), zw 58 true 61 (.idx (.t 59) (.t 60)), zw 58 true 62 (.bin .neq .no (.t 61) (.c (.int .u8 10))), zv 63 (.pick (.t 58) (.t 62) (.c (.bool false)))]
def qb82 : IC := zr [zm 64 1, zv 65 (.bin .add .no (.t 64) (zc 1)), zm 1 65]
def qb0f : IC := (.seq (.seq qbnz (.cond (.t 63) .skip (.exit 3))) (.block 4 qb82))
def qbf7 : IC := zr [zm 9 1, zm 4 9]
def qcas : IC := (.seq (.seq qb7v (.cond (.t 8) .skip (.exit 0))) (.block 1 (.block 2 (.seq qb9q (.cond (.t 10) qbt0 (.seq qccu (.cond (.t 35) (.block 3 (.loop qb0f)) (.seq qbf7 .ret))))))))
def qbi5 : IC := zr [zm 66 1, zm 4 66]
def k0dj : IC := (.seq qcc8 (.seq (.block 0 (.loop qcas)) (.seq qbi5 .ret)))
@[go_sem] def s0dj : List (RV × Co) := [(.t 4, .id)]
theorem c0dj : cFun Tryz.prog 40 = some (67, k0dj, s0dj) := by kernel_rfl

def qb11 : IC := zr [zi 2 zaT, zv 3 (.mov (zc 0))]
def qcd6 : IC := zr [zv 4 (.mov (zc 0))]
def qbyc : IC := zr [zm 10 0, zv 11 (.idx (.t 10) (zc 0)), zi 12 (.call (.c (.fn 73 [] [])) [((.t 11), .id)]), zm 9 12]
def qbs0 : IC := zr [zm 13 4, zm 14 0, zv 15 (.len true (.t 14)), zv 16 (.bin .lss .no (.t 13) (.t 15)), zm 17 16, zw 17 true 18 (.mov (.t 0)), zw 17 true 19 (.mov (.t 4)), zw 17 true 20 (.idx (.t 18) (.t 19)), ⟨some (17, true), some 21, .call (.c (.fn 73 [] [])) [((.t 20), .id)]⟩, zv 22 (.pick (.t 17) (.t 21) (.c (.bool false)))]
def qb4o : IC := zr [zm 23 4, zv 24 (.bin .add .no (.t 23) (zc 1)), zm 4 24]
def qbv7 : IC := (.seq (.seq qbs0 (.cond (.t 22) .skip (.exit 1))) (.block 2 qb4o))
def qbm5 : IC := zr [zm 26 0, zm 27 4, zv 28 (.sls (.t 26) none (some (.t 27))), zi 29 (.call (.c (.fn 74 [] [])) [((.t 28), .id)]), zm 25 29, zv 30 (.ext (.t 25) 0), zv 31 (.ext (.t 25) 1), zm 5 30, zm 6 31]
def qb3g : IC := zr [zm 32 5, zm 33 0, zm 34 4, zv 35 (.sls (.t 33) none (some (.t 34))), zv 36 (.bld [(.int .i64 0), (.int .i64 0), (.int .i64 0), (.str [])] [(0, 1, (zc 3)), (2, 1, (.t 32)), (3, 1, (.t 35))]), zm 37 6, zn (.st 4 .id (.t 2) (.t 36)), zm 3 37]
def qbsr : IC := zr [zm 39 0, zv 40 (.idx (.t 39) (zc 0)), zi 41 (.call (.c (.fn 75 [] [])) [((.t 40), .id)]), zm 42 41, zw 42 false 43 (.mov (.t 0)), zw 42 false 44 (.idx (.t 43) (zc 0)), ⟨some (42, false), some 45, .call (.c (.fn 76 [] [])) [((.t 44), .id)]⟩, zv 46 (.pick (.t 42) (.c (.bool true)) (.t 45)), zm 38 46]
def qbe1 : IC := zr [zm 47 4, zm 48 0, zv 49 (.len true (.t 48)), zv 50 (.bin .lss .no (.t 47) (.t 49)), zm 51 50, zw 51 true 52 (.mov (.t 0)), zw 51 true 53 (.mov (.t 4)), zw 51 true 54 (.idx (.t 52) (.t 53)), ⟨some (51, true), some 55, .call (.c (.fn 77 [] [])) [((.t 54), .id)]⟩, zv 56 (.pick (.t 51) (.t 55) (.c (.bool false)))]
def qbcz : IC := zr [zm 57 4, zv 58 (.bin .add .no (.t 57) (zc 1)), zm 4 58]
def qbfd : IC := (.seq (.seq qbe1 (.cond (.t 56) .skip (.exit 3))) (.block 4 qbcz))
def qbft : IC := zr [zm 59 0, zm 60 4, zv 61 (.sls (.t 59) none (some (.t 60))), zv 62 (.bld [(.int .i64 0), (.int .i64 0), (.int .i64 0), (.str [])] [(0, 1, (zc 1)), (3, 1, (.t 61))]), zi 7 zaT, zn (.st 4 .id (.t 7) (.t 62))]
def qben : IC := zr [zv 64 (.fad (.t 7) 3), zv 65 (.ld false 1 (.t 64)), zv 66 (.bin .eql .no (.t 65) (.c (.str [95]))), zm 63 66]
def qbln : IC := zr [zv 67 (.fad (.t 7) 0), zn (.st 1 .id (.t 67) (zc 5))]
def qbg9 : IC := zr [zv 69 (.fad (.t 7) 3), zv 70 (.ld false 1 (.t 69)), zi 71 (.call (.c (.fn 78 [] [])) [((.t 70), .id)]), zm 68 71]
def qbfh : IC := zr [zv 72 (.fad (.t 7) 0), zn (.st 1 .id (.t 72) (zc 4))]
def qbld : IC := zr [zm 74 0, zv 75 (.idx (.t 74) (zc 0)), zi 76 (.call (.c (.fn 76 [] [])) [((.t 75), .id)]), zm 73 76]
def qbgh : IC := zr [zv 77 (.fad (.t 7) 0), zn (.st 1 .id (.t 77) (zc 2))]
def qbg5 : IC := zr [zv 78 (.ld true 4 (.t 7)), zn (.st 4 .id (.t 2) (.t 78)), zv 3 (.mov (zc 0))]
def qbie : IC := zr [zm 79 0, zi 80 (.call (.c (.fn 79 [] [])) [((.t 79), .id)]), zm 8 80]
def qbjh : IC := zr [zm 81 8, zv 82 (.bin .eql .no (.t 81) (.c (.str [])))]
def qbk1 : IC := zr [zv 83 (.bld [(.int .i64 0), (.int .i64 0), (.int .i64 0), (.str [])] []), zn (.st 4 .id (.t 2) (.t 83)), zv 3 (.mov (zc 3))]
def qbfb : IC := zr [zm 84 8, zv 85 (.bld [(.int .i64 0), (.int .i64 0), (.int .i64 0), (.str [])] [(0, 1, (zc 5)), (3, 1, (.t 84))]), zn (.st 4 .id (.t 2) (.t 85)), zv 3 (.mov (zc 0))]
def k0de : IC := (.seq qb11 (.seq qcd6 (.seq (.block 0 (.seq qbyc (.cond (.t 9) (.seq (.block 1 (.loop qbv7)) (.seq qbm5 (.seq qb3g .ret))) (.seq qbsr (.cond (.t 38) (.seq (.block 3 (.loop qbfd)) (.seq qbft (.seq (.block 5 (.seq qben (.cond (.t 63) qbln (.seq qbg9 (.cond (.t 68) qbfh (.seq qbld (.cond (.t 73) qbgh .skip))))))) (.seq qbg5 .ret)))) .skip))))) (.seq qbie (.seq (.seq qbjh (.cond (.t 82) (.seq qbk1 .ret) .skip)) (.seq qbfb .ret))))))
@[go_sem] def s0de : List (RV × Co) := [(.c true 4 2, .id), (.t 3, .id)]
theorem c0de : cFun Tryz.prog 41 = some (86, k0de, s0de) := by kernel_rfl

def qb07 : IC := zr [zi 1 (.box (.t 0)), zi 2 zaT]
def qb5t : IC := zr [zv 4 (.fad (.t 1) 6), zv 5 (.ld false 1 (.t 4)), zv 6 (.bin .neq .no (.t 5) (zc 0)), zm 3 6]
def qbww : IC := zr [zv 7 (.bld [(.int .i64 0), (.int .i64 0), (.int .i64 0), (.str [])] []), zn (.st 4 .id (.t 2) (.t 7))]
def qbrk : IC := zr [zv 9 (.fad (.t 1) 0), zv 10 (.ld false 1 (.t 9)), zv 11 (.len false (.t 10)), zv 12 (.bin .eql .no (.t 11) (zc 0)), zm 8 12]
def qbqt : IC := zr [zv 13 (.fad (.t 1) 1), zv 14 (.ld true 4 (.t 13)), zn (.st 4 .id (.t 2) (.t 14))]
def qbo3 : IC := zr [zv 15 (.fad (.t 1) 0), zv 16 (.ld false 1 (.t 15)), zv 17 (.iad 4 (.t 16) (zc 0)), zv 18 (.ld true 4 (.t 17)), zn (.st 4 .id (.t 2) (.t 18))]
def k0ch : IC := (.seq qb07 (.seq (.block 0 (.seq qb5t (.cond (.t 3) (.seq qbww .ret) (.seq qbrk (.cond (.t 8) (.seq qbqt .ret) .skip))))) (.seq qbo3 .ret)))
@[go_sem] def s0ch : List (RV × Co) := [(.c true 4 2, .id)]
theorem c0ch : cFun Tryz.prog 42 = some (19, k0ch, s0ch) := by kernel_rfl

def qce2 : IC := zr [zi 2 (.box (.t 0)), zi 4 zaC, zi 5 zaN]
def qck2 : IC := zr [zv 15 (.ld true 8 (.t 2)), zi 16 (.call (.c (.fn 80 [] [])) [((.t 15), zC), ((zc 2), .id)]), zm 14 16, zv 17 (.ext (.t 14) 0), zv 18 (.ext (.t 14) 1), zv 19 (.ext (.t 14) 2), zi 6 zaT, zn (.st 8 zC (.t 2) (.t 17)), zn (.st 4 .id (.t 6) (.t 18)), zm 7 19]
def qckh : IC := zr [zm 20 1, zv 21 (.fad (.t 6) 3), zv 22 (.ld false 1 (.t 21)), zv 23 (.bld [(.int .i64 0), (.int .i64 0), (.int .i64 0), (.str []), .nils] [(0, 1, (zc 33)), (1, 1, (.t 20)), (3, 1, (.t 22))]), zi 8 zaN, zn (.st 5 zN (.t 8) (.t 23))]
def qcid : IC := zr [zv 24 (.fad (.t 2) 6), zv 25 (.ld false 1 (.t 24)), zv 26 (.bin .eql .no (.t 25) (zc 0)), zm 27 26, zw 27 true 28 (.ld true 8 (.t 2)), ⟨some (27, true), some 29, .call (.c (.fn 42 [] [])) [((.t 28), zC)]⟩, zw 27 true 30 (.fld false 1 0 (.t 29)), zw 27 true 31 (.bin .eql .no (.t 30) (zc 1)), zv 32 (.pick (.t 27) (.t 31) (.c (.bool false)))]
def qcf2 : IC := zr [zv 34 (.ld true 8 (.t 2)), zi 35 (.call (.c (.fn 81 [] [])) [((.t 34), zC)]), zm 33 35, zv 36 (.ext (.t 33) 0), zv 37 (.ext (.t 33) 1), zi 9 zaC, zi 10 zaN, zn (.st 8 zC (.t 9) (.t 36)), zn (.st 5 zN (.t 10) (.t 37))]
def qcg8 : IC := zr [zv 38 (.ld true 8 (.t 9)), zn (.st 8 zC (.t 2) (.t 38))]
def qck3 : IC := zr [zv 39 (.fad (.t 8) 4), zv 40 (.ld false 1 (.t 39)), zv 41 (.ld true 5 (.t 10)), zv 42 (.bsl 5 [((.t 41), zN)]), zi 43 (.app 5 zZ 64 (.sl 5) (.t 40) (.t 42)), zv 44 (.fad (.t 8) 4), zn (.st 1 (.sl 5) (.t 44) (.t 43))]
def qcin : IC := zr [zv 45 (.fad (.t 8) 2), zv 46 (.ld false 1 (.t 45)), zv 47 (.bin .add .no (.t 46) (zc 1)), zv 48 (.fad (.t 8) 2), zn (.st 1 .id (.t 48) (.t 47))]
def qclc : IC := (.seq (.seq qcid (.cond (.t 32) .skip (.exit 0))) (.block 1 (.seq qcf2 (.seq qcg8 (.seq qck3 qcin)))))
def qbr1 : IC := zr [zv 50 (.ld true 8 (.t 2)), zi 51 (.call (.c (.fn 82 [] [])) [((.t 50), zC), ((.c (.str [61])), .id)]), zm 49 51, zv 52 (.ext (.t 49) 0), zv 53 (.ext (.t 49) 1), zn (.st 8 zC (.t 2) (.t 52))]
def qb7t : IC := zr [zv 11 (.mov (.c (.bool true)))]
def qb4b : IC := zr [zm 54 11]
def qb6y : IC := zr [zv 56 (.ld true 8 (.t 2)), zi 57 (.call (.c (.fn 83 [] [])) [((.t 56), zC)]), zm 55 57, zv 58 (.ext (.t 55) 0), zv 59 (.ext (.t 55) 1), zi 12 zaC, zi 13 zaN, zn (.st 8 zC (.t 12) (.t 58)), zn (.st 5 zN (.t 13) (.t 59))]
def qcc3 : IC := zr [zv 60 (.fad (.t 8) 4), zv 61 (.ld false 1 (.t 60)), zv 62 (.ld true 5 (.t 13)), zv 63 (.bsl 5 [((.t 62), zN)]), zi 64 (.app 5 zZ 64 (.sl 5) (.t 61) (.t 63)), zv 65 (.fad (.t 8) 4), zn (.st 1 (.sl 5) (.t 65) (.t 64))]
def qcaa : IC := zr [zv 67 (.ld true 8 (.t 12)), zi 68 (.call (.c (.fn 23 [] [])) [((.t 67), zC), ((.c (.str [124])), .id)]), zm 66 68, zv 69 (.ext (.t 66) 0), zv 70 (.ext (.t 66) 1), zn (.st 8 zC (.t 2) (.t 69)), zm 11 70]
def qb4a : IC := (.seq (.seq qb4b (.cond (.t 54) .skip (.exit 2))) (.block 3 (.seq qb6y (.seq qcc3 qcaa))))
def qbs8 : IC := .drw [zp (zv 71 (.ld true 8 (.t 2))), zp (zv 72 (.ld true 5 (.t 8))), (zn (.st 8 zC (.t 4) (.t 71)), [1]), (zn (.st 5 zN (.t 5) (.t 72)), [])]
def k0g : IC := (.seq qce2 (.seq qck2 (.seq qckh (.seq (.block 0 (.loop qclc)) (.seq qbr1 (.seq qb7t (.seq (.block 2 (.loop qb4a)) (.seq qbs8 .ret))))))))
@[go_sem] def s0g : List (RV × Co) := [(.c true 8 4, zC), (.c true 5 5, zN)]
theorem c0g : cFun Tryz.prog 43 = some (73, k0g, s0g) := by kernel_rfl

def qcie : IC := zr [zi 3 (.box (.t 0)), zi 6 zaC, zi 7 zaN]
def qceo : IC := zr [zv 20 (.ld true 8 (.t 3)), zi 21 (.call (.c (.fn 84 [] [])) [((.t 20), zC)]), zm 19 21, zv 22 (.ext (.t 19) 0), zv 23 (.ext (.t 19) 1), zn (.st 8 zC (.t 3) (.t 22)), zm 8 23]
def qcjo : IC := zr [zv 25 (.ld true 8 (.t 3)), zi 26 (.call (.c (.fn 80 [] [])) [((.t 25), zC), ((zc 2), .id)]), zm 24 26, zv 27 (.ext (.t 24) 0), zv 28 (.ext (.t 24) 1), zv 29 (.ext (.t 24) 2), zi 9 zaT, zn (.st 8 zC (.t 3) (.t 27)), zn (.st 4 .id (.t 9) (.t 28)), zm 10 29]
def qsq : IC := .drw [zp (zm 30 1), zp (zm 31 2), zp (zv 32 (.fad (.t 9) 3)), zp (zv 33 (.ld false 1 (.t 32))), zp (zm 34 8), zp (zv 35 (.len false (.t 34))), zp (zm 36 8), (zi 37 (.app 5 zZ 64 (.sl 5) (.c .nils) (.t 36)), [3]), (zv 38 (.bld [(.int .i64 0), (.int .i64 0), (.int .i64 0), (.str []), .nils] [(0, 1, (.t 30)), (1, 1, (.t 31)), (3, 1, (.t 33)), (2, 1, (.t 35)), (4, 1, (.t 37))]), []), (zi 11 zaN, [3, 7]), (zn (.st 5 zN (.t 11) (.t 38)), [])]
def qckk : IC := zr [zv 12 (.mov (zc 31))]
def qcfw : IC := zr [zm 39 1, zv 40 (.bin .eql .no (.t 39) (zc 35))]
def qcj9 : IC := zr [zv 12 (.mov (zc 32))]
def qch8 : IC := zr [zv 42 (.ld true 8 (.t 3)), zi 43 (.call (.c (.fn 80 [] [])) [((.t 42), zC), ((zc 1), .id)]), zm 41 43, zv 44 (.ext (.t 41) 0), zv 45 (.ext (.t 41) 1), zv 46 (.ext (.t 41) 2), zi 13 zaC, zi 14 zaT, zn (.st 8 zC (.t 13) (.t 44)), zn (.st 4 .id (.t 14) (.t 45)), zm 15 46]
def qcj8 : IC := zr [zv 47 (.ld true 8 (.t 13)), zn (.st 8 zC (.t 3) (.t 47))]
def qcje : IC := zr [zv 48 (.fad (.t 11) 4), zv 49 (.ld false 1 (.t 48)), zv 50 (.fad (.t 14) 1), zv 51 (.ld false 1 (.t 50)), zv 52 (.fad (.t 14) 3), zv 53 (.ld false 1 (.t 52)), zv 54 (.bld [(.int .i64 0), (.int .i64 0), (.int .i64 0), (.str []), .nils] [(0, 1, (zc 1)), (1, 1, (.t 51)), (3, 1, (.t 53))]), zv 55 (.bsl 5 [((.t 54), zN)]), zi 56 (.app 5 zZ 64 (.sl 5) (.t 49) (.t 55)), zv 57 (.fad (.t 11) 4), zn (.st 1 (.sl 5) (.t 57) (.t 56))]
def qbn8 : IC := zr [zv 59 (.ld true 8 (.t 3)), zi 60 (.call (.c (.fn 81 [] [])) [((.t 59), zC)]), zm 58 60, zv 61 (.ext (.t 58) 0), zv 62 (.ext (.t 58) 1), zi 16 zaC, zi 17 zaN, zn (.st 8 zC (.t 16) (.t 61)), zn (.st 5 zN (.t 17) (.t 62))]
def qcdn : IC := zr [zv 63 (.ld true 8 (.t 16)), zn (.st 8 zC (.t 3) (.t 63))]
def qbt7 : IC := zr [zv 64 (.fad (.t 11) 4), zv 65 (.ld false 1 (.t 64)), zv 66 (.ld true 5 (.t 17)), zv 67 (.bsl 5 [((.t 66), zN)]), zi 68 (.app 5 zZ 64 (.sl 5) (.t 65) (.t 67)), zv 69 (.fad (.t 11) 4), zn (.st 1 (.sl 5) (.t 69) (.t 68))]
def qb1c : IC := zr [zv 71 (.ld true 8 (.t 3)), zm 72 12, zi 73 (.call (.c (.fn 85 [] [])) [((.t 71), zC), ((.t 72), .id)]), zm 70 73, zv 74 (.ext (.t 70) 0), zv 75 (.ext (.t 70) 1), zn (.st 8 zC (.t 3) (.t 74)), zm 18 75]
def qb57 : IC := zr [zv 76 (.fad (.t 11) 4), zv 77 (.ld false 1 (.t 76)), zm 78 18, zi 79 (.app 5 zZ 64 (.sl 5) (.t 77) (.t 78)), zv 80 (.fad (.t 11) 4), zn (.st 1 (.sl 5) (.t 80) (.t 79))]
def qcb6 : IC := .drw [zp (zv 81 (.ld true 8 (.t 3))), zp (zv 82 (.ld true 5 (.t 11))), (zn (.st 8 zC (.t 6) (.t 81)), [1]), (zn (.st 5 zN (.t 7) (.t 82)), [])]
def k0d : IC := (.seq qcie (.seq qceo (.seq qcjo (.seq qsq (.seq qckk (.seq (.seq qcfw (.cond (.t 40) (.seq qcj9 (.seq qch8 (.seq qcj8 qcje))) (.seq qbn8 (.seq qcdn qbt7)))) (.seq qb1c (.seq qb57 (.seq qcb6 .ret)))))))))
@[go_sem] def s0d : List (RV × Co) := [(.c true 8 6, zC), (.c true 5 7, zN)]
theorem c0d : cFun Tryz.prog 44 = some (83, k0d, s0d) := by kernel_rfl

def qbrr : IC := zr [zi 1 (.box (.t 0)), zi 2 zaC, zi 3 zaN]
def qcbz : IC := zr [zv 13 (.ld true 8 (.t 1)), zi 14 (.call (.c (.fn 80 [] [])) [((.t 13), zC), ((zc 1), .id)]), zm 12 14, zv 15 (.ext (.t 12) 0), zv 16 (.ext (.t 12) 1), zv 17 (.ext (.t 12) 2), zi 4 zaT, zn (.st 8 zC (.t 1) (.t 15)), zn (.st 4 .id (.t 4) (.t 16)), zm 5 17]
def qbpk : IC := zr [zv 19 (.ld true 8 (.t 1)), zi 20 (.call (.c (.fn 23 [] [])) [((.t 19), zC), ((.c (.str [58, 58])), .id)]), zm 18 20, zv 21 (.ext (.t 18) 0), zv 22 (.ext (.t 18) 1), zi 6 zaC, zn (.st 8 zC (.t 6) (.t 21)), zm 7 22]
def qb46 : IC := zr [zm 23 7]
def qb58 : IC := zr [zv 25 (.ld true 8 (.t 6)), zi 26 (.call (.c (.fn 86 [] [])) [((.t 25), zC)]), zm 24 26, zv 27 (.ext (.t 24) 0), zv 28 (.ext (.t 24) 1), zi 8 zaC, zi 9 zaN, zn (.st 8 zC (.t 8) (.t 27)), zn (.st 5 zN (.t 9) (.t 28))]
def qb5b : IC := .drw [zp (zv 29 (.ld true 8 (.t 8))), zp (zv 30 (.fad (.t 4) 1)), zp (zv 31 (.ld false 1 (.t 30))), zp (zv 32 (.fad (.t 4) 3)), zp (zv 33 (.ld false 1 (.t 32))), zp (zv 34 (.ld true 5 (.t 9))), (zv 35 (.bsl 5 [((.t 34), zN)]), []), (zv 36 (.bld [(.int .i64 0), (.int .i64 0), (.int .i64 0), (.str []), .nils] [(0, 1, (zc 32)), (1, 1, (.t 31)), (3, 1, (.t 33)), (4, 1, (.t 35))]), []), (zn (.st 8 zC (.t 2) (.t 29)), [2, 4, 5, 6]), (zn (.st 5 zN (.t 3) (.t 36)), [])]
def qbp0 : IC := zr [zv 38 (.ld true 8 (.t 1)), zi 39 (.call (.c (.fn 87 [] [])) [((.t 38), zC)]), zm 37 39, zv 40 (.ext (.t 37) 0), zv 41 (.ext (.t 37) 1), zn (.st 8 zC (.t 1) (.t 40)), zm 10 41]
def qbyx : IC := zr [zv 43 (.ld true 8 (.t 1)), zi 44 (.call (.c (.fn 82 [] [])) [((.t 43), zC), ((.c (.str [61])), .id)]), zm 42 44, zv 45 (.ext (.t 42) 0), zv 46 (.ext (.t 42) 1), zn (.st 8 zC (.t 1) (.t 45))]
def qbs1 : IC := zr [zv 48 (.ld true 8 (.t 1)), zi 49 (.call (.c (.fn 88 [] [])) [((.t 48), zC)]), zm 47 49, zv 50 (.ext (.t 47) 0), zv 51 (.ext (.t 47) 1), zi 11 zaN, zn (.st 8 zC (.t 1) (.t 50)), zn (.st 5 zN (.t 11) (.t 51))]
def qb1t : IC := .drw [zp (zv 52 (.ld true 8 (.t 1))), zp (zv 53 (.fad (.t 4) 1)), zp (zv 54 (.ld false 1 (.t 53))), zp (zv 55 (.fad (.t 4) 3)), zp (zv 56 (.ld false 1 (.t 55))), zp (zm 57 10), zp (zv 58 (.ld true 5 (.t 11))), (zi 59 (.call (.c (.fn 89 [] [])) [((.t 57), (.sl 4)), ((.t 58), zN)]), [0, 2, 4]), (zv 60 (.bsl 5 [((.t 59), zN)]), []), (zv 61 (.bld [(.int .i64 0), (.int .i64 0), (.int .i64 0), (.str []), .nils] [(0, 1, (zc 31)), (1, 1, (.t 54)), (3, 1, (.t 56)), (4, 1, (.t 60))]), []), (zn (.st 8 zC (.t 2) (.t 52)), [2, 4, 8]), (zn (.st 5 zN (.t 3) (.t 61)), [])]
def k0fs : IC := (.seq qbrr (.seq qcbz (.seq (.seq qbpk (.seq qb46 (.cond (.t 23) (.seq qb58 (.seq qb5b .ret)) .skip))) (.seq qbp0 (.seq qbyx (.seq qbs1 (.seq qb1t .ret)))))))
@[go_sem] def s0fs : List (RV × Co) := [(.c true 8 2, zC), (.c true 5 3, zN)]
theorem c0fs : cFun Tryz.prog 45 = some (62, k0fs, s0fs) := by kernel_rfl

def qbz4 : IC := zr [zi 2 (.box (.t 0)), zv 4 zf]
def qbuz : IC := zr [zv 5 (.fad (.t 2) 6), zv 6 (.ld false 1 (.t 5)), zv 7 (.bin .eql .no (.t 6) (zc 0)), zm 8 7, zw 8 true 9 (.ld true 8 (.t 2)), ⟨some (8, true), some 10, .call (.c (.fn 42 [] [])) [((.t 9), zC)]⟩, zw 8 true 11 (.mov (.t 1)), ⟨some (8, true), some 12, .call (.c (.fn 90 [] [])) [((.t 10), .id), ((.t 11), .id)]⟩, zv 13 (.pick (.t 8) (.t 12) (.c (.bool false))), zm 4 13]
def k0ck : IC := (.seq qbz4 (.seq qbuz .ret))
@[go_sem] def s0ck : List (RV × Co) := [(.t 4, .id)]
theorem c0ck : cFun Tryz.prog 46 = some (14, k0ck, s0ck) := by kernel_rfl

def qcbs : IC := zr [zi 1 (.box (.t 0)), zi 2 zaC, zi 3 zaT]
def qbxi : IC := zr [zv 5 (.ld true 8 (.t 1)), zi 6 (.call (.c (.fn 42 [] [])) [((.t 5), zC)]), zi 4 zaT, zn (.st 4 .id (.t 4) (.t 6))]
def qbq2 : IC := zr [zv 7 (.fad (.t 1) 6), zv 8 (.ld false 1 (.t 7)), zv 9 (.bin .eql .no (.t 8) (zc 0)), zm 10 9, zw 10 true 11 (.fad (.t 1) 0), zw 10 true 12 (.ld false 1 (.t 11)), zw 10 true 13 (.len false (.t 12)), zw 10 true 14 (.bin .gtr .no (.t 13) (zc 0)), zv 15 (.pick (.t 10) (.t 14) (.c (.bool false)))]
def qbpx : IC := zr [zv 16 (.fad (.t 1) 0), zv 17 (.ld false 1 (.t 16)), zv 18 (.slv 4 (.t 17) (some (zc 1)) none none), zv 19 (.fad (.t 1) 0), zn (.st 1 (.sl 4) (.t 19) (.t 18))]
def qb4q : IC := .drw [zp (zv 20 (.ld true 8 (.t 1))), zp (zv 21 (.ld true 4 (.t 4))), (zn (.st 8 zC (.t 2) (.t 20)), [1]), (zn (.st 4 .id (.t 3) (.t 21)), [])]
def k0ci : IC := (.seq qcbs (.seq qbxi (.seq (.seq qbq2 (.cond (.t 15) qbpx .skip)) (.seq qb4q .ret))))
@[go_sem] def s0ci : List (RV × Co) := [(.c true 8 2, zC), (.c true 4 3, .id)]
theorem c0ci : cFun Tryz.prog 47 = some (22, k0ci, s0ci) := by kernel_rfl

def qbn0 : IC := zr [zi 1 (.box (.t 0)), zv 2 (.mov (zc 0)), zv 3 (.mov (zc 0))]
def qbvl : IC := zr [zv 5 (.fad (.t 1) 6), zv 6 (.ld false 1 (.t 5)), zv 7 (.bin .neq .no (.t 6) (zc 0)), zm 4 7]
def qb0l : IC := .drw [zp (zv 8 (.fad (.t 1) 7)), zp (zv 9 (.ld false 1 (.t 8))), zp (zv 10 (.fad (.t 1) 6)), zp (zv 11 (.ld false 1 (.t 10))), zp (zm 2 9), zp (zm 3 11)]
def qbsf : IC := zr [zv 13 (.fad (.t 1) 0), zv 14 (.ld false 1 (.t 13)), zv 15 (.len false (.t 14)), zv 16 (.bin .gtr .no (.t 15) (zc 0)), zm 12 16]
def qbze : IC := zr [zv 17 (.fad (.t 1) 0), zv 18 (.ld false 1 (.t 17)), zv 19 (.iad 4 (.t 18) (zc 0)), zv 20 (.fad (.t 19) 1), zv 21 (.ld false 1 (.t 20)), zm 2 21, zv 3 (.mov (zc 5))]
def qbwc : IC := zr [zv 22 (.fad (.t 1) 1), zv 23 (.fad (.t 22) 1), zv 24 (.ld false 1 (.t 23)), zm 2 24, zv 3 (.mov (zc 0))]
def k0cq : IC := (.seq qbn0 (.seq (.block 0 (.seq qbvl (.cond (.t 4) (.seq qb0l .ret) (.seq qbsf (.cond (.t 12) (.seq qbze .ret) .skip))))) (.seq qbwc .ret)))
@[go_sem] def s0cq : List (RV × Co) := [(.t 2, .id), (.t 3, .id)]
theorem c0cq : cFun Tryz.prog 48 = some (25, k0cq, s0cq) := by kernel_rfl

def qbw2 : IC := zr [zi 1 (.box (.t 0)), zv 2 (.mov (zc 0))]
def qb5u : IC := zr [zv 3 (.mov (zc 0))]
def qb9t : IC := zr [zv 4 (.mov (zc 0))]
def qbvj : IC := zr [zm 5 4, zv 6 (.fad (.t 1) 4), zv 7 (.ld false 1 (.t 6)), zv 8 (.len false (.t 7)), zv 9 (.bin .lss .no (.t 5) (.t 8))]
def qb95 : IC := zr [zm 12 3, zv 13 (.fad (.t 1) 4), zv 14 (.ld false 1 (.t 13)), zm 15 4, zv 16 (.iad 5 (.t 14) (.t 15)), zv 17 (.ld true 5 (.t 16)), zi 18 (.call (.c (.fn 49 [] [])) [((.t 17), zN)]), zv 19 (.mm true (.t 12) (.t 18)), zm 3 19]
def qbre : IC := zr [zm 10 4, zv 11 (.bin .add .no (.t 10) (zc 1)), zm 4 11]
def qbxn : IC := (.seq (.seq qbvj (.cond (.t 9) .skip (.exit 0))) (.seq (.block 1 qb95) qbre))
def qbye : IC := zr [zm 20 3, zv 21 (.bin .add .no (.t 20) (zc 1)), zm 2 21]
def k0ff : IC := (.seq qbw2 (.seq qb5u (.seq (.seq qb9t (.block 0 (.loop qbxn))) (.seq qbye .ret))))
@[go_sem] def s0ff : List (RV × Co) := [(.t 2, .id)]
theorem c0ff : cFun Tryz.prog 49 = some (22, k0ff, s0ff) := by kernel_rfl

def qbst : IC := zr [zi 2 (.box (.t 0)), zi 3 (.box (.t 1)), zv 4 (.mov (.c .nilf))]
def qb2d : IC := zr [zv 5 (.mfn 91 [] [(.t 2), (.t 3)]), zm 4 5]
def k0fd : IC := (.seq qbst (.seq qb2d .ret))
@[go_sem] def s0fd : List (RV × Co) := [(.t 4, .id)]
theorem c0fd : cFun Tryz.prog 50 = some (6, k0fd, s0fd) := by kernel_rfl

def qb9k : IC := zr [zi 1 (.box (.t 0)), zv 2 zf]
def qceb : IC := zr [zv 3 (.fad (.t 1) 0), zv 4 (.ld false 1 (.t 3)), zv 5 (.bin .eql .no (.t 4) (zc 31)), zm 6 5, zw 6 true 7 (.ld true 5 (.t 1)), ⟨some (6, true), some 8, .call (.c (.fn 93 [] [])) [((.t 7), zN), ((.c (.fn 94 [] [])), .id)]⟩, zv 9 (.pick (.t 6) (.t 8) (.c (.bool false))), zm 10 9, zw 10 true 11 (.fad (.t 1) 4), zw 10 true 12 (.ld false 1 (.t 11)), zw 10 true 13 (.len false (.t 12)), zw 10 true 14 (.bin .eql .no (.t 13) (zc 1)), zv 15 (.pick (.t 10) (.t 14) (.c (.bool false))), zm 16 15, zw 16 true 17 (.fad (.t 1) 4), zw 16 true 18 (.ld false 1 (.t 17)), zw 16 true 19 (.iad 5 (.t 18) (zc 0)), zw 16 true 20 (.ld true 5 (.t 19)), ⟨some (16, true), some 21, .call (.c (.fn 95 [] [])) [((.t 20), zN)]⟩, zv 22 (.pick (.t 16) (.t 21) (.c (.bool false))), zm 2 22]
def k0ep : IC := (.seq qb9k (.seq qceb .ret))
@[go_sem] def s0ep : List (RV × Co) := [(.t 2, .id)]
theorem c0ep : cFun Tryz.prog 51 = some (23, k0ep, s0ep) := by kernel_rfl

def qb9u : IC := zr [zi 1 (.box (.t 0)), zv 2 zf]
def qb90 : IC := zr [zv 3 (.fad (.t 1) 0), zv 4 (.ld false 1 (.t 3)), zv 5 (.bin .eql .no (.t 4) (zc 32)), zm 6 5, zw 6 true 7 (.ld true 5 (.t 1)), ⟨some (6, true), some 8, .call (.c (.fn 93 [] [])) [((.t 7), zN), ((.c (.fn 94 [] [])), .id)]⟩, zv 9 (.pick (.t 6) (.t 8) (.c (.bool false))), zm 10 9, zw 10 true 11 (.fad (.t 1) 4), zw 10 true 12 (.ld false 1 (.t 11)), zw 10 true 13 (.len false (.t 12)), zw 10 true 14 (.bin .eql .no (.t 13) (zc 1)), zv 15 (.pick (.t 10) (.t 14) (.c (.bool false))), zm 16 15, zw 16 true 17 (.fad (.t 1) 4), zw 16 true 18 (.ld false 1 (.t 17)), zw 16 true 19 (.iad 5 (.t 18) (zc 0)), zw 16 true 20 (.ld true 5 (.t 19)), ⟨some (16, true), some 21, .call (.c (.fn 96 [] [])) [((.t 20), zN)]⟩, zv 22 (.pick (.t 16) (.t 21) (.c (.bool false))), zm 2 22]
def k0ev : IC := (.seq qb9u (.seq qb90 .ret))
@[go_sem] def s0ev : List (RV × Co) := [(.t 2, .id)]
theorem c0ev : cFun Tryz.prog 52 = some (23, k0ev, s0ev) := by kernel_rfl

def qb0u : IC := zr [zv 2 zf]
def qboq : IC := zr [zm 3 0, zv 4 (.bin .neq .no (.t 3) (.c (.str []))), zm 5 4, zw 5 true 6 (.mov (.t 0)), zw 5 true 7 (.idx (.t 6) (zc 0)), ⟨some (5, true), some 8, .call (.c (.fn 97 [] [])) [((.t 7), .id)]⟩, zv 9 (.pick (.t 5) (.t 8) (.c (.bool false))), zm 10 9, zw 10 true 11 (.mov (.t 0)), ⟨some (10, true), some 12, .call (.c (.fn 98 [] [])) [((.t 11), .id)]⟩, zv 13 (.pick (.t 10) (.t 12) (.c (.bool false))), zm 2 13]
def k0eh : IC := (.seq qb0u (.seq qboq .ret))
@[go_sem] def s0eh : List (RV × Co) := [(.t 2, .id)]
theorem c0eh : cFun Tryz.prog 53 = some (14, k0eh, s0eh) := by kernel_rfl

def qbpm : IC := zr [zi 1 (.box (.t 0)), zv 2 zf]
def qb32 : IC := zr [zv 3 (.fad (.t 1) 0), zv 4 (.ld false 1 (.t 3)), zv 5 (.bin .eql .no (.t 4) (zc 1)), zm 6 5, zw 6 true 7 (.ld true 5 (.t 1)), ⟨some (6, true), some 8, .call (.c (.fn 57 [] [])) [((.t 7), zN)]⟩, zv 9 (.pick (.t 6) (.t 8) (.c (.bool false))), zm 2 9]
def k0ej : IC := (.seq qbpm (.seq qb32 .ret))
@[go_sem] def s0ej : List (RV × Co) := [(.t 2, .id)]
theorem c0ej : cFun Tryz.prog 54 = some (10, k0ej, s0ej) := by kernel_rfl

def qca1 : IC := zr [zi 1 (.box (.t 0)), zv 2 zf]
def qcb3 : IC := zr [zv 3 (.fad (.t 1) 0), zv 4 (.ld false 1 (.t 3)), zv 5 (.bin .eql .no (.t 4) (zc 34)), zm 6 5, zw 6 true 7 (.ld true 5 (.t 1)), ⟨some (6, true), some 8, .call (.c (.fn 93 [] [])) [((.t 7), zN), ((.c (.fn 53 [] [])), .id)]⟩, zv 9 (.pick (.t 6) (.t 8) (.c (.bool false))), zm 10 9, zw 10 true 11 (.fad (.t 1) 4), zw 10 true 12 (.ld false 1 (.t 11)), ⟨some (10, true), some 13, .call (.c (.fn 27 [] [])) [((.t 12), (.sl 5)), ((.c (.fn 57 [] [])), .id)]⟩, zv 14 (.pick (.t 10) (.t 13) (.c (.bool false))), zm 2 14]
def k0ek : IC := (.seq qca1 (.seq qcb3 .ret))
@[go_sem] def s0ek : List (RV × Co) := [(.t 2, .id)]
theorem c0ek : cFun Tryz.prog 55 = some (15, k0ek, s0ek) := by kernel_rfl

def qb62 : IC := zr [zi 1 (.box (.t 0)), zv 2 zf]
def qcc7 : IC := zr [zv 3 (.fad (.t 1) 0), zv 4 (.ld false 1 (.t 3)), zv 5 (.bin .eql .no (.t 4) (zc 3)), zm 6 5, zw 6 true 7 (.ld true 5 (.t 1)), ⟨some (6, true), some 8, .call (.c (.fn 93 [] [])) [((.t 7), zN), ((.c (.fn 53 [] [])), .id)]⟩, zv 9 (.pick (.t 6) (.t 8) (.c (.bool false))), zm 10 9, zw 10 true 11 (.fad (.t 1) 4), zw 10 true 12 (.ld false 1 (.t 11)), zw 10 true 13 (.len false (.t 12)), zw 10 true 14 (.bin .eql .no (.t 13) (zc 1)), zv 15 (.pick (.t 10) (.t 14) (.c (.bool false))), zm 16 15, zw 16 true 17 (.fad (.t 1) 4), zw 16 true 18 (.ld false 1 (.t 17)), zw 16 true 19 (.iad 5 (.t 18) (zc 0)), zw 16 true 20 (.ld true 5 (.t 19)), ⟨some (16, true), some 21, .call (.c (.fn 57 [] [])) [((.t 20), zN)]⟩, zv 22 (.pick (.t 16) (.t 21) (.c (.bool false))), zm 2 22]
def k0et : IC := (.seq qb62 (.seq qcc7 .ret))
@[go_sem] def s0et : List (RV × Co) := [(.t 2, .id)]
theorem c0et : cFun Tryz.prog 56 = some (23, k0et, s0et) := by kernel_rfl

def qca8 : IC := zr [zi 1 (.box (.t 0)), zv 2 zf]
def qcc1 : IC := zr [zv 4 (.fad (.t 1) 0), zv 5 (.ld false 1 (.t 4)), zv 6 (.bin .eql .no (.t 5) (zc 1)), zm 3 6]
def qbzu : IC := zr [zv 7 (.ld true 5 (.t 1)), zi 8 (.call (.c (.fn 93 [] [])) [((.t 7), zN), ((.c (.fn 94 [] [])), .id)]), zm 9 8, zw 9 true 10 (.fad (.t 1) 4), zw 9 true 11 (.ld false 1 (.t 10)), zw 9 true 12 (.len false (.t 11)), zw 9 true 13 (.bin .eql .no (.t 12) (zc 0)), zv 14 (.pick (.t 9) (.t 13) (.c (.bool false))), zm 2 14]
def qbvv : IC := zr [zv 16 (.fad (.t 1) 0), zv 17 (.ld false 1 (.t 16)), zv 18 (.bin .neq .no (.t 17) (zc 2)), zm 19 18, zw 19 false 20 (.fad (.t 1) 2), zw 19 false 21 (.ld false 1 (.t 20)), zw 19 false 22 (.bin .neq .no (.t 21) (zc 0)), zv 23 (.pick (.t 19) (.c (.bool true)) (.t 22)), zm 15 23]
def qb3f : IC := zr [zv 2 zf]
def qboz : IC := zr [zv 25 (.fad (.t 1) 3), zv 26 (.ld false 1 (.t 25)), zv 27 (.bin .eql .no (.t 26) (.c (.str [45, 62]))), zm 24 27]
def qbub : IC := zr [zv 28 (.fad (.t 1) 4), zv 29 (.ld false 1 (.t 28)), zv 30 (.len false (.t 29)), zv 31 (.bin .eql .no (.t 30) (zc 2)), zm 32 31, zw 32 true 33 (.fad (.t 1) 4), zw 32 true 34 (.ld false 1 (.t 33)), ⟨some (32, true), some 35, .call (.c (.fn 27 [] [])) [((.t 34), (.sl 5)), ((.c (.fn 57 [] [])), .id)]⟩, zv 36 (.pick (.t 32) (.t 35) (.c (.bool false))), zm 2 36]
def qb7g : IC := zr [zv 37 (.fad (.t 1) 3), zv 38 (.ld false 1 (.t 37)), zi 39 (.call (.c (.fn 53 [] [])) [((.t 38), .id)]), zm 40 39, zw 40 true 41 (.fad (.t 1) 4), zw 40 true 42 (.ld false 1 (.t 41)), ⟨some (40, true), some 43, .call (.c (.fn 27 [] [])) [((.t 42), (.sl 5)), ((.c (.fn 57 [] [])), .id)]⟩, zv 44 (.pick (.t 40) (.t 43) (.c (.bool false))), zm 2 44]
def k0er : IC := (.seq qca8 (.seq (.block 0 (.seq qcc1 (.cond (.t 3) (.seq qbzu .ret) (.seq qbvv (.cond (.t 15) (.seq qb3f .ret) (.seq qboz (.cond (.t 24) (.seq qbub .ret) .skip))))))) (.seq qb7g .ret)))
@[go_sem] def s0er : List (RV × Co) := [(.t 2, .id)]
theorem c0er : cFun Tryz.prog 57 = some (45, k0er, s0er) := by kernel_rfl

def qbox : IC := zr [zi 1 (.box (.t 0)), zv 2 (.mov (.c .nilf))]
def qcbx : IC := zr [zv 3 (.mfn 99 [] [(.t 1)]), zm 2 3]
def k0dg : IC := (.seq qbox (.seq qcbx .ret))
@[go_sem] def s0dg : List (RV × Co) := [(.t 2, .id)]
theorem c0dg : cFun Tryz.prog 58 = some (4, k0dg, s0dg) := by kernel_rfl

def qb8l : IC := zr [zv 4 zf]
def qbvf : IC := zr [zm 5 0, zi 6 (.call (.c (.fn 39 [] [])) [((.t 5), .id)]), zv 7 (.un .not (.t 6)), zm 8 7, zw 8 true 9 (.mov (.t 0)), ⟨some (8, true), some 10, .call (.c (.fn 19 [] [])) [((.t 9), .id)]⟩, zw 8 true 11 (.mov (.t 1)), zw 8 true 12 (.bsl 1 [((.t 11), .id)]), ⟨some (8, true), some 13, .call (.c (.fn 102 [] [])) [((.t 10), .id), ((.t 12), (.sl 1))]⟩, zv 14 (.pick (.t 8) (.t 13) (.c (.bool false))), zm 4 14]
def k0cx : IC := (.seq qb8l (.seq qbvf .ret))
@[go_sem] def s0cx : List (RV × Co) := [(.t 4, .id)]
theorem c0cx : cFun Tryz.prog 59 = some (15, k0cx, s0cx) := by kernel_rfl

def qb0t : IC := zr [zi 2 zaT]
def qbz6 : IC := zr [zm 4 0, zi 5 (.call (.c (.fn 19 [] [])) [((.t 4), .id)]), zi 3 zaT, zn (.st 4 .id (.t 3) (.t 5))]
def qbni : IC := .drw [zp (zm 6 0), (zi 7 (.call (.c (.fn 39 [] [])) [((.t 6), .id)]), []), zp (zv 8 (.un .not (.t 7))), zp (zm 9 8), zp (zw 9 true 10 (.mov (.t 0))), zp (zw 9 true 11 (.nck (.t 10))), zp (zw 9 true 12 (.fad (.t 11) 5)), zp (zw 9 true 13 (.ld false 1 (.t 12))), zp (zw 9 true 14 (.mov (.t 0))), zp (zw 9 true 15 (.nck (.t 14))), zp (zw 9 true 16 (.fad (.t 15) 0)), zp (zw 9 true 17 (.ld false 1 (.t 16))), zp (zw 9 true 18 (.len false (.t 17))), zp (zw 9 true 19 (.bin .lss .no (.t 13) (.t 18))), zp (zv 20 (.pick (.t 9) (.t 19) (.c (.bool false))))]
def qb3t : IC := zr [zm 21 0, zv 22 (.nck (.t 21)), zv 23 (.fad (.t 22) 5), zv 24 (.ld false 1 (.t 23)), zv 25 (.bin .add .no (.t 24) (zc 1)), zv 26 (.nck (.t 21)), zv 27 (.fad (.t 26) 5), zn (.st 1 .id (.t 27) (.t 25))]
def qbrz : IC := zr [zv 28 (.ld true 4 (.t 3)), zn (.st 4 .id (.t 2) (.t 28))]
def k0cw : IC := (.seq qb0t (.seq qbz6 (.seq (.seq qbni (.cond (.t 20) qb3t .skip)) (.seq qbrz .ret))))
@[go_sem] def s0cw : List (RV × Co) := [(.c true 4 2, .id)]
theorem c0cw : cFun Tryz.prog 60 = some (29, k0cw, s0cw) := by kernel_rfl

def qbok : IC := zr [zi 4 zaT, zv 5 zf]
def qb89 : IC := zr [zm 6 0, zi 7 (.call (.c (.fn 39 [] [])) [((.t 6), .id)]), zm 8 7, zw 8 false 9 (.mov (.t 0)), ⟨some (8, false), some 10, .call (.c (.fn 19 [] [])) [((.t 9), .id)]⟩, zw 8 false 11 (.fld false 1 0 (.t 10)), zw 8 false 12 (.mov (.t 1)), zw 8 false 13 (.bin .neq .no (.t 11) (.t 12)), zv 14 (.pick (.t 8) (.c (.bool true)) (.t 13))]
def qb3k : IC := zr [zv 15 (.bld [(.int .i64 0), (.int .i64 0), (.int .i64 0), (.str [])] []), zm 16 0, zi 17 (.call (.c (.fn 69 [] [])) [((.t 16), .id), ((zc 5), .id)]), zn (.st 4 .id (.t 4) (.t 15)), zm 5 17]
def qbvb : IC := zr [zm 18 0, zi 19 (.call (.c (.fn 60 [] [])) [((.t 18), .id)]), zn (.st 4 .id (.t 4) (.t 19)), zv 5 (.mov (.c (.bool true)))]
def k0fg : IC := (.seq qbok (.seq (.seq qb89 (.cond (.t 14) (.seq qb3k .ret) .skip)) (.seq qbvb .ret)))
@[go_sem] def s0fg : List (RV × Co) := [(.c true 4 4, .id), (.t 5, .id)]
theorem c0fg : cFun Tryz.prog 61 = some (20, k0fg, s0fg) := by kernel_rfl

def qb59 : IC := zr [zi 1 zaN, zv 2 zf]
def qcax : IC := zr [zv 3 (.ld false 1 (.t 0)), zi 4 (.call (.c (.fn 63 [] [])) [((.t 3), .id)]), zv 5 (.ext (.t 4) 0), zv 6 (.ext (.t 4) 1), zn (.st 5 zN (.t 1) (.t 5)), zm 2 6]
def k0bd : IC := (.seq qb59 (.seq qcax .ret))
@[go_sem] def s0bd : List (RV × Co) := [(.c true 5 1, zN), (.t 2, .id)]
theorem c0bd : cFun Tryz.prog 62 = some (7, k0bd, s0bd) := by kernel_rfl

def qcdp : IC := zr [zi 2 zaN, zv 3 zf]
def qbuy : IC := zr [zm 7 0, zi 8 (.call (.c (.fn 19 [] [])) [((.t 7), .id)]), zi 4 zaT, zn (.st 4 .id (.t 4) (.t 8))]
def qb2a : IC := zr [zv 10 (.fad (.t 4) 0), zv 11 (.ld false 1 (.t 10)), zv 12 (.bin .eql .no (.t 11) (zc 1)), zm 9 12]
def qcdd : IC := zr [zm 13 0, zi 14 (.call (.c (.fn 60 [] [])) [((.t 13), .id)])]
def qccq : IC := zr [zv 15 (.fad (.t 4) 1), zv 16 (.ld false 1 (.t 15)), zv 17 (.fad (.t 4) 3), zv 18 (.ld false 1 (.t 17)), zv 19 (.bld [(.int .i64 0), (.int .i64 0), (.int .i64 0), (.str []), .nils] [(0, 1, (zc 1)), (1, 1, (.t 16)), (3, 1, (.t 18))]), zn (.st 5 zN (.t 2) (.t 19)), zv 3 (.mov (.c (.bool true)))]
def qbwx : IC := zr [zv 21 (.fad (.t 4) 0), zv 22 (.ld false 1 (.t 21)), zv 23 (.bin .eql .no (.t 22) (zc 2)), zm 20 23]
def qb4s : IC := zr [zm 24 0, zi 25 (.call (.c (.fn 60 [] [])) [((.t 24), .id)])]
def qbw4 : IC := zr [zv 26 (.fad (.t 4) 1), zv 27 (.ld false 1 (.t 26)), zv 28 (.fad (.t 4) 3), zv 29 (.ld false 1 (.t 28)), zv 30 (.bld [(.int .i64 0), (.int .i64 0), (.int .i64 0), (.str []), .nils] [(0, 1, (zc 2)), (1, 1, (.t 27)), (3, 1, (.t 29))]), zn (.st 5 zN (.t 2) (.t 30)), zv 3 (.mov (.c (.bool true)))]
def qbvu : IC := zr [zm 32 0, zi 33 (.call (.c (.fn 59 [] [])) [((.t 32), .id), ((.c (.str [40])), .id)]), zv 34 (.un .not (.t 33)), zm 31 34]
def qbzn : IC := zr [zv 35 (.bld [(.int .i64 0), (.int .i64 0), (.int .i64 0), (.str []), .nils] []), zm 36 0, zi 37 (.call (.c (.fn 69 [] [])) [((.t 36), .id), ((zc 5), .id)]), zn (.st 5 zN (.t 2) (.t 35)), zm 3 37]
def qblk : IC := zr [zm 38 0, zi 39 (.call (.c (.fn 103 [] [])) [((.t 38), .id)]), zv 40 (.un .not (.t 39))]
def qbkp : IC := zr [zv 41 (.bld [(.int .i64 0), (.int .i64 0), (.int .i64 0), (.str []), .nils] []), zn (.st 5 zN (.t 2) (.t 41)), zv 3 zf]
def qbjp : IC := zr [zm 42 0, zi 43 (.call (.c (.fn 60 [] [])) [((.t 42), .id)])]
def qbgf : IC := zr [zm 45 0, zi 46 (.call (.c (.fn 104 [] [])) [((.t 45), .id)]), zm 44 46, zv 47 (.ext (.t 44) 0), zv 48 (.ext (.t 44) 1), zi 5 zaN, zn (.st 5 zN (.t 5) (.t 47)), zm 6 48]
def qbe3 : IC := zr [zm 49 6, zm 50 49, zw 50 true 51 (.mov (.t 0)), ⟨some (50, true), some 52, .call (.c (.fn 65 [] [])) [((.t 51), .id), ((.c (.str [41])), .id)]⟩, zv 53 (.pick (.t 50) (.t 52) (.c (.bool false))), zm 6 53]
def qbib : IC := zr [zm 54 0, zi 55 (.call (.c (.fn 105 [] [])) [((.t 54), .id)])]
def qbkk : IC := zr [zm 56 0, zv 57 (.ld true 5 (.t 5)), zm 58 6, zi 59 (.call (.c (.fn 106 [] [])) [((.t 56), .id), ((.t 57), zN), ((.t 58), .id)]), zv 60 (.ext (.t 59) 0), zv 61 (.ext (.t 59) 1), zn (.st 5 zN (.t 2) (.t 60)), zm 3 61]
def k0ce : IC := (.seq qcdp (.seq (.seq qbuy (.block 0 (.seq qb2a (.cond (.t 9) (.seq qcdd (.seq qccq .ret)) (.seq qbwx (.cond (.t 20) (.seq qb4s (.seq qbw4 .ret)) (.seq qbvu (.cond (.t 31) (.seq qbzn .ret) .skip)))))))) (.seq (.seq qblk (.cond (.t 40) (.seq qbkp .ret) .skip)) (.seq qbjp (.seq qbgf (.seq qbe3 (.seq qbib (.seq qbkk .ret))))))))
@[go_sem] def s0ce : List (RV × Co) := [(.c true 5 2, zN), (.t 3, .id)]
theorem c0ce : cFun Tryz.prog 63 = some (62, k0ce, s0ce) := by kernel_rfl

def qcai : IC := zr [zv 1 zf]
def qbv6 : IC := zr [zv 2 (.ld false 1 (.t 0)), zi 3 (.call (.c (.fn 19 [] [])) [((.t 2), .id)]), zv 4 (.fld false 1 0 (.t 3)), zv 5 (.bin .eql .no (.t 4) (zc 1)), zm 1 5]
def k0be : IC := (.seq qcai (.seq qbv6 .ret))
@[go_sem] def s0be : List (RV × Co) := [(.t 1, .id)]
theorem c0be : cFun Tryz.prog 64 = some (6, k0be, s0be) := by kernel_rfl

def qb54 : IC := zr [zv 4 zf]
def qbv2 : IC := zr [zm 5 0, zm 6 1, zi 7 (.call (.c (.fn 35 [] [])) [((.t 5), .id), ((.t 6), .id)]), zm 8 7, zw 8 false 9 (.mov (.t 0)), ⟨some (8, false), some 10, .call (.c (.fn 69 [] [])) [((.t 9), .id), ((zc 5), .id)]⟩, zv 11 (.pick (.t 8) (.c (.bool true)) (.t 10)), zm 4 11]
def k0da : IC := (.seq qb54 (.seq qbv2 .ret))
@[go_sem] def s0da : List (RV × Co) := [(.t 4, .id)]
theorem c0da : cFun Tryz.prog 65 = some (12, k0da, s0da) := by kernel_rfl

def qchy : IC := zr [zi 1 zaN, zv 2 zf]
def qcj7 : IC := zr [zv 3 (.ld false 1 (.t 0)), zi 4 (.call (.c (.fn 67 [] [])) [((.t 3), .id)]), zv 5 (.ext (.t 4) 0), zv 6 (.ext (.t 4) 1), zn (.st 5 zN (.t 1) (.t 5)), zm 2 6]
def k0w : IC := (.seq qchy (.seq qcj7 .ret))
@[go_sem] def s0w : List (RV × Co) := [(.c true 5 1, zN), (.t 2, .id)]
theorem c0w : cFun Tryz.prog 66 = some (7, k0w, s0w) := by kernel_rfl

def qbzc : IC := zr [zi 1 (.box (.t 0)), zi 2 zaN, zv 3 zf]
def qb0e : IC := zr [zv 8 (.ld false 1 (.t 1)), zi 9 (.call (.c (.fn 61 [] [])) [((.t 8), .id), ((zc 2), .id)]), zm 7 9, zv 10 (.ext (.t 7) 0), zv 11 (.ext (.t 7) 1), zi 4 zaT, zn (.st 4 .id (.t 4) (.t 10)), zm 5 11]
def qbsv : IC := zr [zm 12 5, zv 13 (.un .not (.t 12))]
def qccr : IC := zr [zv 14 (.bld [(.int .i64 0), (.int .i64 0), (.int .i64 0), (.str []), .nils] []), zn (.st 5 zN (.t 2) (.t 14)), zv 3 zf]
def qcba : IC := zr [zv 15 (.fad (.t 4) 1), zv 16 (.ld false 1 (.t 15)), zv 17 (.fad (.t 4) 3), zv 18 (.ld false 1 (.t 17)), zv 19 (.bld [(.int .i64 0), (.int .i64 0), (.int .i64 0), (.str []), .nils] [(0, 1, (zc 34)), (1, 1, (.t 16)), (3, 1, (.t 18))]), zi 6 zaN, zn (.st 5 zN (.t 6) (.t 19))]
def qbxo : IC := zr [zv 21 (.mfn 107 [] [(.t 1)]), zv 22 (.mfn 108 [] [(.t 1)]), zi 23 (.call (.c (.fn 15 [] [])) [((.c .nils), (.sl 5)), ((.t 21), .id), ((.t 22), .id)]), zm 20 23, zv 24 (.ext (.t 20) 0), zv 25 (.ext (.t 20) 1), zv 26 (.fad (.t 6) 4), zn (.st 1 (.sl 5) (.t 26) (.t 24)), zm 5 25]
def qb5j : IC := zr [zv 27 (.ld true 5 (.t 6)), zm 28 5, zn (.st 5 zN (.t 2) (.t 27)), zm 3 28]
def k0bf : IC := (.seq qbzc (.seq qb0e (.seq (.seq qbsv (.cond (.t 13) (.seq qccr .ret) .skip)) (.seq qcba (.seq qbxo (.seq qb5j .ret))))))
@[go_sem] def s0bf : List (RV × Co) := [(.c true 5 2, zN), (.t 3, .id)]
theorem c0bf : cFun Tryz.prog 67 = some (29, k0bf, s0bf) := by kernel_rfl

def qcdb : IC := zr [zv 2 (.mov (.c .nils)), zv 3 zf]
def qbs6 : IC := zr [zm 9 0, zi 10 (.call (.c (.fn 110 [] [])) [((.t 9), .id), ((.c (.str [61, 62])), .id)]), zv 11 (.un .not (.t 10))]
def qb0r : IC := zr [zm 12 0, zi 13 (.call (.c (.fn 111 [] [])) [((.t 12), .id)]), zv 14 (.un .not (.t 13)), zv 2 (.mov (.c .nils)), zm 3 14]
def qbm7 : IC := zr [zv 4 (.mov (.c .nils))]
def qcau : IC := zr [zm 15 0, zi 16 (.call (.c (.fn 35 [] [])) [((.t 15), .id), ((.c (.str [40])), .id)]), zm 5 16]
def qb8p : IC := zr [zm 17 5, zv 18 (.un .not (.t 17)), zm 19 18, zw 19 false 20 (.mov (.t 0)), ⟨some (19, false), some 21, .call (.c (.fn 59 [] [])) [((.t 20), .id), ((.c (.str [41])), .id)]⟩, zw 19 false 22 (.un .not (.t 21)), zv 23 (.pick (.t 19) (.c (.bool true)) (.t 22)), zm 6 23]
def qbve : IC := zr [zm 24 6]
def qbwu : IC := zr [zm 26 0, zi 27 (.call (.c (.fn 112 [] [])) [((.t 26), .id)]), zm 25 27, zv 28 (.ext (.t 25) 0), zv 29 (.ext (.t 25) 1), zi 7 zaN, zn (.st 5 zN (.t 7) (.t 28)), zm 8 29]
def qbx3 : IC := zr [zm 30 8, zv 31 (.un .not (.t 30))]
def qbkz : IC := zr [zv 2 (.mov (.c .nils)), zv 3 zf]
def qbd6 : IC := zr [zm 32 4, zv 33 (.ld true 5 (.t 7)), zv 34 (.bsl 5 [((.t 33), zN)]), zi 35 (.app 5 zZ 64 (.sl 5) (.t 32) (.t 34)), zm 4 35]
def qbe4 : IC := zr [zm 36 5, zm 37 36, zw 37 true 38 (.mov (.t 0)), ⟨some (37, true), some 39, .call (.c (.fn 35 [] [])) [((.t 38), .id), ((.c (.str [44])), .id)]⟩, zv 40 (.pick (.t 37) (.t 39) (.c (.bool false))), zm 6 40]
def qbvo : IC := (.seq (.seq qbve (.cond (.t 24) .skip (.exit 0))) (.block 1 (.seq qbwu (.seq (.seq qbx3 (.cond (.t 31) (.seq qbkz .ret) .skip)) (.seq qbd6 qbe4)))))
def qbjx : IC := zr [zm 41 5, zm 42 41, zw 42 true 43 (.mov (.t 0)), ⟨some (42, true), some 44, .call (.c (.fn 65 [] [])) [((.t 43), .id), ((.c (.str [41])), .id)]⟩, zw 42 true 45 (.un .not (.t 44)), zv 46 (.pick (.t 42) (.t 45) (.c (.bool false))), zm 47 46, zw 47 false 48 (.mov (.t 0)), ⟨some (47, false), some 49, .call (.c (.fn 65 [] [])) [((.t 48), .id), ((.c (.str [61, 62])), .id)]⟩, zw 47 false 50 (.un .not (.t 49)), zv 51 (.pick (.t 47) (.c (.bool true)) (.t 50))]
def qblo : IC := zr [zv 2 (.mov (.c .nils)), zv 3 zf]
def qbh9 : IC := zr [zm 52 4, zm 2 52, zv 3 (.mov (.c (.bool true)))]
def k0bz : IC := (.seq qcdb (.seq (.seq qbs6 (.cond (.t 11) (.seq qb0r .ret) .skip)) (.seq qbm7 (.seq qcau (.seq (.seq qb8p (.block 0 (.loop qbvo))) (.seq (.seq qbjx (.cond (.t 51) (.seq qblo .ret) .skip)) (.seq qbh9 .ret)))))))
@[go_sem] def s0bz : List (RV × Co) := [(.t 2, (.sl 5)), (.t 3, .id)]
theorem c0bz : cFun Tryz.prog 68 = some (53, k0bz, s0bz) := by kernel_rfl

def qb99 : IC := zr [zv 4 zf]
def qb25 : IC := zr [zm 5 0, zi 6 (.call (.c (.fn 39 [] [])) [((.t 5), .id)]), zv 7 (.un .not (.t 6))]
def qbym : IC := zr [zm 8 1, zv 9 (.bin .eql .no (.t 8) (zc 0))]
def qbvg : IC := zr [zv 1 (.mov (zc 1))]
def qbz5 : IC := zr [zm 10 0, zm 11 0, zi 12 (.call (.c (.fn 19 [] [])) [((.t 11), .id)]), zv 13 (.fld false 1 1 (.t 12)), zv 14 (.nck (.t 10)), zv 15 (.fad (.t 14) 8), zn (.st 1 .id (.t 15) (.t 13))]
def qb0d : IC := zr [zm 16 0, zm 17 1, zv 18 (.nck (.t 16)), zv 19 (.fad (.t 18) 7), zn (.st 1 .id (.t 19) (.t 17))]
def qbyu : IC := zr [zv 4 zf]
def k0cy : IC := (.seq qb99 (.seq (.seq qb25 (.cond (.t 7) (.seq (.seq qbym (.cond (.t 9) qbvg .skip)) (.seq qbz5 qb0d)) .skip)) (.seq qbyu .ret)))
@[go_sem] def s0cy : List (RV × Co) := [(.t 4, .id)]
theorem c0cy : cFun Tryz.prog 69 = some (20, k0cy, s0cy) := by kernel_rfl

def qcev : IC := zr [zi 3 (.box (.t 0)), zi 5 (.box (.t 2)), zv 6 (.mov (.c .nils)), zv 7 zf]
def qch9 : IC := zr [zv 10 (.ld false 1 (.t 3)), zi 11 (.call (.c (.fn 65 [] [])) [((.t 10), .id), ((.c (.str [119, 104, 101, 114, 101])), .id)]), zv 12 (.un .not (.t 11)), zm 13 12, zw 13 false 14 (.ld false 1 (.t 3)), ⟨some (13, false), some 15, .call (.c (.fn 65 [] [])) [((.t 14), .id), ((.c (.str [123])), .id)]⟩, zw 13 false 16 (.un .not (.t 15)), zv 17 (.pick (.t 13) (.c (.bool true)) (.t 16))]
def qcjr : IC := zr [zm 18 1, zm 6 18, zv 7 zf]
def qci8 : IC := zr [zv 19 (.ld false 1 (.t 3)), zi 20 (.call (.c (.fn 14 [] [])) [((.t 19), .id), ((.c (.str [59])), .id)]), zi 8 (.alo [.nilf]), zn (.st 1 .id (.t 8) (.t 20))]
def qclb : IC := zr [zm 22 1, zv 23 (.mfn 113 [] [(.t 3), (.t 5)]), zv 24 (.mfn 115 [] [(.t 3), (.t 8)]), zi 25 (.call (.c (.fn 15 [] [])) [((.t 22), (.sl 5)), ((.t 23), .id), ((.t 24), .id)]), zm 21 25, zv 26 (.ext (.t 21) 0), zv 27 (.ext (.t 21) 1), zm 1 26, zm 9 27]
def qbm3 : IC := zr [zm 28 1, zm 29 9, zm 30 29, zw 30 true 31 (.ld false 1 (.t 3)), ⟨some (30, true), some 32, .call (.c (.fn 65 [] [])) [((.t 31), .id), ((.c (.str [125])), .id)]⟩, zv 33 (.pick (.t 30) (.t 32) (.c (.bool false))), zm 6 28, zm 7 33]
def k0v : IC := (.seq qcev (.seq (.seq qch9 (.cond (.t 17) (.seq qcjr .ret) .skip)) (.seq qci8 (.seq qclb (.seq qbm3 .ret)))))
@[go_sem] def s0v : List (RV × Co) := [(.t 6, (.sl 5)), (.t 7, .id)]
theorem c0v : cFun Tryz.prog 70 = some (34, k0v, s0v) := by kernel_rfl

def qb3p : IC := zr [zi 2 zaN, zv 3 zf]
def qb9p : IC := zr [zm 8 0, zi 9 (.call (.c (.fn 19 [] [])) [((.t 8), .id)]), zv 10 (.fld false 1 1 (.t 9)), zv 11 (.bld [(.int .i64 0), (.int .i64 0), (.int .i64 0), (.str []), .nils] [(0, 1, (zc 4)), (1, 1, (.t 10))]), zi 4 zaN, zn (.st 5 zN (.t 4) (.t 11))]
def qccw : IC := zr [zm 13 0, zi 14 (.call (.c (.fn 68 [] [])) [((.t 13), .id)]), zm 12 14, zv 15 (.ext (.t 12) 0), zv 16 (.ext (.t 12) 1), zm 5 15, zm 6 16]
def qbup : IC := zr [zm 17 6, zv 18 (.un .not (.t 17))]
def qbrl : IC := zr [zv 19 (.bld [(.int .i64 0), (.int .i64 0), (.int .i64 0), (.str []), .nils] []), zn (.st 5 zN (.t 2) (.t 19)), zv 3 zf]
def qbsq : IC := zr [zm 21 0, zi 22 (.call (.c (.fn 104 [] [])) [((.t 21), .id)]), zm 20 22, zv 23 (.ext (.t 20) 0), zv 24 (.ext (.t 20) 1), zi 7 zaN, zn (.st 5 zN (.t 7) (.t 23)), zm 6 24]
def qced : IC := zr [zm 25 5, zv 26 (.ld true 5 (.t 7)), zv 27 (.bsl 5 [((.t 26), zN)]), zi 28 (.app 5 zZ 64 (.sl 5) (.t 25) (.t 27)), zv 29 (.fad (.t 4) 4), zn (.st 1 (.sl 5) (.t 29) (.t 28))]
def qcc2 : IC := zr [zm 30 0, zv 31 (.ld true 5 (.t 4)), zm 32 6, zi 33 (.call (.c (.fn 106 [] [])) [((.t 30), .id), ((.t 31), zN), ((.t 32), .id)]), zv 34 (.ext (.t 33) 0), zv 35 (.ext (.t 33) 1), zn (.st 5 zN (.t 2) (.t 34)), zm 3 35]
def k0by : IC := (.seq qb3p (.seq qb9p (.seq qccw (.seq (.seq qbup (.cond (.t 18) (.seq qbrl .ret) .skip)) (.seq qbsq (.seq qced (.seq qcc2 .ret)))))))
@[go_sem] def s0by : List (RV × Co) := [(.c true 5 2, zN), (.t 3, .id)]
theorem c0by : cFun Tryz.prog 71 = some (36, k0by, s0by) := by kernel_rfl

def qcdq : IC := zr [zi 4 zaN, zv 5 zf]
def qb5m : IC := zr [zm 9 0, zi 10 (.call (.c (.fn 19 [] [])) [((.t 9), .id)]), zv 11 (.fld false 1 0 (.t 10)), zv 12 (.bin .neq .no (.t 11) (zc 1))]
def qb9n : IC := zr [zm 13 0, zm 14 1, zi 15 (.call (.c (.fn 65 [] [])) [((.t 13), .id), ((.t 14), .id)]), zv 16 (.un .not (.t 15))]
def qceh : IC := zr [zv 17 (.bld [(.int .i64 0), (.int .i64 0), (.int .i64 0), (.str []), .nils] []), zn (.st 5 zN (.t 4) (.t 17)), zv 5 zf]
def qbwa : IC := zr [zm 18 0, zi 19 (.call (.c (.fn 116 [] [])) [((.t 18), .id)]), zv 20 (.ext (.t 19) 0), zv 21 (.ext (.t 19) 1), zn (.st 5 zN (.t 4) (.t 20)), zm 5 21]
def qbn9 : IC := zr [zm 22 0, zi 23 (.call (.c (.fn 60 [] [])) [((.t 22), .id)]), zi 6 zaT, zn (.st 4 .id (.t 6) (.t 23))]
def qb53 : IC := zr [zm 25 0, zm 26 1, zi 27 (.call (.c (.fn 72 [] [])) [((.t 25), .id), ((.t 26), .id)]), zm 24 27, zv 28 (.ext (.t 24) 0), zv 29 (.ext (.t 24) 1), zi 7 zaN, zn (.st 5 zN (.t 7) (.t 28)), zm 8 29]
def qbyf : IC := zr [zv 30 (.fad (.t 6) 1), zv 31 (.ld false 1 (.t 30)), zv 32 (.fad (.t 6) 3), zv 33 (.ld false 1 (.t 32)), zv 34 (.ld true 5 (.t 7)), zv 35 (.bsl 5 [((.t 34), zN)]), zv 36 (.bld [(.int .i64 0), (.int .i64 0), (.int .i64 0), (.str []), .nils] [(0, 1, (zc 25)), (1, 1, (.t 31)), (3, 1, (.t 33)), (4, 1, (.t 35))]), zm 37 8, zn (.st 5 zN (.t 4) (.t 36)), zm 5 37]
def k0bp : IC := (.seq qcdq (.seq (.seq qb5m (.cond (.t 12) (.seq (.seq qb9n (.cond (.t 16) (.seq qceh .ret) .skip)) (.seq qbwa .ret)) .skip)) (.seq qbn9 (.seq qb53 (.seq qbyf .ret)))))
@[go_sem] def s0bp : List (RV × Co) := [(.c true 5 4, zN), (.t 5, .id)]
theorem c0bp : cFun Tryz.prog 72 = some (38, k0bp, s0bp) := by kernel_rfl

def qb9l : IC := zr [zv 2 zf]
def qbtm : IC := zr [zm 3 0, zv 4 (.bin .geq .no (.t 3) (.c (.int .u8 48))), zm 5 4, zw 5 true 6 (.mov (.t 0)), zw 5 true 7 (.bin .leq .no (.t 6) (.c (.int .u8 57))), zv 8 (.pick (.t 5) (.t 7) (.c (.bool false))), zm 2 8]
def k0ec : IC := (.seq qb9l (.seq qbtm .ret))
@[go_sem] def s0ec : List (RV × Co) := [(.t 2, .id)]
theorem c0ec : cFun Tryz.prog 73 = some (9, k0ec, s0ec) := by kernel_rfl

def qcdk : IC := zr [zv 2 (.mov (zc 0)), zv 3 (.mov (zc 0))]
def qbqk : IC := zr [zm 8 0, zv 9 (.bin .eql .no (.t 8) (.c (.str [])))]
def qb9a : IC := zr [zv 2 (.mov (zc 0)), zv 3 (.mov (zc 5))]
def qb0g : IC := zr [zv 4 (.mov (zc 0))]
def qbo2 : IC := zr [zm 10 4, zm 11 0, zv 12 (.len true (.t 11)), zv 13 (.bin .lss .no (.t 10) (.t 12))]
def qbtn : IC := zr [zm 16 0, zm 17 4, zv 18 (.idx (.t 16) (.t 17)), zv 19 (.bin .lss .no (.t 18) (.c (.int .u8 48))), zm 20 19, zw 20 false 21 (.mov (.t 0)), zw 20 false 22 (.mov (.t 4)), zw 20 false 23 (.idx (.t 21) (.t 22)), zw 20 false 24 (.bin .gtr .no (.t 23) (.c (.int .u8 57))), zv 25 (.pick (.t 20) (.c (.bool true)) (.t 24))]
def qb7b : IC := zr [zv 2 (.mov (zc 0)), zv 3 (.mov (zc 5))]
def qbqy : IC := zr [zm 14 4, zv 15 (.bin .add .no (.t 14) (zc 1)), zm 4 15]
def qbu6 : IC := (.seq (.seq qbo2 (.cond (.t 13) .skip (.exit 0))) (.seq (.block 1 (.seq qbtn (.cond (.t 25) (.seq qb7b .ret) .skip))) qbqy))
def qbdf : IC := zr [zv 5 (.mov (zc 0))]
def qbc9 : IC := zr [zv 6 (.mov (zc 0))]
def qbjo : IC := zr [zm 26 6, zm 27 0, zv 28 (.len true (.t 27)), zv 29 (.bin .lss .no (.t 26) (.t 28))]
def qble : IC := zr [zm 32 0, zm 33 6, zv 34 (.idx (.t 32) (.t 33)), zv 35 (.bin .sub .no (.t 34) (.c (.int .u8 48))), zv 36 (.cvi .i64 (.t 35)), zm 7 36]
def qbhz : IC := zr [zm 37 5, zm 38 7, zv 39 (.bin .sub .no (zc 9223372036854775807) (.t 38)), zv 40 (.bin .quo .no (.t 39) (zc 10)), zv 41 (.bin .gtr .no (.t 37) (.t 40))]
def qbcu : IC := zr [zv 2 (.mov (zc 0)), zv 3 (.mov (zc 4))]
def qbkr : IC := zr [zm 42 5, zv 43 (.bin .mul .no (zc 10) (.t 42)), zm 44 7, zv 45 (.bin .add .no (.t 43) (.t 44)), zm 5 45]
def qbe6 : IC := zr [zm 30 6, zv 31 (.bin .add .no (.t 30) (zc 1)), zm 6 31]
def qbj9 : IC := (.seq (.seq qbjo (.cond (.t 29) .skip (.exit 2))) (.seq (.block 3 (.seq qble (.seq (.seq qbhz (.cond (.t 41) (.seq qbcu .ret) .skip)) qbkr))) qbe6))
def qbir : IC := zr [zm 46 5, zm 2 46, zv 3 (.mov (zc 0))]
def k0dw : IC := (.seq qcdk (.seq (.seq qbqk (.cond (.t 9) (.seq qb9a .ret) .skip)) (.seq (.seq qb0g (.block 0 (.loop qbu6))) (.seq qbdf (.seq (.seq qbc9 (.block 2 (.loop qbj9))) (.seq qbir .ret))))))
@[go_sem] def s0dw : List (RV × Co) := [(.t 2, .id), (.t 3, .id)]
theorem c0dw : cFun Tryz.prog 74 = some (47, k0dw, s0dw) := by kernel_rfl

def qb61 : IC := zr [zv 2 zf]
def qbun : IC := zr [zm 3 0, zv 4 (.bin .geq .no (.t 3) (.c (.int .u8 97))), zm 5 4, zw 5 true 6 (.mov (.t 0)), zw 5 true 7 (.bin .leq .no (.t 6) (.c (.int .u8 122))), zv 8 (.pick (.t 5) (.t 7) (.c (.bool false))), zm 9 8, zw 9 false 10 (.mov (.t 0)), zw 9 false 11 (.bin .eql .no (.t 10) (.c (.int .u8 95))), zv 12 (.pick (.t 9) (.c (.bool true)) (.t 11)), zm 2 12]
def k0dz : IC := (.seq qb61 (.seq qbun .ret))
@[go_sem] def s0dz : List (RV × Co) := [(.t 2, .id)]
theorem c0dz : cFun Tryz.prog 75 = some (13, k0dz, s0dz) := by kernel_rfl

def qb15 : IC := zr [zv 2 zf]
def qbsd : IC := zr [zm 3 0, zv 4 (.bin .geq .no (.t 3) (.c (.int .u8 65))), zm 5 4, zw 5 true 6 (.mov (.t 0)), zw 5 true 7 (.bin .leq .no (.t 6) (.c (.int .u8 90))), zv 8 (.pick (.t 5) (.t 7) (.c (.bool false))), zm 2 8]
def k0eb : IC := (.seq qb15 (.seq qbsd .ret))
@[go_sem] def s0eb : List (RV × Co) := [(.t 2, .id)]
theorem c0eb : cFun Tryz.prog 76 = some (9, k0eb, s0eb) := by kernel_rfl

def qbn5 : IC := zr [zv 2 zf]
def qbo9 : IC := zr [zm 3 0, zi 4 (.call (.c (.fn 75 [] [])) [((.t 3), .id)]), zm 5 4, zw 5 false 6 (.mov (.t 0)), ⟨some (5, false), some 7, .call (.c (.fn 76 [] [])) [((.t 6), .id)]⟩, zv 8 (.pick (.t 5) (.c (.bool true)) (.t 7)), zm 9 8, zw 9 false 10 (.mov (.t 0)), ⟨some (9, false), some 11, .call (.c (.fn 73 [] [])) [((.t 10), .id)]⟩, zv 12 (.pick (.t 9) (.c (.bool true)) (.t 11)), zm 13 12, zw 13 false 14 (.mov (.t 0)), zw 13 false 15 (.bin .eql .no (.t 14) (.c (.int .u8 39))), zv 16 (.pick (.t 13) (.c (.bool true)) (.t 15)), zm 2 16]
def k0ed : IC := (.seq qbn5 (.seq qbo9 .ret))
@[go_sem] def s0ed : List (RV × Co) := [(.t 2, .id)]
theorem c0ed : cFun Tryz.prog 77 = some (17, k0ed, s0ed) := by kernel_rfl

def qb60 : IC := zr [zv 2 zf]
def qb56 : IC := zr [zm 3 0]
def qca6 : IC := zr [zv 5 (.bin .eql .no (.t 3) (.c (.str [100, 97, 116, 97]))), zm 4 5]
def qbxz : IC := zr [zv 6 (.bin .eql .no (.t 3) (.c (.str [99, 108, 97, 115, 115]))), zm 4 6]
def qcc4 : IC := zr [zv 7 (.bin .eql .no (.t 3) (.c (.str [105, 110, 115, 116, 97, 110, 99, 101]))), zm 4 7]
def qbts : IC := zr [zv 8 (.bin .eql .no (.t 3) (.c (.str [119, 104, 101, 114, 101]))), zm 4 8]
def qcbf : IC := zr [zv 9 (.bin .eql .no (.t 3) (.c (.str [108, 101, 116]))), zm 4 9]
def qbyl : IC := zr [zv 10 (.bin .eql .no (.t 3) (.c (.str [105, 110]))), zm 4 10]
def qcao : IC := zr [zv 11 (.bin .eql .no (.t 3) (.c (.str [99, 97, 115, 101]))), zm 4 11]
def qbv9 : IC := zr [zv 12 (.bin .eql .no (.t 3) (.c (.str [111, 102]))), zm 4 12]
def qbl0 : IC := zr [zv 13 (.bin .eql .no (.t 3) (.c (.str [105, 102]))), zm 4 13]
def qbdw : IC := zr [zv 14 (.bin .eql .no (.t 3) (.c (.str [116, 104, 101, 110]))), zm 4 14]
def qbf1 : IC := zr [zv 15 (.bin .eql .no (.t 3) (.c (.str [101, 108, 115, 101]))), zm 4 15]
def qbgd : IC := zr [zv 2 (.mov (.c (.bool true)))]
def qbjj : IC := zr [zv 2 zf]
def k0ef : IC := (.seq qb60 (.seq (.seq qb56 (.block 0 (.seq (.seq qca6 (.cond (.t 4) .skip (.seq qbxz (.cond (.t 4) .skip (.seq qcc4 (.cond (.t 4) .skip (.seq qbts (.cond (.t 4) .skip (.seq qcbf (.cond (.t 4) .skip (.seq qbyl (.cond (.t 4) .skip (.seq qcao (.cond (.t 4) .skip (.seq qbv9 (.cond (.t 4) .skip (.seq qbl0 (.cond (.t 4) .skip (.seq qbdw (.cond (.t 4) .skip qbf1)))))))))))))))))))) (.cond (.t 4) (.seq qbgd .ret) .skip)))) (.seq qbjj .ret)))
@[go_sem] def s0ef : List (RV × Co) := [(.t 2, .id)]
theorem c0ef : cFun Tryz.prog 78 = some (16, k0ef, s0ef) := by kernel_rfl

def qcan : IC := zr [zv 2 (.mov (.c (.str [])))]
def qbxy : IC := zr [zm 3 0, zv 4 (.len true (.t 3)), zv 5 (.bin .geq .no (.t 4) (zc 2))]
def qbpz : IC := zr [zm 6 0, zv 7 (.sls (.t 6) none (some (zc 2)))]
def qb5k : IC := zr [zv 9 (.bin .eql .no (.t 7) (.c (.str [45, 62]))), zm 8 9]
def qbur : IC := zr [zv 10 (.bin .eql .no (.t 7) (.c (.str [61, 62]))), zm 8 10]
def qbob : IC := zr [zv 11 (.bin .eql .no (.t 7) (.c (.str [58, 58]))), zm 8 11]
def qbrh : IC := zr [zm 12 0, zv 13 (.sls (.t 12) none (some (zc 2))), zm 2 13]
def qb38 : IC := zr [zm 14 0, zv 15 (.idx (.t 14) (zc 0))]
def qbvw : IC := zr [zv 17 (.bin .eql .no (.t 15) (.c (.int .u8 40))), zm 16 17]
def qb7x : IC := zr [zv 18 (.bin .eql .no (.t 15) (.c (.int .u8 41))), zm 16 18]
def qbcs : IC := zr [zv 19 (.bin .eql .no (.t 15) (.c (.int .u8 123))), zm 16 19]
def qbfz : IC := zr [zv 20 (.bin .eql .no (.t 15) (.c (.int .u8 125))), zm 16 20]
def qbey : IC := zr [zv 21 (.bin .eql .no (.t 15) (.c (.int .u8 59))), zm 16 21]
def qbh5 : IC := zr [zv 22 (.bin .eql .no (.t 15) (.c (.int .u8 44))), zm 16 22]
def qbg8 : IC := zr [zv 23 (.bin .eql .no (.t 15) (.c (.int .u8 61))), zm 16 23]
def qbkq : IC := zr [zv 24 (.bin .eql .no (.t 15) (.c (.int .u8 124))), zm 16 24]
def qbi3 : IC := zr [zv 25 (.bin .eql .no (.t 15) (.c (.int .u8 92))), zm 16 25]
def qbka : IC := zr [zm 26 0, zv 27 (.sls (.t 26) none (some (zc 1))), zm 2 27]
def qbfx : IC := zr [zv 2 (.mov (.c (.str [])))]
def k0dm : IC := (.seq qcan (.seq (.seq qbxy (.cond (.t 5) (.seq qbpz (.block 0 (.seq (.seq qb5k (.cond (.t 8) .skip (.seq qbur (.cond (.t 8) .skip qbob)))) (.cond (.t 8) (.seq qbrh .ret) .skip)))) .skip)) (.seq (.seq qb38 (.block 1 (.seq (.seq qbvw (.cond (.t 16) .skip (.seq qb7x (.cond (.t 16) .skip (.seq qbcs (.cond (.t 16) .skip (.seq qbfz (.cond (.t 16) .skip (.seq qbey (.cond (.t 16) .skip (.seq qbh5 (.cond (.t 16) .skip (.seq qbg8 (.cond (.t 16) .skip (.seq qbkq (.cond (.t 16) .skip qbi3)))))))))))))))) (.cond (.t 16) (.seq qbka .ret) .skip)))) (.seq qbfx .ret))))
@[go_sem] def s0dm : List (RV × Co) := [(.t 2, .id)]
theorem c0dm : cFun Tryz.prog 79 = some (28, k0dm, s0dm) := by kernel_rfl

def qbv5 : IC := zr [zi 2 (.box (.t 0)), zi 4 zaC, zi 5 zaT, zv 6 zf]
def qbzo : IC := zr [zv 9 (.fad (.t 2) 6), zv 10 (.ld false 1 (.t 9)), zv 11 (.bin .neq .no (.t 10) (zc 0)), zm 12 11, zw 12 false 13 (.ld true 8 (.t 2)), ⟨some (12, false), some 14, .call (.c (.fn 42 [] [])) [((.t 13), zC)]⟩, zw 12 false 15 (.fld false 1 0 (.t 14)), zw 12 false 16 (.mov (.t 1)), zw 12 false 17 (.bin .neq .no (.t 15) (.t 16)), zv 18 (.pick (.t 12) (.c (.bool true)) (.t 17))]
def qb21 : IC := zr [zv 19 (.ld true 8 (.t 2)), zi 20 (.call (.c (.fn 117 [] [])) [((.t 19), zC), ((zc 5), .id)]), zv 21 (.bld [(.int .i64 0), (.int .i64 0), (.int .i64 0), (.str [])] []), zn (.st 8 zC (.t 4) (.t 20)), zn (.st 4 .id (.t 5) (.t 21)), zv 6 zf]
def qbo0 : IC := zr [zv 23 (.ld true 8 (.t 2)), zi 24 (.call (.c (.fn 47 [] [])) [((.t 23), zC)]), zm 22 24, zv 25 (.ext (.t 22) 0), zv 26 (.ext (.t 22) 1), zi 7 zaC, zi 8 zaT, zn (.st 8 zC (.t 7) (.t 25)), zn (.st 4 .id (.t 8) (.t 26))]
def qca7 : IC := .drw [zp (zv 27 (.ld true 8 (.t 7))), zp (zv 28 (.ld true 4 (.t 8))), (zn (.st 8 zC (.t 4) (.t 27)), [1]), (zn (.st 4 .id (.t 5) (.t 28)), []), zp (zv 6 (.mov (.c (.bool true))))]
def k0fh : IC := (.seq qbv5 (.seq (.seq qbzo (.cond (.t 18) (.seq qb21 .ret) .skip)) (.seq qbo0 (.seq qca7 .ret))))
@[go_sem] def s0fh : List (RV × Co) := [(.c true 8 4, zC), (.c true 4 5, .id), (.t 6, .id)]
theorem c0fh : cFun Tryz.prog 80 = some (29, k0fh, s0fh) := by kernel_rfl

def qb5v : IC := zr [zi 1 (.box (.t 0)), zi 2 zaC, zi 3 zaN]
def qbog : IC := zr [zv 6 (.ld true 8 (.t 1)), zi 7 (.call (.c (.fn 42 [] [])) [((.t 6), zC)]), zi 4 zaT, zn (.st 4 .id (.t 4) (.t 7))]
def qbyj : IC := zr [zv 9 (.fad (.t 1) 6), zv 10 (.ld false 1 (.t 9)), zv 11 (.bin .neq .no (.t 10) (zc 0)), zm 8 11]
def qcd8 : IC := zr [zv 12 (.ld true 8 (.t 1)), zv 13 (.bld [(.int .i64 0), (.int .i64 0), (.int .i64 0), (.str []), .nils] []), zn (.st 8 zC (.t 2) (.t 12)), zn (.st 5 zN (.t 3) (.t 13))]
def qb0p : IC := zr [zv 15 (.fad (.t 4) 0), zv 16 (.ld false 1 (.t 15)), zv 17 (.bin .eql .no (.t 16) (zc 1)), zm 14 17]
def qbpr : IC := zr [zv 19 (.ld true 8 (.t 1)), zi 20 (.call (.c (.fn 47 [] [])) [((.t 19), zC)]), zm 18 20, zv 21 (.ext (.t 18) 0), zv 22 (.ext (.t 18) 1), zn (.st 8 zC (.t 1) (.t 21))]
def qbta : IC := .drw [zp (zv 23 (.ld true 8 (.t 1))), zp (zv 24 (.fad (.t 4) 1)), zp (zv 25 (.ld false 1 (.t 24))), zp (zv 26 (.fad (.t 4) 3)), zp (zv 27 (.ld false 1 (.t 26))), (zv 28 (.bld [(.int .i64 0), (.int .i64 0), (.int .i64 0), (.str []), .nils] [(0, 1, (zc 1)), (1, 1, (.t 25)), (3, 1, (.t 27))]), []), (zn (.st 8 zC (.t 2) (.t 23)), [2, 4]), (zn (.st 5 zN (.t 3) (.t 28)), [])]
def qcdj : IC := zr [zv 30 (.fad (.t 4) 0), zv 31 (.ld false 1 (.t 30)), zv 32 (.bin .eql .no (.t 31) (zc 2)), zm 29 32]
def qbzw : IC := zr [zv 34 (.ld true 8 (.t 1)), zi 35 (.call (.c (.fn 47 [] [])) [((.t 34), zC)]), zm 33 35, zv 36 (.ext (.t 33) 0), zv 37 (.ext (.t 33) 1), zn (.st 8 zC (.t 1) (.t 36))]
def qbyy : IC := .drw [zp (zv 38 (.ld true 8 (.t 1))), zp (zv 39 (.fad (.t 4) 1)), zp (zv 40 (.ld false 1 (.t 39))), zp (zv 41 (.fad (.t 4) 3)), zp (zv 42 (.ld false 1 (.t 41))), (zv 43 (.bld [(.int .i64 0), (.int .i64 0), (.int .i64 0), (.str []), .nils] [(0, 1, (zc 2)), (1, 1, (.t 40)), (3, 1, (.t 42))]), []), (zn (.st 8 zC (.t 2) (.t 38)), [2, 4]), (zn (.st 5 zN (.t 3) (.t 43)), [])]
def qbfk : IC := zr [zv 45 (.ld true 8 (.t 1)), zi 46 (.call (.c (.fn 46 [] [])) [((.t 45), zC), ((.c (.str [40])), .id)]), zv 47 (.un .not (.t 46)), zm 44 47]
def qbg3 : IC := zr [zv 48 (.ld true 8 (.t 1)), zi 49 (.call (.c (.fn 117 [] [])) [((.t 48), zC), ((zc 5), .id)]), zv 50 (.bld [(.int .i64 0), (.int .i64 0), (.int .i64 0), (.str []), .nils] []), zn (.st 8 zC (.t 2) (.t 49)), zn (.st 5 zN (.t 3) (.t 50))]
def qbhh : IC := zr [zv 52 (.ld true 8 (.t 1)), zi 53 (.call (.c (.fn 118 [] [])) [((.t 52), zC)]), zm 51 53, zv 54 (.ext (.t 51) 0), zv 55 (.ext (.t 51) 1), zn (.st 8 zC (.t 1) (.t 54))]
def qbj4 : IC := zr [zv 57 (.ld true 8 (.t 1)), zi 58 (.call (.c (.fn 82 [] [])) [((.t 57), zC), ((.c (.str [40])), .id)]), zm 56 58, zv 59 (.ext (.t 56) 0), zv 60 (.ext (.t 56) 1), zn (.st 8 zC (.t 1) (.t 59))]
def qbgu : IC := zr [zv 62 (.ld true 8 (.t 1)), zi 63 (.call (.c (.fn 119 [] [])) [((.t 62), zC)]), zm 61 63, zv 64 (.ext (.t 61) 0), zv 65 (.ext (.t 61) 1), zi 5 zaN, zn (.st 8 zC (.t 1) (.t 64)), zn (.st 5 zN (.t 5) (.t 65))]
def qbda : IC := zr [zv 67 (.ld true 8 (.t 1)), zi 68 (.call (.c (.fn 82 [] [])) [((.t 67), zC), ((.c (.str [41])), .id)]), zm 66 68, zv 69 (.ext (.t 66) 0), zv 70 (.ext (.t 66) 1), zn (.st 8 zC (.t 1) (.t 69))]
def qbji : IC := .drw [zp (zv 71 (.ld true 8 (.t 1))), (zi 72 (.call (.c (.fn 120 [] [])) [((.t 71), zC)]), []), (zv 73 (.ld true 5 (.t 5)), [1]), (zn (.st 8 zC (.t 2) (.t 72)), [2]), (zn (.st 5 zN (.t 3) (.t 73)), [])]
def k0gd : IC := (.seq qb5v (.seq qbog (.seq (.block 0 (.seq qbyj (.cond (.t 8) (.seq qcd8 .ret) (.seq qb0p (.cond (.t 14) (.seq qbpr (.seq qbta .ret)) (.seq qcdj (.cond (.t 29) (.seq qbzw (.seq qbyy .ret)) (.seq qbfk (.cond (.t 44) (.seq qbg3 .ret) .skip))))))))) (.seq qbhh (.seq qbj4 (.seq qbgu (.seq qbda (.seq qbji .ret))))))))
@[go_sem] def s0gd : List (RV × Co) := [(.c true 8 2, zC), (.c true 5 3, zN)]
theorem c0gd : cFun Tryz.prog 81 = some (74, k0gd, s0gd) := by kernel_rfl

def qbud : IC := zr [zi 2 (.box (.t 0)), zi 4 zaC, zv 5 zf]
def qbty : IC := zr [zv 9 (.ld true 8 (.t 2)), zm 10 1, zi 11 (.call (.c (.fn 23 [] [])) [((.t 9), zC), ((.t 10), .id)]), zm 8 11, zv 12 (.ext (.t 8) 0), zv 13 (.ext (.t 8) 1), zi 6 zaC, zn (.st 8 zC (.t 6) (.t 12)), zm 7 13]
def qbne : IC := zr [zm 14 7, zv 15 (.un .not (.t 14))]
def qb6x : IC := zr [zv 16 (.ld true 8 (.t 2)), zi 17 (.call (.c (.fn 117 [] [])) [((.t 16), zC), ((zc 5), .id)]), zn (.st 8 zC (.t 4) (.t 17)), zv 5 zf]
def qbuk : IC := zr [zv 18 (.ld true 8 (.t 6)), zn (.st 8 zC (.t 4) (.t 18)), zv 5 (.mov (.c (.bool true)))]
def k0cn : IC := (.seq qbud (.seq qbty (.seq (.seq qbne (.cond (.t 15) (.seq qb6x .ret) .skip)) (.seq qbuk .ret))))
@[go_sem] def s0cn : List (RV × Co) := [(.c true 8 4, zC), (.t 5, .id)]
theorem c0cn : cFun Tryz.prog 82 = some (19, k0cn, s0cn) := by kernel_rfl

def qchl : IC := zr [zi 1 (.box (.t 0)), zi 2 zaC, zi 3 zaN]
def qcip : IC := zr [zv 10 (.ld true 8 (.t 1)), zi 11 (.call (.c (.fn 80 [] [])) [((.t 10), zC), ((zc 2), .id)]), zm 9 11, zv 12 (.ext (.t 9) 0), zv 13 (.ext (.t 9) 1), zv 14 (.ext (.t 9) 2), zi 4 zaT, zn (.st 8 zC (.t 1) (.t 12)), zn (.st 4 .id (.t 4) (.t 13)), zm 5 14]
def qcjk : IC := zr [zv 15 (.fad (.t 4) 1), zv 16 (.ld false 1 (.t 15)), zv 17 (.fad (.t 4) 3), zv 18 (.ld false 1 (.t 17)), zv 19 (.bld [(.int .i64 0), (.int .i64 0), (.int .i64 0), (.str []), .nils] [(0, 1, (zc 34)), (1, 1, (.t 16)), (3, 1, (.t 18))]), zi 6 zaN, zn (.st 5 zN (.t 6) (.t 19))]
def qckt : IC := zr [zv 20 (.ld true 8 (.t 1)), zi 21 (.call (.c (.fn 121 [] [])) [((.t 20), zC)])]
def qcig : IC := zr [zv 23 (.ld true 8 (.t 1)), zi 24 (.call (.c (.fn 81 [] [])) [((.t 23), zC)]), zm 22 24, zv 25 (.ext (.t 22) 0), zv 26 (.ext (.t 22) 1), zi 7 zaC, zi 8 zaN, zn (.st 8 zC (.t 7) (.t 25)), zn (.st 5 zN (.t 8) (.t 26))]
def qces : IC := zr [zv 27 (.ld true 8 (.t 7)), zn (.st 8 zC (.t 1) (.t 27))]
def qce1 : IC := zr [zv 28 (.fad (.t 6) 4), zv 29 (.ld false 1 (.t 28)), zv 30 (.ld true 5 (.t 8)), zv 31 (.bsl 5 [((.t 30), zN)]), zi 32 (.app 5 zZ 64 (.sl 5) (.t 29) (.t 31)), zv 33 (.fad (.t 6) 4), zn (.st 1 (.sl 5) (.t 33) (.t 32))]
def qcej : IC := (.seq (.seq qckt (.cond (.t 21) .skip (.exit 0))) (.block 1 (.seq qcig (.seq qces qce1))))
def qckq : IC := .drw [zp (zv 34 (.ld true 8 (.t 1))), zp (zv 35 (.ld true 5 (.t 6))), (zn (.st 8 zC (.t 2) (.t 34)), [1]), (zn (.st 5 zN (.t 3) (.t 35)), [])]
def k0i : IC := (.seq qchl (.seq qcip (.seq qcjk (.seq (.block 0 (.loop qcej)) (.seq qckq .ret)))))
@[go_sem] def s0i : List (RV × Co) := [(.c true 8 2, zC), (.c true 5 3, zN)]
theorem c0i : cFun Tryz.prog 83 = some (36, k0i, s0i) := by kernel_rfl

def qbtj : IC := zr [zi 1 (.box (.t 0)), zi 2 zaC, zv 3 (.mov (.c .nils))]
def qccb : IC := zr [zv 12 (.ld true 8 (.t 1)), zi 13 (.call (.c (.fn 122 [] [])) [((.t 12), zC), ((.c (.str [61, 62])), .id)]), zv 14 (.un .not (.t 13))]
def qbq3 : IC := zr [zv 15 (.ld true 8 (.t 1)), zn (.st 8 zC (.t 2) (.t 15)), zv 3 (.mov (.c .nils))]
def qcbu : IC := zr [zv 4 (.mov (.c .nils))]
def qb65 : IC := zr [zv 17 (.ld true 8 (.t 1)), zi 18 (.call (.c (.fn 23 [] [])) [((.t 17), zC), ((.c (.str [40])), .id)]), zm 16 18, zv 19 (.ext (.t 16) 0), zv 20 (.ext (.t 16) 1), zi 5 zaC, zn (.st 8 zC (.t 5) (.t 19)), zm 6 20]
def qbu5 : IC := zr [zm 21 6, zv 22 (.un .not (.t 21))]
def qb66 : IC := zr [zv 24 (.ld true 8 (.t 1)), zi 25 (.call (.c (.fn 123 [] [])) [((.t 24), zC)]), zm 23 25, zv 26 (.ext (.t 23) 0), zv 27 (.ext (.t 23) 1), zi 7 zaC, zi 8 zaN, zn (.st 8 zC (.t 7) (.t 26)), zn (.st 5 zN (.t 8) (.t 27))]
def qb5d : IC := zr [zv 29 (.ld true 8 (.t 7)), zi 30 (.call (.c (.fn 82 [] [])) [((.t 29), zC), ((.c (.str [61, 62])), .id)]), zm 28 30, zv 31 (.ext (.t 28) 0), zv 32 (.ext (.t 28) 1), zn (.st 8 zC (.t 7) (.t 31))]
def qcde : IC := .drw [zp (zv 33 (.ld true 8 (.t 7))), zp (zv 34 (.ld true 5 (.t 8))), (zv 35 (.bsl 5 [((.t 34), zN)]), []), (zn (.st 8 zC (.t 2) (.t 33)), [1, 2]), zp (zm 3 35)]
def qccf : IC := zr [zv 36 (.ld true 8 (.t 5)), zi 37 (.call (.c (.fn 46 [] [])) [((.t 36), zC), ((.c (.str [41])), .id)]), zv 38 (.un .not (.t 37))]
def qbgw : IC := zr [zv 9 (.mov (.c (.bool true)))]
def qbcp : IC := zr [zm 39 9]
def qbfm : IC := zr [zv 41 (.ld true 8 (.t 5)), zi 42 (.call (.c (.fn 123 [] [])) [((.t 41), zC)]), zm 40 42, zv 43 (.ext (.t 40) 0), zv 44 (.ext (.t 40) 1), zi 10 zaC, zi 11 zaN, zn (.st 8 zC (.t 10) (.t 43)), zn (.st 5 zN (.t 11) (.t 44))]
def qbef : IC := zr [zm 45 4, zv 46 (.ld true 5 (.t 11)), zv 47 (.bsl 5 [((.t 46), zN)]), zi 48 (.app 5 zZ 64 (.sl 5) (.t 45) (.t 47)), zm 4 48]
def qbf0 : IC := zr [zv 50 (.ld true 8 (.t 10)), zi 51 (.call (.c (.fn 23 [] [])) [((.t 50), zC), ((.c (.str [44])), .id)]), zm 49 51, zv 52 (.ext (.t 49) 0), zv 53 (.ext (.t 49) 1), zn (.st 8 zC (.t 5) (.t 52)), zm 9 53]
def qbe7 : IC := (.seq (.seq qbcp (.cond (.t 39) .skip (.exit 0))) (.block 1 (.seq qbfm (.seq qbef qbf0))))
def qbgx : IC := zr [zv 55 (.ld true 8 (.t 5)), zi 56 (.call (.c (.fn 82 [] [])) [((.t 55), zC), ((.c (.str [41])), .id)]), zm 54 56, zv 57 (.ext (.t 54) 0), zv 58 (.ext (.t 54) 1), zn (.st 8 zC (.t 5) (.t 57))]
def qbd9 : IC := zr [zv 60 (.ld true 8 (.t 5)), zi 61 (.call (.c (.fn 82 [] [])) [((.t 60), zC), ((.c (.str [61, 62])), .id)]), zm 59 61, zv 62 (.ext (.t 59) 0), zv 63 (.ext (.t 59) 1), zn (.st 8 zC (.t 5) (.t 62))]
def qbdo : IC := zr [zv 64 (.ld true 8 (.t 5)), zm 65 4, zn (.st 8 zC (.t 2) (.t 64)), zm 3 65]
def k0ga : IC := (.seq qbtj (.seq (.seq qccb (.cond (.t 14) (.seq qbq3 .ret) .skip)) (.seq qcbu (.seq qb65 (.seq (.seq qbu5 (.cond (.t 22) (.seq qb66 (.seq qb5d (.seq qcde .ret))) .skip)) (.seq (.seq qccf (.cond (.t 38) (.seq qbgw (.block 0 (.loop qbe7))) .skip)) (.seq qbgx (.seq qbd9 (.seq qbdo .ret)))))))))
@[go_sem] def s0ga : List (RV × Co) := [(.c true 8 2, zC), (.t 3, (.sl 5))]
theorem c0ga : cFun Tryz.prog 84 = some (66, k0ga, s0ga) := by kernel_rfl

def qch3 : IC := zr [zi 2 (.box (.t 0)), zi 4 zaC, zv 5 (.mov (.c .nils))]
def qcg0 : IC := zr [zv 12 (.ld true 8 (.t 2)), zi 13 (.call (.c (.fn 82 [] [])) [((.t 12), zC), ((.c (.str [119, 104, 101, 114, 101])), .id)]), zm 11 13, zv 14 (.ext (.t 11) 0), zv 15 (.ext (.t 11) 1), zn (.st 8 zC (.t 2) (.t 14))]
def qcgq : IC := zr [zv 17 (.ld true 8 (.t 2)), zi 18 (.call (.c (.fn 82 [] [])) [((.t 17), zC), ((.c (.str [123])), .id)]), zm 16 18, zv 19 (.ext (.t 16) 0), zv 20 (.ext (.t 16) 1), zn (.st 8 zC (.t 2) (.t 19))]
def qcgc : IC := zr [zv 6 (.mov (.c .nils))]
def qcg9 : IC := zr [zv 21 (.fad (.t 2) 6), zv 22 (.ld false 1 (.t 21)), zv 23 (.bin .eql .no (.t 22) (zc 0)), zm 24 23, zw 24 true 25 (.ld true 8 (.t 2)), ⟨some (24, true), some 26, .call (.c (.fn 46 [] [])) [((.t 25), zC), ((.c (.str [125])), .id)]⟩, zw 24 true 27 (.un .not (.t 26)), zv 28 (.pick (.t 24) (.t 27) (.c (.bool false))), zm 7 28]
def qchx : IC := zr [zm 29 7]
def qci4 : IC := zr [zv 31 (.ld true 8 (.t 2)), zi 32 (.call (.c (.fn 45 [] [])) [((.t 31), zC)]), zm 30 32, zv 33 (.ext (.t 30) 0), zv 34 (.ext (.t 30) 1), zi 8 zaC, zi 9 zaN, zn (.st 8 zC (.t 8) (.t 33)), zn (.st 5 zN (.t 9) (.t 34))]
def qcfi : IC := zr [zv 35 (.fad (.t 8) 6), zv 36 (.ld false 1 (.t 35)), zv 37 (.bin .eql .no (.t 36) (zc 0)), zm 38 37, zw 38 true 39 (.fad (.t 9) 0), zw 38 true 40 (.ld false 1 (.t 39)), zw 38 true 41 (.mov (.t 1)), zw 38 true 42 (.bin .neq .no (.t 40) (.t 41)), zv 43 (.pick (.t 38) (.t 42) (.c (.bool false)))]
def qcju : IC := zr [zv 44 (.ld true 8 (.t 8)), zi 45 (.call (.c (.fn 117 [] [])) [((.t 44), zC), ((zc 5), .id)]), zn (.st 8 zC (.t 8) (.t 45))]
def qbwp : IC := zr [zm 46 6, zv 47 (.ld true 5 (.t 9)), zv 48 (.bsl 5 [((.t 47), zN)]), zi 49 (.app 5 zZ 64 (.sl 5) (.t 46) (.t 48)), zm 6 49]
def qcap : IC := zr [zv 51 (.ld true 8 (.t 8)), zi 52 (.call (.c (.fn 23 [] [])) [((.t 51), zC), ((.c (.str [59])), .id)]), zm 50 52, zv 53 (.ext (.t 50) 0), zv 54 (.ext (.t 50) 1), zn (.st 8 zC (.t 8) (.t 53)), zm 10 54]
def qbt4 : IC := zr [zm 55 10, zm 56 55, zw 56 true 57 (.ld true 8 (.t 8)), ⟨some (56, true), some 58, .call (.c (.fn 46 [] [])) [((.t 57), zC), ((.c (.str [125])), .id)]⟩, zw 56 true 59 (.un .not (.t 58)), zv 60 (.pick (.t 56) (.t 59) (.c (.bool false))), zm 7 60]
def qca9 : IC := zr [zv 61 (.ld true 8 (.t 8)), zn (.st 8 zC (.t 2) (.t 61))]
def qckz : IC := (.seq (.seq qchx (.cond (.t 29) .skip (.exit 0))) (.block 1 (.seq qci4 (.seq (.seq qcfi (.cond (.t 43) qcju .skip)) (.seq qbwp (.seq qcap (.seq qbt4 qca9)))))))
def qb6w : IC := zr [zv 63 (.ld true 8 (.t 2)), zi 64 (.call (.c (.fn 82 [] [])) [((.t 63), zC), ((.c (.str [125])), .id)]), zm 62 64, zv 65 (.ext (.t 62) 0), zv 66 (.ext (.t 62) 1), zn (.st 8 zC (.t 2) (.t 65))]
def qbpt : IC := zr [zv 67 (.ld true 8 (.t 2)), zm 68 6, zn (.st 8 zC (.t 4) (.t 67)), zm 5 68]
def k0f : IC := (.seq qch3 (.seq qcg0 (.seq qcgq (.seq qcgc (.seq qcg9 (.seq (.block 0 (.loop qckz)) (.seq qb6w (.seq qbpt .ret))))))))
@[go_sem] def s0f : List (RV × Co) := [(.c true 8 4, zC), (.t 5, (.sl 5))]
theorem c0f : cFun Tryz.prog 85 = some (69, k0f, s0f) := by kernel_rfl

def qb5z : IC := zr [zi 1 (.box (.t 0)), zi 2 zaC, zi 3 zaN]
def qbps : IC := zr [zv 7 (.ld true 8 (.t 1)), zi 8 (.call (.c (.fn 42 [] [])) [((.t 7), zC)]), zv 9 (.fld false 1 1 (.t 8)), zm 4 9]
def qcds : IC := zr [zv 11 (.ld true 8 (.t 1)), zi 12 (.call (.c (.fn 84 [] [])) [((.t 11), zC)]), zm 10 12, zv 13 (.ext (.t 10) 0), zv 14 (.ext (.t 10) 1), zn (.st 8 zC (.t 1) (.t 13)), zm 5 14]
def qbr4 : IC := zr [zv 16 (.ld true 8 (.t 1)), zi 17 (.call (.c (.fn 119 [] [])) [((.t 16), zC)]), zm 15 17, zv 18 (.ext (.t 15) 0), zv 19 (.ext (.t 15) 1), zi 6 zaN, zn (.st 8 zC (.t 1) (.t 18)), zn (.st 5 zN (.t 6) (.t 19))]
def qbt9 : IC := .drw [zp (zv 20 (.ld true 8 (.t 1))), zp (zm 21 4), zp (zm 22 5), (zi 23 (.app 5 zZ 64 (.sl 5) (.c .nils) (.t 22)), [0]), (zv 24 (.ld true 5 (.t 6)), [3]), (zv 25 (.bsl 5 [((.t 24), zN)]), [3]), (zi 26 (.app 5 zZ 64 (.sl 5) (.t 23) (.t 25)), [0]), (zv 27 (.bld [(.int .i64 0), (.int .i64 0), (.int .i64 0), (.str []), .nils] [(0, 1, (zc 4)), (1, 1, (.t 21)), (4, 1, (.t 26))]), []), (zn (.st 8 zC (.t 2) (.t 20)), []), (zn (.st 5 zN (.t 3) (.t 27)), [])]
def k0gb : IC := (.seq qb5z (.seq qbps (.seq qcds (.seq qbr4 (.seq qbt9 .ret)))))
@[go_sem] def s0gb : List (RV × Co) := [(.c true 8 2, zC), (.c true 5 3, zN)]
theorem c0gb : cFun Tryz.prog 86 = some (28, k0gb, s0gb) := by kernel_rfl

def qcda : IC := zr [zi 1 (.box (.t 0)), zi 2 zaC, zv 3 (.mov (.c .nils))]
def qccn : IC := zr [zv 4 (.mov (.c .nils))]
def qbz3 : IC := zr [zv 7 (.fad (.t 1) 6), zv 8 (.ld false 1 (.t 7)), zv 9 (.bin .eql .no (.t 8) (zc 0)), zm 10 9, zw 10 true 11 (.ld true 8 (.t 1)), ⟨some (10, true), some 12, .call (.c (.fn 42 [] [])) [((.t 11), zC)]⟩, zw 10 true 13 (.fld false 1 0 (.t 12)), zw 10 true 14 (.bin .eql .no (.t 13) (zc 1)), zv 15 (.pick (.t 10) (.t 14) (.c (.bool false)))]
def qb2n : IC := zr [zv 17 (.ld true 8 (.t 1)), zi 18 (.call (.c (.fn 47 [] [])) [((.t 17), zC)]), zm 16 18, zv 19 (.ext (.t 16) 0), zv 20 (.ext (.t 16) 1), zi 5 zaC, zi 6 zaT, zn (.st 8 zC (.t 5) (.t 19)), zn (.st 4 .id (.t 6) (.t 20))]
def qb3l : IC := zr [zv 21 (.ld true 8 (.t 5)), zn (.st 8 zC (.t 1) (.t 21))]
def qb2j : IC := zr [zm 22 4, zv 23 (.ld true 4 (.t 6)), zv 24 (.bsl 4 [((.t 23), .id)]), zi 25 (.app 4 (.agg [(.int .i64 0), (.int .i64 0), (.int .i64 0), (.str [])]) 40 (.sl 4) (.t 22) (.t 24)), zm 4 25]
def qbtc : IC := (.seq (.seq qbz3 (.cond (.t 15) .skip (.exit 0))) (.block 1 (.seq qb2n (.seq qb3l qb2j))))
def qbz2 : IC := zr [zv 26 (.ld true 8 (.t 1)), zm 27 4, zn (.st 8 zC (.t 2) (.t 26)), zm 3 27]
def k0fv : IC := (.seq qcda (.seq qccn (.seq (.block 0 (.loop qbtc)) (.seq qbz2 .ret))))
@[go_sem] def s0fv : List (RV × Co) := [(.c true 8 2, zC), (.t 3, (.sl 4))]
theorem c0fv : cFun Tryz.prog 87 = some (28, k0fv, s0fv) := by kernel_rfl

def qbu7 : IC := zr [zi 1 (.box (.t 0)), zi 2 zaC, zi 3 zaN]
def qbw7 : IC := zr [zv 6 (.ld true 8 (.t 1)), zi 7 (.call (.c (.fn 118 [] [])) [((.t 6), zC)]), zm 5 7, zv 8 (.ext (.t 5) 0), zv 9 (.ext (.t 5) 1), zn (.st 8 zC (.t 1) (.t 8))]
def qbuo : IC := zr [zv 11 (.ld true 8 (.t 1)), zi 12 (.call (.c (.fn 124 [] [])) [((.t 11), zC)]), zm 10 12, zv 13 (.ext (.t 10) 0), zv 14 (.ext (.t 10) 1), zi 4 zaN, zn (.st 8 zC (.t 1) (.t 13)), zn (.st 5 zN (.t 4) (.t 14))]
def qb4f : IC := .drw [zp (zv 15 (.ld true 8 (.t 1))), (zi 16 (.call (.c (.fn 120 [] [])) [((.t 15), zC)]), []), (zv 17 (.ld true 5 (.t 4)), [1]), (zn (.st 8 zC (.t 2) (.t 16)), [2]), (zn (.st 5 zN (.t 3) (.t 17)), [])]
def k0fl : IC := (.seq qbu7 (.seq qbw7 (.seq qbuo (.seq qb4f .ret))))
@[go_sem] def s0fl : List (RV × Co) := [(.c true 8 2, zC), (.c true 5 3, zN)]
theorem c0fl : cFun Tryz.prog 88 = some (18, k0fl, s0fl) := by kernel_rfl

def qb92 : IC := zr [zi 3 (.box (.t 1)), zi 4 zaN]
def qb8i : IC := zr [zm 6 0, zv 7 (.len false (.t 6)), zv 8 (.bin .sub .no (.t 7) (zc 1)), zm 5 8]
def qcd7 : IC := zr [zm 9 5, zv 10 (.bin .geq .no (.t 9) (zc 0))]
def qb0q : IC := .drw [zp (zm 13 0), zp (zm 14 5), zp (zv 15 (.iad 4 (.t 13) (.t 14))), zp (zv 16 (.fad (.t 15) 1)), zp (zv 17 (.ld false 1 (.t 16))), zp (zm 18 0), zp (zm 19 5), zp (zv 20 (.iad 4 (.t 18) (.t 19))), zp (zv 21 (.fad (.t 20) 3)), zp (zv 22 (.ld false 1 (.t 21))), zp (zv 23 (.ld true 5 (.t 3))), (zv 24 (.bsl 5 [((.t 23), zN)]), []), (zv 25 (.bld [(.int .i64 0), (.int .i64 0), (.int .i64 0), (.str []), .nils] [(0, 1, (zc 25)), (1, 1, (.t 17)), (3, 1, (.t 22)), (4, 1, (.t 24))]), []), (zn (.st 5 zN (.t 3) (.t 25)), [])]
def qb94 : IC := zr [zm 11 5, zv 12 (.bin .sub .no (.t 11) (zc 1)), zm 5 12]
def qcbl : IC := (.seq (.seq qcd7 (.cond (.t 10) .skip (.exit 0))) (.seq (.block 1 qb0q) qb94))
def qbwg : IC := zr [zv 26 (.ld true 5 (.t 3)), zn (.st 5 zN (.t 4) (.t 26))]
def k0fp : IC := (.seq qb92 (.seq (.seq qb8i (.block 0 (.loop qcbl))) (.seq qbwg .ret)))
@[go_sem] def s0fp : List (RV × Co) := [(.c true 5 4, zN)]
theorem c0fp : cFun Tryz.prog 89 = some (27, k0fp, s0fp) := by kernel_rfl

def qbwj : IC := zr [zi 2 (.box (.t 0)), zv 4 zf]
def qbyt : IC := zr [zv 5 (.fad (.t 2) 0), zv 6 (.ld false 1 (.t 5)), zv 7 (.bin .eql .no (.t 6) (zc 4)), zm 8 7, zw 8 false 9 (.fad (.t 2) 0), zw 8 false 10 (.ld false 1 (.t 9)), zw 8 false 11 (.bin .eql .no (.t 10) (zc 5)), zv 12 (.pick (.t 8) (.c (.bool true)) (.t 11)), zm 13 12, zw 13 true 14 (.fad (.t 2) 3), zw 13 true 15 (.ld false 1 (.t 14)), zw 13 true 16 (.mov (.t 1)), zw 13 true 17 (.bin .eql .no (.t 15) (.t 16)), zv 18 (.pick (.t 13) (.t 17) (.c (.bool false))), zm 4 18]
def k0cj : IC := (.seq qbwj (.seq qbyt .ret))
@[go_sem] def s0cj : List (RV × Co) := [(.t 4, .id)]
theorem c0cj : cFun Tryz.prog 90 = some (19, k0cj, s0cj) := by kernel_rfl

def qb6s : IC := zr [zv 4 (.ld true 5 (.t 1)), zv 5 (.ld false 1 (.t 2)), zm 6 0, zi 7 (.call (.c (.fn 92 [] [])) [((.t 4), zN), ((.t 5), .id), ((.t 6), .id)])]
def k0fc : IC := qb6s
@[go_sem] def s0fc : List (RV × Co) := []
theorem c0fc : cFun Tryz.prog 91 = some (8, k0fc, s0fc) := by kernel_rfl

def qbxe : IC := zr [zi 3 (.box (.t 0)), zv 6 zf]
def qby9 : IC := zr [zm 9 2, zm 10 1, zv 11 (.ld true 5 (.t 3)), zi 12 (.call (.t 9) [((.t 10), .id), ((.t 11), zN)]), zv 13 (.un .not (.t 12))]
def qbzq : IC := zr [zv 6 zf]
def qcc9 : IC := zr [zv 14 (.fad (.t 3) 4), zv 15 (.ld false 1 (.t 14)), zv 16 (.len false (.t 15)), zv 17 (.mov (zc 0))]
def qb3r : IC := zr [zv 18 (.bin .lss .no (.t 17) (.t 16))]
def qb77 : IC := zr [zv 19 (.iad 5 (.t 15) (.t 17)), zv 20 (.ld true 5 (.t 19)), zi 8 zaN, zn (.st 5 zN (.t 8) (.t 20))]
def qbvc : IC := zr [zv 21 (.ld true 5 (.t 8)), zm 22 1, zv 23 (.bin .add .no (.t 22) (zc 1)), zm 24 2, zi 25 (.call (.c (.fn 92 [] [])) [((.t 21), zN), ((.t 23), .id), ((.t 24), .id)]), zv 26 (.un .not (.t 25))]
def qb0w : IC := zr [zv 6 zf]
def qb0b : IC := zr [zv 27 (.bin .add .no (.t 17) (zc 1)), zm 17 27]
def qb6h : IC := (.seq qb3r (.seq (.cond (.t 18) .skip (.exit 0)) (.seq (.block 1 (.seq qb77 (.seq qbvc (.cond (.t 26) (.seq qb0w .ret) .skip)))) qb0b)))
def qbip : IC := zr [zv 6 (.mov (.c (.bool true)))]
def k0fb : IC := (.seq qbxe (.seq (.seq qby9 (.cond (.t 13) (.seq qbzq .ret) .skip)) (.seq (.seq qcc9 (.block 0 (.loop qb6h))) (.seq qbip .ret))))
@[go_sem] def s0fb : List (RV × Co) := [(.t 6, .id)]
theorem c0fb : cFun Tryz.prog 92 = some (28, k0fb, s0fb) := by kernel_rfl

def qcbq : IC := zr [zi 2 (.box (.t 0)), zv 4 zf]
def qbyq : IC := zr [zv 5 (.fad (.t 2) 2), zv 6 (.ld false 1 (.t 5)), zv 7 (.bin .eql .no (.t 6) (zc 0)), zm 8 7, zw 8 true 9 (.mov (.t 1)), zw 8 true 10 (.fad (.t 2) 3), zw 8 true 11 (.ld false 1 (.t 10)), ⟨some (8, true), some 12, .call (.t 9) [((.t 11), .id)]⟩, zv 13 (.pick (.t 8) (.t 12) (.c (.bool false))), zm 4 13]
def k0ex : IC := (.seq qcbq (.seq qbyq .ret))
@[go_sem] def s0ex : List (RV × Co) := [(.t 4, .id)]
theorem c0ex : cFun Tryz.prog 93 = some (14, k0ex, s0ex) := by kernel_rfl

def qbos : IC := zr [zv 2 zf]
def qb97 : IC := zr [zm 3 0, zv 4 (.bin .neq .no (.t 3) (.c (.str []))), zm 5 4, zw 5 true 6 (.mov (.t 0)), zw 5 true 7 (.bin .neq .no (.t 6) (.c (.str [95]))), zv 8 (.pick (.t 5) (.t 7) (.c (.bool false))), zm 9 8, zw 9 true 10 (.mov (.t 0)), zw 9 true 11 (.idx (.t 10) (zc 0)), ⟨some (9, true), some 12, .call (.c (.fn 125 [] [])) [((.t 11), .id)]⟩, zv 13 (.pick (.t 9) (.t 12) (.c (.bool false))), zm 14 13, zw 14 true 15 (.mov (.t 0)), ⟨some (14, true), some 16, .call (.c (.fn 98 [] [])) [((.t 15), .id)]⟩, zv 17 (.pick (.t 14) (.t 16) (.c (.bool false))), zm 18 17, zw 18 true 19 (.mov (.t 0)), ⟨some (18, true), some 20, .call (.c (.fn 126 [] [])) [((.t 19), .id)]⟩, zw 18 true 21 (.un .not (.t 20)), zv 22 (.pick (.t 18) (.t 21) (.c (.bool false))), zm 2 22]
def k0ei : IC := (.seq qbos (.seq qb97 .ret))
@[go_sem] def s0ei : List (RV × Co) := [(.t 2, .id)]
theorem c0ei : cFun Tryz.prog 94 = some (23, k0ei, s0ei) := by kernel_rfl

def qbrj : IC := zr [zi 1 (.box (.t 0)), zv 2 zf]
def qb5s : IC := zr [zv 5 (.fad (.t 1) 4), zv 6 (.ld false 1 (.t 5)), zv 7 (.len false (.t 6)), zm 3 7]
def qccv : IC := zr [zv 8 (.fad (.t 1) 0), zv 9 (.ld false 1 (.t 8))]
def qbr9 : IC := zr [zv 11 (.bin .eql .no (.t 9) (zc 21)), zm 10 11]
def qb63 : IC := zr [zv 12 (.ld true 5 (.t 1)), zi 13 (.call (.c (.fn 93 [] [])) [((.t 12), zN), ((.c (.fn 94 [] [])), .id)]), zm 14 13, zw 14 true 15 (.mov (.t 3)), zw 14 true 16 (.bin .eql .no (.t 15) (zc 0)), zv 17 (.pick (.t 14) (.t 16) (.c (.bool false))), zm 2 17]
def qbq1 : IC := zr [zv 19 (.bin .eql .no (.t 9) (zc 22)), zm 18 19]
def qb8s : IC := zr [zv 20 (.ld true 5 (.t 1)), zi 21 (.call (.c (.fn 93 [] [])) [((.t 20), zN), ((.c (.fn 53 [] [])), .id)]), zm 22 21, zw 22 true 23 (.mov (.t 3)), zw 22 true 24 (.bin .eql .no (.t 23) (zc 0)), zv 25 (.pick (.t 22) (.t 24) (.c (.bool false))), zm 2 25]
def qb7a : IC := zr [zv 27 (.bin .eql .no (.t 9) (zc 23)), zm 26 27]
def qbm9 : IC := zr [zv 28 (.fad (.t 1) 3), zv 29 (.ld false 1 (.t 28)), zv 30 (.bin .eql .no (.t 29) (.c (.str []))), zm 31 30, zw 31 true 32 (.fad (.t 1) 2), zw 31 true 33 (.ld false 1 (.t 32)), zw 31 true 34 (.bin .geq .no (.t 33) (zc 0)), zv 35 (.pick (.t 31) (.t 34) (.c (.bool false))), zm 36 35, zw 36 true 37 (.mov (.t 3)), zw 36 true 38 (.bin .eql .no (.t 37) (zc 0)), zv 39 (.pick (.t 36) (.t 38) (.c (.bool false))), zm 2 39]
def qby6 : IC := zr [zv 41 (.bin .eql .no (.t 9) (zc 24)), zm 40 41]
def qbks : IC := zr [zv 42 (.ld true 5 (.t 1)), zi 43 (.call (.c (.fn 26 [] [])) [((.t 42), zN)]), zm 44 43, zw 44 true 45 (.mov (.t 3)), zw 44 true 46 (.bin .eql .no (.t 45) (zc 2)), zv 47 (.pick (.t 44) (.t 46) (.c (.bool false))), zm 48 47, zw 48 true 49 (.fad (.t 1) 4), zw 48 true 50 (.ld false 1 (.t 49)), ⟨some (48, true), some 51, .call (.c (.fn 27 [] [])) [((.t 50), (.sl 5)), ((.c (.fn 95 [] [])), .id)]⟩, zv 52 (.pick (.t 48) (.t 51) (.c (.bool false))), zm 2 52]
def qbk3 : IC := zr [zv 54 (.bin .eql .no (.t 9) (zc 25)), zm 53 54]
def qbiz : IC := zr [zv 55 (.ld true 5 (.t 1)), zi 56 (.call (.c (.fn 93 [] [])) [((.t 55), zN), ((.c (.fn 94 [] [])), .id)]), zm 57 56, zw 57 true 58 (.mov (.t 3)), zw 57 true 59 (.bin .eql .no (.t 58) (zc 1)), zv 60 (.pick (.t 57) (.t 59) (.c (.bool false))), zm 61 60, zw 61 true 62 (.fad (.t 1) 4), zw 61 true 63 (.ld false 1 (.t 62)), zw 61 true 64 (.iad 5 (.t 63) (zc 0)), zw 61 true 65 (.ld true 5 (.t 64)), ⟨some (61, true), some 66, .call (.c (.fn 95 [] [])) [((.t 65), zN)]⟩, zv 67 (.pick (.t 61) (.t 66) (.c (.bool false))), zm 2 67]
def qbeb : IC := zr [zv 69 (.bin .eql .no (.t 9) (zc 26)), zm 68 69]
def qbho : IC := zr [zv 4 (.mov (.c (.fn 127 [] [])))]
def qbcr : IC := zr [zv 70 (.ld true 5 (.t 1)), zi 71 (.call (.c (.fn 26 [] [])) [((.t 70), zN)]), zm 72 71, zw 72 true 73 (.mov (.t 3)), zw 72 true 74 (.bin .geq .no (.t 73) (zc 2)), zv 75 (.pick (.t 72) (.t 74) (.c (.bool false))), zm 76 75, zw 76 true 77 (.fad (.t 1) 4), zw 76 true 78 (.ld false 1 (.t 77)), zw 76 true 79 (.mov (.t 3)), zw 76 true 80 (.bin .sub .no (.t 79) (zc 1)), zw 76 true 81 (.slv 5 (.t 78) none (some (.t 80)) none), zw 76 true 82 (.mov (.t 4)), ⟨some (76, true), some 83, .call (.c (.fn 27 [] [])) [((.t 81), (.sl 5)), ((.t 82), .id)]⟩, zv 84 (.pick (.t 76) (.t 83) (.c (.bool false))), zm 85 84, zw 85 true 86 (.fad (.t 1) 4), zw 85 true 87 (.ld false 1 (.t 86)), zw 85 true 88 (.mov (.t 3)), zw 85 true 89 (.bin .sub .no (.t 88) (zc 1)), zw 85 true 90 (.iad 5 (.t 87) (.t 89)), zw 85 true 91 (.ld true 5 (.t 90)), ⟨some (85, true), some 92, .call (.c (.fn 95 [] [])) [((.t 91), zN)]⟩, zv 93 (.pick (.t 85) (.t 92) (.c (.bool false))), zm 2 93]
def qbiu : IC := zr [zv 95 (.bin .eql .no (.t 9) (zc 27)), zm 94 95]
def qbhu : IC := zr [zv 96 (.ld true 5 (.t 1)), zi 97 (.call (.c (.fn 26 [] [])) [((.t 96), zN)]), zm 98 97, zw 98 true 99 (.mov (.t 3)), zw 98 true 100 (.bin .geq .no (.t 99) (zc 2)), zv 101 (.pick (.t 98) (.t 100) (.c (.bool false))), zm 102 101, zw 102 true 103 (.fad (.t 1) 4), zw 102 true 104 (.ld false 1 (.t 103)), zw 102 true 105 (.iad 5 (.t 104) (zc 0)), zw 102 true 106 (.ld true 5 (.t 105)), ⟨some (102, true), some 107, .call (.c (.fn 95 [] [])) [((.t 106), zN)]⟩, zv 108 (.pick (.t 102) (.t 107) (.c (.bool false))), zm 109 108, zw 109 true 110 (.fad (.t 1) 4), zw 109 true 111 (.ld false 1 (.t 110)), zw 109 true 112 (.slv 5 (.t 111) (some (zc 1)) none none), ⟨some (109, true), some 113, .call (.c (.fn 27 [] [])) [((.t 112), (.sl 5)), ((.c (.fn 128 [] [])), .id)]⟩, zv 114 (.pick (.t 109) (.t 113) (.c (.bool false))), zm 2 114]
def qbdt : IC := zr [zv 116 (.bin .eql .no (.t 9) (zc 28)), zm 115 116]
def qbkv : IC := zr [zv 117 (.ld true 5 (.t 1)), zi 118 (.call (.c (.fn 26 [] [])) [((.t 117), zN)]), zm 119 118, zw 119 true 120 (.mov (.t 3)), zw 119 true 121 (.bin .eql .no (.t 120) (zc 3)), zv 122 (.pick (.t 119) (.t 121) (.c (.bool false))), zm 123 122, zw 123 true 124 (.fad (.t 1) 4), zw 123 true 125 (.ld false 1 (.t 124)), ⟨some (123, true), some 126, .call (.c (.fn 27 [] [])) [((.t 125), (.sl 5)), ((.c (.fn 95 [] [])), .id)]⟩, zv 127 (.pick (.t 123) (.t 126) (.c (.bool false))), zm 2 127]
def qbic : IC := zr [zv 2 zf]
def k0eo : IC := (.seq qbrj (.seq qb5s (.seq (.seq qccv (.block 0 (.seq qbr9 (.cond (.t 10) (.seq qb63 .ret) (.seq qbq1 (.cond (.t 18) (.seq qb8s .ret) (.seq qb7a (.cond (.t 26) (.seq qbm9 .ret) (.seq qby6 (.cond (.t 40) (.seq qbks .ret) (.seq qbk3 (.cond (.t 53) (.seq qbiz .ret) (.seq qbeb (.cond (.t 68) (.seq qbho (.seq qbcr .ret)) (.seq qbiu (.cond (.t 94) (.seq qbhu .ret) (.seq qbdt (.cond (.t 115) (.seq qbkv .ret) .skip)))))))))))))))))) (.seq qbic .ret))))
@[go_sem] def s0eo : List (RV × Co) := [(.t 2, .id)]
theorem c0eo : cFun Tryz.prog 95 = some (128, k0eo, s0eo) := by kernel_rfl

def qbzl : IC := zr [zi 1 (.box (.t 0)), zv 2 zf]
def qb9x : IC := zr [zv 4 (.fad (.t 1) 4), zv 5 (.ld false 1 (.t 4)), zv 6 (.len false (.t 5)), zv 7 (.bin .sub .no (.t 6) (zc 1)), zm 3 7]
def qb1e : IC := zr [zv 8 (.fad (.t 1) 0), zv 9 (.ld false 1 (.t 8)), zv 10 (.bin .eql .no (.t 9) (zc 4)), zm 11 10, zw 11 true 12 (.ld true 5 (.t 1)), ⟨some (11, true), some 13, .call (.c (.fn 26 [] [])) [((.t 12), zN)]⟩, zv 14 (.pick (.t 11) (.t 13) (.c (.bool false))), zm 15 14, zw 15 true 16 (.mov (.t 3)), zw 15 true 17 (.bin .geq .no (.t 16) (zc 0)), zv 18 (.pick (.t 15) (.t 17) (.c (.bool false))), zm 19 18, zw 19 true 20 (.fad (.t 1) 4), zw 19 true 21 (.ld false 1 (.t 20)), zw 19 true 22 (.mov (.t 3)), zw 19 true 23 (.slv 5 (.t 21) none (some (.t 22)) none), ⟨some (19, true), some 24, .call (.c (.fn 27 [] [])) [((.t 23), (.sl 5)), ((.c (.fn 56 [] [])), .id)]⟩, zv 25 (.pick (.t 19) (.t 24) (.c (.bool false))), zm 26 25, zw 26 true 27 (.fad (.t 1) 4), zw 26 true 28 (.ld false 1 (.t 27)), zw 26 true 29 (.mov (.t 3)), zw 26 true 30 (.iad 5 (.t 28) (.t 29)), zw 26 true 31 (.ld true 5 (.t 30)), ⟨some (26, true), some 32, .call (.c (.fn 57 [] [])) [((.t 31), zN)]⟩, zv 33 (.pick (.t 26) (.t 32) (.c (.bool false))), zm 2 33]
def k0eu : IC := (.seq qbzl (.seq qb9x (.seq qb1e .ret)))
@[go_sem] def s0eu : List (RV × Co) := [(.t 2, .id)]
theorem c0eu : cFun Tryz.prog 96 = some (34, k0eu, s0eu) := by kernel_rfl

def qbxt : IC := zr [zv 2 zf]
def qb5g : IC := zr [zm 3 0, zv 4 (.bin .geq .no (.t 3) (.c (.int .u8 65))), zm 5 4, zw 5 true 6 (.mov (.t 0)), zw 5 true 7 (.bin .leq .no (.t 6) (.c (.int .u8 90))), zv 8 (.pick (.t 5) (.t 7) (.c (.bool false))), zm 2 8]
def k0ea : IC := (.seq qbxt (.seq qb5g .ret))
@[go_sem] def s0ea : List (RV × Co) := [(.t 2, .id)]
theorem c0ea : cFun Tryz.prog 97 = some (9, k0ea, s0ea) := by kernel_rfl

def qb7p : IC := zr [zv 2 zf]
def qb51 : IC := zr [zm 5 0, zv 6 (.len true (.t 5)), zv 7 (.mov (zc 0))]
def qb87 : IC := zr [zv 8 (.bin .lss .no (.t 7) (.t 6))]
def qb1v : IC := zr [zm 9 7, zm 3 9]
def qbrx : IC := zr [zm 10 0, zm 11 3, zv 12 (.idx (.t 10) (.t 11)), zm 4 12]
def qbuq : IC := zr [zm 13 4, zi 14 (.call (.c (.fn 125 [] [])) [((.t 13), .id)]), zv 15 (.un .not (.t 14)), zm 16 15, zw 16 true 17 (.mov (.t 4)), ⟨some (16, true), some 18, .call (.c (.fn 97 [] [])) [((.t 17), .id)]⟩, zw 16 true 19 (.un .not (.t 18)), zv 20 (.pick (.t 16) (.t 19) (.c (.bool false))), zm 21 20, zw 21 true 22 (.mov (.t 4)), zw 21 true 23 (.bin .lss .no (.t 22) (.c (.int .u8 48))), zw 21 true 24 (.mov (.t 23)), zw 24 false 25 (.mov (.t 4)), zw 24 false 26 (.bin .gtr .no (.t 25) (.c (.int .u8 57))), zw 21 true 27 (.pick (.t 24) (.c (.bool true)) (.t 26)), zv 28 (.pick (.t 21) (.t 27) (.c (.bool false))), zm 29 28, zw 29 true 30 (.mov (.t 4)), zw 29 true 31 (.bin .neq .no (.t 30) (.c (.int .u8 39))), zv 32 (.pick (.t 29) (.t 31) (.c (.bool false)))]
def qb44 : IC := zr [zv 2 zf]
def qbqf : IC := zr [zv 33 (.bin .add .no (.t 7) (zc 1)), zm 7 33]
def qb4x : IC := (.seq qb87 (.seq (.cond (.t 8) .skip (.exit 0)) (.seq (.block 1 (.seq qb1v (.seq qbrx (.seq qbuq (.cond (.t 32) (.seq qb44 .ret) .skip))))) qbqf)))
def qbdb : IC := zr [zv 2 (.mov (.c (.bool true)))]
def k0ee : IC := (.seq qb7p (.seq (.seq qb51 (.block 0 (.loop qb4x))) (.seq qbdb .ret)))
@[go_sem] def s0ee : List (RV × Co) := [(.t 2, .id)]
theorem c0ee : cFun Tryz.prog 98 = some (34, k0ee, s0ee) := by kernel_rfl

def qb4t : IC := zr [zv 6 (.ld false 1 (.t 1)), zi 7 (.call (.c (.fn 100 [] [])) [((.t 6), .id)]), zm 3 7]
def qbv3 : IC := zr [zm 8 3, zv 9 (.ld false 1 (.t 1)), zv 10 (.len true (.t 9)), zv 11 (.bin .lss .no (.t 8) (.t 10))]
def qb3s : IC := zr [zv 13 (.ld false 1 (.t 1)), zm 14 3, zv 15 (.sls (.t 13) (some (.t 14)) none), zi 16 (.call (.c (.fn 101 [] [])) [((.t 15), .id)]), zm 12 16, zv 17 (.ext (.t 12) 0), zv 18 (.ext (.t 12) 1), zi 4 zaT, zn (.st 4 .id (.t 4) (.t 17)), zm 5 18]
def qb6t : IC := zr [zm 19 3, zv 20 (.fad (.t 4) 1), zn (.st 1 .id (.t 20) (.t 19))]
def qb1g : IC := zr [zm 21 0, zv 22 (.ld true 4 (.t 4)), zm 23 5, zi 24 (.call (.t 21) [((.t 22), .id), ((.t 23), .id)]), zv 25 (.un .not (.t 24))]
def qbqa : IC := zr [zm 26 3, zv 27 (.fad (.t 4) 3), zv 28 (.ld false 1 (.t 27)), zv 29 (.len true (.t 28)), zv 30 (.bin .add .no (.t 26) (.t 29)), zm 3 30]
def qbs5 : IC := zr [zm 31 3, zv 32 (.ld false 1 (.t 1)), zm 33 3, zv 34 (.sls (.t 32) (some (.t 33)) none), zi 35 (.call (.c (.fn 100 [] [])) [((.t 34), .id)]), zv 36 (.bin .add .no (.t 31) (.t 35)), zm 3 36]
def qcb9 : IC := (.seq (.seq qbv3 (.cond (.t 11) .skip (.exit 0))) (.block 1 (.seq qb3s (.seq qb6t (.seq (.seq qb1g (.cond (.t 25) .ret .skip)) (.seq qbqa qbs5))))))
def k0di : IC := (.seq qb4t (.block 0 (.loop qcb9)))
@[go_sem] def s0di : List (RV × Co) := []
theorem c0di : cFun Tryz.prog 99 = some (37, k0di, s0di) := by kernel_rfl

def qb9r : IC := zr [zv 2 (.mov (zc 0))]
def qbx1 : IC := zr [zv 3 (.mov (zc 0))]
def qb5e : IC := zr [zm 5 0, zm 6 3, zv 7 (.sls (.t 5) (some (.t 6)) none), zi 8 (.call (.c (.fn 129 [] [])) [((.t 7), .id), ((.c (.fn 130 [] [])), .id)]), zm 4 8]
def qbx6 : IC := zr [zm 9 0, zm 10 3, zm 11 4, zv 12 (.bin .add .no (.t 10) (.t 11)), zv 13 (.sls (.t 9) (some (.t 12)) none), zi 14 (.call (.c (.fn 131 [] [])) [((.t 13), .id), ((.c (.str [45, 45])), .id)])]
def qbqh : IC := zr [zm 15 4, zm 16 0, zm 17 3, zm 18 4, zv 19 (.bin .add .no (.t 17) (.t 18)), zv 20 (.sls (.t 16) (some (.t 19)) none), zi 21 (.call (.c (.fn 129 [] [])) [((.t 20), .id), ((.c (.fn 132 [] [])), .id)]), zv 22 (.bin .add .no (.t 15) (.t 21)), zm 4 22]
def qb4u : IC := zr [zm 23 4, zv 24 (.bin .eql .no (.t 23) (zc 0))]
def qb68 : IC := zr [zm 25 3, zm 2 25]
def qbt6 : IC := zr [zm 26 3, zm 27 4, zv 28 (.bin .add .no (.t 26) (.t 27)), zm 3 28]
def qcdi : IC := (.block 1 (.seq qb5e (.seq (.seq qbx6 (.cond (.t 14) qbqh .skip)) (.seq (.seq qb4u (.cond (.t 24) (.seq qb68 .ret) .skip)) qbt6))))
def k0dv : IC := (.seq qb9r (.seq qbx1 (.block 0 (.loop qcdi))))
@[go_sem] def s0dv : List (RV × Co) := [(.t 2, .id)]
theorem c0dv : cFun Tryz.prog 100 = some (29, k0dv, s0dv) := by kernel_rfl

def qbs7 : IC := zr [zi 2 zaT, zv 3 (.mov (zc 0))]
def qb33 : IC := zr [zm 9 0, zv 10 (.idx (.t 9) (zc 0)), zm 4 10]
def qcbr : IC := zr [zm 12 4, zi 13 (.call (.c (.fn 133 [] [])) [((.t 12), .id)]), zm 11 13]
def qbr0 : IC := zr [zm 14 0, zm 15 0, zi 16 (.call (.c (.fn 129 [] [])) [((.t 15), .id), ((.c (.fn 133 [] [])), .id)]), zv 17 (.sls (.t 14) none (some (.t 16))), zm 5 17]
def qb1l : IC := zr [zm 19 5, zi 20 (.call (.c (.fn 134 [] [])) [((.t 19), .id)]), zm 18 20, zv 21 (.ext (.t 18) 0), zv 22 (.ext (.t 18) 1), zm 6 21, zm 7 22]
def qbwy : IC := zr [zm 23 6, zm 24 5, zv 25 (.bld [(.int .i64 0), (.int .i64 0), (.int .i64 0), (.str [])] [(0, 1, (zc 3)), (2, 1, (.t 23)), (3, 1, (.t 24))]), zm 26 7, zn (.st 4 .id (.t 2) (.t 25)), zm 3 26]
def qb06 : IC := zr [zm 28 4, zi 29 (.call (.c (.fn 135 [] [])) [((.t 28), .id)]), zm 30 29, zw 30 true 31 (.mov (.t 4)), zw 30 true 32 (.bin .neq .no (.t 31) (.c (.int .u8 39))), zv 33 (.pick (.t 30) (.t 32) (.c (.bool false))), zm 27 33]
def qb1x : IC := zr [zm 34 0, zm 35 0, zi 36 (.call (.c (.fn 129 [] [])) [((.t 35), .id), ((.c (.fn 135 [] [])), .id)]), zv 37 (.sls (.t 34) none (some (.t 36))), zi 38 (.call (.c (.fn 136 [] [])) [((.t 37), .id)]), zn (.st 4 .id (.t 2) (.t 38)), zv 3 (.mov (zc 0))]
def qcd1 : IC := zr [zm 39 0, zi 40 (.call (.c (.fn 137 [] [])) [((.t 39), .id)]), zm 8 40]
def qbw3 : IC := zr [zm 41 8, zv 42 (.bin .eql .no (.t 41) (zc 0))]
def qber : IC := zr [zv 43 (.bld [(.int .i64 0), (.int .i64 0), (.int .i64 0), (.str [])] []), zn (.st 4 .id (.t 2) (.t 43)), zv 3 (.mov (zc 3))]
def qbj5 : IC := zr [zm 44 0, zm 45 8, zv 46 (.sls (.t 44) none (some (.t 45))), zv 47 (.bld [(.int .i64 0), (.int .i64 0), (.int .i64 0), (.str [])] [(0, 1, (zc 5)), (3, 1, (.t 46))]), zn (.st 4 .id (.t 2) (.t 47)), zv 3 (.mov (zc 0))]
def k0dn : IC := (.seq qbs7 (.seq (.seq qb33 (.block 0 (.seq qcbr (.cond (.t 11) (.seq qbr0 (.seq qb1l (.seq qbwy .ret))) (.seq qb06 (.cond (.t 27) (.seq qb1x .ret) .skip)))))) (.seq qcd1 (.seq (.seq qbw3 (.cond (.t 42) (.seq qber .ret) .skip)) (.seq qbj5 .ret)))))
@[go_sem] def s0dn : List (RV × Co) := [(.c true 4 2, .id), (.t 3, .id)]
theorem c0dn : cFun Tryz.prog 101 = some (48, k0dn, s0dn) := by kernel_rfl

def qb8m : IC := zr [zi 2 (.box (.t 0)), zv 4 zf]
def qbyh : IC := zr [zv 7 (.fad (.t 2) 0), zv 8 (.ld false 1 (.t 7)), zv 9 (.bin .neq .no (.t 8) (zc 4)), zm 10 9, zw 10 true 11 (.fad (.t 2) 0), zw 10 true 12 (.ld false 1 (.t 11)), zw 10 true 13 (.bin .neq .no (.t 12) (zc 5)), zv 14 (.pick (.t 10) (.t 13) (.c (.bool false)))]
def qbua : IC := zr [zv 4 zf]
def qbzf : IC := zr [zm 15 1, zv 16 (.len false (.t 15)), zv 17 (.mov (zc 0))]
def qb8o : IC := zr [zv 18 (.bin .lss .no (.t 17) (.t 16))]
def qbo8 : IC := zr [zv 19 (.iad 1 (.t 15) (.t 17)), zv 20 (.ld false 1 (.t 19)), zm 6 20]
def qbql : IC := zr [zv 21 (.fad (.t 2) 3), zv 22 (.ld false 1 (.t 21)), zm 23 6, zv 24 (.bin .eql .no (.t 22) (.t 23))]
def qbm8 : IC := zr [zv 4 (.mov (.c (.bool true)))]
def qbna : IC := zr [zv 25 (.bin .add .no (.t 17) (zc 1)), zm 17 25]
def k0cv_l4 : IC := (.seq qb8o (.seq (.cond (.t 18) .skip (.exit 0)) (.seq (.block 1 (.seq qbo8 (.seq qbql (.cond (.t 24) (.seq qbm8 .ret) .skip)))) qbna)))
def k0cv_r11 : IC := zr [zv 4 zf]
def k0cv : IC := (.seq qb8m (.seq (.seq qbyh (.cond (.t 14) (.seq qbua .ret) .skip)) (.seq (.seq qbzf (.block 0 (.loop k0cv_l4))) (.seq k0cv_r11 .ret))))
@[go_sem] def s0cv : List (RV × Co) := [(.t 4, .id)]
theorem c0cv : cFun Tryz.prog 102 = some (26, k0cv, s0cv) := by kernel_rfl

def qbro : IC := zr [zv 2 zf]
def qbwd : IC := zr [zm 3 0, zi 4 (.call (.c (.fn 39 [] [])) [((.t 3), .id)]), zm 5 4, zw 5 false 6 (.mov (.t 0)), zw 5 false 7 (.nck (.t 6)), zw 5 false 8 (.fad (.t 7) 6), zw 5 false 9 (.ld false 1 (.t 8)), zw 5 false 10 (.bin .geq .no (.t 9) (zc 200)), zv 11 (.pick (.t 5) (.c (.bool true)) (.t 10))]
def qb3n : IC := zr [zm 12 0, zi 13 (.call (.c (.fn 69 [] [])) [((.t 12), .id), ((zc 2), .id)]), zm 2 13]
def qb1p : IC := zr [zm 14 0, zv 15 (.nck (.t 14)), zv 16 (.fad (.t 15) 6), zv 17 (.ld false 1 (.t 16)), zv 18 (.bin .add .no (.t 17) (zc 1)), zv 19 (.nck (.t 14)), zv 20 (.fad (.t 19) 6), zn (.st 1 .id (.t 20) (.t 18))]
def qbqv : IC := zr [zv 2 (.mov (.c (.bool true)))]
def k0db : IC := (.seq qbro (.seq (.seq qbwd (.cond (.t 11) (.seq qb3n .ret) .skip)) (.seq qb1p (.seq qbqv .ret))))
@[go_sem] def s0db : List (RV × Co) := [(.t 2, .id)]
theorem c0db : cFun Tryz.prog 103 = some (21, k0db, s0db) := by kernel_rfl

def qboj : IC := zr [zi 2 zaN, zv 3 zf]
def qbtg : IC := zr [zm 8 0, zi 9 (.call (.c (.fn 103 [] [])) [((.t 8), .id)]), zv 10 (.un .not (.t 9))]
def qb8z : IC := zr [zv 11 (.bld [(.int .i64 0), (.int .i64 0), (.int .i64 0), (.str []), .nils] []), zn (.st 5 zN (.t 2) (.t 11)), zv 3 zf]
def qbq7 : IC := zr [zm 13 0, zi 14 (.call (.c (.fn 138 [] [])) [((.t 13), .id)]), zm 12 14, zv 15 (.ext (.t 12) 0), zv 16 (.ext (.t 12) 1), zi 4 zaN, zn (.st 5 zN (.t 4) (.t 15)), zm 5 16]
def qb8a : IC := zr [zm 17 5, zm 18 17, zw 18 true 19 (.mov (.t 0)), ⟨some (18, true), some 20, .call (.c (.fn 35 [] [])) [((.t 19), .id), ((.c (.str [45, 62])), .id)]⟩, zv 21 (.pick (.t 18) (.t 20) (.c (.bool false)))]
def qb4d : IC := zr [zm 23 0, zi 24 (.call (.c (.fn 104 [] [])) [((.t 23), .id)]), zm 22 24, zv 25 (.ext (.t 22) 0), zv 26 (.ext (.t 22) 1), zi 6 zaN, zn (.st 5 zN (.t 6) (.t 25)), zm 7 26]
def qbnt : IC := zr [zv 27 (.fad (.t 4) 1), zv 28 (.ld false 1 (.t 27)), zv 29 (.ld true 5 (.t 4)), zv 30 (.ld true 5 (.t 6)), zv 31 (.bsl 5 [((.t 29), zN), ((.t 30), zN)]), zv 32 (.bld [(.int .i64 0), (.int .i64 0), (.int .i64 0), (.str []), .nils] [(0, 1, (zc 2)), (1, 1, (.t 28)), (3, 1, (.c (.str [45, 62]))), (4, 1, (.t 31))]), zm 33 7, zn (.st 5 zN (.t 4) (.t 32)), zm 5 33]
def qby8 : IC := zr [zm 34 0, zi 35 (.call (.c (.fn 105 [] [])) [((.t 34), .id)])]
def qb4k : IC := zr [zm 36 0, zv 37 (.ld true 5 (.t 4)), zm 38 5, zi 39 (.call (.c (.fn 106 [] [])) [((.t 36), .id), ((.t 37), zN), ((.t 38), .id)]), zv 40 (.ext (.t 39) 0), zv 41 (.ext (.t 39) 1), zn (.st 5 zN (.t 2) (.t 40)), zm 3 41]
def k0cg : IC := (.seq qboj (.seq (.seq qbtg (.cond (.t 10) (.seq qb8z .ret) .skip)) (.seq qbq7 (.seq (.seq qb8a (.cond (.t 21) (.seq qb4d qbnt) .skip)) (.seq qby8 (.seq qb4k .ret))))))
@[go_sem] def s0cg : List (RV × Co) := [(.c true 5 2, zN), (.t 3, .id)]
theorem c0cg : cFun Tryz.prog 104 = some (42, k0cg, s0cg) := by kernel_rfl

def qbvy : IC := zr [zm 2 0, zi 3 (.call (.c (.fn 39 [] [])) [((.t 2), .id)]), zv 4 (.un .not (.t 3)), zm 5 4, zw 5 true 6 (.mov (.t 0)), zw 5 true 7 (.nck (.t 6)), zw 5 true 8 (.fad (.t 7) 6), zw 5 true 9 (.ld false 1 (.t 8)), zw 5 true 10 (.bin .gtr .no (.t 9) (zc 0)), zv 11 (.pick (.t 5) (.t 10) (.c (.bool false)))]
def qbom : IC := zr [zm 12 0, zv 13 (.nck (.t 12)), zv 14 (.fad (.t 13) 6), zv 15 (.ld false 1 (.t 14)), zv 16 (.bin .sub .no (.t 15) (zc 1)), zv 17 (.nck (.t 12)), zv 18 (.fad (.t 17) 6), zn (.st 1 .id (.t 18) (.t 16))]
def k0dc : IC := (.seq qbvy (.cond (.t 11) qbom .skip))
@[go_sem] def s0dc : List (RV × Co) := []
theorem c0dc : cFun Tryz.prog 105 = some (19, k0dc, s0dc) := by kernel_rfl

def qcd9 : IC := zr [zi 4 (.box (.t 1)), zi 6 zaN, zv 7 zf]
def qb85 : IC := zr [zm 8 2, zv 9 (.un .not (.t 8))]
def qb5x : IC := zr [zv 10 (.bld [(.int .i64 0), (.int .i64 0), (.int .i64 0), (.str []), .nils] []), zn (.st 5 zN (.t 6) (.t 10)), zv 7 zf]
def qb1j : IC := zr [zv 11 (.ld true 5 (.t 4)), zn (.st 5 zN (.t 6) (.t 11)), zv 7 (.mov (.c (.bool true)))]
def k0cc : IC := (.seq qcd9 (.seq (.seq qb85 (.cond (.t 9) (.seq qb5x .ret) .skip)) (.seq qb1j .ret)))
@[go_sem] def s0cc : List (RV × Co) := [(.c true 5 6, zN), (.t 7, .id)]
theorem c0cc : cFun Tryz.prog 106 = some (12, k0cc, s0cc) := by kernel_rfl

def qb3i : IC := zr [zi 1 zaN, zv 2 zf]
def qb7j : IC := zr [zv 3 (.ld false 1 (.t 0)), zi 4 (.call (.c (.fn 63 [] [])) [((.t 3), .id)]), zv 5 (.ext (.t 4) 0), zv 6 (.ext (.t 4) 1), zn (.st 5 zN (.t 1) (.t 5)), zm 2 6]
def k0bb : IC := (.seq qb3i (.seq qb7j .ret))
@[go_sem] def s0bb : List (RV × Co) := [(.c true 5 1, zN), (.t 2, .id)]
theorem c0bb : cFun Tryz.prog 107 = some (7, k0bb, s0bb) := by kernel_rfl

def qb30 : IC := zr [zv 1 zf]
def qbqs : IC := zr [zv 2 (.ld false 1 (.t 0)), zi 3 (.call (.c (.fn 109 [] [])) [((.t 2), .id)]), zm 1 3]
def k0bc : IC := (.seq qb30 (.seq qbqs .ret))
@[go_sem] def s0bc : List (RV × Co) := [(.t 1, .id)]
theorem c0bc : cFun Tryz.prog 108 = some (4, k0bc, s0bc) := by kernel_rfl

def qb6o : IC := zr [zv 2 zf]
def qb41 : IC := zr [zm 4 0, zi 5 (.call (.c (.fn 19 [] [])) [((.t 4), .id)]), zv 6 (.fld false 1 0 (.t 5)), zm 3 6]
def qb84 : IC := zr [zm 7 3, zv 8 (.bin .eql .no (.t 7) (zc 1)), zm 9 8, zw 9 false 10 (.mov (.t 3)), zw 9 false 11 (.bin .eql .no (.t 10) (zc 2)), zv 12 (.pick (.t 9) (.c (.bool true)) (.t 11)), zm 13 12, zw 13 false 14 (.mov (.t 0)), ⟨some (13, false), some 15, .call (.c (.fn 59 [] [])) [((.t 14), .id), ((.c (.str [40])), .id)]⟩, zv 16 (.pick (.t 13) (.c (.bool true)) (.t 15)), zm 2 16]
def k0ba : IC := (.seq qb6o (.seq qb41 (.seq qb84 .ret)))
@[go_sem] def s0ba : List (RV × Co) := [(.t 2, .id)]
theorem c0ba : cFun Tryz.prog 109 = some (17, k0ba, s0ba) := by kernel_rfl

def qb29 : IC := zr [zv 4 zf]
def qcdr : IC := zr [zm 8 0, zi 9 (.call (.c (.fn 39 [] [])) [((.t 8), .id)])]
def qccp : IC := zr [zv 4 zf]
def qca5 : IC := zr [zv 5 (.mov (zc 0))]
def qcaf : IC := .drw [zp (zm 10 0), zp (zv 11 (.nck (.t 10))), zp (zv 12 (.fad (.t 11) 0)), zp (zv 13 (.ld false 1 (.t 12))), zp (zm 14 0), zp (zv 15 (.nck (.t 14))), zp (zv 16 (.fad (.t 15) 5)), zp (zv 17 (.ld false 1 (.t 16))), zp (zv 18 (.slv 4 (.t 13) (some (.t 17)) none none)), zp (zv 19 (.len false (.t 18))), zp (zv 20 (.mov (zc 0)))]
def qby4 : IC := zr [zv 21 (.bin .lss .no (.t 20) (.t 19))]
def qbyg : IC := zr [zv 22 (.iad 4 (.t 18) (.t 20)), zv 23 (.ld true 4 (.t 22)), zi 7 zaT, zn (.st 4 .id (.t 7) (.t 23))]
def qb3x : IC := zr [zv 25 (.ld true 4 (.t 7)), zv 26 (.bsl 1 [((.c (.str [40])), .id), ((.c (.str [123])), .id)]), zi 27 (.call (.c (.fn 102 [] [])) [((.t 25), .id), ((.t 26), (.sl 1))]), zm 24 27]
def qbzg : IC := zr [zm 28 5, zv 29 (.bin .add .no (.t 28) (zc 1)), zm 5 29]
def qbgv : IC := zr [zv 31 (.ld true 4 (.t 7)), zv 32 (.bsl 1 [((.c (.str [41])), .id), ((.c (.str [125])), .id)]), zi 33 (.call (.c (.fn 102 [] [])) [((.t 31), .id), ((.t 32), (.sl 1))]), zm 30 33]
def qbgb : IC := zr [zm 34 5, zv 35 (.bin .sub .no (.t 34) (zc 1)), zm 5 35]
def qbi1 : IC := zr [zm 36 5, zv 37 (.bin .lss .no (.t 36) (zc 0))]
def qblz : IC := zr [zv 4 zf]
def qbee : IC := zr [zm 39 5, zv 40 (.bin .gtr .no (.t 39) (zc 0)), zm 38 40]
def qbe5 : IC := zr [zv 42 (.ld true 4 (.t 7)), zv 43 (.bsl 1 [((.c (.str [59])), .id)]), zi 44 (.call (.c (.fn 102 [] [])) [((.t 42), .id), ((.t 43), (.sl 1))]), zm 41 44]
def qbc7 : IC := zr [zv 4 zf]
def qbfy : IC := zr [zv 46 (.ld true 4 (.t 7)), zm 47 1, zv 48 (.bsl 1 [((.t 47), .id)]), zi 49 (.call (.c (.fn 102 [] [])) [((.t 46), .id), ((.t 48), (.sl 1))]), zm 45 49]
def qbjk : IC := zr [zv 4 (.mov (.c (.bool true)))]
def qbi8 : IC := zr [zv 50 (.bin .add .no (.t 20) (zc 1)), zm 20 50]
def qbpo : IC := (.seq qby4 (.seq (.cond (.t 21) .skip (.exit 0)) (.seq (.block 1 (.seq qbyg (.block 2 (.seq qb3x (.cond (.t 24) qbzg (.seq qbgv (.cond (.t 30) (.seq qbgb (.seq qbi1 (.cond (.t 37) (.seq qblz .ret) .skip))) (.seq qbee (.cond (.t 38) .skip (.seq qbe5 (.cond (.t 41) (.seq qbc7 .ret) (.seq qbfy (.cond (.t 45) (.seq qbjk .ret) .skip))))))))))))) qbi8)))
def qbj3 : IC := zr [zv 4 zf]
def k0fi : IC := (.seq qb29 (.seq (.seq qcdr (.cond (.t 9) (.seq qccp .ret) .skip)) (.seq qca5 (.seq (.seq qcaf (.block 0 (.loop qbpo))) (.seq qbj3 .ret)))))
@[go_sem] def s0fi : List (RV × Co) := [(.t 4, .id)]
theorem c0fi : cFun Tryz.prog 110 = some (51, k0fi, s0fi) := by kernel_rfl

def qbu3 : IC := zr [zv 2 zf]
def qb7d : IC := zr [zm 6 0, zi 7 (.call (.c (.fn 32 [] [])) [((.t 6), .id)]), zm 5 7, zv 8 (.ext (.t 5) 0), zv 9 (.ext (.t 5) 1), zm 3 8, zm 4 9]
def qb1m : IC := zr [zm 10 4, zv 11 (.bin .neq .no (.t 10) (zc 0)), zm 12 11, zw 12 true 13 (.mov (.t 4)), zw 12 true 14 (.bin .neq .no (.t 13) (zc 5)), zw 12 true 15 (.mov (.t 14)), zw 15 false 16 (.mov (.t 0)), ⟨some (15, false), some 17, .call (.c (.fn 19 [] [])) [((.t 16), .id)]⟩, zw 15 false 18 (.fld false 1 0 (.t 17)), zw 15 false 19 (.bin .eql .no (.t 18) (zc 0)), zw 12 true 20 (.pick (.t 15) (.c (.bool true)) (.t 19)), zv 21 (.pick (.t 12) (.t 20) (.c (.bool false))), zm 2 21]
def k0ca : IC := (.seq qbu3 (.seq qb7d (.seq qb1m .ret)))
@[go_sem] def s0ca : List (RV × Co) := [(.t 2, .id)]
theorem c0ca : cFun Tryz.prog 111 = some (22, k0ca, s0ca) := by kernel_rfl

def qbwz : IC := zr [zi 2 zaN, zv 3 zf]
def qbof : IC := zr [zm 8 0, zi 9 (.call (.c (.fn 61 [] [])) [((.t 8), .id), ((zc 2), .id)]), zm 7 9, zv 10 (.ext (.t 7) 0), zv 11 (.ext (.t 7) 1), zi 4 zaT, zn (.st 4 .id (.t 4) (.t 10)), zm 5 11]
def qb6a : IC := zr [zm 12 5, zv 13 (.un .not (.t 12))]
def qcee : IC := zr [zv 14 (.bld [(.int .i64 0), (.int .i64 0), (.int .i64 0), (.str []), .nils] []), zn (.st 5 zN (.t 2) (.t 14)), zv 3 zf]
def qb3o : IC := zr [zm 16 0, zi 17 (.call (.c (.fn 63 [] [])) [((.t 16), .id)]), zm 15 17, zv 18 (.ext (.t 15) 0), zv 19 (.ext (.t 15) 1), zi 6 zaN, zn (.st 5 zN (.t 6) (.t 18)), zm 5 19]
def qbya : IC := zr [zm 20 0, zv 21 (.fad (.t 4) 1), zv 22 (.ld false 1 (.t 21)), zv 23 (.fad (.t 4) 3), zv 24 (.ld false 1 (.t 23)), zv 25 (.ld true 5 (.t 6)), zv 26 (.bsl 5 [((.t 25), zN)]), zv 27 (.bld [(.int .i64 0), (.int .i64 0), (.int .i64 0), (.str []), .nils] [(0, 1, (zc 3)), (1, 1, (.t 22)), (3, 1, (.t 24)), (4, 1, (.t 26))]), zm 28 5, zi 29 (.call (.c (.fn 106 [] [])) [((.t 20), .id), ((.t 27), zN), ((.t 28), .id)]), zv 30 (.ext (.t 29) 0), zv 31 (.ext (.t 29) 1), zn (.st 5 zN (.t 2) (.t 30)), zm 3 31]
def k0cb : IC := (.seq qbwz (.seq qbof (.seq (.seq qb6a (.cond (.t 13) (.seq qcee .ret) .skip)) (.seq qb3o (.seq qbya .ret)))))
@[go_sem] def s0cb : List (RV × Co) := [(.c true 5 2, zN), (.t 3, .id)]
theorem c0cb : cFun Tryz.prog 112 = some (32, k0cb, s0cb) := by kernel_rfl

def qcf7 : IC := zr [zi 2 zaN, zv 3 zf]
def qcld : IC := zr [zv 4 (.ld false 1 (.t 0)), zv 5 (.ld false 1 (.t 1)), zi 6 (.call (.c (.fn 114 [] [])) [((.t 4), .id), ((.t 5), .id)]), zv 7 (.ext (.t 6) 0), zv 8 (.ext (.t 6) 1), zn (.st 5 zN (.t 2) (.t 7)), zm 3 8]
def k0t : IC := (.seq qcf7 (.seq qcld .ret))
@[go_sem] def s0t : List (RV × Co) := [(.c true 5 2, zN), (.t 3, .id)]
theorem c0t : cFun Tryz.prog 113 = some (9, k0t, s0t) := by kernel_rfl

def qcik : IC := zr [zi 4 zaN, zv 5 zf]
def qcko : IC := zr [zm 9 0, zi 10 (.call (.c (.fn 38 [] [])) [((.t 9), .id)]), zm 8 10, zv 11 (.ext (.t 8) 0), zv 12 (.ext (.t 8) 1), zi 6 zaN, zn (.st 5 zN (.t 6) (.t 11)), zm 7 12]
def qch4 : IC := zr [zm 13 7, zm 14 13, zw 14 true 15 (.fad (.t 6) 0), zw 14 true 16 (.ld false 1 (.t 15)), zw 14 true 17 (.mov (.t 1)), zw 14 true 18 (.bin .neq .no (.t 16) (.t 17)), zv 19 (.pick (.t 14) (.t 18) (.c (.bool false)))]
def qcf4 : IC := .drw [zp (zv 20 (.ld true 5 (.t 6))), zp (zm 21 0), (zi 22 (.call (.c (.fn 69 [] [])) [((.t 21), .id), ((zc 5), .id)]), [0]), (zn (.st 5 zN (.t 4) (.t 20)), []), zp (zm 5 22)]
def qckm : IC := zr [zv 23 (.ld true 5 (.t 6)), zm 24 7, zn (.st 5 zN (.t 4) (.t 23)), zm 5 24]
def k0s : IC := (.seq qcik (.seq qcko (.seq (.seq qch4 (.cond (.t 19) (.seq qcf4 .ret) .skip)) (.seq qckm .ret))))
@[go_sem] def s0s : List (RV × Co) := [(.c true 5 4, zN), (.t 5, .id)]
theorem c0s : cFun Tryz.prog 114 = some (25, k0s, s0s) := by kernel_rfl

def qcff : IC := zr [zv 2 zf]
def qcfg : IC := zr [zv 3 (.ld false 1 (.t 0)), zi 4 (.call (.c (.fn 59 [] [])) [((.t 3), .id), ((.c (.str [125])), .id)]), zv 5 (.un .not (.t 4)), zm 6 5, zw 6 true 7 (.ld false 1 (.t 1)), ⟨some (6, true), some 8, .call (.t 7) []⟩, zv 9 (.pick (.t 6) (.t 8) (.c (.bool false))), zm 10 9, zw 10 true 11 (.ld false 1 (.t 0)), ⟨some (10, true), some 12, .call (.c (.fn 59 [] [])) [((.t 11), .id), ((.c (.str [125])), .id)]⟩, zw 10 true 13 (.un .not (.t 12)), zv 14 (.pick (.t 10) (.t 13) (.c (.bool false))), zm 2 14]
def k0u : IC := (.seq qcff (.seq qcfg .ret))
@[go_sem] def s0u : List (RV × Co) := [(.t 2, .id)]
theorem c0u : cFun Tryz.prog 115 = some (15, k0u, s0u) := by kernel_rfl

def qb5c : IC := zr [zi 2 zaN, zv 3 zf]
def qcdf : IC := zr [zm 6 0, zi 7 (.call (.c (.fn 103 [] [])) [((.t 6), .id)]), zv 8 (.un .not (.t 7))]
def qbq5 : IC := zr [zv 9 (.bld [(.int .i64 0), (.int .i64 0), (.int .i64 0), (.str []), .nils] []), zn (.st 5 zN (.t 2) (.t 9)), zv 3 zf]
def qbp9 : IC := zr [zm 11 0, zi 12 (.call (.c (.fn 139 [] [])) [((.t 11), .id)]), zm 10 12, zv 13 (.ext (.t 10) 0), zv 14 (.ext (.t 10) 1), zi 4 zaN, zn (.st 5 zN (.t 4) (.t 13)), zm 5 14]
def qbus : IC := zr [zm 15 0, zi 16 (.call (.c (.fn 105 [] [])) [((.t 15), .id)])]
def qcbc : IC := zr [zm 17 5, zv 18 (.un .not (.t 17))]
def qb1k : IC := zr [zv 19 (.bld [(.int .i64 0), (.int .i64 0), (.int .i64 0), (.str []), .nils] []), zn (.st 5 zN (.t 2) (.t 19)), zv 3 zf]
def qb69 : IC := zr [zv 20 (.ld true 5 (.t 4)), zn (.st 5 zN (.t 2) (.t 20)), zv 3 (.mov (.c (.bool true)))]
def k0bh : IC := (.seq qb5c (.seq (.seq qcdf (.cond (.t 8) (.seq qbq5 .ret) .skip)) (.seq qbp9 (.seq qbus (.seq (.seq qcbc (.cond (.t 18) (.seq qb1k .ret) .skip)) (.seq qb69 .ret))))))
@[go_sem] def s0bh : List (RV × Co) := [(.c true 5 2, zN), (.t 3, .id)]
theorem c0bh : cFun Tryz.prog 116 = some (21, k0bh, s0bh) := by kernel_rfl

def qcc6 : IC := zr [zi 2 (.box (.t 0)), zi 4 zaC]
def qbqi : IC := zr [zv 6 (.fad (.t 2) 6), zv 7 (.ld false 1 (.t 6)), zv 8 (.bin .neq .no (.t 7) (zc 0))]
def qbsx : IC := zr [zv 9 (.ld true 8 (.t 2)), zn (.st 8 zC (.t 4) (.t 9))]
def qb5f : IC := zr [zv 10 (.ld true 8 (.t 2)), zi 11 (.call (.c (.fn 42 [] [])) [((.t 10), zC)]), zv 12 (.fld false 1 1 (.t 11)), zm 5 12]
def qbyz : IC := zr [zm 13 1, zv 14 (.bin .eql .no (.t 13) (zc 0))]
def qcbv : IC := zr [zv 1 (.mov (zc 1))]
def qcdx : IC := zr [zm 15 1, zv 16 (.fad (.t 2) 6), zn (.st 1 .id (.t 16) (.t 15))]
def qbtv : IC := zr [zm 17 5, zv 18 (.fad (.t 2) 7), zn (.st 1 .id (.t 18) (.t 17))]
def qbyn : IC := zr [zv 19 (.ld true 8 (.t 2)), zn (.st 8 zC (.t 4) (.t 19))]
def k0cm : IC := (.seq qcc6 (.seq (.seq qbqi (.cond (.t 8) (.seq qbsx .ret) .skip)) (.seq qb5f (.seq (.seq qbyz (.cond (.t 14) qcbv .skip)) (.seq qcdx (.seq qbtv (.seq qbyn .ret)))))))
@[go_sem] def s0cm : List (RV × Co) := [(.c true 8 4, zC)]
theorem c0cm : cFun Tryz.prog 117 = some (20, k0cm, s0cm) := by kernel_rfl

def qcd3 : IC := zr [zi 1 (.box (.t 0)), zi 2 zaC, zv 3 zf]
def qb2p : IC := zr [zv 4 (.fad (.t 1) 6), zv 5 (.ld false 1 (.t 4)), zv 6 (.bin .neq .no (.t 5) (zc 0))]
def qcca : IC := zr [zv 7 (.ld true 8 (.t 1)), zn (.st 8 zC (.t 2) (.t 7)), zv 3 zf]
def qbqc : IC := zr [zv 8 (.fad (.t 1) 5), zv 9 (.ld false 1 (.t 8)), zv 10 (.bin .geq .no (.t 9) (zc 200))]
def qbu4 : IC := zr [zv 11 (.ld true 8 (.t 1)), zi 12 (.call (.c (.fn 117 [] [])) [((.t 11), zC), ((zc 2), .id)]), zn (.st 8 zC (.t 2) (.t 12)), zv 3 zf]
def qb7h : IC := zr [zv 13 (.fad (.t 1) 5), zv 14 (.ld false 1 (.t 13)), zv 15 (.bin .add .no (.t 14) (zc 1)), zv 16 (.fad (.t 1) 5), zn (.st 1 .id (.t 16) (.t 15))]
def qb96 : IC := zr [zv 17 (.ld true 8 (.t 1)), zn (.st 8 zC (.t 2) (.t 17)), zv 3 (.mov (.c (.bool true)))]
def k0co : IC := (.seq qcd3 (.seq (.seq qb2p (.cond (.t 6) (.seq qcca .ret) .skip)) (.seq (.seq qbqc (.cond (.t 10) (.seq qbu4 .ret) .skip)) (.seq qb7h (.seq qb96 .ret)))))
@[go_sem] def s0co : List (RV × Co) := [(.c true 8 2, zC), (.t 3, .id)]
theorem c0co : cFun Tryz.prog 118 = some (18, k0co, s0co) := by kernel_rfl

def qb31 : IC := zr [zi 1 (.box (.t 0)), zi 2 zaC, zi 3 zaN]
def qbrw : IC := zr [zv 10 (.ld true 8 (.t 1)), zi 11 (.call (.c (.fn 118 [] [])) [((.t 10), zC)]), zm 9 11, zv 12 (.ext (.t 9) 0), zv 13 (.ext (.t 9) 1), zn (.st 8 zC (.t 1) (.t 12))]
def qb50 : IC := zr [zv 15 (.ld true 8 (.t 1)), zi 16 (.call (.c (.fn 140 [] [])) [((.t 15), zC)]), zm 14 16, zv 17 (.ext (.t 14) 0), zv 18 (.ext (.t 14) 1), zi 4 zaN, zn (.st 8 zC (.t 1) (.t 17)), zn (.st 5 zN (.t 4) (.t 18))]
def qbx0 : IC := zr [zv 20 (.ld true 8 (.t 1)), zi 21 (.call (.c (.fn 23 [] [])) [((.t 20), zC), ((.c (.str [45, 62])), .id)]), zm 19 21, zv 22 (.ext (.t 19) 0), zv 23 (.ext (.t 19) 1), zi 5 zaC, zn (.st 8 zC (.t 5) (.t 22)), zm 6 23]
def qbys : IC := zr [zm 24 6]
def qbqg : IC := zr [zv 26 (.ld true 8 (.t 5)), zi 27 (.call (.c (.fn 119 [] [])) [((.t 26), zC)]), zm 25 27, zv 28 (.ext (.t 25) 0), zv 29 (.ext (.t 25) 1), zi 7 zaC, zi 8 zaN, zn (.st 8 zC (.t 7) (.t 28)), zn (.st 5 zN (.t 8) (.t 29))]
def qcb8 : IC := zr [zv 30 (.ld true 8 (.t 7)), zn (.st 8 zC (.t 5) (.t 30))]
def qbng : IC := zr [zv 31 (.fad (.t 4) 1), zv 32 (.ld false 1 (.t 31)), zv 33 (.ld true 5 (.t 4)), zv 34 (.ld true 5 (.t 8)), zv 35 (.bsl 5 [((.t 33), zN), ((.t 34), zN)]), zv 36 (.bld [(.int .i64 0), (.int .i64 0), (.int .i64 0), (.str []), .nils] [(0, 1, (zc 2)), (1, 1, (.t 32)), (3, 1, (.c (.str [45, 62]))), (4, 1, (.t 35))]), zn (.st 5 zN (.t 4) (.t 36))]
def qcce : IC := .drw [zp (zv 37 (.ld true 8 (.t 5))), (zi 38 (.call (.c (.fn 120 [] [])) [((.t 37), zC)]), []), (zv 39 (.ld true 5 (.t 4)), [1]), (zn (.st 8 zC (.t 2) (.t 38)), [2]), (zn (.st 5 zN (.t 3) (.t 39)), [])]
def k0gf : IC := (.seq qb31 (.seq qbrw (.seq qb50 (.seq qbx0 (.seq (.seq qbys (.cond (.t 24) (.seq qbqg (.seq qcb8 qbng)) .skip)) (.seq qcce .ret))))))
@[go_sem] def s0gf : List (RV × Co) := [(.c true 8 2, zC), (.c true 5 3, zN)]
theorem c0gf : cFun Tryz.prog 119 = some (40, k0gf, s0gf) := by kernel_rfl

def qb2z : IC := zr [zi 1 (.box (.t 0)), zi 2 zaC]
def qcef : IC := zr [zv 3 (.fad (.t 1) 6), zv 4 (.ld false 1 (.t 3)), zv 5 (.bin .eql .no (.t 4) (zc 0)), zm 6 5, zw 6 true 7 (.fad (.t 1) 5), zw 6 true 8 (.ld false 1 (.t 7)), zw 6 true 9 (.bin .gtr .no (.t 8) (zc 0)), zv 10 (.pick (.t 6) (.t 9) (.c (.bool false)))]
def qb1u : IC := zr [zv 11 (.fad (.t 1) 5), zv 12 (.ld false 1 (.t 11)), zv 13 (.bin .sub .no (.t 12) (zc 1)), zv 14 (.fad (.t 1) 5), zn (.st 1 .id (.t 14) (.t 13))]
def qb6j : IC := zr [zv 15 (.ld true 8 (.t 1)), zn (.st 8 zC (.t 2) (.t 15))]
def k0cp : IC := (.seq qb2z (.seq (.seq qcef (.cond (.t 10) qb1u .skip)) (.seq qb6j .ret)))
@[go_sem] def s0cp : List (RV × Co) := [(.c true 8 2, zC)]
theorem c0cp : cFun Tryz.prog 120 = some (16, k0cp, s0cp) := by kernel_rfl

def qckl : IC := zr [zi 1 (.box (.t 0)), zv 2 zf]
def qci3 : IC := zr [zv 4 (.ld true 8 (.t 1)), zi 5 (.call (.c (.fn 42 [] [])) [((.t 4), zC)]), zv 6 (.fld false 1 0 (.t 5)), zm 3 6]
def qcfl : IC := zr [zv 7 (.fad (.t 1) 6), zv 8 (.ld false 1 (.t 7)), zv 9 (.bin .eql .no (.t 8) (zc 0)), zm 10 9, zw 10 true 11 (.mov (.t 3)), zw 10 true 12 (.bin .eql .no (.t 11) (zc 1)), zw 10 true 13 (.mov (.t 12)), zw 13 false 14 (.mov (.t 3)), zw 13 false 15 (.bin .eql .no (.t 14) (zc 2)), zw 10 true 16 (.pick (.t 13) (.c (.bool true)) (.t 15)), zw 10 true 17 (.mov (.t 16)), zw 17 false 18 (.ld true 8 (.t 1)), ⟨some (17, false), some 19, .call (.c (.fn 46 [] [])) [((.t 18), zC), ((.c (.str [40])), .id)]⟩, zw 10 true 20 (.pick (.t 17) (.c (.bool true)) (.t 19)), zv 21 (.pick (.t 10) (.t 20) (.c (.bool false))), zm 2 21]
def k0h : IC := (.seq qckl (.seq qci3 (.seq qcfl .ret)))
@[go_sem] def s0h : List (RV × Co) := [(.t 2, .id)]
theorem c0h : cFun Tryz.prog 121 = some (22, k0h, s0h) := by kernel_rfl

def qcdy : IC := zr [zi 2 (.box (.t 0)), zv 4 zf]
def qbrs : IC := zr [zv 8 (.fad (.t 2) 6), zv 9 (.ld false 1 (.t 8)), zv 10 (.bin .neq .no (.t 9) (zc 0))]
def qbvd : IC := zr [zv 4 zf]
def qbyb : IC := zr [zv 5 (.mov (zc 0))]
def qb1b : IC := zr [zv 6 (.mov (zc 0))]
def qcbk : IC := zr [zm 11 6, zv 12 (.fad (.t 2) 0), zv 13 (.ld false 1 (.t 12)), zv 14 (.len false (.t 13)), zv 15 (.bin .lss .no (.t 11) (.t 14))]
def qbri : IC := zr [zv 18 (.fad (.t 2) 0), zv 19 (.ld false 1 (.t 18)), zm 20 6, zv 21 (.iad 4 (.t 19) (.t 20)), zv 22 (.ld true 4 (.t 21)), zi 7 zaT, zn (.st 4 .id (.t 7) (.t 22))]
def qb2w : IC := zr [zv 24 (.ld true 4 (.t 7)), zi 25 (.call (.c (.fn 90 [] [])) [((.t 24), .id), ((.c (.str [40])), .id)]), zm 26 25, zw 26 false 27 (.ld true 4 (.t 7)), ⟨some (26, false), some 28, .call (.c (.fn 90 [] [])) [((.t 27), .id), ((.c (.str [123])), .id)]⟩, zv 29 (.pick (.t 26) (.c (.bool true)) (.t 28)), zm 23 29]
def qb4e : IC := zr [zm 30 5, zv 31 (.bin .add .no (.t 30) (zc 1)), zm 5 31]
def qbja : IC := zr [zv 33 (.ld true 4 (.t 7)), zi 34 (.call (.c (.fn 90 [] [])) [((.t 33), .id), ((.c (.str [41])), .id)]), zm 35 34, zw 35 false 36 (.ld true 4 (.t 7)), ⟨some (35, false), some 37, .call (.c (.fn 90 [] [])) [((.t 36), .id), ((.c (.str [125])), .id)]⟩, zv 38 (.pick (.t 35) (.c (.bool true)) (.t 37)), zm 32 38]
def qbke : IC := zr [zm 39 5, zv 40 (.bin .sub .no (.t 39) (zc 1)), zm 5 40]
def qbhs : IC := zr [zm 42 5, zv 43 (.bin .eql .no (.t 42) (zc 0)), zm 44 43, zw 44 true 45 (.ld true 4 (.t 7)), ⟨some (44, true), some 46, .call (.c (.fn 90 [] [])) [((.t 45), .id), ((.c (.str [59])), .id)]⟩, zv 47 (.pick (.t 44) (.t 46) (.c (.bool false))), zm 41 47]
def qbgn : IC := zr [zv 4 zf]
def qbev : IC := zr [zm 49 5, zv 50 (.bin .eql .no (.t 49) (zc 0)), zm 51 50, zw 51 true 52 (.ld true 4 (.t 7)), zw 51 true 53 (.mov (.t 1)), ⟨some (51, true), some 54, .call (.c (.fn 90 [] [])) [((.t 52), .id), ((.t 53), .id)]⟩, zv 55 (.pick (.t 51) (.t 54) (.c (.bool false))), zm 48 55]
def qbdj : IC := zr [zv 4 (.mov (.c (.bool true)))]
def qbjn : IC := zr [zm 56 5, zv 57 (.bin .lss .no (.t 56) (zc 0))]
def qbla : IC := zr [zv 4 zf]
def qbhy : IC := zr [zm 16 6, zv 17 (.bin .add .no (.t 16) (zc 1)), zm 6 17]
def qbui : IC := (.seq (.seq qcbk (.cond (.t 15) .skip (.exit 0))) (.seq (.block 1 (.seq qbri (.seq (.block 2 (.seq qb2w (.cond (.t 23) qb4e (.seq qbja (.cond (.t 32) qbke (.seq qbhs (.cond (.t 41) (.seq qbgn .ret) (.seq qbev (.cond (.t 48) (.seq qbdj .ret) .skip))))))))) (.seq qbjn (.cond (.t 57) (.seq qbla .ret) .skip))))) qbhy))
def qbli : IC := zr [zv 4 zf]
def k0fj : IC := (.seq qcdy (.seq (.seq qbrs (.cond (.t 10) (.seq qbvd .ret) .skip)) (.seq qbyb (.seq (.seq qb1b (.block 0 (.loop qbui))) (.seq qbli .ret)))))
@[go_sem] def s0fj : List (RV × Co) := [(.t 4, .id)]
theorem c0fj : cFun Tryz.prog 122 = some (58, k0fj, s0fj) := by kernel_rfl

def qbp4 : IC := zr [zi 1 (.box (.t 0)), zi 2 zaC, zi 3 zaN]
def qbti : IC := zr [zv 8 (.ld true 8 (.t 1)), zi 9 (.call (.c (.fn 80 [] [])) [((.t 8), zC), ((zc 2), .id)]), zm 7 9, zv 10 (.ext (.t 7) 0), zv 11 (.ext (.t 7) 1), zv 12 (.ext (.t 7) 2), zi 4 zaT, zn (.st 8 zC (.t 1) (.t 10)), zn (.st 4 .id (.t 4) (.t 11)), zm 5 12]
def qbu2 : IC := zr [zv 14 (.ld true 8 (.t 1)), zi 15 (.call (.c (.fn 81 [] [])) [((.t 14), zC)]), zm 13 15, zv 16 (.ext (.t 13) 0), zv 17 (.ext (.t 13) 1), zi 6 zaN, zn (.st 8 zC (.t 1) (.t 16)), zn (.st 5 zN (.t 6) (.t 17))]
def qbnv : IC := .drw [zp (zv 18 (.ld true 8 (.t 1))), zp (zv 19 (.fad (.t 4) 1)), zp (zv 20 (.ld false 1 (.t 19))), zp (zv 21 (.fad (.t 4) 3)), zp (zv 22 (.ld false 1 (.t 21))), zp (zv 23 (.ld true 5 (.t 6))), (zv 24 (.bsl 5 [((.t 23), zN)]), []), (zv 25 (.bld [(.int .i64 0), (.int .i64 0), (.int .i64 0), (.str []), .nils] [(0, 1, (zc 3)), (1, 1, (.t 20)), (3, 1, (.t 22)), (4, 1, (.t 24))]), []), (zn (.st 8 zC (.t 2) (.t 18)), [2, 4, 5, 6]), (zn (.st 5 zN (.t 3) (.t 25)), [])]
def k0fz : IC := (.seq qbp4 (.seq qbti (.seq qbu2 (.seq qbnv .ret))))
@[go_sem] def s0fz : List (RV × Co) := [(.c true 8 2, zC), (.c true 5 3, zN)]
theorem c0fz : cFun Tryz.prog 123 = some (26, k0fz, s0fz) := by kernel_rfl

def qbxv : IC := zr [zi 1 (.box (.t 0)), zi 2 zaC, zi 3 zaN]
def qbnq : IC := zr [zv 16 (.ld true 8 (.t 1)), zi 17 (.call (.c (.fn 42 [] [])) [((.t 16), zC)]), zv 18 (.fld false 1 1 (.t 17)), zm 4 18]
def qbxg : IC := zr [zv 20 (.ld true 8 (.t 1)), zv 21 (.bsl 1 [((.c (.int .u8 92)), .id)]), zv 22 (.cbs (.t 21)), zi 23 (.call (.c (.fn 23 [] [])) [((.t 20), zC), ((.t 22), .id)]), zm 19 23, zv 24 (.ext (.t 19) 0), zv 25 (.ext (.t 19) 1), zi 5 zaC, zn (.st 8 zC (.t 5) (.t 24)), zm 6 25]
def qbpe : IC := zr [zm 26 6]
def qbw0 : IC := zr [zv 27 (.ld true 8 (.t 5)), zi 28 (.call (.c (.fn 141 [] [])) [((.t 27), zC)]), zv 29 (.ext (.t 28) 0), zv 30 (.ext (.t 28) 1), zn (.st 8 zC (.t 2) (.t 29)), zn (.st 5 zN (.t 3) (.t 30))]
def qcbb : IC := zr [zv 32 (.ld true 8 (.t 1)), zi 33 (.call (.c (.fn 23 [] [])) [((.t 32), zC), ((.c (.str [108, 101, 116])), .id)]), zm 31 33, zv 34 (.ext (.t 31) 0), zv 35 (.ext (.t 31) 1), zi 7 zaC, zn (.st 8 zC (.t 7) (.t 34)), zm 8 35]
def qbo4 : IC := zr [zm 36 8]
def qbpq : IC := zr [zv 37 (.ld true 8 (.t 7)), zm 38 4, zi 39 (.call (.c (.fn 142 [] [])) [((.t 37), zC), ((.t 38), .id)]), zv 40 (.ext (.t 39) 0), zv 41 (.ext (.t 39) 1), zn (.st 8 zC (.t 2) (.t 40)), zn (.st 5 zN (.t 3) (.t 41))]
def qbxx : IC := zr [zv 43 (.ld true 8 (.t 1)), zi 44 (.call (.c (.fn 23 [] [])) [((.t 43), zC), ((.c (.str [99, 97, 115, 101])), .id)]), zm 42 44, zv 45 (.ext (.t 42) 0), zv 46 (.ext (.t 42) 1), zi 9 zaC, zn (.st 8 zC (.t 9) (.t 45)), zm 10 46]
def qbtp : IC := zr [zm 47 10]
def qbi7 : IC := zr [zv 48 (.ld true 8 (.t 9)), zm 49 4, zi 50 (.call (.c (.fn 143 [] [])) [((.t 48), zC), ((.t 49), .id)]), zv 51 (.ext (.t 50) 0), zv 52 (.ext (.t 50) 1), zn (.st 8 zC (.t 2) (.t 51)), zn (.st 5 zN (.t 3) (.t 52))]
def qbij : IC := zr [zv 54 (.ld true 8 (.t 1)), zi 55 (.call (.c (.fn 23 [] [])) [((.t 54), zC), ((.c (.str [105, 102])), .id)]), zm 53 55, zv 56 (.ext (.t 53) 0), zv 57 (.ext (.t 53) 1), zi 11 zaC, zn (.st 8 zC (.t 11) (.t 56)), zm 12 57]
def qbik : IC := zr [zm 58 12]
def qbil : IC := zr [zv 59 (.ld true 8 (.t 11)), zm 60 4, zi 61 (.call (.c (.fn 144 [] [])) [((.t 59), zC), ((.t 60), .id)]), zv 62 (.ext (.t 61) 0), zv 63 (.ext (.t 61) 1), zn (.st 8 zC (.t 2) (.t 62)), zn (.st 5 zN (.t 3) (.t 63))]
def qbga : IC := zr [zv 65 (.ld true 8 (.t 1)), zi 66 (.call (.c (.fn 145 [] [])) [((.t 65), zC)]), zm 64 66, zv 67 (.ext (.t 64) 0), zv 68 (.ext (.t 64) 1), zi 13 zaN, zn (.st 8 zC (.t 1) (.t 67)), zn (.st 5 zN (.t 13) (.t 68))]
def qbl6 : IC := zr [zv 69 (.ld true 8 (.t 1)), zi 70 (.call (.c (.fn 146 [] [])) [((.t 69), zC)])]
def qbkm : IC := zr [zv 72 (.ld true 8 (.t 1)), zi 73 (.call (.c (.fn 145 [] [])) [((.t 72), zC)]), zm 71 73, zv 74 (.ext (.t 71) 0), zv 75 (.ext (.t 71) 1), zi 14 zaC, zi 15 zaN, zn (.st 8 zC (.t 14) (.t 74)), zn (.st 5 zN (.t 15) (.t 75))]
def qbfg : IC := zr [zv 76 (.ld true 8 (.t 14)), zn (.st 8 zC (.t 1) (.t 76))]
def qbg0 : IC := zr [zv 77 (.fad (.t 13) 1), zv 78 (.ld false 1 (.t 77)), zv 79 (.ld true 5 (.t 13)), zv 80 (.ld true 5 (.t 15)), zv 81 (.bsl 5 [((.t 79), zN), ((.t 80), zN)]), zv 82 (.bld [(.int .i64 0), (.int .i64 0), (.int .i64 0), (.str []), .nils] [(0, 1, (zc 24)), (1, 1, (.t 78)), (4, 1, (.t 81))]), zn (.st 5 zN (.t 13) (.t 82))]
def qbjy : IC := (.seq (.seq qbl6 (.cond (.t 70) .skip (.exit 0))) (.block 1 (.seq qbkm (.seq qbfg qbg0))))
def qbjq : IC := .drw [zp (zv 83 (.ld true 8 (.t 1))), zp (zv 84 (.ld true 5 (.t 13))), (zn (.st 8 zC (.t 2) (.t 83)), [1]), (zn (.st 5 zN (.t 3) (.t 84)), [])]
def k0fk : IC := (.seq qbxv (.seq qbnq (.seq (.seq qbxg (.seq qbpe (.cond (.t 26) (.seq qbw0 .ret) .skip))) (.seq (.seq qcbb (.seq qbo4 (.cond (.t 36) (.seq qbpq .ret) .skip))) (.seq (.seq qbxx (.seq qbtp (.cond (.t 47) (.seq qbi7 .ret) .skip))) (.seq (.seq qbij (.seq qbik (.cond (.t 58) (.seq qbil .ret) .skip))) (.seq qbga (.seq (.block 0 (.loop qbjy)) (.seq qbjq .ret)))))))))
@[go_sem] def s0fk : List (RV × Co) := [(.c true 8 2, zC), (.c true 5 3, zN)]
theorem c0fk : cFun Tryz.prog 124 = some (85, k0fk, s0fk) := by kernel_rfl

def qb5o : IC := zr [zv 2 zf]
def qb81 : IC := zr [zm 3 0, zv 4 (.bin .geq .no (.t 3) (.c (.int .u8 97))), zm 5 4, zw 5 true 6 (.mov (.t 0)), zw 5 true 7 (.bin .leq .no (.t 6) (.c (.int .u8 122))), zv 8 (.pick (.t 5) (.t 7) (.c (.bool false))), zm 9 8, zw 9 false 10 (.mov (.t 0)), zw 9 false 11 (.bin .eql .no (.t 10) (.c (.int .u8 95))), zv 12 (.pick (.t 9) (.c (.bool true)) (.t 11)), zm 2 12]
def k0dy : IC := (.seq qb5o (.seq qb81 .ret))
@[go_sem] def s0dy : List (RV × Co) := [(.t 2, .id)]
theorem c0dy : cFun Tryz.prog 125 = some (13, k0dy, s0dy) := by kernel_rfl

def qbq0 : IC := zr [zv 2 zf]
def qcdw : IC := zr [zv 3 zf]
def qb36 : IC := zr [zv 6 (.bld [(.str []), (.str []), (.str []), (.str []), (.str []), (.str []), (.str []), (.str []), (.str []), (.str []), (.str [])] [(0, 1, (.c (.str [100, 97, 116, 97]))), (1, 1, (.c (.str [99, 108, 97, 115, 115]))), (2, 1, (.c (.str [105, 110, 115, 116, 97, 110, 99, 101]))), (3, 1, (.c (.str [119, 104, 101, 114, 101]))), (4, 1, (.c (.str [108, 101, 116]))), (5, 1, (.c (.str [105, 110]))), (6, 1, (.c (.str [99, 97, 115, 101]))), (7, 1, (.c (.str [111, 102]))), (8, 1, (.c (.str [105, 102]))), (9, 1, (.c (.str [116, 104, 101, 110]))), (10, 1, (.c (.str [101, 108, 115, 101])))]), zv 7 (.mov (zc 0))]
def qb42 : IC := zr [zv 8 (.bin .lss .no (.t 7) (zc 11))]
def qbxq : IC := zr [zv 9 (.ida false 1 11 (.t 6) (.t 7)), zm 5 9]
def qb0m : IC := zr [zm 10 5, zm 11 0, zv 12 (.bin .neq .no (.t 10) (.t 11))]
def qcby : IC := zr [zv 3 (.mov (.c (.bool true)))]
def qb80 : IC := zr [zv 13 (.bin .add .no (.t 7) (zc 1)), zm 7 13]
def qb0h : IC := (.seq qb42 (.seq (.cond (.t 8) .skip (.exit 0)) (.seq (.block 1 (.seq qbxq (.seq (.seq qb0m (.cond (.t 12) (.exit 1) .skip)) (.seq qcby (.exit 0))))) qb80)))
def qbhg : IC := zr [zm 14 3, zm 2 14]
def k0eg : IC := (.seq qbq0 (.scope (.seq qcdw (.seq (.label 0) (.seq (.seq qb36 (.block 0 (.loop qb0h))) (.seq qbhg .ret))))))
@[go_sem] def s0eg : List (RV × Co) := [(.t 2, .id)]
theorem c0eg : cFun Tryz.prog 126 = some (15, k0eg, s0eg) := by kernel_rfl

def qbn4 : IC := zr [zi 1 (.box (.t 0)), zv 2 zf]
def qb4l : IC := zr [zv 3 (.ld true 5 (.t 1)), zi 4 (.call (.c (.fn 51 [] [])) [((.t 3), zN)]), zm 5 4, zw 5 false 6 (.ld true 5 (.t 1)), ⟨some (5, false), some 7, .call (.c (.fn 52 [] [])) [((.t 6), zN)]⟩, zv 8 (.pick (.t 5) (.c (.bool true)) (.t 7)), zm 2 8]
def k0en : IC := (.seq qbn4 (.seq qb4l .ret))
@[go_sem] def s0en : List (RV × Co) := [(.t 2, .id)]
theorem c0en : cFun Tryz.prog 127 = some (9, k0en, s0en) := by kernel_rfl

def qbrv : IC := zr [zi 1 (.box (.t 0)), zv 2 zf]
def qbuw : IC := zr [zv 3 (.fad (.t 1) 0), zv 4 (.ld false 1 (.t 3)), zv 5 (.bin .eql .no (.t 4) (zc 15)), zm 6 5, zw 6 true 7 (.ld true 5 (.t 1)), ⟨some (6, true), some 8, .call (.c (.fn 26 [] [])) [((.t 7), zN)]⟩, zv 9 (.pick (.t 6) (.t 8) (.c (.bool false))), zm 10 9, zw 10 true 11 (.fad (.t 1) 4), zw 10 true 12 (.ld false 1 (.t 11)), zw 10 true 13 (.len false (.t 12)), zw 10 true 14 (.bin .eql .no (.t 13) (zc 2)), zv 15 (.pick (.t 10) (.t 14) (.c (.bool false))), zm 16 15, zw 16 true 17 (.fad (.t 1) 4), zw 16 true 18 (.ld false 1 (.t 17)), zw 16 true 19 (.iad 5 (.t 18) (zc 0)), zw 16 true 20 (.ld true 5 (.t 19)), ⟨some (16, true), some 21, .call (.c (.fn 147 [] [])) [((.t 20), zN)]⟩, zv 22 (.pick (.t 16) (.t 21) (.c (.bool false))), zm 23 22, zw 23 true 24 (.fad (.t 1) 4), zw 23 true 25 (.ld false 1 (.t 24)), zw 23 true 26 (.iad 5 (.t 25) (zc 1)), zw 23 true 27 (.ld true 5 (.t 26)), ⟨some (23, true), some 28, .call (.c (.fn 95 [] [])) [((.t 27), zN)]⟩, zv 29 (.pick (.t 23) (.t 28) (.c (.bool false))), zm 2 29]
def k0eq : IC := (.seq qbrv (.seq qbuw .ret))
@[go_sem] def s0eq : List (RV × Co) := [(.t 2, .id)]
theorem c0eq : cFun Tryz.prog 128 = some (30, k0eq, s0eq) := by kernel_rfl

def qb0z : IC := zr [zv 4 (.mov (zc 0))]
def qb1w : IC := zr [zm 6 0, zv 7 (.len true (.t 6)), zv 8 (.mov (zc 0))]
def qbzh : IC := zr [zv 9 (.bin .lss .no (.t 8) (.t 7))]
def qb37 : IC := zr [zm 10 8, zm 5 10]
def qbo5 : IC := zr [zm 11 1, zm 12 0, zm 13 5, zv 14 (.idx (.t 12) (.t 13)), zi 15 (.call (.t 11) [((.t 14), .id)]), zv 16 (.un .not (.t 15))]
def qbs9 : IC := zr [zm 17 5, zm 4 17]
def qbry : IC := zr [zv 18 (.bin .add .no (.t 8) (zc 1)), zm 8 18]
def qboc : IC := (.seq qbzh (.seq (.cond (.t 9) .skip (.exit 0)) (.seq (.block 1 (.seq qb37 (.seq qbo5 (.cond (.t 16) (.seq qbs9 .ret) .skip)))) qbry)))
def qbug : IC := zr [zm 19 0, zv 20 (.len true (.t 19)), zm 4 20]
def k0ds : IC := (.seq qb0z (.seq (.seq qb1w (.block 0 (.loop qboc))) (.seq qbug .ret)))
@[go_sem] def s0ds : List (RV × Co) := [(.t 4, .id)]
theorem c0ds : cFun Tryz.prog 129 = some (21, k0ds, s0ds) := by kernel_rfl

def qbq4 : IC := zr [zv 2 zf]
def qcdm : IC := zr [zm 3 0, zv 4 (.bin .eql .no (.t 3) (.c (.int .u8 9))), zm 5 4, zw 5 false 6 (.mov (.t 0)), zw 5 false 7 (.bin .eql .no (.t 6) (.c (.int .u8 10))), zv 8 (.pick (.t 5) (.c (.bool true)) (.t 7)), zm 9 8, zw 9 false 10 (.mov (.t 0)), zw 9 false 11 (.bin .eql .no (.t 10) (.c (.int .u8 13))), zv 12 (.pick (.t 9) (.c (.bool true)) (.t 11)), zm 13 12, zw 13 false 14 (.mov (.t 0)), zw 13 false 15 (.bin .eql .no (.t 14) (.c (.int .u8 32))), zv 16 (.pick (.t 13) (.c (.bool true)) (.t 15)), zm 2 16]
def k0dq : IC := (.seq qbq4 (.seq qcdm .ret))
@[go_sem] def s0dq : List (RV × Co) := [(.t 2, .id)]
theorem c0dq : cFun Tryz.prog 130 = some (17, k0dq, s0dq) := by kernel_rfl

def qbrp : IC := zr [zv 4 zf]
def qbw8 : IC := zr [zm 5 0, zm 6 1, zi 7 (.call (.c (.fn 148 [] [])) [((.t 5), .id), ((.t 6), .id)]), zm 4 7]
def k0du : IC := (.seq qbrp (.seq qbw8 .ret))
@[go_sem] def s0du : List (RV × Co) := [(.t 4, .id)]
theorem c0du : cFun Tryz.prog 131 = some (8, k0du, s0du) := by kernel_rfl

def qbod : IC := zr [zv 2 zf]
def qb2l : IC := zr [zm 3 0, zv 4 (.bin .neq .no (.t 3) (.c (.int .u8 10))), zm 2 4]
def k0dr : IC := (.seq qbod (.seq qb2l .ret))
@[go_sem] def s0dr : List (RV × Co) := [(.t 2, .id)]
theorem c0dr : cFun Tryz.prog 132 = some (5, k0dr, s0dr) := by kernel_rfl

def qb24 : IC := zr [zv 2 zf]
def qbru : IC := zr [zm 3 0, zv 4 (.bin .geq .no (.t 3) (.c (.int .u8 48))), zm 5 4, zw 5 true 6 (.mov (.t 0)), zw 5 true 7 (.bin .leq .no (.t 6) (.c (.int .u8 57))), zv 8 (.pick (.t 5) (.t 7) (.c (.bool false))), zm 2 8]
def k0do : IC := (.seq qb24 (.seq qbru .ret))
@[go_sem] def s0do : List (RV × Co) := [(.t 2, .id)]
theorem c0do : cFun Tryz.prog 133 = some (9, k0do, s0do) := by kernel_rfl

def qb8b : IC := zr [zv 2 (.mov (zc 0)), zv 3 (.mov (zc 0))]
def qca4 : IC := zr [zm 8 0, zv 9 (.len true (.t 8)), zv 10 (.mov (zc 0))]
def qb3a : IC := zr [zv 11 (.bin .lss .no (.t 10) (.t 9))]
def qb4p : IC := zr [zm 12 10, zm 4 12]
def qccz : IC := zr [zm 13 0, zm 14 4, zv 15 (.idx (.t 13) (.t 14)), zv 16 (.bin .lss .no (.t 15) (.c (.int .u8 48))), zm 17 16, zw 17 false 18 (.mov (.t 0)), zw 17 false 19 (.mov (.t 4)), zw 17 false 20 (.idx (.t 18) (.t 19)), zw 17 false 21 (.bin .gtr .no (.t 20) (.c (.int .u8 57))), zv 22 (.pick (.t 17) (.c (.bool true)) (.t 21))]
def qbsy : IC := zr [zv 2 (.mov (zc 0)), zv 3 (.mov (zc 5))]
def qbxc : IC := zr [zv 23 (.bin .add .no (.t 10) (zc 1)), zm 10 23]
def qbzx : IC := (.seq qb3a (.seq (.cond (.t 11) .skip (.exit 0)) (.seq (.block 1 (.seq qb4p (.seq qccz (.cond (.t 22) (.seq qbsy .ret) .skip)))) qbxc)))
def qb26 : IC := zr [zm 24 0, zv 25 (.bin .eql .no (.t 24) (.c (.str [])))]
def qbeo : IC := zr [zv 2 (.mov (zc 0)), zv 3 (.mov (zc 5))]
def qbh7 : IC := zr [zv 5 (.mov (zc 0)), zv 6 (.mov (zc 0))]
def qbhb : IC := zr [zm 26 0, zm 27 6, zv 28 (.idx (.t 26) (.t 27)), zv 29 (.bin .sub .no (.t 28) (.c (.int .u8 48))), zv 30 (.cvi .i64 (.t 29)), zm 7 30]
def qbf3 : IC := zr [zm 31 5, zm 32 7, zv 33 (.bin .sub .no (zc 9223372036854775807) (.t 32)), zv 34 (.bin .quo .no (.t 33) (zc 10)), zv 35 (.bin .gtr .no (.t 31) (.t 34))]
def qbk8 : IC := zr [zv 2 (.mov (zc 0)), zv 3 (.mov (zc 4))]
def qbin : IC := zr [zm 36 5, zv 37 (.bin .mul .no (zc 10) (.t 36)), zm 38 7, zv 39 (.bin .add .no (.t 37) (.t 38)), zm 5 39]
def qbkd : IC := zr [zm 40 6, zv 41 (.bin .add .no (.t 40) (zc 1)), zm 6 41]
def qbhr : IC := zr [zm 42 6, zm 43 0, zv 44 (.len true (.t 43)), zv 45 (.bin .lss .no (.t 42) (.t 44))]
def qbew : IC := zr [zm 46 5, zm 2 46, zv 3 (.mov (zc 0))]
def k0dx : IC := (.seq qb8b (.scope (.seq (.seq qca4 (.block 0 (.loop qbzx))) (.seq (.seq qb26 (.cond (.t 25) (.seq qbeo .ret) .skip)) (.seq qbh7 (.seq (.label 0) (.seq qbhb (.seq (.seq qbf3 (.cond (.t 35) (.seq qbk8 .ret) .skip)) (.seq qbin (.seq (.seq qbkd (.seq qbhr (.cond (.t 45) (.goto 0) .skip))) (.seq qbew .ret)))))))))))
@[go_sem] def s0dx : List (RV × Co) := [(.t 2, .id), (.t 3, .id)]
theorem c0dx : cFun Tryz.prog 134 = some (47, k0dx, s0dx) := by kernel_rfl

def qbx8 : IC := zr [zv 2 zf]
def qccs : IC := zr [zm 3 0, zv 4 (.bin .geq .no (.t 3) (.c (.int .u8 97))), zm 5 4, zw 5 true 6 (.mov (.t 0)), zw 5 true 7 (.bin .leq .no (.t 6) (.c (.int .u8 122))), zv 8 (.pick (.t 5) (.t 7) (.c (.bool false))), zm 9 8, zw 9 false 10 (.mov (.t 0)), zw 9 false 11 (.bin .geq .no (.t 10) (.c (.int .u8 65))), zw 9 false 12 (.mov (.t 11)), zw 12 true 13 (.mov (.t 0)), zw 12 true 14 (.bin .leq .no (.t 13) (.c (.int .u8 90))), zw 9 false 15 (.pick (.t 12) (.t 14) (.c (.bool false))), zv 16 (.pick (.t 9) (.c (.bool true)) (.t 15)), zm 17 16, zw 17 false 18 (.mov (.t 0)), zw 17 false 19 (.bin .eql .no (.t 18) (.c (.int .u8 95))), zv 20 (.pick (.t 17) (.c (.bool true)) (.t 19)), zm 21 20, zw 21 false 22 (.mov (.t 0)), zw 21 false 23 (.bin .eql .no (.t 22) (.c (.int .u8 39))), zv 24 (.pick (.t 21) (.c (.bool true)) (.t 23)), zm 25 24, zw 25 false 26 (.mov (.t 0)), ⟨some (25, false), some 27, .call (.c (.fn 133 [] [])) [((.t 26), .id)]⟩, zv 28 (.pick (.t 25) (.c (.bool true)) (.t 27)), zm 2 28]
def k0dp : IC := (.seq qbx8 (.seq qccs .ret))
@[go_sem] def s0dp : List (RV × Co) := [(.t 2, .id)]
theorem c0dp : cFun Tryz.prog 135 = some (29, k0dp, s0dp) := by kernel_rfl

def qbzb : IC := zr [zi 2 zaT]
def qcd0 : IC := zr [zm 4 0, zv 5 (.bld [(.int .i64 0), (.int .i64 0), (.int .i64 0), (.str [])] [(0, 1, (zc 1)), (3, 1, (.t 4))]), zi 3 zaT, zn (.st 4 .id (.t 3) (.t 5))]
def qb8y : IC := zr [zm 7 0, zv 8 (.bin .eql .no (.t 7) (.c (.str [95]))), zm 6 8]
def qcbh : IC := zr [zv 9 (.fad (.t 3) 0), zn (.st 1 .id (.t 9) (zc 5))]
def qb71 : IC := zr [zm 11 0, zi 12 (.call (.c (.fn 126 [] [])) [((.t 11), .id)]), zm 10 12]
def qcbg : IC := zr [zv 13 (.fad (.t 3) 0), zn (.st 1 .id (.t 13) (zc 4))]
def qb7c : IC := zr [zm 15 0, zi 16 (.call (.c (.fn 53 [] [])) [((.t 15), .id)]), zm 14 16]
def qbx9 : IC := zr [zv 17 (.fad (.t 3) 0), zn (.st 1 .id (.t 17) (zc 2))]
def qb34 : IC := zr [zv 18 (.ld true 4 (.t 3)), zn (.st 4 .id (.t 2) (.t 18))]
def k0dk : IC := (.seq qbzb (.seq qcd0 (.seq (.block 0 (.seq qb8y (.cond (.t 6) qcbh (.seq qb71 (.cond (.t 10) qcbg (.seq qb7c (.cond (.t 14) qbx9 .skip))))))) (.seq qb34 .ret))))
@[go_sem] def s0dk : List (RV × Co) := [(.c true 4 2, .id)]
theorem c0dk : cFun Tryz.prog 136 = some (19, k0dk, s0dk) := by kernel_rfl

def qb73 : IC := zr [zv 2 (.mov (zc 0))]
def qb2u : IC := zr [zv 5 (.bld [(.str []), (.str []), (.str []), (.str []), (.str []), (.str []), (.str []), (.str []), (.str []), (.str []), (.str []), (.str [])] [(0, 1, (.c (.str [45, 62]))), (1, 1, (.c (.str [61, 62]))), (2, 1, (.c (.str [58, 58]))), (3, 1, (.c (.str [40]))), (4, 1, (.c (.str [41]))), (5, 1, (.c (.str [123]))), (6, 1, (.c (.str [125]))), (7, 1, (.c (.str [59]))), (8, 1, (.c (.str [44]))), (9, 1, (.c (.str [61]))), (10, 1, (.c (.str [124]))), (11, 1, (.c (.str [92])))]), zv 6 (.mov (zc 0))]
def qcb0 : IC := zr [zv 7 (.bin .lss .no (.t 6) (zc 12))]
def qccl : IC := zr [zv 8 (.ida false 1 12 (.t 5) (.t 6)), zm 4 8]
def qccy : IC := zr [zm 9 0, zm 10 4, zi 11 (.call (.c (.fn 131 [] [])) [((.t 9), .id), ((.t 10), .id)])]
def qcb1 : IC := zr [zm 12 4, zv 13 (.len true (.t 12)), zm 2 13]
def qbue : IC := zr [zv 14 (.bin .add .no (.t 6) (zc 1)), zm 6 14]
def qbrc : IC := (.seq qcb0 (.seq (.cond (.t 7) .skip (.exit 0)) (.seq (.block 1 (.seq qccl (.seq qccy (.cond (.t 11) (.seq qcb1 .ret) .skip)))) qbue)))
def qb6u : IC := zr [zv 2 (.mov (zc 0))]
def k0dl : IC := (.seq qb73 (.seq (.seq qb2u (.block 0 (.loop qbrc))) (.seq qb6u .ret)))
@[go_sem] def s0dl : List (RV × Co) := [(.t 2, .id)]
theorem c0dl : cFun Tryz.prog 137 = some (15, k0dl, s0dl) := by kernel_rfl

def qb0a : IC := zr [zi 2 zaN, zv 3 zf]
def qbra : IC := zr [zm 8 0, zi 9 (.call (.c (.fn 19 [] [])) [((.t 8), .id)]), zv 10 (.fld false 1 0 (.t 9)), zv 11 (.bin .neq .no (.t 10) (zc 2))]
def qb8e : IC := zr [zm 12 0, zi 13 (.call (.c (.fn 63 [] [])) [((.t 12), .id)]), zv 14 (.ext (.t 13) 0), zv 15 (.ext (.t 13) 1), zn (.st 5 zN (.t 2) (.t 14)), zm 3 15]
def qccm : IC := zr [zm 16 0, zi 17 (.call (.c (.fn 60 [] [])) [((.t 16), .id)]), zi 4 zaT, zn (.st 4 .id (.t 4) (.t 17))]
def qb0x : IC := zr [zv 18 (.fad (.t 4) 1), zv 19 (.ld false 1 (.t 18)), zv 20 (.fad (.t 4) 3), zv 21 (.ld false 1 (.t 20)), zv 22 (.bld [(.int .i64 0), (.int .i64 0), (.int .i64 0), (.str []), .nils] [(0, 1, (zc 2)), (1, 1, (.t 19)), (3, 1, (.t 21))]), zi 5 zaN, zn (.st 5 zN (.t 5) (.t 22))]
def qbnj : IC := zr [zm 23 0, zi 24 (.call (.c (.fn 149 [] [])) [((.t 23), .id)])]
def qbxj : IC := zr [zm 26 0, zi 27 (.call (.c (.fn 63 [] [])) [((.t 26), .id)]), zm 25 27, zv 28 (.ext (.t 25) 0), zv 29 (.ext (.t 25) 1), zi 6 zaN, zn (.st 5 zN (.t 6) (.t 28)), zm 7 29]
def qbza : IC := zr [zm 30 7, zv 31 (.un .not (.t 30))]
def qb7o : IC := zr [zv 32 (.bld [(.int .i64 0), (.int .i64 0), (.int .i64 0), (.str []), .nils] []), zn (.st 5 zN (.t 2) (.t 32)), zv 3 zf]
def qbhd : IC := zr [zv 33 (.fad (.t 5) 4), zv 34 (.ld false 1 (.t 33)), zv 35 (.ld true 5 (.t 6)), zv 36 (.bsl 5 [((.t 35), zN)]), zi 37 (.app 5 zZ 64 (.sl 5) (.t 34) (.t 36)), zv 38 (.fad (.t 5) 4), zn (.st 1 (.sl 5) (.t 38) (.t 37))]
def qbwn : IC := (.seq (.seq qbnj (.cond (.t 24) .skip (.exit 0))) (.block 1 (.seq qbxj (.seq (.seq qbza (.cond (.t 31) (.seq qb7o .ret) .skip)) qbhd))))
def qblw : IC := zr [zv 39 (.ld true 5 (.t 5)), zn (.st 5 zN (.t 2) (.t 39)), zv 3 (.mov (.c (.bool true)))]
def k0cf : IC := (.seq qb0a (.seq (.seq qbra (.cond (.t 11) (.seq qb8e .ret) .skip)) (.seq qccm (.seq qb0x (.seq (.block 0 (.loop qbwn)) (.seq qblw .ret))))))
@[go_sem] def s0cf : List (RV × Co) := [(.c true 5 2, zN), (.t 3, .id)]
theorem c0cf : cFun Tryz.prog 138 = some (40, k0cf, s0cf) := by kernel_rfl

def qccd : IC := zr [zi 2 zaN, zv 3 zf]
def qbvh : IC := zr [zm 5 0, zi 6 (.call (.c (.fn 19 [] [])) [((.t 5), .id)]), zv 7 (.fld false 1 1 (.t 6)), zv 8 (.bld [(.int .i64 0), (.int .i64 0), (.int .i64 0), (.str []), .nils] [(1, 1, (.t 7))]), zi 4 zaN, zn (.st 5 zN (.t 4) (.t 8))]
def qbtk : IC := zr [zm 10 0, zi 11 (.call (.c (.fn 35 [] [])) [((.t 10), .id), ((.c (.str [92])), .id)]), zm 9 11]
def qbtd : IC := zr [zm 12 0, zi 13 (.call (.c (.fn 19 [] [])) [((.t 12), .id)]), zv 14 (.fld false 1 0 (.t 13)), zv 15 (.bin .neq .no (.t 14) (zc 1))]
def qbum : IC := .drw [zp (zv 16 (.ld true 5 (.t 4))), zp (zm 17 0), (zi 18 (.call (.c (.fn 69 [] [])) [((.t 17), .id), ((zc 5), .id)]), [0]), (zn (.st 5 zN (.t 2) (.t 16)), []), zp (zm 3 18)]
def qb04 : IC := zr [zm 19 0, zi 20 (.call (.c (.fn 72 [] [])) [((.t 19), .id), ((.c (.str [45, 62])), .id)]), zv 21 (.ext (.t 20) 0), zv 22 (.ext (.t 20) 1), zn (.st 5 zN (.t 2) (.t 21)), zm 3 22]
def qbr2 : IC := zr [zm 24 0, zi 25 (.call (.c (.fn 35 [] [])) [((.t 24), .id), ((.c (.str [108, 101, 116])), .id)]), zm 23 25]
def qb08 : IC := zr [zm 26 0, zv 27 (.ld true 5 (.t 4)), zi 28 (.call (.c (.fn 150 [] [])) [((.t 26), .id), ((.t 27), zN)]), zv 29 (.ext (.t 28) 0), zv 30 (.ext (.t 28) 1), zn (.st 5 zN (.t 2) (.t 29)), zm 3 30]
def qbvp : IC := zr [zm 32 0, zi 33 (.call (.c (.fn 35 [] [])) [((.t 32), .id), ((.c (.str [99, 97, 115, 101])), .id)]), zm 31 33]
def qbq8 : IC := zr [zm 34 0, zv 35 (.ld true 5 (.t 4)), zi 36 (.call (.c (.fn 151 [] [])) [((.t 34), .id), ((.t 35), zN)]), zv 37 (.ext (.t 36) 0), zv 38 (.ext (.t 36) 1), zn (.st 5 zN (.t 2) (.t 37)), zm 3 38]
def qbit : IC := zr [zm 40 0, zi 41 (.call (.c (.fn 35 [] [])) [((.t 40), .id), ((.c (.str [105, 102])), .id)]), zm 39 41]
def qbd5 : IC := zr [zm 42 0, zv 43 (.ld true 5 (.t 4)), zi 44 (.call (.c (.fn 152 [] [])) [((.t 42), .id), ((.t 43), zN)]), zv 45 (.ext (.t 44) 0), zv 46 (.ext (.t 44) 1), zn (.st 5 zN (.t 2) (.t 45)), zm 3 46]
def qbds : IC := zr [zm 47 0, zi 48 (.call (.c (.fn 153 [] [])) [((.t 47), .id)]), zv 49 (.ext (.t 48) 0), zv 50 (.ext (.t 48) 1), zn (.st 5 zN (.t 2) (.t 49)), zm 3 50]
def k0bl : IC := (.seq qccd (.seq qbvh (.seq (.block 0 (.seq qbtk (.cond (.t 9) (.seq (.seq qbtd (.cond (.t 15) (.seq qbum .ret) .skip)) (.seq qb04 .ret)) (.seq qbr2 (.cond (.t 23) (.seq qb08 .ret) (.seq qbvp (.cond (.t 31) (.seq qbq8 .ret) (.seq qbit (.cond (.t 39) (.seq qbd5 .ret) .skip))))))))) (.seq qbds .ret))))
@[go_sem] def s0bl : List (RV × Co) := [(.c true 5 2, zN), (.t 3, .id)]
theorem c0bl : cFun Tryz.prog 139 = some (51, k0bl, s0bl) := by kernel_rfl

def qbtx : IC := zr [zi 1 (.box (.t 0)), zi 2 zaC, zi 3 zaN]
def qb4m : IC := zr [zv 8 (.ld true 8 (.t 1)), zi 9 (.call (.c (.fn 42 [] [])) [((.t 8), zC)]), zi 4 zaT, zn (.st 4 .id (.t 4) (.t 9))]
def qcbm : IC := zr [zv 10 (.fad (.t 4) 0), zv 11 (.ld false 1 (.t 10)), zv 12 (.bin .neq .no (.t 11) (zc 2))]
def qcdv : IC := zr [zv 13 (.ld true 8 (.t 1)), zi 14 (.call (.c (.fn 81 [] [])) [((.t 13), zC)]), zv 15 (.ext (.t 14) 0), zv 16 (.ext (.t 14) 1), zn (.st 8 zC (.t 2) (.t 15)), zn (.st 5 zN (.t 3) (.t 16))]
def qbsj : IC := zr [zv 18 (.ld true 8 (.t 1)), zi 19 (.call (.c (.fn 47 [] [])) [((.t 18), zC)]), zm 17 19, zv 20 (.ext (.t 17) 0), zv 21 (.ext (.t 17) 1), zn (.st 8 zC (.t 1) (.t 20))]
def qb55 : IC := zr [zv 22 (.fad (.t 4) 1), zv 23 (.ld false 1 (.t 22)), zv 24 (.fad (.t 4) 3), zv 25 (.ld false 1 (.t 24)), zv 26 (.bld [(.int .i64 0), (.int .i64 0), (.int .i64 0), (.str []), .nils] [(0, 1, (zc 2)), (1, 1, (.t 23)), (3, 1, (.t 25))]), zi 5 zaN, zn (.st 5 zN (.t 5) (.t 26))]
def qbw6 : IC := zr [zv 27 (.ld true 8 (.t 1)), zi 28 (.call (.c (.fn 154 [] [])) [((.t 27), zC)])]
def qb5l : IC := zr [zv 30 (.ld true 8 (.t 1)), zi 31 (.call (.c (.fn 81 [] [])) [((.t 30), zC)]), zm 29 31, zv 32 (.ext (.t 29) 0), zv 33 (.ext (.t 29) 1), zi 6 zaC, zi 7 zaN, zn (.st 8 zC (.t 6) (.t 32)), zn (.st 5 zN (.t 7) (.t 33))]
def qbyv : IC := zr [zv 34 (.ld true 8 (.t 6)), zn (.st 8 zC (.t 1) (.t 34))]
def qbha : IC := zr [zv 35 (.fad (.t 5) 4), zv 36 (.ld false 1 (.t 35)), zv 37 (.ld true 5 (.t 7)), zv 38 (.bsl 5 [((.t 37), zN)]), zi 39 (.app 5 zZ 64 (.sl 5) (.t 36) (.t 38)), zv 40 (.fad (.t 5) 4), zn (.st 1 (.sl 5) (.t 40) (.t 39))]
def qbv0 : IC := (.seq (.seq qbw6 (.cond (.t 28) .skip (.exit 0))) (.block 1 (.seq qb5l (.seq qbyv qbha))))
def qbhl : IC := .drw [zp (zv 41 (.ld true 8 (.t 1))), zp (zv 42 (.ld true 5 (.t 5))), (zn (.st 8 zC (.t 2) (.t 41)), [1]), (zn (.st 5 zN (.t 3) (.t 42)), [])]
def k0ge : IC := (.seq qbtx (.seq qb4m (.seq (.seq qcbm (.cond (.t 12) (.seq qcdv .ret) .skip)) (.seq qbsj (.seq qb55 (.seq (.block 0 (.loop qbv0)) (.seq qbhl .ret)))))))
@[go_sem] def s0ge : List (RV × Co) := [(.c true 8 2, zC), (.c true 5 3, zN)]
theorem c0ge : cFun Tryz.prog 140 = some (43, k0ge, s0ge) := by kernel_rfl

def qb6e : IC := zr [zi 1 (.box (.t 0)), zi 2 zaC, zi 3 zaN]
def qcea : IC := zr [zv 6 (.ld true 8 (.t 1)), zi 7 (.call (.c (.fn 42 [] [])) [((.t 6), zC)]), zv 8 (.fld false 1 0 (.t 7)), zv 9 (.bin .neq .no (.t 8) (zc 1))]
def qbvs : IC := zr [zv 10 (.ld true 8 (.t 1)), zi 11 (.call (.c (.fn 117 [] [])) [((.t 10), zC), ((zc 5), .id)]), zv 12 (.bld [(.int .i64 0), (.int .i64 0), (.int .i64 0), (.str []), .nils] []), zn (.st 8 zC (.t 2) (.t 11)), zn (.st 5 zN (.t 3) (.t 12))]
def qbxh : IC := zr [zv 14 (.ld true 8 (.t 1)), zi 15 (.call (.c (.fn 87 [] [])) [((.t 14), zC)]), zm 13 15, zv 16 (.ext (.t 13) 0), zv 17 (.ext (.t 13) 1), zn (.st 8 zC (.t 1) (.t 16)), zm 4 17]
def qbxm : IC := zr [zv 19 (.ld true 8 (.t 1)), zi 20 (.call (.c (.fn 82 [] [])) [((.t 19), zC), ((.c (.str [45, 62])), .id)]), zm 18 20, zv 21 (.ext (.t 18) 0), zv 22 (.ext (.t 18) 1), zn (.st 8 zC (.t 1) (.t 21))]
def qb20 : IC := zr [zv 24 (.ld true 8 (.t 1)), zi 25 (.call (.c (.fn 88 [] [])) [((.t 24), zC)]), zm 23 25, zv 26 (.ext (.t 23) 0), zv 27 (.ext (.t 23) 1), zi 5 zaN, zn (.st 8 zC (.t 1) (.t 26)), zn (.st 5 zN (.t 5) (.t 27))]
def qbz8 : IC := .drw [zp (zv 28 (.ld true 8 (.t 1))), zp (zm 29 4), zp (zv 30 (.ld true 5 (.t 5))), (zi 31 (.call (.c (.fn 89 [] [])) [((.t 29), (.sl 4)), ((.t 30), zN)]), [0]), (zn (.st 8 zC (.t 2) (.t 28)), []), (zn (.st 5 zN (.t 3) (.t 31)), [])]
def k0fr : IC := (.seq qb6e (.seq (.seq qcea (.cond (.t 9) (.seq qbvs .ret) .skip)) (.seq qbxh (.seq qbxm (.seq qb20 (.seq qbz8 .ret))))))
@[go_sem] def s0fr : List (RV × Co) := [(.c true 8 2, zC), (.c true 5 3, zN)]
theorem c0fr : cFun Tryz.prog 141 = some (32, k0fr, s0fr) := by kernel_rfl

def qbzr : IC := zr [zi 2 (.box (.t 0)), zi 4 zaC, zi 5 zaN]
def qb9m : IC := zr [zm 11 1, zv 12 (.bld [(.int .i64 0), (.int .i64 0), (.int .i64 0), (.str []), .nils] [(0, 1, (zc 26)), (1, 1, (.t 11))]), zi 6 zaN, zn (.st 5 zN (.t 6) (.t 12))]
def qb7u : IC := zr [zv 14 (.ld true 8 (.t 2)), zi 15 (.call (.c (.fn 82 [] [])) [((.t 14), zC), ((.c (.str [123])), .id)]), zm 13 15, zv 16 (.ext (.t 13) 0), zv 17 (.ext (.t 13) 1), zn (.st 8 zC (.t 2) (.t 16))]
def qbws : IC := zr [zv 7 (.mov (.c (.bool true)))]
def qb7f : IC := zr [zm 18 7]
def qcc5 : IC := zr [zv 20 (.ld true 8 (.t 2)), zi 21 (.call (.c (.fn 45 [] [])) [((.t 20), zC)]), zm 19 21, zv 22 (.ext (.t 19) 0), zv 23 (.ext (.t 19) 1), zi 8 zaC, zi 9 zaN, zn (.st 8 zC (.t 8) (.t 22)), zn (.st 5 zN (.t 9) (.t 23))]
def qb0n : IC := zr [zv 24 (.fad (.t 6) 4), zv 25 (.ld false 1 (.t 24)), zv 26 (.ld true 5 (.t 9)), zv 27 (.bsl 5 [((.t 26), zN)]), zi 28 (.app 5 zZ 64 (.sl 5) (.t 25) (.t 27)), zv 29 (.fad (.t 6) 4), zn (.st 1 (.sl 5) (.t 29) (.t 28))]
def qb8q : IC := zr [zv 31 (.ld true 8 (.t 8)), zi 32 (.call (.c (.fn 155 [] [])) [((.t 31), zC)]), zm 30 32, zv 33 (.ext (.t 30) 0), zv 34 (.ext (.t 30) 1), zn (.st 8 zC (.t 2) (.t 33)), zm 7 34]
def qbul : IC := (.seq (.seq qb7f (.cond (.t 18) .skip (.exit 0))) (.block 1 (.seq qcc5 (.seq qb0n qb8q))))
def qbfs : IC := zr [zv 36 (.ld true 8 (.t 2)), zi 37 (.call (.c (.fn 82 [] [])) [((.t 36), zC), ((.c (.str [125])), .id)]), zm 35 37, zv 38 (.ext (.t 35) 0), zv 39 (.ext (.t 35) 1), zn (.st 8 zC (.t 2) (.t 38))]
def qblx : IC := zr [zv 41 (.ld true 8 (.t 2)), zi 42 (.call (.c (.fn 82 [] [])) [((.t 41), zC), ((.c (.str [105, 110])), .id)]), zm 40 42, zv 43 (.ext (.t 40) 0), zv 44 (.ext (.t 40) 1), zn (.st 8 zC (.t 2) (.t 43))]
def qblv : IC := zr [zv 46 (.ld true 8 (.t 2)), zi 47 (.call (.c (.fn 88 [] [])) [((.t 46), zC)]), zm 45 47, zv 48 (.ext (.t 45) 0), zv 49 (.ext (.t 45) 1), zi 10 zaN, zn (.st 8 zC (.t 2) (.t 48)), zn (.st 5 zN (.t 10) (.t 49))]
def qblt : IC := zr [zv 50 (.fad (.t 6) 4), zv 51 (.ld false 1 (.t 50)), zv 52 (.ld true 5 (.t 10)), zv 53 (.bsl 5 [((.t 52), zN)]), zi 54 (.app 5 zZ 64 (.sl 5) (.t 51) (.t 53)), zv 55 (.fad (.t 6) 4), zn (.st 1 (.sl 5) (.t 55) (.t 54))]
def qbhe : IC := .drw [zp (zv 56 (.ld true 8 (.t 2))), zp (zv 57 (.ld true 5 (.t 6))), (zn (.st 8 zC (.t 4) (.t 56)), [1]), (zn (.st 5 zN (.t 5) (.t 57)), [])]
def k0fo : IC := (.seq qbzr (.seq qb9m (.seq qb7u (.seq qbws (.seq (.block 0 (.loop qbul)) (.seq qbfs (.seq qblx (.seq qblv (.seq qblt (.seq qbhe .ret))))))))))
@[go_sem] def s0fo : List (RV × Co) := [(.c true 8 4, zC), (.c true 5 5, zN)]
theorem c0fo : cFun Tryz.prog 142 = some (58, k0fo, s0fo) := by kernel_rfl

def qbzm : IC := zr [zi 2 (.box (.t 0)), zi 4 zaC, zi 5 zaN]
def qbsw : IC := zr [zv 13 (.ld true 8 (.t 2)), zi 14 (.call (.c (.fn 88 [] [])) [((.t 13), zC)]), zm 12 14, zv 15 (.ext (.t 12) 0), zv 16 (.ext (.t 12) 1), zi 6 zaN, zn (.st 8 zC (.t 2) (.t 15)), zn (.st 5 zN (.t 6) (.t 16))]
def qb9j : IC := zr [zm 17 1, zv 18 (.ld true 5 (.t 6)), zv 19 (.bsl 5 [((.t 18), zN)]), zv 20 (.bld [(.int .i64 0), (.int .i64 0), (.int .i64 0), (.str []), .nils] [(0, 1, (zc 27)), (1, 1, (.t 17)), (4, 1, (.t 19))]), zi 7 zaN, zn (.st 5 zN (.t 7) (.t 20))]
def qbyd : IC := zr [zv 22 (.ld true 8 (.t 2)), zi 23 (.call (.c (.fn 82 [] [])) [((.t 22), zC), ((.c (.str [111, 102])), .id)]), zm 21 23, zv 24 (.ext (.t 21) 0), zv 25 (.ext (.t 21) 1), zn (.st 8 zC (.t 2) (.t 24))]
def qb7s : IC := zr [zv 27 (.ld true 8 (.t 2)), zi 28 (.call (.c (.fn 82 [] [])) [((.t 27), zC), ((.c (.str [123])), .id)]), zm 26 28, zv 29 (.ext (.t 26) 0), zv 30 (.ext (.t 26) 1), zn (.st 8 zC (.t 2) (.t 29))]
def qbqb : IC := zr [zv 8 (.mov (.c (.bool true)))]
def qbp2 : IC := zr [zm 31 8]
def qbrd : IC := zr [zv 33 (.ld true 8 (.t 2)), zi 34 (.call (.c (.fn 156 [] [])) [((.t 33), zC)]), zm 32 34, zv 35 (.ext (.t 32) 0), zv 36 (.ext (.t 32) 1), zi 9 zaC, zi 10 zaN, zn (.st 8 zC (.t 9) (.t 35)), zn (.st 5 zN (.t 10) (.t 36))]
def qbss : IC := zr [zv 38 (.ld true 8 (.t 9)), zi 39 (.call (.c (.fn 82 [] [])) [((.t 38), zC), ((.c (.str [45, 62])), .id)]), zm 37 39, zv 40 (.ext (.t 37) 0), zv 41 (.ext (.t 37) 1), zn (.st 8 zC (.t 9) (.t 40))]
def qblr : IC := zr [zv 43 (.ld true 8 (.t 9)), zi 44 (.call (.c (.fn 88 [] [])) [((.t 43), zC)]), zm 42 44, zv 45 (.ext (.t 42) 0), zv 46 (.ext (.t 42) 1), zi 11 zaN, zn (.st 8 zC (.t 9) (.t 45)), zn (.st 5 zN (.t 11) (.t 46))]
def qbim : IC := zr [zv 47 (.fad (.t 7) 4), zv 48 (.ld false 1 (.t 47)), zv 49 (.fad (.t 10) 1), zv 50 (.ld false 1 (.t 49)), zv 51 (.ld true 5 (.t 10)), zv 52 (.ld true 5 (.t 11)), zv 53 (.bsl 5 [((.t 51), zN), ((.t 52), zN)]), zv 54 (.bld [(.int .i64 0), (.int .i64 0), (.int .i64 0), (.str []), .nils] [(0, 1, (zc 15)), (1, 1, (.t 50)), (4, 1, (.t 53))]), zv 55 (.bsl 5 [((.t 54), zN)]), zi 56 (.app 5 zZ 64 (.sl 5) (.t 48) (.t 55)), zv 57 (.fad (.t 7) 4), zn (.st 1 (.sl 5) (.t 57) (.t 56))]
def qbcy : IC := zr [zv 59 (.ld true 8 (.t 9)), zi 60 (.call (.c (.fn 155 [] [])) [((.t 59), zC)]), zm 58 60, zv 61 (.ext (.t 58) 0), zv 62 (.ext (.t 58) 1), zn (.st 8 zC (.t 2) (.t 61)), zm 8 62]
def qb1i : IC := (.seq (.seq qbp2 (.cond (.t 31) .skip (.exit 0))) (.block 1 (.seq qbrd (.seq qbss (.seq qblr (.seq qbim qbcy))))))
def qbkh : IC := zr [zv 64 (.ld true 8 (.t 2)), zi 65 (.call (.c (.fn 82 [] [])) [((.t 64), zC), ((.c (.str [125])), .id)]), zm 63 65, zv 66 (.ext (.t 63) 0), zv 67 (.ext (.t 63) 1), zn (.st 8 zC (.t 2) (.t 66))]
def qbc3 : IC := .drw [zp (zv 68 (.ld true 8 (.t 2))), zp (zv 69 (.ld true 5 (.t 7))), (zn (.st 8 zC (.t 4) (.t 68)), [1]), (zn (.st 5 zN (.t 5) (.t 69)), [])]
def k0fm : IC := (.seq qbzm (.seq qbsw (.seq qb9j (.seq qbyd (.seq qb7s (.seq qbqb (.seq (.block 0 (.loop qb1i)) (.seq qbkh (.seq qbc3 .ret)))))))))
@[go_sem] def s0fm : List (RV × Co) := [(.c true 8 4, zC), (.c true 5 5, zN)]
theorem c0fm : cFun Tryz.prog 143 = some (70, k0fm, s0fm) := by kernel_rfl

def qbxk : IC := zr [zi 2 (.box (.t 0)), zi 4 zaC, zi 5 zaN]
def qb6l : IC := zr [zv 10 (.ld true 8 (.t 2)), zi 11 (.call (.c (.fn 88 [] [])) [((.t 10), zC)]), zm 9 11, zv 12 (.ext (.t 9) 0), zv 13 (.ext (.t 9) 1), zi 6 zaN, zn (.st 8 zC (.t 2) (.t 12)), zn (.st 5 zN (.t 6) (.t 13))]
def qboi : IC := zr [zv 15 (.ld true 8 (.t 2)), zi 16 (.call (.c (.fn 82 [] [])) [((.t 15), zC), ((.c (.str [116, 104, 101, 110])), .id)]), zm 14 16, zv 17 (.ext (.t 14) 0), zv 18 (.ext (.t 14) 1), zn (.st 8 zC (.t 2) (.t 17))]
def qb7l : IC := zr [zv 20 (.ld true 8 (.t 2)), zi 21 (.call (.c (.fn 88 [] [])) [((.t 20), zC)]), zm 19 21, zv 22 (.ext (.t 19) 0), zv 23 (.ext (.t 19) 1), zi 7 zaN, zn (.st 8 zC (.t 2) (.t 22)), zn (.st 5 zN (.t 7) (.t 23))]
def qbqn : IC := zr [zv 25 (.ld true 8 (.t 2)), zi 26 (.call (.c (.fn 82 [] [])) [((.t 25), zC), ((.c (.str [101, 108, 115, 101])), .id)]), zm 24 26, zv 27 (.ext (.t 24) 0), zv 28 (.ext (.t 24) 1), zn (.st 8 zC (.t 2) (.t 27))]
def qbzk : IC := zr [zv 30 (.ld true 8 (.t 2)), zi 31 (.call (.c (.fn 88 [] [])) [((.t 30), zC)]), zm 29 31, zv 32 (.ext (.t 29) 0), zv 33 (.ext (.t 29) 1), zi 8 zaN, zn (.st 8 zC (.t 2) (.t 32)), zn (.st 5 zN (.t 8) (.t 33))]
def qb4i : IC := .drw [zp (zv 34 (.ld true 8 (.t 2))), zp (zm 35 1), zp (zv 36 (.ld true 5 (.t 6))), zp (zv 37 (.ld true 5 (.t 7))), zp (zv 38 (.ld true 5 (.t 8))), (zv 39 (.bsl 5 [((.t 36), zN), ((.t 37), zN), ((.t 38), zN)]), []), (zv 40 (.bld [(.int .i64 0), (.int .i64 0), (.int .i64 0), (.str []), .nils] [(0, 1, (zc 28)), (1, 1, (.t 35)), (4, 1, (.t 39))]), []), (zn (.st 8 zC (.t 4) (.t 34)), [2, 3, 4, 5]), (zn (.st 5 zN (.t 5) (.t 40)), [])]
def k0fn : IC := (.seq qbxk (.seq qb6l (.seq qboi (.seq qb7l (.seq qbqn (.seq qbzk (.seq qb4i .ret)))))))
@[go_sem] def s0fn : List (RV × Co) := [(.c true 8 4, zC), (.c true 5 5, zN)]
theorem c0fn : cFun Tryz.prog 144 = some (41, k0fn, s0fn) := by kernel_rfl

def qb45 : IC := zr [zi 1 (.box (.t 0)), zi 2 zaC, zi 3 zaN]
def qbnc : IC := zr [zv 7 (.ld true 8 (.t 1)), zi 8 (.call (.c (.fn 42 [] [])) [((.t 7), zC)]), zi 4 zaT, zn (.st 4 .id (.t 4) (.t 8))]
def qb8k : IC := zr [zv 9 (.ld true 8 (.t 1)), zi 10 (.call (.c (.fn 146 [] [])) [((.t 9), zC)]), zv 11 (.un .not (.t 10))]
def qb4w : IC := zr [zv 12 (.ld true 8 (.t 1)), zi 13 (.call (.c (.fn 117 [] [])) [((.t 12), zC), ((zc 5), .id)]), zv 14 (.bld [(.int .i64 0), (.int .i64 0), (.int .i64 0), (.str []), .nils] []), zn (.st 8 zC (.t 2) (.t 13)), zn (.st 5 zN (.t 3) (.t 14))]
def qb2e : IC := zr [zv 15 (.ld true 8 (.t 1)), zi 16 (.call (.c (.fn 46 [] [])) [((.t 15), zC), ((.c (.str [40])), .id)])]
def qbx4 : IC := zr [zv 18 (.ld true 8 (.t 1)), zi 19 (.call (.c (.fn 118 [] [])) [((.t 18), zC)]), zm 17 19, zv 20 (.ext (.t 17) 0), zv 21 (.ext (.t 17) 1), zn (.st 8 zC (.t 1) (.t 20))]
def qbtw : IC := zr [zv 23 (.ld true 8 (.t 1)), zi 24 (.call (.c (.fn 82 [] [])) [((.t 23), zC), ((.c (.str [40])), .id)]), zm 22 24, zv 25 (.ext (.t 22) 0), zv 26 (.ext (.t 22) 1), zn (.st 8 zC (.t 1) (.t 25))]
def qb8u : IC := zr [zv 28 (.ld true 8 (.t 1)), zi 29 (.call (.c (.fn 88 [] [])) [((.t 28), zC)]), zm 27 29, zv 30 (.ext (.t 27) 0), zv 31 (.ext (.t 27) 1), zi 5 zaC, zi 6 zaN, zn (.st 8 zC (.t 5) (.t 30)), zn (.st 5 zN (.t 6) (.t 31))]
def qb0y : IC := zr [zv 33 (.ld true 8 (.t 5)), zi 34 (.call (.c (.fn 82 [] [])) [((.t 33), zC), ((.c (.str [41])), .id)]), zm 32 34, zv 35 (.ext (.t 32) 0), zv 36 (.ext (.t 32) 1), zn (.st 8 zC (.t 5) (.t 35))]
def qcaz : IC := .drw [zp (zv 37 (.ld true 8 (.t 5))), (zi 38 (.call (.c (.fn 120 [] [])) [((.t 37), zC)]), []), (zv 39 (.ld true 5 (.t 6)), [1]), (zn (.st 8 zC (.t 2) (.t 38)), [2]), (zn (.st 5 zN (.t 3) (.t 39)), [])]
def qbfe : IC := zr [zv 41 (.ld true 8 (.t 1)), zi 42 (.call (.c (.fn 47 [] [])) [((.t 41), zC)]), zm 40 42, zv 43 (.ext (.t 40) 0), zv 44 (.ext (.t 40) 1), zn (.st 8 zC (.t 1) (.t 43))]
def qbkb : IC := zr [zv 45 (.fad (.t 4) 0), zv 46 (.ld false 1 (.t 45))]
def qblh : IC := zr [zv 48 (.bin .eql .no (.t 46) (zc 1)), zm 47 48]
def qbc0 : IC := .drw [zp (zv 49 (.ld true 8 (.t 1))), zp (zv 50 (.fad (.t 4) 1)), zp (zv 51 (.ld false 1 (.t 50))), zp (zv 52 (.fad (.t 4) 3)), zp (zv 53 (.ld false 1 (.t 52))), (zv 54 (.bld [(.int .i64 0), (.int .i64 0), (.int .i64 0), (.str []), .nils] [(0, 1, (zc 21)), (1, 1, (.t 51)), (3, 1, (.t 53))]), []), (zn (.st 8 zC (.t 2) (.t 49)), [2, 4]), (zn (.st 5 zN (.t 3) (.t 54)), [])]
def qbel : IC := zr [zv 56 (.bin .eql .no (.t 46) (zc 2)), zm 55 56]
def qbd7 : IC := .drw [zp (zv 57 (.ld true 8 (.t 1))), zp (zv 58 (.fad (.t 4) 1)), zp (zv 59 (.ld false 1 (.t 58))), zp (zv 60 (.fad (.t 4) 3)), zp (zv 61 (.ld false 1 (.t 60))), (zv 62 (.bld [(.int .i64 0), (.int .i64 0), (.int .i64 0), (.str []), .nils] [(0, 1, (zc 22)), (1, 1, (.t 59)), (3, 1, (.t 61))]), []), (zn (.st 8 zC (.t 2) (.t 57)), [2, 4]), (zn (.st 5 zN (.t 3) (.t 62)), [])]
def qbek : IC := .drw [zp (zv 63 (.ld true 8 (.t 1))), zp (zv 64 (.fad (.t 4) 1)), zp (zv 65 (.ld false 1 (.t 64))), zp (zv 66 (.fad (.t 4) 2)), zp (zv 67 (.ld false 1 (.t 66))), (zv 68 (.bld [(.int .i64 0), (.int .i64 0), (.int .i64 0), (.str []), .nils] [(0, 1, (zc 23)), (1, 1, (.t 65)), (2, 1, (.t 67))]), []), (zn (.st 8 zC (.t 2) (.t 63)), [2, 4]), (zn (.st 5 zN (.t 3) (.t 68)), [])]
def k0fq : IC := (.seq qb45 (.seq qbnc (.seq (.seq qb8k (.cond (.t 11) (.seq qb4w .ret) .skip)) (.seq (.seq qb2e (.cond (.t 16) (.seq qbx4 (.seq qbtw (.seq qb8u (.seq qb0y (.seq qcaz .ret))))) .skip)) (.seq qbfe (.seq (.seq qbkb (.block 0 (.seq qblh (.cond (.t 47) (.seq qbc0 .ret) (.seq qbel (.cond (.t 55) (.seq qbd7 .ret) .skip)))))) (.seq qbek .ret)))))))
@[go_sem] def s0fq : List (RV × Co) := [(.c true 8 2, zC), (.c true 5 3, zN)]
theorem c0fq : cFun Tryz.prog 145 = some (69, k0fq, s0fq) := by kernel_rfl

def qb8t : IC := zr [zi 1 (.box (.t 0)), zv 2 zf]
def qbse : IC := zr [zv 4 (.ld true 8 (.t 1)), zi 5 (.call (.c (.fn 42 [] [])) [((.t 4), zC)]), zv 6 (.fld false 1 0 (.t 5)), zm 3 6]
def qcch : IC := zr [zv 7 (.fad (.t 1) 6), zv 8 (.ld false 1 (.t 7)), zv 9 (.bin .eql .no (.t 8) (zc 0)), zm 10 9, zw 10 true 11 (.mov (.t 3)), zw 10 true 12 (.bin .eql .no (.t 11) (zc 1)), zw 10 true 13 (.mov (.t 12)), zw 13 false 14 (.mov (.t 3)), zw 13 false 15 (.bin .eql .no (.t 14) (zc 2)), zw 10 true 16 (.pick (.t 13) (.c (.bool true)) (.t 15)), zw 10 true 17 (.mov (.t 16)), zw 17 false 18 (.mov (.t 3)), zw 17 false 19 (.bin .eql .no (.t 18) (zc 3)), zw 10 true 20 (.pick (.t 17) (.c (.bool true)) (.t 19)), zw 10 true 21 (.mov (.t 20)), zw 21 false 22 (.ld true 8 (.t 1)), ⟨some (21, false), some 23, .call (.c (.fn 46 [] [])) [((.t 22), zC), ((.c (.str [40])), .id)]⟩, zw 10 true 24 (.pick (.t 21) (.c (.bool true)) (.t 23)), zv 25 (.pick (.t 10) (.t 24) (.c (.bool false))), zm 2 25]
def k0ft : IC := (.seq qb8t (.seq qbse (.seq qcch .ret)))
@[go_sem] def s0ft : List (RV × Co) := [(.t 2, .id)]
theorem c0ft : cFun Tryz.prog 146 = some (26, k0ft, s0ft) := by kernel_rfl

def qbrn : IC := zr [zi 1 (.box (.t 0)), zv 2 zf]
def qbx2 : IC := zr [zv 3 (.fad (.t 1) 0), zv 4 (.ld false 1 (.t 3))]
def qcdl : IC := zr [zv 6 (.bin .eql .no (.t 4) (zc 11)), zm 5 6]
def qboa : IC := zr [zv 7 (.ld true 5 (.t 1)), zi 8 (.call (.c (.fn 93 [] [])) [((.t 7), zN), ((.c (.fn 94 [] [])), .id)]), zm 9 8, zw 9 true 10 (.fad (.t 1) 4), zw 9 true 11 (.ld false 1 (.t 10)), zw 9 true 12 (.len false (.t 11)), zw 9 true 13 (.bin .eql .no (.t 12) (zc 0)), zv 14 (.pick (.t 9) (.t 13) (.c (.bool false))), zm 2 14]
def qbtl : IC := zr [zv 16 (.bin .eql .no (.t 4) (zc 12)), zm 15 16]
def qcbe : IC := zr [zv 17 (.ld true 5 (.t 1)), zi 18 (.call (.c (.fn 26 [] [])) [((.t 17), zN)]), zm 19 18, zw 19 true 20 (.fad (.t 1) 4), zw 19 true 21 (.ld false 1 (.t 20)), zw 19 true 22 (.len false (.t 21)), zw 19 true 23 (.bin .eql .no (.t 22) (zc 0)), zv 24 (.pick (.t 19) (.t 23) (.c (.bool false))), zm 2 24]
def qbxp : IC := zr [zv 26 (.bin .eql .no (.t 4) (zc 13)), zm 25 26]
def qb4y : IC := zr [zv 27 (.fad (.t 1) 3), zv 28 (.ld false 1 (.t 27)), zv 29 (.bin .eql .no (.t 28) (.c (.str []))), zm 30 29, zw 30 true 31 (.fad (.t 1) 2), zw 30 true 32 (.ld false 1 (.t 31)), zw 30 true 33 (.bin .geq .no (.t 32) (zc 0)), zv 34 (.pick (.t 30) (.t 33) (.c (.bool false))), zm 35 34, zw 35 true 36 (.fad (.t 1) 4), zw 35 true 37 (.ld false 1 (.t 36)), zw 35 true 38 (.len false (.t 37)), zw 35 true 39 (.bin .eql .no (.t 38) (zc 0)), zv 40 (.pick (.t 35) (.t 39) (.c (.bool false))), zm 2 40]
def qcat : IC := zr [zv 42 (.bin .eql .no (.t 4) (zc 14)), zm 41 42]
def qbp6 : IC := zr [zv 43 (.ld true 5 (.t 1)), zi 44 (.call (.c (.fn 93 [] [])) [((.t 43), zN), ((.c (.fn 53 [] [])), .id)]), zm 45 44, zw 45 true 46 (.fad (.t 1) 4), zw 45 true 47 (.ld false 1 (.t 46)), ⟨some (45, true), some 48, .call (.c (.fn 27 [] [])) [((.t 47), (.sl 5)), ((.c (.fn 147 [] [])), .id)]⟩, zv 49 (.pick (.t 45) (.t 48) (.c (.bool false))), zm 2 49]
def qbd8 : IC := zr [zv 2 zf]
def k0es : IC := (.seq qbrn (.seq (.seq qbx2 (.block 0 (.seq qcdl (.cond (.t 5) (.seq qboa .ret) (.seq qbtl (.cond (.t 15) (.seq qcbe .ret) (.seq qbxp (.cond (.t 25) (.seq qb4y .ret) (.seq qcat (.cond (.t 41) (.seq qbp6 .ret) .skip)))))))))) (.seq qbd8 .ret)))
@[go_sem] def s0es : List (RV × Co) := [(.t 2, .id)]
theorem c0es : cFun Tryz.prog 147 = some (50, k0es, s0es) := by kernel_rfl

def qbwr : IC := zr [zv 4 zf]
def qb2s : IC := zr [zm 5 0, zv 6 (.len true (.t 5)), zm 7 1, zv 8 (.len true (.t 7)), zv 9 (.bin .geq .no (.t 6) (.t 8)), zm 10 9, zw 10 true 11 (.mov (.t 0)), zw 10 true 12 (.mov (.t 1)), zw 10 true 13 (.len true (.t 12)), zw 10 true 14 (.sls (.t 11) none (some (.t 13))), zw 10 true 15 (.mov (.t 1)), zw 10 true 16 (.bin .eql .no (.t 14) (.t 15)), zv 17 (.pick (.t 10) (.t 16) (.c (.bool false))), zm 4 17]
def k0dt : IC := (.seq qbwr (.seq qb2s .ret))
@[go_sem] def s0dt : List (RV × Co) := [(.t 4, .id)]
theorem c0dt : cFun Tryz.prog 148 = some (18, k0dt, s0dt) := by kernel_rfl

def qbyr : IC := zr [zv 2 zf]
def qb00 : IC := zr [zm 4 0, zi 5 (.call (.c (.fn 19 [] [])) [((.t 4), .id)]), zv 6 (.fld false 1 0 (.t 5)), zm 3 6]
def qbzv : IC := zr [zm 7 3, zv 8 (.bin .eql .no (.t 7) (zc 1)), zm 9 8, zw 9 false 10 (.mov (.t 3)), zw 9 false 11 (.bin .eql .no (.t 10) (zc 2)), zv 12 (.pick (.t 9) (.c (.bool true)) (.t 11)), zm 13 12, zw 13 false 14 (.mov (.t 0)), ⟨some (13, false), some 15, .call (.c (.fn 59 [] [])) [((.t 14), .id), ((.c (.str [40])), .id)]⟩, zv 16 (.pick (.t 13) (.c (.bool true)) (.t 15)), zm 2 16]
def k0cd : IC := (.seq qbyr (.seq qb00 (.seq qbzv .ret)))
@[go_sem] def s0cd : List (RV × Co) := [(.t 2, .id)]
theorem c0cd : cFun Tryz.prog 149 = some (17, k0cd, s0cd) := by kernel_rfl

def qcbj : IC := zr [zi 2 (.box (.t 0)), zi 3 (.box (.t 1)), zi 4 zaN, zv 5 zf]
def qbon : IC := zr [zv 10 (.ld false 1 (.t 2)), zv 11 (.mfn 158 [] [(.t 2)]), zi 12 (.call (.c (.fn 157 [] [])) [((.t 10), .id), ((.t 11), .id)]), zm 9 12, zv 13 (.ext (.t 9) 0), zv 14 (.ext (.t 9) 1), zm 6 13, zm 7 14]
def qbuh : IC := zr [zm 15 7, zv 16 (.un .not (.t 15)), zm 17 16, zw 17 false 18 (.ld false 1 (.t 2)), ⟨some (17, false), some 19, .call (.c (.fn 65 [] [])) [((.t 18), .id), ((.c (.str [105, 110])), .id)]⟩, zw 17 false 20 (.un .not (.t 19)), zv 21 (.pick (.t 17) (.c (.bool true)) (.t 20))]
def qb0o : IC := zr [zv 22 (.ld true 5 (.t 3)), zn (.st 5 zN (.t 4) (.t 22)), zv 5 zf]
def qb64 : IC := zr [zv 24 (.ld false 1 (.t 2)), zi 25 (.call (.c (.fn 116 [] [])) [((.t 24), .id)]), zm 23 25, zv 26 (.ext (.t 23) 0), zv 27 (.ext (.t 23) 1), zi 8 zaN, zn (.st 5 zN (.t 8) (.t 26)), zm 7 27]
def qbpi : IC := zr [zm 28 6, zv 29 (.ld true 5 (.t 8)), zv 30 (.bsl 5 [((.t 29), zN)]), zi 31 (.app 5 zZ 64 (.sl 5) (.t 28) (.t 30)), zv 32 (.fad (.t 3) 0), zn (.st 1 .id (.t 32) (zc 26)), zv 33 (.fad (.t 3) 4), zn (.st 1 (.sl 5) (.t 33) (.t 31))]
def qcav : IC := zr [zv 34 (.ld true 5 (.t 3)), zm 35 7, zn (.st 5 zN (.t 4) (.t 34)), zm 5 35]
def k0bi : IC := (.seq qcbj (.seq qbon (.seq (.seq qbuh (.cond (.t 21) (.seq qb0o .ret) .skip)) (.seq qb64 (.seq qbpi (.seq qcav .ret))))))
@[go_sem] def s0bi : List (RV × Co) := [(.c true 5 4, zN), (.t 5, .id)]
theorem c0bi : cFun Tryz.prog 150 = some (36, k0bi, s0bi) := by kernel_rfl

def qb7n : IC := zr [zi 2 (.box (.t 0)), zi 3 (.box (.t 1)), zi 4 zaN, zv 5 zf]
def qb6n : IC := zr [zv 10 (.ld false 1 (.t 2)), zi 11 (.call (.c (.fn 116 [] [])) [((.t 10), .id)]), zm 9 11, zv 12 (.ext (.t 9) 0), zv 13 (.ext (.t 9) 1), zi 6 zaN, zn (.st 5 zN (.t 6) (.t 12)), zm 7 13]
def qb9g : IC := zr [zm 14 7, zv 15 (.un .not (.t 14)), zm 16 15, zw 16 false 17 (.ld false 1 (.t 2)), ⟨some (16, false), some 18, .call (.c (.fn 65 [] [])) [((.t 17), .id), ((.c (.str [111, 102])), .id)]⟩, zw 16 false 19 (.un .not (.t 18)), zv 20 (.pick (.t 16) (.c (.bool true)) (.t 19))]
def qb1d : IC := zr [zv 21 (.ld true 5 (.t 3)), zn (.st 5 zN (.t 4) (.t 21)), zv 5 zf]
def qb2v : IC := zr [zv 23 (.ld false 1 (.t 2)), zv 24 (.mfn 159 [] [(.t 2)]), zi 25 (.call (.c (.fn 157 [] [])) [((.t 23), .id), ((.t 24), .id)]), zm 22 25, zv 26 (.ext (.t 22) 0), zv 27 (.ext (.t 22) 1), zm 8 26, zm 7 27]
def qbsz : IC := zr [zv 28 (.ld true 5 (.t 6)), zv 29 (.bsl 5 [((.t 28), zN)]), zm 30 8, zi 31 (.app 5 zZ 64 (.sl 5) (.t 29) (.t 30)), zv 32 (.fad (.t 3) 0), zn (.st 1 .id (.t 32) (zc 27)), zv 33 (.fad (.t 3) 4), zn (.st 1 (.sl 5) (.t 33) (.t 31))]
def qb13 : IC := zr [zv 34 (.ld true 5 (.t 3)), zm 35 7, zn (.st 5 zN (.t 4) (.t 34)), zm 5 35]
def k0bj : IC := (.seq qb7n (.seq qb6n (.seq (.seq qb9g (.cond (.t 20) (.seq qb1d .ret) .skip)) (.seq qb2v (.seq qbsz (.seq qb13 .ret))))))
@[go_sem] def s0bj : List (RV × Co) := [(.c true 5 4, zN), (.t 5, .id)]
theorem c0bj : cFun Tryz.prog 151 = some (36, k0bj, s0bj) := by kernel_rfl

def qb76 : IC := zr [zi 3 (.box (.t 1)), zi 4 zaN, zv 5 zf]
def qcbt : IC := zr [zv 10 (.fad (.t 3) 0), zn (.st 1 .id (.t 10) (zc 28))]
def qbp8 : IC := zr [zv 11 (.bld [(.str []), (.str []), (.str [])] [(0, 1, (.c (.str []))), (1, 1, (.c (.str [116, 104, 101, 110]))), (2, 1, (.c (.str [101, 108, 115, 101])))]), zv 12 (.mov (zc 0))]
def qb2y : IC := zr [zv 13 (.bin .lss .no (.t 12) (zc 3))]
def qb1h : IC := zr [zv 14 (.ida false 1 3 (.t 11) (.t 12)), zm 7 14]
def qb0c : IC := zr [zm 15 7, zv 16 (.bin .neq .no (.t 15) (.c (.str []))), zm 17 16, zw 17 true 18 (.mov (.t 0)), zw 17 true 19 (.mov (.t 7)), ⟨some (17, true), some 20, .call (.c (.fn 65 [] [])) [((.t 18), .id), ((.t 19), .id)]⟩, zw 17 true 21 (.un .not (.t 20)), zv 22 (.pick (.t 17) (.t 21) (.c (.bool false)))]
def qcd2 : IC := zr [zv 23 (.ld true 5 (.t 3)), zn (.st 5 zN (.t 4) (.t 23)), zv 5 zf]
def qb0v : IC := zr [zm 25 0, zi 26 (.call (.c (.fn 116 [] [])) [((.t 25), .id)]), zm 24 26, zv 27 (.ext (.t 24) 0), zv 28 (.ext (.t 24) 1), zi 8 zaN, zn (.st 5 zN (.t 8) (.t 27)), zm 9 28]
def qbpl : IC := zr [zm 29 9, zv 30 (.un .not (.t 29))]
def qbeg : IC := zr [zv 31 (.ld true 5 (.t 3)), zn (.st 5 zN (.t 4) (.t 31)), zv 5 zf]
def qbk5 : IC := zr [zv 32 (.fad (.t 3) 4), zv 33 (.ld false 1 (.t 32)), zv 34 (.ld true 5 (.t 8)), zv 35 (.bsl 5 [((.t 34), zN)]), zi 36 (.app 5 zZ 64 (.sl 5) (.t 33) (.t 35)), zv 37 (.fad (.t 3) 4), zn (.st 1 (.sl 5) (.t 37) (.t 36))]
def qbfo : IC := zr [zv 38 (.bin .add .no (.t 12) (zc 1)), zm 12 38]
def qbpb : IC := (.seq qb2y (.seq (.cond (.t 13) .skip (.exit 0)) (.seq (.block 1 (.seq qb1h (.seq (.seq qb0c (.cond (.t 22) (.seq qcd2 .ret) .skip)) (.seq qb0v (.seq (.seq qbpl (.cond (.t 30) (.seq qbeg .ret) .skip)) qbk5))))) qbfo)))
def qbi4 : IC := zr [zv 39 (.ld true 5 (.t 3)), zn (.st 5 zN (.t 4) (.t 39)), zv 5 (.mov (.c (.bool true)))]
def k0bk : IC := (.seq qb76 (.seq qcbt (.seq (.seq qbp8 (.block 0 (.loop qbpb))) (.seq qbi4 .ret))))
@[go_sem] def s0bk : List (RV × Co) := [(.c true 5 4, zN), (.t 5, .id)]
theorem c0bk : cFun Tryz.prog 152 = some (40, k0bk, s0bk) := by kernel_rfl

def qb88 : IC := zr [zi 2 zaN, zv 3 zf]
def qcdg : IC := zr [zm 10 0, zi 11 (.call (.c (.fn 161 [] [])) [((.t 10), .id)]), zm 9 11, zv 12 (.ext (.t 9) 0), zv 13 (.ext (.t 9) 1), zi 4 zaN, zn (.st 5 zN (.t 4) (.t 12)), zm 5 13]
def qcc0 : IC := zr [zm 14 5]
def qbz7 : IC := zr [zm 16 0, zi 17 (.call (.c (.fn 162 [] [])) [((.t 16), .id)]), zm 15 17, zv 18 (.ext (.t 15) 0), zv 19 (.ext (.t 15) 1), zi 6 zaN, zn (.st 5 zN (.t 6) (.t 18)), zm 7 19]
def qb2o : IC := zr [zm 20 7, zv 21 (.un .not (.t 20)), zm 22 21, zw 22 true 23 (.mov (.t 0)), ⟨some (22, true), some 24, .call (.c (.fn 59 [] [])) [((.t 23), .id), ((.c (.str [40])), .id)]⟩, zw 22 true 25 (.un .not (.t 24)), zv 26 (.pick (.t 22) (.t 25) (.c (.bool false)))]
def qbr7 : IC := zr [zi 8 zaN]
def qb6b : IC := zr [zm 28 0, zi 29 (.call (.c (.fn 161 [] [])) [((.t 28), .id)]), zm 27 29, zv 30 (.ext (.t 27) 0), zv 31 (.ext (.t 27) 1), zn (.st 5 zN (.t 8) (.t 30)), zm 5 31]
def qccc : IC := zr [zv 32 (.fad (.t 4) 1), zv 33 (.ld false 1 (.t 32)), zv 34 (.ld true 5 (.t 4)), zv 35 (.ld true 5 (.t 8)), zv 36 (.bsl 5 [((.t 34), zN), ((.t 35), zN)]), zv 37 (.bld [(.int .i64 0), (.int .i64 0), (.int .i64 0), (.str []), .nils] [(0, 1, (zc 24)), (1, 1, (.t 33)), (4, 1, (.t 36))]), zn (.st 5 zN (.t 4) (.t 37))]
def qb91 : IC := (.seq (.seq qcc0 (.cond (.t 14) .skip (.exit 0))) (.block 1 (.seq (.seq qbz7 (.seq qb2o (.cond (.t 26) (.exit 0) .skip))) (.seq qbr7 (.seq qb6b qccc)))))
def qbdp : IC := zr [zv 38 (.ld true 5 (.t 4)), zm 39 5, zn (.st 5 zN (.t 2) (.t 38)), zm 3 39]
def k0bt : IC := (.seq qb88 (.seq qcdg (.seq (.block 0 (.loop qb91)) (.seq qbdp .ret))))
@[go_sem] def s0bt : List (RV × Co) := [(.c true 5 2, zN), (.t 3, .id)]
theorem c0bt : cFun Tryz.prog 153 = some (40, k0bt, s0bt) := by kernel_rfl

def qcec : IC := zr [zi 1 (.box (.t 0)), zv 2 zf]
def qb9v : IC := zr [zv 4 (.ld true 8 (.t 1)), zi 5 (.call (.c (.fn 42 [] [])) [((.t 4), zC)]), zv 6 (.fld false 1 0 (.t 5)), zm 3 6]
def qbx7 : IC := zr [zv 7 (.fad (.t 1) 6), zv 8 (.ld false 1 (.t 7)), zv 9 (.bin .eql .no (.t 8) (zc 0)), zm 10 9, zw 10 true 11 (.mov (.t 3)), zw 10 true 12 (.bin .eql .no (.t 11) (zc 1)), zw 10 true 13 (.mov (.t 12)), zw 13 false 14 (.mov (.t 3)), zw 13 false 15 (.bin .eql .no (.t 14) (zc 2)), zw 10 true 16 (.pick (.t 13) (.c (.bool true)) (.t 15)), zw 10 true 17 (.mov (.t 16)), zw 17 false 18 (.ld true 8 (.t 1)), ⟨some (17, false), some 19, .call (.c (.fn 46 [] [])) [((.t 18), zC), ((.c (.str [40])), .id)]⟩, zw 10 true 20 (.pick (.t 17) (.c (.bool true)) (.t 19)), zv 21 (.pick (.t 10) (.t 20) (.c (.bool false))), zm 2 21]
def k0gc : IC := (.seq qcec (.seq qb9v (.seq qbx7 .ret)))
@[go_sem] def s0gc : List (RV × Co) := [(.t 2, .id)]
theorem c0gc : cFun Tryz.prog 154 = some (22, k0gc, s0gc) := by kernel_rfl

def qb5q : IC := zr [zi 1 (.box (.t 0)), zi 2 zaC, zv 3 zf]
def qbto : IC := zr [zv 6 (.ld true 8 (.t 1)), zi 7 (.call (.c (.fn 23 [] [])) [((.t 6), zC), ((.c (.str [59])), .id)]), zm 5 7, zv 8 (.ext (.t 5) 0), zv 9 (.ext (.t 5) 1), zn (.st 8 zC (.t 1) (.t 8)), zm 4 9]
def qbnb : IC := .drw [zp (zv 10 (.ld true 8 (.t 1))), zp (zm 11 4), zp (zm 12 11), zp (zw 12 true 13 (.ld true 8 (.t 1))), (⟨some (12, true), some 14, .call (.c (.fn 46 [] [])) [((.t 13), zC), ((.c (.str [125])), .id)]⟩, [0]), zp (zw 12 true 15 (.un .not (.t 14))), zp (zv 16 (.pick (.t 12) (.t 15) (.c (.bool false)))), (zn (.st 8 zC (.t 2) (.t 10)), []), zp (zm 3 16)]
def k0fu : IC := (.seq qb5q (.seq qbto (.seq qbnb .ret)))
@[go_sem] def s0fu : List (RV × Co) := [(.c true 8 2, zC), (.t 3, .id)]
theorem c0fu : cFun Tryz.prog 155 = some (17, k0fu, s0fu) := by kernel_rfl

def qccx : IC := zr [zi 1 (.box (.t 0)), zi 2 zaC, zi 3 zaN]
def qbt1 : IC := zr [zv 11 (.ld true 8 (.t 1)), zi 12 (.call (.c (.fn 118 [] [])) [((.t 11), zC)]), zm 10 12, zv 13 (.ext (.t 10) 0), zv 14 (.ext (.t 10) 1), zn (.st 8 zC (.t 1) (.t 13))]
def qbtf : IC := zr [zv 15 (.ld true 8 (.t 1)), zi 16 (.call (.c (.fn 42 [] [])) [((.t 15), zC)]), zv 17 (.fld false 1 0 (.t 16)), zv 18 (.bin .neq .no (.t 17) (zc 2))]
def qb8r : IC := zr [zv 20 (.ld true 8 (.t 1)), zi 21 (.call (.c (.fn 163 [] [])) [((.t 20), zC)]), zm 19 21, zv 22 (.ext (.t 19) 0), zv 23 (.ext (.t 19) 1), zi 4 zaC, zi 5 zaN, zn (.st 8 zC (.t 4) (.t 22)), zn (.st 5 zN (.t 5) (.t 23))]
def qbr6 : IC := .drw [zp (zv 24 (.ld true 8 (.t 4))), (zi 25 (.call (.c (.fn 120 [] [])) [((.t 24), zC)]), []), (zv 26 (.ld true 5 (.t 5)), [1]), (zn (.st 8 zC (.t 2) (.t 25)), [2]), (zn (.st 5 zN (.t 3) (.t 26)), [])]
def qb02 : IC := zr [zv 28 (.ld true 8 (.t 1)), zi 29 (.call (.c (.fn 47 [] [])) [((.t 28), zC)]), zm 27 29, zv 30 (.ext (.t 27) 0), zv 31 (.ext (.t 27) 1), zi 6 zaT, zn (.st 8 zC (.t 1) (.t 30)), zn (.st 4 .id (.t 6) (.t 31))]
def qcal : IC := zr [zv 32 (.fad (.t 6) 1), zv 33 (.ld false 1 (.t 32)), zv 34 (.fad (.t 6) 3), zv 35 (.ld false 1 (.t 34)), zv 36 (.bld [(.int .i64 0), (.int .i64 0), (.int .i64 0), (.str []), .nils] [(0, 1, (zc 14)), (1, 1, (.t 33)), (3, 1, (.t 35))]), zi 7 zaN, zn (.st 5 zN (.t 7) (.t 36))]
def qbn6 : IC := zr [zv 37 (.ld true 8 (.t 1)), zi 38 (.call (.c (.fn 164 [] [])) [((.t 37), zC)])]
def qbpv : IC := zr [zv 40 (.ld true 8 (.t 1)), zi 41 (.call (.c (.fn 163 [] [])) [((.t 40), zC)]), zm 39 41, zv 42 (.ext (.t 39) 0), zv 43 (.ext (.t 39) 1), zi 8 zaC, zi 9 zaN, zn (.st 8 zC (.t 8) (.t 42)), zn (.st 5 zN (.t 9) (.t 43))]
def qbfl : IC := zr [zv 44 (.ld true 8 (.t 8)), zn (.st 8 zC (.t 1) (.t 44))]
def qbk4 : IC := zr [zv 45 (.fad (.t 7) 4), zv 46 (.ld false 1 (.t 45)), zv 47 (.ld true 5 (.t 9)), zv 48 (.bsl 5 [((.t 47), zN)]), zi 49 (.app 5 zZ 64 (.sl 5) (.t 46) (.t 48)), zv 50 (.fad (.t 7) 4), zn (.st 1 (.sl 5) (.t 50) (.t 49))]
def qb1a : IC := (.seq (.seq qbn6 (.cond (.t 38) .skip (.exit 0))) (.block 1 (.seq qbpv (.seq qbfl qbk4))))
def qbhc : IC := .drw [zp (zv 51 (.ld true 8 (.t 1))), (zi 52 (.call (.c (.fn 120 [] [])) [((.t 51), zC)]), []), (zv 53 (.ld true 5 (.t 7)), [1]), (zn (.st 8 zC (.t 2) (.t 52)), [2]), (zn (.st 5 zN (.t 3) (.t 53)), [])]
def k0fy : IC := (.seq qccx (.seq qbt1 (.seq (.seq qbtf (.cond (.t 18) (.seq qb8r (.seq qbr6 .ret)) .skip)) (.seq qb02 (.seq qcal (.seq (.block 0 (.loop qb1a)) (.seq qbhc .ret)))))))
@[go_sem] def s0fy : List (RV × Co) := [(.c true 8 2, zC), (.c true 5 3, zN)]
theorem c0fy : cFun Tryz.prog 156 = some (54, k0fy, s0fy) := by kernel_rfl

def qb9f : IC := zr [zv 4 (.mov (.c .nils)), zv 5 zf]
def qboy : IC := zr [zm 9 0, zi 10 (.call (.c (.fn 65 [] [])) [((.t 9), .id), ((.c (.str [123])), .id)]), zv 11 (.un .not (.t 10))]
def qb03 : IC := zr [zv 4 (.mov (.c .nils)), zv 5 zf]
def qb78 : IC := zr [zv 6 (.mov (.c .nils))]
def qcaw : IC := zr [zm 13 1, zi 14 (.call (.t 13) []), zm 12 14, zv 15 (.ext (.t 12) 0), zv 16 (.ext (.t 12) 1), zi 7 zaN, zn (.st 5 zN (.t 7) (.t 15)), zm 8 16]
def qb3u : IC := zr [zm 17 8, zv 18 (.un .not (.t 17))]
def qb72 : IC := zr [zv 4 (.mov (.c .nils)), zv 5 zf]
def qbsg : IC := zr [zm 19 6, zv 20 (.ld true 5 (.t 7)), zv 21 (.bsl 5 [((.t 20), zN)]), zi 22 (.app 5 zZ 64 (.sl 5) (.t 19) (.t 21)), zm 6 22]
def q74 : IC := zr [zm 23 0, zi 24 (.call (.c (.fn 35 [] [])) [((.t 23), .id), ((.c (.str [59])), .id)]), zv 25 (.un .not (.t 24)), zm 26 25, zw 26 false 27 (.mov (.t 0)), ⟨some (26, false), some 28, .call (.c (.fn 59 [] [])) [((.t 27), .id), ((.c (.str [125])), .id)]⟩, zv 29 (.pick (.t 26) (.c (.bool true)) (.t 28))]
def qbj2 : IC := zr [zm 30 6, zm 31 0, zi 32 (.call (.c (.fn 65 [] [])) [((.t 31), .id), ((.c (.str [125])), .id)]), zm 4 30, zm 5 32]
def q7a : IC := (.block 1 (.seq qcaw (.seq (.seq qb3u (.cond (.t 18) (.seq qb72 .ret) .skip)) (.seq qbsg (.seq q74 (.cond (.t 29) (.seq qbj2 .ret) .skip))))))
def k0bo : IC := (.seq qb9f (.seq (.seq qboy (.cond (.t 11) (.seq qb03 .ret) .skip)) (.seq qb78 (.block 0 (.loop q7a)))))
@[go_sem] def s0bo : List (RV × Co) := [(.t 4, (.sl 5)), (.t 5, .id)]
theorem c0bo : cFun Tryz.prog 157 = some (33, k0bo, s0bo) := by kernel_rfl

def qbnh : IC := zr [zi 1 zaN, zv 2 zf]
def qcdu : IC := zr [zv 3 (.ld false 1 (.t 0)), zi 4 (.call (.c (.fn 38 [] [])) [((.t 3), .id)]), zv 5 (.ext (.t 4) 0), zv 6 (.ext (.t 4) 1), zn (.st 5 zN (.t 1) (.t 5)), zm 2 6]
def k0bm : IC := (.seq qbnh (.seq qcdu .ret))
@[go_sem] def s0bm : List (RV × Co) := [(.c true 5 1, zN), (.t 2, .id)]
theorem c0bm : cFun Tryz.prog 158 = some (7, k0bm, s0bm) := by kernel_rfl

def qbo6 : IC := zr [zi 1 zaN, zv 2 zf]
def qb09 : IC := zr [zv 7 (.ld false 1 (.t 0)), zi 8 (.call (.c (.fn 160 [] [])) [((.t 7), .id)]), zm 6 8, zv 9 (.ext (.t 6) 0), zv 10 (.ext (.t 6) 1), zi 3 zaN, zn (.st 5 zN (.t 3) (.t 9)), zm 4 10]
def qb8w : IC := zr [zm 11 4, zv 12 (.un .not (.t 11)), zm 13 12, zw 13 false 14 (.ld false 1 (.t 0)), ⟨some (13, false), some 15, .call (.c (.fn 65 [] [])) [((.t 14), .id), ((.c (.str [45, 62])), .id)]⟩, zw 13 false 16 (.un .not (.t 15)), zv 17 (.pick (.t 13) (.c (.bool true)) (.t 16))]
def qb7w : IC := zr [zv 18 (.ld true 5 (.t 3)), zn (.st 5 zN (.t 1) (.t 18)), zv 2 zf]
def qbv1 : IC := zr [zv 20 (.ld false 1 (.t 0)), zi 21 (.call (.c (.fn 116 [] [])) [((.t 20), .id)]), zm 19 21, zv 22 (.ext (.t 19) 0), zv 23 (.ext (.t 19) 1), zi 5 zaN, zn (.st 5 zN (.t 5) (.t 22)), zm 4 23]
def qcck : IC := zr [zv 24 (.fad (.t 3) 1), zv 25 (.ld false 1 (.t 24)), zv 26 (.ld true 5 (.t 3)), zv 27 (.ld true 5 (.t 5)), zv 28 (.bsl 5 [((.t 26), zN), ((.t 27), zN)]), zv 29 (.bld [(.int .i64 0), (.int .i64 0), (.int .i64 0), (.str []), .nils] [(0, 1, (zc 15)), (1, 1, (.t 25)), (4, 1, (.t 28))]), zm 30 4, zn (.st 5 zN (.t 1) (.t 29)), zm 2 30]
def k0bn : IC := (.seq qbo6 (.seq qb09 (.seq (.seq qb8w (.cond (.t 17) (.seq qb7w .ret) .skip)) (.seq qbv1 (.seq qcck .ret)))))
@[go_sem] def s0bn : List (RV × Co) := [(.c true 5 1, zN), (.t 2, .id)]
theorem c0bn : cFun Tryz.prog 159 = some (31, k0bn, s0bn) := by kernel_rfl

def qbn2 : IC := zr [zi 2 zaN, zv 3 zf]
def qcdc : IC := zr [zm 8 0, zi 9 (.call (.c (.fn 103 [] [])) [((.t 8), .id)]), zv 10 (.un .not (.t 9))]
def qb9o : IC := zr [zv 11 (.bld [(.int .i64 0), (.int .i64 0), (.int .i64 0), (.str []), .nils] []), zn (.st 5 zN (.t 2) (.t 11)), zv 3 zf]
def qb2x : IC := zr [zm 12 0, zi 13 (.call (.c (.fn 19 [] [])) [((.t 12), .id)]), zv 14 (.fld false 1 0 (.t 13)), zv 15 (.bin .eql .no (.t 14) (zc 2)), zm 4 15]
def qb4j : IC := zr [zm 17 0, zi 18 (.call (.c (.fn 165 [] [])) [((.t 17), .id)]), zm 16 18, zv 19 (.ext (.t 16) 0), zv 20 (.ext (.t 16) 1), zi 5 zaN, zn (.st 5 zN (.t 5) (.t 19)), zm 6 20]
def qby3 : IC := zr [zm 21 6, zm 22 21, zw 22 true 23 (.mov (.t 4)), zv 24 (.pick (.t 22) (.t 23) (.c (.bool false))), zm 25 24, zw 25 true 26 (.mov (.t 0)), ⟨some (25, true), some 27, .call (.c (.fn 166 [] [])) [((.t 26), .id)]⟩, zv 28 (.pick (.t 25) (.t 27) (.c (.bool false)))]
def qbov : IC := zr [zi 7 zaN]
def qb7y : IC := zr [zm 30 0, zi 31 (.call (.c (.fn 165 [] [])) [((.t 30), .id)]), zm 29 31, zv 32 (.ext (.t 29) 0), zv 33 (.ext (.t 29) 1), zn (.st 5 zN (.t 7) (.t 32)), zm 6 33]
def qbz1 : IC := zr [zm 34 6]
def qbcm : IC := zr [zv 35 (.fad (.t 5) 4), zv 36 (.ld false 1 (.t 35)), zv 37 (.ld true 5 (.t 7)), zv 38 (.bsl 5 [((.t 37), zN)]), zi 39 (.app 5 zZ 64 (.sl 5) (.t 36) (.t 38)), zv 40 (.fad (.t 5) 4), zn (.st 1 (.sl 5) (.t 40) (.t 39))]
def qbtt : IC := (.seq (.seq qby3 (.cond (.t 28) .skip (.exit 0))) (.block 1 (.seq qbov (.seq qb7y (.seq qbz1 (.cond (.t 34) qbcm .skip))))))
def qbhm : IC := zr [zm 41 0, zi 42 (.call (.c (.fn 105 [] [])) [((.t 41), .id)])]
def qbec : IC := zr [zm 43 6, zv 44 (.un .not (.t 43))]
def qbju : IC := zr [zv 45 (.bld [(.int .i64 0), (.int .i64 0), (.int .i64 0), (.str []), .nils] []), zn (.st 5 zN (.t 2) (.t 45)), zv 3 zf]
def qbkn : IC := zr [zv 46 (.ld true 5 (.t 5)), zn (.st 5 zN (.t 2) (.t 46)), zv 3 (.mov (.c (.bool true)))]
def k0bx : IC := (.seq qbn2 (.seq (.seq qcdc (.cond (.t 10) (.seq qb9o .ret) .skip)) (.seq qb2x (.seq qb4j (.seq (.block 0 (.loop qbtt)) (.seq qbhm (.seq (.seq qbec (.cond (.t 44) (.seq qbju .ret) .skip)) (.seq qbkn .ret))))))))
@[go_sem] def s0bx : List (RV × Co) := [(.c true 5 2, zN), (.t 3, .id)]
theorem c0bx : cFun Tryz.prog 160 = some (47, k0bx, s0bx) := by kernel_rfl

def qbqd : IC := zr [zi 2 zaN, zv 3 zf]
def qb5r : IC := zr [zm 9 0, zi 10 (.call (.c (.fn 162 [] [])) [((.t 9), .id)]), zm 8 10, zv 11 (.ext (.t 8) 0), zv 12 (.ext (.t 8) 1), zi 4 zaN, zn (.st 5 zN (.t 4) (.t 11)), zm 5 12]
def qb8j : IC := zr [zm 13 5]
def qbsc : IC := zr [zm 14 0, zi 15 (.call (.c (.fn 60 [] [])) [((.t 14), .id)])]
def qbxf : IC := zr [zv 16 (.ld true 5 (.t 4)), zn (.st 5 zN (.t 2) (.t 16)), zv 3 (.mov (.c (.bool true)))]
def qb2c : IC := zr [zm 17 0, zi 18 (.call (.c (.fn 59 [] [])) [((.t 17), .id), ((.c (.str [40])), .id)]), zv 19 (.un .not (.t 18))]
def qb7i : IC := zr [zv 20 (.bld [(.int .i64 0), (.int .i64 0), (.int .i64 0), (.str []), .nils] []), zm 21 0, zi 22 (.call (.c (.fn 69 [] [])) [((.t 21), .id), ((zc 5), .id)]), zn (.st 5 zN (.t 2) (.t 20)), zm 3 22]
def qbwt : IC := zr [zm 23 0, zi 24 (.call (.c (.fn 103 [] [])) [((.t 23), .id)]), zv 25 (.un .not (.t 24))]
def qbw5 : IC := zr [zv 26 (.bld [(.int .i64 0), (.int .i64 0), (.int .i64 0), (.str []), .nils] []), zn (.st 5 zN (.t 2) (.t 26)), zv 3 zf]
def qb28 : IC := zr [zm 27 0, zi 28 (.call (.c (.fn 60 [] [])) [((.t 27), .id)])]
def qbiw : IC := zr [zm 30 0, zi 31 (.call (.c (.fn 116 [] [])) [((.t 30), .id)]), zm 29 31, zv 32 (.ext (.t 29) 0), zv 33 (.ext (.t 29) 1), zi 6 zaN, zn (.st 5 zN (.t 6) (.t 32)), zm 7 33]
def qbgz : IC := zr [zm 34 7, zv 35 (.un .not (.t 34)), zm 36 35, zw 36 false 37 (.mov (.t 0)), ⟨some (36, false), some 38, .call (.c (.fn 65 [] [])) [((.t 37), .id), ((.c (.str [41])), .id)]⟩, zw 36 false 39 (.un .not (.t 38)), zv 40 (.pick (.t 36) (.c (.bool true)) (.t 39))]
def qbiy : IC := zr [zv 41 (.bld [(.int .i64 0), (.int .i64 0), (.int .i64 0), (.str []), .nils] []), zn (.st 5 zN (.t 2) (.t 41)), zv 3 zf]
def qbf8 : IC := zr [zm 42 0, zi 43 (.call (.c (.fn 105 [] [])) [((.t 42), .id)])]
def qbiq : IC := zr [zv 44 (.ld true 5 (.t 6)), zn (.st 5 zN (.t 2) (.t 44)), zv 3 (.mov (.c (.bool true)))]
def k0bs : IC := (.seq qbqd (.seq (.seq qb5r (.seq qb8j (.cond (.t 13) (.seq qbsc (.seq qbxf .ret)) .skip))) (.seq (.seq qb2c (.cond (.t 19) (.seq qb7i .ret) .skip)) (.seq (.seq qbwt (.cond (.t 25) (.seq qbw5 .ret) .skip)) (.seq qb28 (.seq qbiw (.seq (.seq qbgz (.cond (.t 40) (.seq qbiy .ret) .skip)) (.seq qbf8 (.seq qbiq .ret)))))))))
@[go_sem] def s0bs : List (RV × Co) := [(.c true 5 2, zN), (.t 3, .id)]
theorem c0bs : cFun Tryz.prog 161 = some (45, k0bs, s0bs) := by kernel_rfl

def qbu1 : IC := zr [zi 2 zaN, zv 3 zf]
def qbtz : IC := zr [zm 5 0, zi 6 (.call (.c (.fn 19 [] [])) [((.t 5), .id)]), zi 4 zaT, zn (.st 4 .id (.t 4) (.t 6))]
def qbpw : IC := zr [zv 7 (.fad (.t 4) 0), zv 8 (.ld false 1 (.t 7))]
def qb7q : IC := zr [zv 10 (.bin .eql .no (.t 8) (zc 1)), zm 9 10]
def qbqj : IC := zr [zv 11 (.fad (.t 4) 1), zv 12 (.ld false 1 (.t 11)), zv 13 (.fad (.t 4) 3), zv 14 (.ld false 1 (.t 13)), zv 15 (.bld [(.int .i64 0), (.int .i64 0), (.int .i64 0), (.str []), .nils] [(0, 1, (zc 21)), (1, 1, (.t 12)), (3, 1, (.t 14))]), zn (.st 5 zN (.t 2) (.t 15)), zv 3 (.mov (.c (.bool true)))]
def qbxa : IC := zr [zv 17 (.bin .eql .no (.t 8) (zc 2)), zm 16 17]
def qbz0 : IC := zr [zv 18 (.fad (.t 4) 1), zv 19 (.ld false 1 (.t 18)), zv 20 (.fad (.t 4) 3), zv 21 (.ld false 1 (.t 20)), zv 22 (.bld [(.int .i64 0), (.int .i64 0), (.int .i64 0), (.str []), .nils] [(0, 1, (zc 22)), (1, 1, (.t 19)), (3, 1, (.t 21))]), zn (.st 5 zN (.t 2) (.t 22)), zv 3 (.mov (.c (.bool true)))]
def qb8n : IC := zr [zv 24 (.bin .eql .no (.t 8) (zc 3)), zm 23 24]
def qbu9 : IC := zr [zv 25 (.fad (.t 4) 1), zv 26 (.ld false 1 (.t 25)), zv 27 (.fad (.t 4) 2), zv 28 (.ld false 1 (.t 27)), zv 29 (.bld [(.int .i64 0), (.int .i64 0), (.int .i64 0), (.str []), .nils] [(0, 1, (zc 23)), (1, 1, (.t 26)), (2, 1, (.t 28))]), zn (.st 5 zN (.t 2) (.t 29)), zv 3 (.mov (.c (.bool true)))]
def qb7m : IC := zr [zv 30 (.bld [(.int .i64 0), (.int .i64 0), (.int .i64 0), (.str []), .nils] []), zn (.st 5 zN (.t 2) (.t 30)), zv 3 zf]
def k0br : IC := (.seq qbu1 (.seq qbtz (.seq (.seq qbpw (.block 0 (.seq qb7q (.cond (.t 9) (.seq qbqj .ret) (.seq qbxa (.cond (.t 16) (.seq qbz0 .ret) (.seq qb8n (.cond (.t 23) (.seq qbu9 .ret) .skip)))))))) (.seq qb7m .ret))))
@[go_sem] def s0br : List (RV × Co) := [(.c true 5 2, zN), (.t 3, .id)]
theorem c0br : cFun Tryz.prog 162 = some (31, k0br, s0br) := by kernel_rfl

def qbpp : IC := zr [zi 1 (.box (.t 0)), zi 2 zaC, zi 3 zaN]
def qbq6 : IC := zr [zv 7 (.ld true 8 (.t 1)), zi 8 (.call (.c (.fn 42 [] [])) [((.t 7), zC)]), zi 4 zaT, zn (.st 4 .id (.t 4) (.t 8))]
def qbzj : IC := zr [zv 9 (.ld true 8 (.t 1)), zi 10 (.call (.c (.fn 164 [] [])) [((.t 9), zC)]), zv 11 (.un .not (.t 10))]
def qbs4 : IC := zr [zv 12 (.ld true 8 (.t 1)), zi 13 (.call (.c (.fn 117 [] [])) [((.t 12), zC), ((zc 5), .id)]), zv 14 (.bld [(.int .i64 0), (.int .i64 0), (.int .i64 0), (.str []), .nils] []), zn (.st 8 zC (.t 2) (.t 13)), zn (.st 5 zN (.t 3) (.t 14))]
def qb75 : IC := zr [zv 15 (.ld true 8 (.t 1)), zi 16 (.call (.c (.fn 46 [] [])) [((.t 15), zC), ((.c (.str [40])), .id)])]
def qbou : IC := zr [zv 18 (.ld true 8 (.t 1)), zi 19 (.call (.c (.fn 118 [] [])) [((.t 18), zC)]), zm 17 19, zv 20 (.ext (.t 17) 0), zv 21 (.ext (.t 17) 1), zn (.st 8 zC (.t 1) (.t 20))]
def qb3q : IC := zr [zv 23 (.ld true 8 (.t 1)), zi 24 (.call (.c (.fn 82 [] [])) [((.t 23), zC), ((.c (.str [40])), .id)]), zm 22 24, zv 25 (.ext (.t 22) 0), zv 26 (.ext (.t 22) 1), zn (.st 8 zC (.t 1) (.t 25))]
def qb05 : IC := zr [zv 28 (.ld true 8 (.t 1)), zi 29 (.call (.c (.fn 156 [] [])) [((.t 28), zC)]), zm 27 29, zv 30 (.ext (.t 27) 0), zv 31 (.ext (.t 27) 1), zi 5 zaC, zi 6 zaN, zn (.st 8 zC (.t 5) (.t 30)), zn (.st 5 zN (.t 6) (.t 31))]
def qbqe : IC := zr [zv 33 (.ld true 8 (.t 5)), zi 34 (.call (.c (.fn 82 [] [])) [((.t 33), zC), ((.c (.str [41])), .id)]), zm 32 34, zv 35 (.ext (.t 32) 0), zv 36 (.ext (.t 32) 1), zn (.st 8 zC (.t 5) (.t 35))]
def qbnr : IC := .drw [zp (zv 37 (.ld true 8 (.t 5))), (zi 38 (.call (.c (.fn 120 [] [])) [((.t 37), zC)]), []), (zv 39 (.ld true 5 (.t 6)), [1]), (zn (.st 8 zC (.t 2) (.t 38)), [2]), (zn (.st 5 zN (.t 3) (.t 39)), [])]
def qbht : IC := zr [zv 41 (.ld true 8 (.t 1)), zi 42 (.call (.c (.fn 47 [] [])) [((.t 41), zC)]), zm 40 42, zv 43 (.ext (.t 40) 0), zv 44 (.ext (.t 40) 1), zn (.st 8 zC (.t 1) (.t 43))]
def qbh0 : IC := zr [zv 45 (.fad (.t 4) 0), zv 46 (.ld false 1 (.t 45))]
def qbls : IC := zr [zv 48 (.bin .eql .no (.t 46) (zc 1)), zm 47 48]
def qbhv : IC := .drw [zp (zv 49 (.ld true 8 (.t 1))), zp (zv 50 (.fad (.t 4) 1)), zp (zv 51 (.ld false 1 (.t 50))), zp (zv 52 (.fad (.t 4) 3)), zp (zv 53 (.ld false 1 (.t 52))), (zv 54 (.bld [(.int .i64 0), (.int .i64 0), (.int .i64 0), (.str []), .nils] [(0, 1, (zc 11)), (1, 1, (.t 51)), (3, 1, (.t 53))]), []), (zn (.st 8 zC (.t 2) (.t 49)), [2, 4]), (zn (.st 5 zN (.t 3) (.t 54)), [])]
def qbfp : IC := zr [zv 56 (.bin .eql .no (.t 46) (zc 2)), zm 55 56]
def qbk7 : IC := .drw [zp (zv 57 (.ld true 8 (.t 1))), zp (zv 58 (.fad (.t 4) 1)), zp (zv 59 (.ld false 1 (.t 58))), zp (zv 60 (.fad (.t 4) 3)), zp (zv 61 (.ld false 1 (.t 60))), (zv 62 (.bld [(.int .i64 0), (.int .i64 0), (.int .i64 0), (.str []), .nils] [(0, 1, (zc 14)), (1, 1, (.t 59)), (3, 1, (.t 61))]), []), (zn (.st 8 zC (.t 2) (.t 57)), [2, 4]), (zn (.st 5 zN (.t 3) (.t 62)), [])]
def qbii : IC := zr [zv 64 (.bin .eql .no (.t 46) (zc 3)), zm 63 64]
def qbfr : IC := .drw [zp (zv 65 (.ld true 8 (.t 1))), zp (zv 66 (.fad (.t 4) 1)), zp (zv 67 (.ld false 1 (.t 66))), zp (zv 68 (.fad (.t 4) 2)), zp (zv 69 (.ld false 1 (.t 68))), (zv 70 (.bld [(.int .i64 0), (.int .i64 0), (.int .i64 0), (.str []), .nils] [(0, 1, (zc 13)), (1, 1, (.t 67)), (2, 1, (.t 69))]), []), (zn (.st 8 zC (.t 2) (.t 65)), [2, 4]), (zn (.st 5 zN (.t 3) (.t 70)), [])]
def qbe9 : IC := .drw [zp (zv 71 (.ld true 8 (.t 1))), zp (zv 72 (.fad (.t 4) 1)), zp (zv 73 (.ld false 1 (.t 72))), (zv 74 (.bld [(.int .i64 0), (.int .i64 0), (.int .i64 0), (.str []), .nils] [(0, 1, (zc 12)), (1, 1, (.t 73))]), []), (zn (.st 8 zC (.t 2) (.t 71)), [2]), (zn (.st 5 zN (.t 3) (.t 74)), [])]
def k0fx : IC := (.seq qbpp (.seq qbq6 (.seq (.seq qbzj (.cond (.t 11) (.seq qbs4 .ret) .skip)) (.seq (.seq qb75 (.cond (.t 16) (.seq qbou (.seq qb3q (.seq qb05 (.seq qbqe (.seq qbnr .ret))))) .skip)) (.seq qbht (.seq (.seq qbh0 (.block 0 (.seq qbls (.cond (.t 47) (.seq qbhv .ret) (.seq qbfp (.cond (.t 55) (.seq qbk7 .ret) (.seq qbii (.cond (.t 63) (.seq qbfr .ret) .skip)))))))) (.seq qbe9 .ret)))))))
@[go_sem] def s0fx : List (RV × Co) := [(.c true 8 2, zC), (.c true 5 3, zN)]
theorem c0fx : cFun Tryz.prog 163 = some (75, k0fx, s0fx) := by kernel_rfl

def qb8x : IC := zr [zi 1 (.box (.t 0)), zv 2 zf]
def qb5n : IC := zr [zv 4 (.ld true 8 (.t 1)), zi 5 (.call (.c (.fn 42 [] [])) [((.t 4), zC)]), zv 6 (.fld false 1 0 (.t 5)), zm 3 6]
def qcag : IC := zr [zv 7 (.fad (.t 1) 6), zv 8 (.ld false 1 (.t 7)), zv 9 (.bin .eql .no (.t 8) (zc 0)), zm 10 9, zw 10 true 11 (.mov (.t 3)), zw 10 true 12 (.bin .eql .no (.t 11) (zc 1)), zw 10 true 13 (.mov (.t 12)), zw 13 false 14 (.mov (.t 3)), zw 13 false 15 (.bin .eql .no (.t 14) (zc 2)), zw 10 true 16 (.pick (.t 13) (.c (.bool true)) (.t 15)), zw 10 true 17 (.mov (.t 16)), zw 17 false 18 (.mov (.t 3)), zw 17 false 19 (.bin .eql .no (.t 18) (zc 3)), zw 10 true 20 (.pick (.t 17) (.c (.bool true)) (.t 19)), zw 10 true 21 (.mov (.t 20)), zw 21 false 22 (.ld true 8 (.t 1)), ⟨some (21, false), some 23, .call (.c (.fn 46 [] [])) [((.t 22), zC), ((.c (.str [95])), .id)]⟩, zw 10 true 24 (.pick (.t 21) (.c (.bool true)) (.t 23)), zw 10 true 25 (.mov (.t 24)), zw 25 false 26 (.ld true 8 (.t 1)), ⟨some (25, false), some 27, .call (.c (.fn 46 [] [])) [((.t 26), zC), ((.c (.str [40])), .id)]⟩, zw 10 true 28 (.pick (.t 25) (.c (.bool true)) (.t 27)), zv 29 (.pick (.t 10) (.t 28) (.c (.bool false))), zm 2 29]
def k0fw : IC := (.seq qb8x (.seq qb5n (.seq qcag .ret)))
@[go_sem] def s0fw : List (RV × Co) := [(.t 2, .id)]
theorem c0fw : cFun Tryz.prog 164 = some (30, k0fw, s0fw) := by kernel_rfl

def qcaj : IC := zr [zi 2 zaN, zv 3 zf]
def qcb5 : IC := zr [zm 9 0, zi 10 (.call (.c (.fn 167 [] [])) [((.t 9), .id)]), zm 8 10, zv 11 (.ext (.t 8) 0), zv 12 (.ext (.t 8) 1), zi 4 zaN, zn (.st 5 zN (.t 4) (.t 11)), zm 5 12]
def qb49 : IC := zr [zm 13 5]
def qbs2 : IC := zr [zm 14 0, zi 15 (.call (.c (.fn 60 [] [])) [((.t 14), .id)])]
def qb8c : IC := zr [zv 16 (.ld true 5 (.t 4)), zn (.st 5 zN (.t 2) (.t 16)), zv 3 (.mov (.c (.bool true)))]
def qbnk : IC := zr [zm 17 0, zi 18 (.call (.c (.fn 59 [] [])) [((.t 17), .id), ((.c (.str [40])), .id)]), zv 19 (.un .not (.t 18))]
def qcb4 : IC := zr [zv 20 (.bld [(.int .i64 0), (.int .i64 0), (.int .i64 0), (.str []), .nils] []), zm 21 0, zi 22 (.call (.c (.fn 69 [] [])) [((.t 21), .id), ((zc 5), .id)]), zn (.st 5 zN (.t 2) (.t 20)), zm 3 22]
def qbso : IC := zr [zm 23 0, zi 24 (.call (.c (.fn 103 [] [])) [((.t 23), .id)]), zv 25 (.un .not (.t 24))]
def qb3e : IC := zr [zv 26 (.bld [(.int .i64 0), (.int .i64 0), (.int .i64 0), (.str []), .nils] []), zn (.st 5 zN (.t 2) (.t 26)), zv 3 zf]
def qbxl : IC := zr [zm 27 0, zi 28 (.call (.c (.fn 60 [] [])) [((.t 27), .id)])]
def qbem : IC := zr [zm 30 0, zi 31 (.call (.c (.fn 160 [] [])) [((.t 30), .id)]), zm 29 31, zv 32 (.ext (.t 29) 0), zv 33 (.ext (.t 29) 1), zi 6 zaN, zn (.st 5 zN (.t 6) (.t 32)), zm 7 33]
def qblp : IC := zr [zm 34 7, zv 35 (.un .not (.t 34)), zm 36 35, zw 36 false 37 (.mov (.t 0)), ⟨some (36, false), some 38, .call (.c (.fn 65 [] [])) [((.t 37), .id), ((.c (.str [41])), .id)]⟩, zw 36 false 39 (.un .not (.t 38)), zv 40 (.pick (.t 36) (.c (.bool true)) (.t 39))]
def qbcl : IC := zr [zv 41 (.bld [(.int .i64 0), (.int .i64 0), (.int .i64 0), (.str []), .nils] []), zn (.st 5 zN (.t 2) (.t 41)), zv 3 zf]
def qbfj : IC := zr [zm 42 0, zi 43 (.call (.c (.fn 105 [] [])) [((.t 42), .id)])]
def qbez : IC := zr [zv 44 (.ld true 5 (.t 6)), zn (.st 5 zN (.t 2) (.t 44)), zv 3 (.mov (.c (.bool true)))]
def k0bw : IC := (.seq qcaj (.seq (.seq qcb5 (.seq qb49 (.cond (.t 13) (.seq qbs2 (.seq qb8c .ret)) .skip))) (.seq (.seq qbnk (.cond (.t 19) (.seq qcb4 .ret) .skip)) (.seq (.seq qbso (.cond (.t 25) (.seq qb3e .ret) .skip)) (.seq qbxl (.seq qbem (.seq (.seq qblp (.cond (.t 40) (.seq qbcl .ret) .skip)) (.seq qbfj (.seq qbez .ret)))))))))
@[go_sem] def s0bw : List (RV × Co) := [(.c true 5 2, zN), (.t 3, .id)]
theorem c0bw : cFun Tryz.prog 165 = some (45, k0bw, s0bw) := by kernel_rfl

def qbpy : IC := zr [zv 2 zf]
def qb27 : IC := zr [zm 6 0, zi 7 (.call (.c (.fn 167 [] [])) [((.t 6), .id)]), zm 5 7, zv 8 (.ext (.t 5) 0), zv 9 (.ext (.t 5) 1), zi 3 zaN, zn (.st 5 zN (.t 3) (.t 8)), zm 4 9]
def qca0 : IC := zr [zm 10 4, zm 11 10, zw 11 false 12 (.mov (.t 0)), ⟨some (11, false), some 13, .call (.c (.fn 59 [] [])) [((.t 12), .id), ((.c (.str [40])), .id)]⟩, zv 14 (.pick (.t 11) (.c (.bool true)) (.t 13)), zm 2 14]
def k0bv : IC := (.seq qbpy (.seq qb27 (.seq qca0 .ret)))
@[go_sem] def s0bv : List (RV × Co) := [(.t 2, .id)]
theorem c0bv : cFun Tryz.prog 166 = some (15, k0bv, s0bv) := by kernel_rfl

def qbzd : IC := zr [zi 2 zaN, zv 3 zf]
def qcdh : IC := zr [zm 6 0, zi 7 (.call (.c (.fn 19 [] [])) [((.t 6), .id)]), zi 4 zaT, zn (.st 4 .id (.t 4) (.t 7))]
def qb4h : IC := zr [zv 8 (.fad (.t 4) 1), zv 9 (.ld false 1 (.t 8)), zv 10 (.fad (.t 4) 3), zv 11 (.ld false 1 (.t 10)), zv 12 (.bld [(.int .i64 0), (.int .i64 0), (.int .i64 0), (.str []), .nils] [(1, 1, (.t 9)), (3, 1, (.t 11))]), zi 5 zaN, zn (.st 5 zN (.t 5) (.t 12))]
def qcbo : IC := zr [zv 15 (.fad (.t 4) 0), zv 16 (.ld false 1 (.t 15)), zv 17 (.bin .eql .no (.t 16) (zc 1)), zm 14 17]
def qbsp : IC := zr [zv 18 (.fad (.t 5) 0), zn (.st 1 .id (.t 18) (zc 11))]
def qcbn : IC := zr [zv 20 (.fad (.t 4) 0), zv 21 (.ld false 1 (.t 20)), zv 22 (.bin .eql .no (.t 21) (zc 2)), zm 19 22]
def qb6r : IC := zr [zv 23 (.fad (.t 5) 0), zn (.st 1 .id (.t 23) (zc 14))]
def qbqr : IC := zr [zv 25 (.fad (.t 4) 0), zv 26 (.ld false 1 (.t 25)), zv 27 (.bin .eql .no (.t 26) (zc 3)), zm 24 27]
def qb83 : IC := .drw [zp (zv 28 (.fad (.t 4) 2)), zp (zv 29 (.ld false 1 (.t 28))), zp (zv 30 (.fad (.t 5) 0)), (zn (.st 1 .id (.t 30) (zc 13)), [1]), zp (zv 31 (.fad (.t 5) 2)), (zn (.st 1 .id (.t 31) (.t 29)), []), zp (zv 32 (.fad (.t 5) 3)), (zn (.st 1 .id (.t 32) (.c (.str []))), [])]
def qb2t : IC := zr [zm 34 0, zi 35 (.call (.c (.fn 59 [] [])) [((.t 34), .id), ((.c (.str [95])), .id)]), zm 33 35]
def qblc : IC := zr [zv 36 (.fad (.t 5) 0), zn (.st 1 .id (.t 36) (zc 12)), zv 37 (.fad (.t 5) 3), zn (.st 1 .id (.t 37) (.c (.str [])))]
def qbck : IC := zr [zv 13 (.bld [(.int .i64 0), (.int .i64 0), (.int .i64 0), (.str []), .nils] []), zn (.st 5 zN (.t 2) (.t 13)), zv 3 zf]
def qbk9 : IC := zr [zv 38 (.ld true 5 (.t 5)), zn (.st 5 zN (.t 2) (.t 38)), zv 3 (.mov (.c (.bool true)))]
def k0bu : IC := (.seq qbzd (.seq qcdh (.seq qb4h (.seq (.block 0 (.seq qcbo (.cond (.t 14) qbsp (.seq qcbn (.cond (.t 19) qb6r (.seq qbqr (.cond (.t 24) qb83 (.seq qb2t (.cond (.t 33) qblc (.seq qbck .ret)))))))))) (.seq qbk9 .ret)))))
@[go_sem] def s0bu : List (RV × Co) := [(.c true 5 2, zN), (.t 3, .id)]
theorem c0bu : cFun Tryz.prog 167 = some (39, k0bu, s0bu) := by kernel_rfl

end Go.Proofs.YtfjbmjplnmaclaaGreat
