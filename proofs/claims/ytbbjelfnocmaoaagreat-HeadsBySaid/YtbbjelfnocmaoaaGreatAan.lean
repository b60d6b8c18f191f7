/- A text of this proof. -/
import Derived.Test.YtbbjelfnocmaoaaGreatAaf
import Derived.Test.YtbbjelfnocmaoaaGreatProg
/- The compiled code of the functions. -/
namespace Go.Proofs.YtbbjelfnocmaoaaGreat
open Go Go.V
@[reducible] def zm (d s : Nat) : GI := ⟨none, some d, .v (.mov (.t s))⟩
@[reducible] def zv (d : Nat) (x : IV) : GI := ⟨none, some d, .v x⟩
@[reducible] def zi (d : Nat) (i : I) : GI := ⟨none, some d, i⟩
@[reducible] def zn (i : I) : GI := ⟨none, none, i⟩
@[reducible] def zw (j : Nat) (b : Bool) (d : Nat) (x : IV) : GI := ⟨some (j, b), some d, .v x⟩
@[reducible] def zp (g : GI) : GI × List Nat := (g, [])
@[reducible] def zN : Co := .agg [.id, .id, .id, .id, (.sl 5)]
@[reducible] def zC : Co := .agg [(.sl 4), .id, .id, .id, .id, .id, .id, .id]
@[reducible] def zaN : I := .alo [(.int .i64 0), (.int .i64 0), (.int .i64 0), (.str []), .nils]
@[reducible] def zaC : I := .alo [.nils, (.int .i64 0), (.int .i64 0), (.int .i64 0), (.str []), (.int .i64 0), (.int .i64 0), (.int .i64 0)]
@[reducible] def zaT : I := .alo [(.int .i64 0), (.int .i64 0), (.int .i64 0), (.str [])]
@[reducible] def zZ : AV := .agg [(.int .i64 0), (.int .i64 0), (.int .i64 0), (.str []), .nils]
@[reducible] def zc (n : Int) : Opd := .c (.int .i64 n)
@[reducible] def zf : IV := .mov (.c (.bool false))
@[reducible] def zr (l : List GI) : IC := .reg false l
def qbi9 : IC := zr [zi 3 (.box (.t 1)), zv 4 zf]
def qbj1 : IC := zr [zm 11 0, zi 12 (.call (.c (.fn 6 [] [])) [((.t 11), (.sl 4))]), zv 13 (.bin .eql .no (.t 12) (zc 0)), zm 14 13, zw 14 false 15 (.ld true 4 (.t 3)), zw 14 false 16 (.bsl 4 [((.t 15), (.agg [.id, .id, .id, (.sl 3)]))]), ⟨some (14, false), some 17, .call (.c (.fn 16 [] [])) [((.t 16), (.sl 4))]⟩, zw 14 false 18 (.bin .eql .no (.t 17) (zc 0)), zv 19 (.pick (.t 14) (.c (.bool true)) (.t 18))]
def qbhf : IC := zr [zi 20 (.call (.c (.fn 7 [] [])) []), zm 4 20]
def qbll : IC := zr [zm 22 0, zv 23 (.ld true 4 (.t 3)), zi 24 (.call (.c (.fn 17 [] [])) [((.t 22), (.sl 4)), ((.t 23), (.agg [.id, .id, .id, (.sl 3)]))]), zm 21 24, zv 25 (.ext (.t 21) 0), zv 26 (.ext (.t 21) 1), zv 27 (.ext (.t 21) 2), zm 5 25, zm 6 26, zm 7 27]
def qbnj : IC := zr [zm 29 0, zv 30 (.ld true 4 (.t 3)), zi 31 (.call (.c (.fn 18 [] [])) [((.t 29), (.sl 4)), ((.t 30), (.agg [.id, .id, .id, (.sl 3)]))]), zm 28 31, zv 32 (.ext (.t 28) 0), zv 33 (.ext (.t 28) 1), zv 34 (.ext (.t 28) 2), zm 8 32, zm 9 33, zm 10 34]
def qbjc : IC := zr [zm 35 5, zm 36 8, zv 37 (.bin .eql .no (.t 35) (.t 36)), zm 38 37, zw 38 true 39 (.mov (.t 6)), zw 38 true 40 (.mov (.t 9)), ⟨some (38, true), some 41, .call (.c (.fn 19 [] [])) [((.t 39), (.sl 4)), ((.t 40), (.sl 4))]⟩, zv 42 (.pick (.t 38) (.t 41) (.c (.bool false))), zm 43 42, zw 43 true 44 (.mov (.t 7)), zw 43 true 45 (.mov (.t 10)), zw 43 true 46 (.bin .eql .bool (.t 44) (.t 45)), zv 47 (.pick (.t 43) (.t 46) (.c (.bool false))), zm 48 47, ⟨some (48, true), some 49, .call (.c (.fn 7 [] [])) []⟩, zv 50 (.pick (.t 48) (.t 49) (.c (.bool false))), zm 4 50]
def k0a : IC := (.seq qbi9 (.seq (.seq qbj1 (.cond (.t 19) (.seq qbhf .ret) .skip)) (.seq qbll (.seq qbnj (.seq qbjc .ret)))))
@[go_sem] def s0a : List (RV × Co) := [(.t 4, .id)]
theorem c0a : cFun Tryz.prog 4 = some (51, k0a, s0a) := by kernel_rfl

def qbny : IC := zr [zv 2 (.mov (zc 0))]
def qblz : IC := zr [zm 4 0, zv 5 (.len false (.t 4)), zv 6 (.bin .gtr .no (.t 5) (zc 12))]
def qbnk : IC := zr [zv 2 (.mov (zc 0))]
def qbjt : IC := zr [zv 3 (.mov (zc 0))]
def qbpc : IC := zr [zm 7 3, zm 8 0, zv 9 (.len false (.t 8)), zv 10 (.bin .lss .no (.t 7) (.t 9))]
def qbjv : IC := zr [zm 13 0, zm 14 3, zv 15 (.iad 4 (.t 13) (.t 14)), zv 16 (.fad (.t 15) 3), zv 17 (.ld false 1 (.t 16)), zi 18 (.call (.c (.fn 16 [] [])) [((.t 17), (.sl 4))]), zv 19 (.bin .eql .no (.t 18) (zc 0)), zm 20 19, zw 20 false 21 (.mov (.t 0)), zw 20 false 22 (.mov (.t 3)), zw 20 false 23 (.iad 4 (.t 21) (.t 22)), zw 20 false 24 (.fad (.t 23) 2), zw 20 false 25 (.ld false 1 (.t 24)), zw 20 false 26 (.bin .gtr .no (.t 25) (zc 200)), zv 27 (.pick (.t 20) (.c (.bool true)) (.t 26))]
def qbmv : IC := zr [zv 2 (.mov (zc 0))]
def qbiv : IC := zr [zm 11 3, zv 12 (.bin .add .no (.t 11) (zc 1)), zm 3 12]
def qbjh : IC := (.seq (.seq qbpc (.cond (.t 10) .skip (.exit 0))) (.seq (.block 1 (.seq qbjv (.cond (.t 27) (.seq qbmv .ret) .skip))) qbiv))
def q8s : IC := zr [zv 2 (.mov (zc 1))]
def k0b : IC := (.seq qbny (.seq (.seq qblz (.cond (.t 6) (.seq qbnk .ret) .skip)) (.seq (.seq qbjt (.block 0 (.loop qbjh))) (.seq q8s .ret))))
@[go_sem] def s0b : List (RV × Co) := [(.t 2, .id)]
theorem c0b : cFun Tryz.prog 6 = some (28, k0b, s0b) := by kernel_rfl

def qbo8 : IC := zr [zv 0 zf]
def qbl3 : IC := zr [zv 12 (.bld [(.str []), (.str []), (.int .i64 0), .nils] [(0, 1, (.c (.str [67])))]), zv 13 (.bsl 4 [((.t 12), (.agg [.id, .id, .id, (.sl 3)]))]), zv 14 (.bld [(.str []), (.str []), (.int .i64 0), .nils] [(0, 1, (.c (.str [68]))), (1, 1, (.c (.str [84]))), (2, 1, (zc 1)), (3, 1, (.t 13))]), zi 1 (.alo [(.str []), (.str []), (.int .i64 0), .nils]), zn (.st 4 (.agg [.id, .id, .id, (.sl 4)]) (.t 1) (.t 14))]
def qblw : IC := zr [zi 16 (.call (.c (.fn 24 [] [])) [((.c (.str [84, 32, 73, 110, 116])), .id)]), zm 15 16, zv 17 (.ext (.t 15) 0), zv 18 (.ext (.t 15) 1), zi 2 (.alo [(.str []), (.int .i64 0), .nils]), zn (.st 3 (.agg [.id, .id, (.sl 3)]) (.t 2) (.t 17)), zm 3 18]
def qbi4 : IC := zr [zv 20 (.ld true 4 (.t 1)), zv 21 (.bsl 4 [((.t 20), (.agg [.id, .id, .id, (.sl 4)]))]), zv 22 (.ld true 3 (.t 2)), zv 23 (.bld [(.str []), (.str []), (.int .i64 0), .nils] [(0, 1, (.c (.str [68]))), (1, 3, (.t 22))]), zi 24 (.call (.c (.fn 17 [] [])) [((.t 21), (.sl 4)), ((.t 23), (.agg [.id, .id, .id, (.sl 3)]))]), zm 19 24, zv 25 (.ext (.t 19) 0), zv 26 (.ext (.t 19) 1), zv 27 (.ext (.t 19) 2), zm 4 25, zm 5 26, zm 6 27]
def qbii : IC := zr [zv 29 (.ld true 4 (.t 1)), zv 30 (.bld [(.str []), (.str []), (.int .i64 0), .nils] [(0, 1, (.c (.str [67]))), (1, 1, (.c (.str [84])))]), zv 31 (.ld true 4 (.t 1)), zv 32 (.bsl 4 [((.t 29), (.agg [.id, .id, .id, (.sl 4)])), ((.t 30), (.agg [.id, .id, .id, (.sl 4)])), ((.t 31), (.agg [.id, .id, .id, (.sl 4)]))]), zi 33 (.call (.c (.fn 8 [] [])) [((.t 32), (.sl 4))]), zm 28 33, zv 34 (.ext (.t 28) 0), zv 35 (.ext (.t 28) 1), zv 36 (.ext (.t 28) 2), zm 7 34, zm 8 35, zm 9 36]
def qbnw : IC := zr [zv 38 (.ld true 4 (.t 1)), zv 39 (.bsl 4 [((.t 38), (.agg [.id, .id, .id, (.sl 4)]))]), zi 40 (.call (.c (.fn 10 [] [])) [((.t 39), (.sl 4)), ((.c (.str [68])), .id), ((.c (.str [84])), .id)]), zm 37 40, zv 41 (.ext (.t 37) 0), zv 42 (.ext (.t 37) 1), zm 10 41, zm 11 42]
def qbi6 : IC := zr [zm 43 4, zv 44 (.bin .eql .no (.t 43) (zc 0)), zm 45 44, zw 45 true 46 (.mov (.t 5)), zw 45 true 47 (.len false (.t 46)), zw 45 true 48 (.bin .eql .no (.t 47) (zc 1)), zv 49 (.pick (.t 45) (.t 48) (.c (.bool false))), zm 50 49, zw 50 true 51 (.mov (.t 5)), zw 50 true 52 (.iad 4 (.t 51) (zc 0)), zw 50 true 53 (.fad (.t 52) 0), zw 50 true 54 (.ld false 1 (.t 53)), zw 50 true 55 (.bin .eql .no (.t 54) (.c (.str [67]))), zv 56 (.pick (.t 50) (.t 55) (.c (.bool false))), zm 57 56, zw 57 true 58 (.mov (.t 5)), zw 57 true 59 (.iad 4 (.t 58) (zc 0)), zw 57 true 60 (.fad (.t 59) 1), zw 57 true 61 (.fad (.t 60) 0), zw 57 true 62 (.ld false 1 (.t 61)), zw 57 true 63 (.bin .eql .no (.t 62) (.c (.str [73, 110, 116]))), zv 64 (.pick (.t 57) (.t 63) (.c (.bool false))), zm 65 64, zw 65 true 66 (.mov (.t 6)), zv 67 (.pick (.t 65) (.t 66) (.c (.bool false))), zm 68 67, zw 68 true 69 (.mov (.t 7)), zw 68 true 70 (.bin .eql .no (.t 69) (zc 0)), zv 71 (.pick (.t 68) (.t 70) (.c (.bool false))), zm 72 71, zw 72 true 73 (.mov (.t 8)), zw 72 true 74 (.bin .eql .no (.t 73) (zc 2)), zv 75 (.pick (.t 72) (.t 74) (.c (.bool false))), zm 76 75, zw 76 true 77 (.mov (.t 9)), zv 78 (.pick (.t 76) (.t 77) (.c (.bool false))), zm 79 78, zw 79 true 80 (.mov (.t 10)), zw 79 true 81 (.bin .eql .no (.t 80) (zc 0)), zv 82 (.pick (.t 79) (.t 81) (.c (.bool false))), zm 83 82, zw 83 true 84 (.mov (.t 11)), zv 85 (.pick (.t 83) (.t 84) (.c (.bool false))), zm 86 85, zw 86 true 87 (.ld true 4 (.t 1)), ⟨some (86, true), some 88, .call (.c (.fn 12 [] [])) [((.t 87), (.agg [.id, .id, .id, (.sl 4)]))]⟩, zw 86 true 89 (.bin .eql .no (.t 88) (zc 0)), zv 90 (.pick (.t 86) (.t 89) (.c (.bool false))), zm 91 90, zw 91 true 92 (.bld [(.str []), (.str []), (.int .i64 0), .nils] []), ⟨some (91, true), some 93, .call (.c (.fn 12 [] [])) [((.t 92), (.agg [.id, .id, .id, (.sl 4)]))]⟩, zw 91 true 94 (.bin .eql .no (.t 93) (zc 10)), zv 95 (.pick (.t 91) (.t 94) (.c (.bool false))), zm 96 95, zw 96 true 97 (.ld true 4 (.t 1)), ⟨some (96, true), some 98, .call (.c (.fn 14 [] [])) [((.t 97), (.agg [.id, .id, .id, (.sl 4)]))]⟩, zw 96 true 99 (.bin .eql .no (.t 98) (.c (.str [105, 110, 115, 116, 97, 110, 99, 101, 32, 67, 32, 97, 32, 61, 62, 32, 68, 32, 40, 84, 32, 97, 41]))), zv 100 (.pick (.t 96) (.t 99) (.c (.bool false))), zm 0 100]
def k0c : IC := (.seq qbo8 (.seq qbl3 (.seq qblw (.seq qbi4 (.seq qbii (.seq qbnw (.seq qbi6 .ret)))))))
@[go_sem] def s0c : List (RV × Co) := [(.t 0, .id)]
theorem c0c : cFun Tryz.prog 7 = some (101, k0c, s0c) := by kernel_rfl

def qbhm : IC := zr [zv 2 (.mov (zc 0)), zv 3 (.mov (zc 0)), zv 4 zf]
def qbm0 : IC := zr [zv 5 (.mov (zc 0)), zv 6 (.mov (zc 0)), zv 7 zf]
def qbm8 : IC := zr [zm 12 0, zv 13 (.len false (.t 12)), zv 14 (.mov (zc 0))]
def qbof : IC := zr [zv 15 (.bin .lss .no (.t 14) (.t 13))]
def qboc : IC := zr [zm 16 14, zv 17 (.iad 4 (.t 12) (.t 14)), zv 18 (.ld true 4 (.t 17)), zi 9 (.alo [(.str []), (.str []), (.int .i64 0), .nils]), zm 8 16, zn (.st 4 (.agg [.id, .id, .id, (.sl 4)]) (.t 9) (.t 18))]
def qbl0 : IC := zr [zm 19 0, zm 20 8, zv 21 (.slv 4 (.t 19) none (some (.t 20)) none), zv 22 (.len false (.t 21)), zv 23 (.mov (zc 0))]
def qbk9 : IC := zr [zv 24 (.bin .lss .no (.t 23) (.t 22))]
def qbo7 : IC := zr [zm 25 23, zv 26 (.iad 4 (.t 21) (.t 23)), zv 27 (.ld true 4 (.t 26)), zi 11 (.alo [(.str []), (.str []), (.int .i64 0), .nils]), zm 10 25, zn (.st 4 (.agg [.id, .id, .id, (.sl 4)]) (.t 11) (.t 27))]
def qbcc : IC := zr [zv 28 (.fad (.t 9) 0), zv 29 (.ld false 1 (.t 28)), zv 30 (.fad (.t 11) 0), zv 31 (.ld false 1 (.t 30)), zv 32 (.bin .eql .no (.t 29) (.t 31)), zm 33 32, zw 33 true 34 (.fad (.t 9) 1), zw 33 true 35 (.ld false 1 (.t 34)), zw 33 true 36 (.fad (.t 11) 1), zw 33 true 37 (.ld false 1 (.t 36)), zw 33 true 38 (.bin .eql .no (.t 35) (.t 37)), zv 39 (.pick (.t 33) (.t 38) (.c (.bool false)))]
def qbdl : IC := zr [zm 40 10, zm 41 8, zm 5 40, zm 6 41, zv 7 (.mov (.c (.bool true)))]
def qbfc : IC := zr [zv 42 (.bin .add .no (.t 23) (zc 1)), zm 23 42]
def qbph : IC := (.seq qbk9 (.seq (.cond (.t 24) .skip (.exit 2)) (.seq (.block 3 (.seq qbo7 (.seq qbcc (.cond (.t 39) (.seq qbdl (.exit 0)) .skip)))) qbfc)))
def qbcm : IC := zr [zv 43 (.bin .add .no (.t 14) (zc 1)), zm 14 43]
def qbnp : IC := (.seq qbof (.seq (.cond (.t 15) .skip (.exit 0)) (.seq (.block 1 (.seq qboc (.seq qbl0 (.block 2 (.loop qbph))))) qbcm)))
def q8c : IC := zr [zm 44 5, zm 45 6, zm 46 7, zm 2 44, zm 3 45, zm 4 46]
def k0e : IC := (.seq qbhm (.scope (.seq qbm0 (.seq (.label 0) (.seq (.seq qbm8 (.block 0 (.loop qbnp))) (.seq q8c .ret))))))
@[go_sem] def s0e : List (RV × Co) := [(.t 2, .id), (.t 3, .id), (.t 4, .id)]
theorem c0e : cFun Tryz.prog 8 = some (47, k0e, s0e) := by kernel_rfl

def qbm9 : IC := zr [zv 6 (.mov (zc 0)), zv 7 zf]
def qbh3 : IC := zr [zm 10 0, zv 11 (.len false (.t 10)), zv 12 (.mov (zc 0))]
def qbj5 : IC := zr [zv 13 (.bin .lss .no (.t 12) (.t 11))]
def qbli : IC := zr [zm 14 12, zv 15 (.iad 4 (.t 10) (.t 12)), zv 16 (.ld true 4 (.t 15)), zi 9 (.alo [(.str []), (.str []), (.int .i64 0), .nils]), zm 8 14, zn (.st 4 (.agg [.id, .id, .id, (.sl 4)]) (.t 9) (.t 16))]
def qbht : IC := zr [zv 17 (.fad (.t 9) 0), zv 18 (.ld false 1 (.t 17)), zm 19 1, zv 20 (.bin .eql .no (.t 18) (.t 19)), zm 21 20, zw 21 true 22 (.fad (.t 9) 1), zw 21 true 23 (.ld false 1 (.t 22)), zw 21 true 24 (.mov (.t 2)), zw 21 true 25 (.bin .eql .no (.t 23) (.t 24)), zv 26 (.pick (.t 21) (.t 25) (.c (.bool false)))]
def qbnb : IC := zr [zm 27 8, zm 6 27, zv 7 (.mov (.c (.bool true)))]
def qbmw : IC := zr [zv 28 (.bin .add .no (.t 12) (zc 1)), zm 12 28]
def qbmp : IC := (.seq qbj5 (.seq (.cond (.t 13) .skip (.exit 0)) (.seq (.block 1 (.seq qbli (.seq qbht (.cond (.t 26) (.seq qbnb .ret) .skip)))) qbmw)))
def qbpa : IC := zr [zv 6 (.mov (zc 0)), zv 7 zf]
def k0h : IC := (.seq qbm9 (.seq (.seq qbh3 (.block 0 (.loop qbmp))) (.seq qbpa .ret)))
@[go_sem] def s0h : List (RV × Co) := [(.t 6, .id), (.t 7, .id)]
theorem c0h : cFun Tryz.prog 10 = some (29, k0h, s0h) := by kernel_rfl

def q61 : IC := zr [zv 6 (.mov (zc 0)), zv 7 zf]
def q4q : IC := zr [zv 8 (.mov (zc 0))]
def q5z : IC := zr [zm 9 8, zm 10 0, zv 11 (.len false (.t 10)), zv 12 (.bin .lss .no (.t 9) (.t 11))]
def qbgl : IC := zr [zm 15 0, zm 16 8, zv 17 (.iad 4 (.t 15) (.t 16)), zv 18 (.fad (.t 17) 0), zv 19 (.ld false 1 (.t 18)), zm 20 1, zv 21 (.bin .eql .no (.t 19) (.t 20)), zm 22 21, zw 22 true 23 (.mov (.t 0)), zw 22 true 24 (.mov (.t 8)), zw 22 true 25 (.iad 4 (.t 23) (.t 24)), zw 22 true 26 (.fad (.t 25) 1), zw 22 true 27 (.ld false 1 (.t 26)), zw 22 true 28 (.mov (.t 2)), zw 22 true 29 (.bin .eql .no (.t 27) (.t 28)), zv 30 (.pick (.t 22) (.t 29) (.c (.bool false)))]
def qbaw : IC := zr [zm 31 8, zm 6 31, zv 7 (.mov (.c (.bool true)))]
def qbb0 : IC := zr [zm 13 8, zv 14 (.bin .add .no (.t 13) (zc 1)), zm 8 14]
def qbd2 : IC := (.seq (.seq q5z (.cond (.t 12) .skip (.exit 0))) (.seq (.block 1 (.seq qbgl (.cond (.t 30) (.seq qbaw .ret) .skip))) qbb0))
def q3r : IC := zr [zv 6 (.mov (zc 0)), zv 7 zf]
def k0dd : IC := (.seq q61 (.seq (.seq q4q (.block 0 (.loop qbd2))) (.seq q3r .ret)))
@[go_sem] def s0dd : List (RV × Co) := [(.t 6, .id), (.t 7, .id)]
theorem c0dd : cFun Tryz.prog 11 = some (32, k0dd, s0dd) := by kernel_rfl

def qbpg : IC := zr [zi 1 (.box (.t 0)), zv 2 (.mov (zc 0))]
def qbky : IC := zr [zv 6 (.fad (.t 1) 0), zv 7 (.ld false 1 (.t 6)), zi 8 (.call (.c (.fn 25 [] [])) [((.t 7), .id)]), zm 9 8, zw 9 true 10 (.fad (.t 1) 1), zw 9 true 11 (.ld false 1 (.t 10)), ⟨some (9, true), some 12, .call (.c (.fn 25 [] [])) [((.t 11), .id)]⟩, zw 9 true 13 (.mov (.t 12)), zw 13 false 14 (.fad (.t 1) 1), zw 13 false 15 (.ld false 1 (.t 14)), zw 13 false 16 (.bin .eql .no (.t 15) (.c (.str [45, 62]))), zw 13 false 17 (.mov (.t 16)), zw 17 true 18 (.fad (.t 1) 2), zw 17 true 19 (.ld false 1 (.t 18)), zw 17 true 20 (.bin .eql .no (.t 19) (zc 2)), zw 13 false 21 (.pick (.t 17) (.t 20) (.c (.bool false))), zw 9 true 22 (.pick (.t 13) (.c (.bool true)) (.t 21)), zv 23 (.pick (.t 9) (.t 22) (.c (.bool false))), zm 24 23, zw 24 true 25 (.fad (.t 1) 2), zw 24 true 26 (.ld false 1 (.t 25)), zw 24 true 27 (.bin .geq .no (.t 26) (zc 0)), zv 28 (.pick (.t 24) (.t 27) (.c (.bool false))), zm 29 28, zw 29 true 30 (.fad (.t 1) 2), zw 29 true 31 (.ld false 1 (.t 30)), zw 29 true 32 (.bin .leq .no (.t 31) (zc 100)), zv 33 (.pick (.t 29) (.t 32) (.c (.bool false))), zm 3 33]
def qbnx : IC := zr [zv 34 (.fad (.t 1) 3), zv 35 (.ld false 1 (.t 34)), zv 36 (.len false (.t 35)), zv 37 (.mov (zc 0))]
def qbl8 : IC := zr [zv 38 (.bin .lss .no (.t 37) (.t 36))]
def qbns : IC := zr [zv 39 (.iad 4 (.t 35) (.t 37)), zv 40 (.ld true 4 (.t 39)), zi 5 (.alo [(.str []), (.str []), (.int .i64 0), .nils]), zn (.st 4 (.agg [.id, .id, .id, (.sl 3)]) (.t 5) (.t 40))]
def qbji : IC := zr [zm 41 3, zm 42 41, zw 42 true 43 (.ld true 4 (.t 5)), zw 42 true 44 (.fad (.t 1) 2), zw 42 true 45 (.ld false 1 (.t 44)), ⟨some (42, true), some 46, .call (.c (.fn 26 [] [])) [((.t 43), (.agg [.id, .id, .id, (.sl 3)])), ((.t 45), .id)]⟩, zv 47 (.pick (.t 42) (.t 46) (.c (.bool false))), zm 3 47]
def qbku : IC := zr [zv 48 (.bin .add .no (.t 37) (zc 1)), zm 37 48]
def qbkl : IC := (.seq qbl8 (.seq (.cond (.t 38) .skip (.exit 0)) (.seq (.block 1 (.seq qbns qbji)) qbku)))
def qbnn : IC := zr [zm 49 3, zv 50 (.un .not (.t 49))]
def qbar : IC := zr [zv 2 (.mov (zc 10))]
def qbev : IC := zr [zv 2 (.mov (zc 0))]
def k0d : IC := (.seq qbpg (.seq qbky (.seq (.seq qbnx (.block 0 (.loop qbkl))) (.seq (.seq qbnn (.cond (.t 50) (.seq qbar .ret) .skip)) (.seq qbev .ret)))))
@[go_sem] def s0d : List (RV × Co) := [(.t 2, .id)]
theorem c0d : cFun Tryz.prog 12 = some (51, k0d, s0d) := by kernel_rfl

def qbba : IC := zr [zi 1 (.box (.t 0)), zv 2 (.mov (zc 0))]
def qbfe : IC := zr [zv 5 (.fad (.t 1) 0), zv 6 (.ld false 1 (.t 5)), zi 7 (.call (.c (.fn 27 [] [])) [((.t 6), .id)]), zv 8 (.un .not (.t 7)), zm 9 8, zw 9 false 10 (.fad (.t 1) 1), zw 9 false 11 (.ld false 1 (.t 10)), ⟨some (9, false), some 12, .call (.c (.fn 27 [] [])) [((.t 11), .id)]⟩, zw 9 false 13 (.mov (.t 12)), zw 13 false 14 (.fad (.t 1) 1), zw 13 false 15 (.ld false 1 (.t 14)), zw 13 false 16 (.bin .eql .no (.t 15) (.c (.str [45, 62]))), zw 13 false 17 (.mov (.t 16)), zw 17 true 18 (.fad (.t 1) 2), zw 17 true 19 (.ld false 1 (.t 18)), zw 17 true 20 (.bin .eql .no (.t 19) (zc 2)), zw 13 false 21 (.pick (.t 17) (.t 20) (.c (.bool false))), zw 9 false 22 (.pick (.t 13) (.c (.bool true)) (.t 21)), zw 9 false 23 (.un .not (.t 22)), zv 24 (.pick (.t 9) (.c (.bool true)) (.t 23)), zm 25 24, zw 25 false 26 (.fad (.t 1) 2), zw 25 false 27 (.ld false 1 (.t 26)), zw 25 false 28 (.bin .lss .no (.t 27) (zc 0)), zv 29 (.pick (.t 25) (.c (.bool true)) (.t 28)), zm 30 29, zw 30 false 31 (.fad (.t 1) 2), zw 30 false 32 (.ld false 1 (.t 31)), zw 30 false 33 (.bin .gtr .no (.t 32) (zc 100)), zv 34 (.pick (.t 30) (.c (.bool true)) (.t 33))]
def qbgw : IC := zr [zv 2 (.mov (zc 10))]
def q7i : IC := zr [zv 3 (.mov (zc 0))]
def qbcs : IC := zr [zm 35 3, zv 36 (.fad (.t 1) 3), zv 37 (.ld false 1 (.t 36)), zv 38 (.len false (.t 37)), zv 39 (.bin .lss .no (.t 35) (.t 38))]
def qbbb : IC := zr [zv 42 (.fad (.t 1) 3), zv 43 (.ld false 1 (.t 42)), zm 44 3, zv 45 (.iad 4 (.t 43) (.t 44)), zv 46 (.fad (.t 45) 1), zv 47 (.ld true 3 (.t 46)), zi 4 (.alo [(.str []), (.int .i64 0), .nils]), zn (.st 3 (.agg [.id, .id, (.sl 3)]) (.t 4) (.t 47))]
def q4x : IC := zr [zv 48 (.fad (.t 1) 3), zv 49 (.ld false 1 (.t 48)), zm 50 3, zv 51 (.iad 4 (.t 49) (.t 50)), zv 52 (.fad (.t 51) 0), zv 53 (.ld false 1 (.t 52)), zi 54 (.call (.c (.fn 27 [] [])) [((.t 53), .id)]), zv 55 (.un .not (.t 54)), zm 56 55, zw 56 false 57 (.fad (.t 4) 0), zw 56 false 58 (.ld false 1 (.t 57)), zw 56 false 59 (.bin .neq .no (.t 58) (.c (.str []))), zv 60 (.pick (.t 56) (.c (.bool true)) (.t 59)), zm 61 60, zw 61 false 62 (.fad (.t 4) 2), zw 61 false 63 (.ld false 1 (.t 62)), zw 61 false 64 (.len false (.t 63)), zw 61 false 65 (.bin .gtr .no (.t 64) (zc 0)), zv 66 (.pick (.t 61) (.c (.bool true)) (.t 65)), zm 67 66, zw 67 false 68 (.fad (.t 4) 1), zw 67 false 69 (.ld false 1 (.t 68)), zw 67 false 70 (.bin .lss .no (.t 69) (zc 0)), zv 71 (.pick (.t 67) (.c (.bool true)) (.t 70)), zm 72 71, zw 72 false 73 (.fad (.t 4) 1), zw 72 false 74 (.ld false 1 (.t 73)), zw 72 false 75 (.fad (.t 1) 2), zw 72 false 76 (.ld false 1 (.t 75)), zw 72 false 77 (.bin .geq .no (.t 74) (.t 76)), zv 78 (.pick (.t 72) (.c (.bool true)) (.t 77))]
def q5t : IC := zr [zv 2 (.mov (zc 10))]
def q6j : IC := zr [zm 40 3, zv 41 (.bin .add .no (.t 40) (zc 1)), zm 3 41]
def q98 : IC := (.seq (.seq qbcs (.cond (.t 39) .skip (.exit 0))) (.seq (.block 1 (.seq qbbb (.seq q4x (.cond (.t 78) (.seq q5t .ret) .skip)))) q6j))
def q2q : IC := zr [zv 2 (.mov (zc 0))]
def k0dc : IC := (.seq qbba (.seq (.seq qbfe (.cond (.t 34) (.seq qbgw .ret) .skip)) (.seq (.seq q7i (.block 0 (.loop q98))) (.seq q2q .ret))))
@[go_sem] def s0dc : List (RV × Co) := [(.t 2, .id)]
theorem c0dc : cFun Tryz.prog 13 = some (79, k0dc, s0dc) := by kernel_rfl

def qbi0 : IC := zr [zi 1 (.box (.t 0)), zv 2 (.mov (.c (.str [])))]
def qbim : IC := zr [zv 6 (.ld true 4 (.t 1)), zi 7 (.call (.c (.fn 12 [] [])) [((.t 6), (.agg [.id, .id, .id, (.sl 4)]))]), zv 8 (.bin .neq .no (.t 7) (zc 0))]
def qbhw : IC := zr [zv 2 (.mov (.c (.str [])))]
def qbog : IC := zr [zv 9 (.fad (.t 1) 1), zv 10 (.ld false 1 (.t 9)), zv 11 (.bld [(.str []), (.int .i64 0), .nils] [(0, 1, (.t 10))]), zi 3 (.alo [(.str []), (.int .i64 0), .nils]), zn (.st 3 (.agg [.id, .id, (.sl 3)]) (.t 3) (.t 11))]
def qbm6 : IC := zr [zv 12 (.fad (.t 1) 2), zv 13 (.ld false 1 (.t 12)), zv 14 (.mov (zc 0))]
def qbl9 : IC := zr [zv 15 (.bin .lss .no (.t 14) (.t 13))]
def qbl2 : IC := zr [zm 16 14, zm 4 16]
def qbkq : IC := zr [zv 17 (.fad (.t 3) 2), zv 18 (.ld false 1 (.t 17)), zm 19 4, zv 20 (.bld [(.str []), (.int .i64 0), .nils] [(1, 1, (.t 19))]), zv 21 (.bsl 3 [((.t 20), (.agg [.id, .id, (.sl 3)]))]), zi 22 (.app 3 (.agg [(.str []), (.int .i64 0), .nils]) 48 (.sl 3) (.t 18) (.t 21)), zv 23 (.fad (.t 3) 2), zn (.st 1 (.sl 3) (.t 23) (.t 22))]
def qblh : IC := zr [zv 24 (.bin .add .no (.t 14) (zc 1)), zm 14 24]
def qbn6 : IC := (.seq qbl9 (.seq (.cond (.t 15) .skip (.exit 0)) (.seq (.block 1 (.seq qbl2 qbkq)) qblh)))
def q90 : IC := zr [zv 25 (.ld true 3 (.t 3)), zi 26 (.call (.c (.fn 28 [] [])) [((.t 25), (.agg [.id, .id, (.sl 3)]))]), zm 5 26]
def qbd6 : IC := zr [zv 27 (.fad (.t 1) 2), zv 28 (.ld false 1 (.t 27)), zv 29 (.bin .gtr .no (.t 28) (zc 0))]
def q73 : IC := zr [zm 30 5, zv 31 (.bin .add .no (.c (.str [40])) (.t 30)), zv 32 (.bin .add .no (.t 31) (.c (.str [41]))), zm 5 32]
def qbb2 : IC := zr [zv 33 (.fad (.t 1) 0), zv 34 (.ld false 1 (.t 33)), zv 35 (.bin .add .no (.t 34) (.c (.str [32]))), zm 36 5, zv 37 (.bin .add .no (.t 35) (.t 36)), zm 5 37]
def q7b : IC := zr [zv 38 (.fad (.t 1) 3), zv 39 (.ld false 1 (.t 38)), zv 40 (.len false (.t 39)), zv 41 (.bin .gtr .no (.t 40) (zc 0))]
def q8x : IC := zr [zv 42 (.fad (.t 1) 3), zv 43 (.ld false 1 (.t 42)), zi 44 (.call (.c (.fn 29 [] [])) [((.t 43), (.sl 4))]), zv 45 (.bin .add .no (.t 44) (.c (.str [32, 61, 62, 32]))), zm 46 5, zv 47 (.bin .add .no (.t 45) (.t 46)), zm 5 47]
def q5d : IC := zr [zm 48 5, zv 49 (.bin .add .no (.c (.str [105, 110, 115, 116, 97, 110, 99, 101, 32])) (.t 48)), zm 2 49]
def k0f : IC := (.seq qbi0 (.seq (.seq qbim (.cond (.t 8) (.seq qbhw .ret) .skip)) (.seq qbog (.seq (.seq qbm6 (.block 0 (.loop qbn6))) (.seq q90 (.seq (.seq qbd6 (.cond (.t 29) q73 .skip)) (.seq qbb2 (.seq (.seq q7b (.cond (.t 41) q8x .skip)) (.seq q5d .ret)))))))))
@[go_sem] def s0f : List (RV × Co) := [(.t 2, .id)]
theorem c0f : cFun Tryz.prog 14 = some (50, k0f, s0f) := by kernel_rfl

def qbd0 : IC := zr [zv 2 (.mov (zc 0))]
def q3x : IC := zr [zm 5 0, zv 6 (.len false (.t 5)), zv 7 (.bin .gtr .no (.t 6) (zc 30))]
def q3w : IC := zr [zv 2 (.mov (zc 0))]
def q46 : IC := zr [zv 3 (.mov (.c .nils))]
def q37 : IC := zr [zv 4 (.mov (zc 0))]
def qbdp : IC := zr [zm 8 4, zm 9 0, zv 10 (.len false (.t 9)), zv 11 (.bin .lss .no (.t 8) (.t 10))]
def q8g : IC := zr [zm 14 3, zm 15 0, zm 16 4, zv 17 (.iad 4 (.t 15) (.t 16)), zv 18 (.fad (.t 17) 1), zv 19 (.ld true 3 (.t 18)), zv 20 (.bsl 3 [((.t 19), (.agg [.id, .id, (.sl 3)]))]), zi 21 (.app 3 (.agg [(.str []), (.int .i64 0), .nils]) 48 (.sl 3) (.t 14) (.t 20)), zm 3 21]
def qbbs : IC := zr [zm 12 4, zv 13 (.bin .add .no (.t 12) (zc 1)), zm 4 13]
def qbbt : IC := (.seq (.seq qbdp (.cond (.t 11) .skip (.exit 0))) (.seq (.block 1 q8g) qbbs))
def qy2 : IC := zr [zm 22 3, zi 23 (.call (.c (.fn 32 [] [])) [((.t 22), (.sl 3))]), zm 2 23]
def k0cn : IC := (.seq qbd0 (.seq (.seq q3x (.cond (.t 7) (.seq q3w .ret) .skip)) (.seq q46 (.seq (.seq q37 (.block 0 (.loop qbbt))) (.seq qy2 .ret)))))
@[go_sem] def s0cn : List (RV × Co) := [(.t 2, .id)]
theorem c0cn : cFun Tryz.prog 16 = some (24, k0cn, s0cn) := by kernel_rfl

def qbmb : IC := zr [zi 3 (.box (.t 1)), zv 4 (.mov (zc 0)), zv 5 (.mov (.c .nils)), zv 6 zf]
def qbkv : IC := zr [zm 15 0, zv 16 (.fad (.t 3) 0), zv 17 (.ld false 1 (.t 16)), zv 18 (.fad (.t 3) 1), zv 19 (.fad (.t 18) 0), zv 20 (.ld false 1 (.t 19)), zi 21 (.call (.c (.fn 10 [] [])) [((.t 15), (.sl 4)), ((.t 17), .id), ((.t 20), .id)]), zm 14 21, zv 22 (.ext (.t 14) 0), zv 23 (.ext (.t 14) 1), zm 7 22, zm 8 23]
def qbkp : IC := .drw [zp (zm 24 8), zp (zv 25 (.un .not (.t 24))), zp (zm 26 25), zp (zw 26 false 27 (.fad (.t 3) 1)), zp (zw 26 false 28 (.fad (.t 27) 0)), zp (zw 26 false 29 (.ld false 1 (.t 28))), (zw 26 false 30 (.bin .eql .no (.t 29) (.c (.str []))), []), zp (zv 31 (.pick (.t 26) (.c (.bool true)) (.t 30))), zp (zm 32 31), zp (zw 32 false 33 (.mov (.t 0))), zp (zw 32 false 34 (.mov (.t 7))), zp (zw 32 false 35 (.iad 4 (.t 33) (.t 34))), zp (zw 32 false 36 (.fad (.t 35) 2)), zp (zw 32 false 37 (.ld false 1 (.t 36))), zp (zw 32 false 38 (.fad (.t 3) 1)), zp (zw 32 false 39 (.fad (.t 38) 2)), zp (zw 32 false 40 (.ld false 1 (.t 39))), zp (zw 32 false 41 (.len false (.t 40))), zp (zw 32 false 42 (.bin .neq .no (.t 37) (.t 41))), zp (zv 43 (.pick (.t 32) (.c (.bool true)) (.t 42)))]
def qbid : IC := zr [zv 4 (.mov (zc 0)), zv 5 (.mov (.c .nils)), zv 6 zf]
def qbhk : IC := zr [zi 44 (.call (.c (.fn 33 [] [])) [((.c .nils), (.sl 4))]), zm 9 44]
def qbm2 : IC := zr [zv 45 (.fad (.t 3) 1), zv 46 (.fad (.t 45) 2), zv 47 (.ld false 1 (.t 46)), zv 48 (.len false (.t 47)), zv 49 (.mov (zc 0))]
def qbn1 : IC := zr [zv 50 (.bin .lss .no (.t 49) (.t 48))]
def qbod : IC := zr [zm 51 49, zv 52 (.iad 3 (.t 47) (.t 49)), zv 53 (.ld true 3 (.t 52)), zi 11 (.alo [(.str []), (.int .i64 0), .nils]), zm 10 51, zn (.st 3 (.agg [.id, .id, (.sl 3)]) (.t 11) (.t 53))]
def qboy : IC := zr [zm 54 9, zm 55 10, zv 56 (.ld true 3 (.t 11)), zi 57 (.call (.c (.fn 34 [] [])) [((.t 54), .id), ((.t 55), .id), ((.t 56), (.agg [.id, .id, (.sl 3)]))])]
def q5l : IC := zr [zv 58 (.bin .add .no (.t 49) (zc 1)), zm 49 58]
def qbi8 : IC := (.seq qbn1 (.seq (.cond (.t 50) .skip (.exit 0)) (.seq (.block 1 (.seq qbod qboy)) q5l)))
def qba4 : IC := zr [zm 60 9, zm 61 0, zm 62 7, zv 63 (.iad 4 (.t 61) (.t 62)), zv 64 (.fad (.t 63) 3), zv 65 (.ld false 1 (.t 64)), zi 66 (.call (.c (.fn 35 [] [])) [((.t 60), .id), ((.t 65), (.sl 4))]), zm 59 66, zv 67 (.ext (.t 59) 0), zv 68 (.ext (.t 59) 1), zm 12 67, zm 13 68]
def q7v : IC := zr [zm 69 7, zm 70 12, zm 4 69, zm 5 70, zv 6 (.mov (.c (.bool true)))]
def k0i : IC := (.seq qbmb (.seq qbkv (.seq (.seq qbkp (.cond (.t 43) (.seq qbid .ret) .skip)) (.seq qbhk (.seq (.seq qbm2 (.block 0 (.loop qbi8))) (.seq qba4 (.seq q7v .ret)))))))
@[go_sem] def s0i : List (RV × Co) := [(.t 4, .id), (.t 5, (.sl 4)), (.t 6, .id)]
theorem c0i : cFun Tryz.prog 17 = some (71, k0i, s0i) := by kernel_rfl

def qbbn : IC := zr [zi 3 (.box (.t 1)), zv 4 (.mov (zc 0)), zv 5 (.mov (.c .nils)), zv 6 zf]
def q6r : IC := zr [zv 9 (.fad (.t 3) 1), zv 10 (.fad (.t 9) 0), zv 11 (.ld false 1 (.t 10)), zv 12 (.bin .eql .no (.t 11) (.c (.str [])))]
def qbe3 : IC := zr [zv 4 (.mov (zc 0)), zv 5 (.mov (.c .nils)), zv 6 zf]
def q3m : IC := zr [zm 14 0, zv 15 (.fad (.t 3) 0), zv 16 (.ld false 1 (.t 15)), zv 17 (.fad (.t 3) 1), zv 18 (.fad (.t 17) 0), zv 19 (.ld false 1 (.t 18)), zi 20 (.call (.c (.fn 11 [] [])) [((.t 14), (.sl 4)), ((.t 16), .id), ((.t 19), .id)]), zm 13 20, zv 21 (.ext (.t 13) 0), zv 22 (.ext (.t 13) 1), zm 7 21, zm 8 22]
def qbdc : IC := .drw [zp (zm 23 8), zp (zv 24 (.un .not (.t 23))), zp (zm 25 24), zp (zw 25 false 26 (.mov (.t 0))), zp (zw 25 false 27 (.mov (.t 7))), zp (zw 25 false 28 (.iad 4 (.t 26) (.t 27))), zp (zw 25 false 29 (.fad (.t 28) 2)), zp (zw 25 false 30 (.ld false 1 (.t 29))), zp (zw 25 false 31 (.fad (.t 3) 1)), zp (zw 25 false 32 (.fad (.t 31) 2)), zp (zw 25 false 33 (.ld false 1 (.t 32))), zp (zw 25 false 34 (.len false (.t 33))), zp (zw 25 false 35 (.bin .neq .no (.t 30) (.t 34))), zp (zv 36 (.pick (.t 25) (.c (.bool true)) (.t 35)))]
def qba8 : IC := zr [zv 4 (.mov (zc 0)), zv 5 (.mov (.c .nils)), zv 6 zf]
def q3l : IC := .drw [zp (zm 37 7), zp (zm 38 0), zp (zm 39 7), zp (zv 40 (.iad 4 (.t 38) (.t 39))), zp (zv 41 (.ld true 4 (.t 40))), zp (zv 42 (.fad (.t 3) 1)), zp (zv 43 (.fad (.t 42) 2)), zp (zv 44 (.ld false 1 (.t 43))), (zi 45 (.call (.c (.fn 36 [] [])) [((.t 41), (.agg [.id, .id, .id, (.sl 4)])), ((.t 44), (.sl 3))]), []), zp (zm 4 37), zp (zm 5 45), zp (zv 6 (.mov (.c (.bool true))))]
def k0df : IC := (.seq qbbn (.seq (.seq q6r (.cond (.t 12) (.seq qbe3 .ret) .skip)) (.seq q3m (.seq (.seq qbdc (.cond (.t 36) (.seq qba8 .ret) .skip)) (.seq q3l .ret)))))
@[go_sem] def s0df : List (RV × Co) := [(.t 4, .id), (.t 5, (.sl 4)), (.t 6, .id)]
theorem c0df : cFun Tryz.prog 18 = some (46, k0df, s0df) := by kernel_rfl

def q4a : IC := zr [zv 4 zf]
def q3s : IC := zr [zm 6 0, zv 7 (.len false (.t 6)), zm 8 1, zv 9 (.len false (.t 8)), zv 10 (.bin .neq .no (.t 7) (.t 9))]
def q95 : IC := zr [zv 4 zf]
def q6t : IC := zr [zv 5 (.mov (zc 0))]
def q5f : IC := zr [zm 11 5, zm 12 0, zv 13 (.len false (.t 12)), zv 14 (.bin .lss .no (.t 11) (.t 13))]
def q4h : IC := .drw [zp (zm 17 0), zp (zm 18 5), zp (zv 19 (.iad 4 (.t 17) (.t 18))), zp (zv 20 (.ld true 4 (.t 19))), zp (zm 21 1), zp (zm 22 5), zp (zv 23 (.iad 4 (.t 21) (.t 22))), zp (zv 24 (.ld true 4 (.t 23))), (zi 25 (.call (.c (.fn 37 [] [])) [((.t 20), (.agg [.id, .id, .id, (.sl 3)])), ((.t 24), (.agg [.id, .id, .id, (.sl 3)]))]), []), zp (zv 26 (.un .not (.t 25)))]
def q84 : IC := zr [zv 4 zf]
def q76 : IC := zr [zm 15 5, zv 16 (.bin .add .no (.t 15) (zc 1)), zm 5 16]
def qbdj : IC := (.seq (.seq q5f (.cond (.t 14) .skip (.exit 0))) (.seq (.block 1 (.seq q4h (.cond (.t 26) (.seq q84 .ret) .skip))) q76))
def qyz : IC := zr [zv 4 (.mov (.c (.bool true)))]
def k0cl : IC := (.seq q4a (.seq (.seq q3s (.cond (.t 10) (.seq q95 .ret) .skip)) (.seq (.seq q6t (.block 0 (.loop qbdj))) (.seq qyz .ret))))
@[go_sem] def s0cl : List (RV × Co) := [(.t 4, .id)]
theorem c0cl : cFun Tryz.prog 19 = some (27, k0cl, s0cl) := by kernel_rfl

def qbbp : IC := zr [zi 1 (.box (.t 0)), zv 2 zf]
def q3u : IC := zr [zv 3 (.ld true 3 (.t 1)), zi 4 (.call (.c (.fn 23 [] [])) [((.t 3), (.agg [.id, .id, (.sl 3)]))]), zv 5 (.bin .leq .no (.t 4) (zc 4096)), zm 6 5, zw 6 true 7 (.ld true 3 (.t 1)), ⟨some (6, true), some 8, .call (.c (.fn 38 [] [])) [((.t 7), (.agg [.id, .id, (.sl 3)]))]⟩, zw 6 true 9 (.bin .leq .no (.t 8) (zc 100)), zv 10 (.pick (.t 6) (.t 9) (.c (.bool false))), zm 11 10, zw 11 true 12 (.ld true 3 (.t 1)), ⟨some (11, true), some 13, .call (.c (.fn 39 [] [])) [((.t 12), (.agg [.id, .id, (.sl 3)]))]⟩, zv 14 (.pick (.t 11) (.t 13) (.c (.bool false))), zm 2 14]
def k0bl : IC := (.seq qbbp (.seq q3u .ret))
@[go_sem] def s0bl : List (RV × Co) := [(.t 2, .id)]
theorem c0bl : cFun Tryz.prog 20 = some (15, k0bl, s0bl) := by kernel_rfl

def qbcj : IC := zr [zi 1 (.box (.t 0)), zv 2 (.mov (zc 0))]
def q47 : IC := zr [zv 3 (.mov (zc 1))]
def q75 : IC := zr [zv 4 (.mov (zc 0))]
def qbbd : IC := zr [zm 5 4, zv 6 (.fad (.t 1) 2), zv 7 (.ld false 1 (.t 6)), zv 8 (.len false (.t 7)), zv 9 (.bin .lss .no (.t 5) (.t 8))]
def q3v : IC := zr [zm 12 3, zv 13 (.fad (.t 1) 2), zv 14 (.ld false 1 (.t 13)), zm 15 4, zv 16 (.iad 3 (.t 14) (.t 15)), zv 17 (.ld true 3 (.t 16)), zi 18 (.call (.c (.fn 23 [] [])) [((.t 17), (.agg [.id, .id, (.sl 3)]))]), zv 19 (.bin .add .no (.t 12) (.t 18)), zm 3 19]
def q6p : IC := zr [zm 10 4, zv 11 (.bin .add .no (.t 10) (zc 1)), zm 4 11]
def qbca : IC := (.seq (.seq qbbd (.cond (.t 9) .skip (.exit 0))) (.seq (.block 1 q3v) q6p))
def qbg4 : IC := zr [zm 20 3, zm 2 20]
def k0bg : IC := (.seq qbcj (.seq q47 (.seq (.seq q75 (.block 0 (.loop qbca))) (.seq qbg4 .ret))))
@[go_sem] def s0bg : List (RV × Co) := [(.t 2, .id)]
theorem c0bg : cFun Tryz.prog 23 = some (21, k0bg, s0bg) := by kernel_rfl

def qba2 : IC := zr [zi 2 (.alo [(.str []), (.int .i64 0), .nils]), zv 3 (.mov (zc 0))]
def qbgd : IC := zr [zm 6 0, zv 7 (.bld [(.str []), (.int .i64 0), (.bool false)] [(0, 1, (.t 6))]), zi 8 (.box (.t 7)), zm 4 8]
def qbf7 : IC := zr [zm 9 4, zi 10 (.call (.c (.fn 42 [] [])) [((.t 9), .id)]), zi 5 (.alo [(.str []), (.int .i64 0), .nils]), zn (.st 3 (.agg [.id, .id, (.sl 3)]) (.t 5) (.t 10))]
def qbao : IC := zr [zm 11 4, zv 12 (.nck (.t 11)), zv 13 (.fad (.t 12) 2), zv 14 (.ld false 1 (.t 13)), zm 15 14, zw 15 false 16 (.mov (.t 4)), zw 15 false 17 (.nck (.t 16)), zw 15 false 18 (.fad (.t 17) 0), zw 15 false 19 (.ld false 1 (.t 18)), zw 15 false 20 (.bin .neq .no (.t 19) (.c (.str []))), zv 21 (.pick (.t 15) (.c (.bool true)) (.t 20)), zm 22 21, zw 22 false 23 (.ld true 3 (.t 5)), ⟨some (22, false), some 24, .call (.c (.fn 28 [] [])) [((.t 23), (.agg [.id, .id, (.sl 3)]))]⟩, zw 22 false 25 (.mov (.t 0)), zw 22 false 26 (.bin .neq .no (.t 24) (.t 25)), zv 27 (.pick (.t 22) (.c (.bool true)) (.t 26))]
def qbbf : IC := zr [zv 28 (.bld [(.str []), (.int .i64 0), .nils] []), zn (.st 3 (.agg [.id, .id, (.sl 3)]) (.t 2) (.t 28)), zv 3 (.mov (zc 5))]
def q9i : IC := zr [zv 29 (.ld true 3 (.t 5)), zn (.st 3 (.agg [.id, .id, (.sl 3)]) (.t 2) (.t 29)), zv 3 (.mov (zc 0))]
def k0cv : IC := (.seq qba2 (.seq qbgd (.seq qbf7 (.seq (.seq qbao (.cond (.t 27) (.seq qbbf .ret) .skip)) (.seq q9i .ret)))))
@[go_sem] def s0cv : List (RV × Co) := [(.c true 3 2, (.agg [.id, .id, (.sl 3)])), (.t 3, .id)]
theorem c0cv : cFun Tryz.prog 24 = some (30, k0cv, s0cv) := by kernel_rfl

def qbc0 : IC := zr [zv 2 zf]
def qbax : IC := zr [zm 3 0, zv 4 (.bin .neq .no (.t 3) (.c (.str []))), zm 5 4, zw 5 true 6 (.mov (.t 0)), zw 5 true 7 (.idx (.t 6) (zc 0)), ⟨some (5, true), some 8, .call (.c (.fn 43 [] [])) [((.t 7), .id)]⟩, zv 9 (.pick (.t 5) (.t 8) (.c (.bool false))), zm 10 9, zw 10 true 11 (.mov (.t 0)), ⟨some (10, true), some 12, .call (.c (.fn 44 [] [])) [((.t 11), .id)]⟩, zv 13 (.pick (.t 10) (.t 12) (.c (.bool false))), zm 2 13]
def k0cf : IC := (.seq qbc0 (.seq qbax .ret))
@[go_sem] def s0cf : List (RV × Co) := [(.t 2, .id)]
theorem c0cf : cFun Tryz.prog 25 = some (14, k0cf, s0cf) := by kernel_rfl

def qbhd : IC := zr [zi 2 (.box (.t 0)), zv 4 zf]
def qbks : IC := zr [zv 6 (.fad (.t 2) 1), zv 7 (.ld true 3 (.t 6)), zi 5 (.alo [(.str []), (.int .i64 0), .nils]), zn (.st 3 (.agg [.id, .id, (.sl 3)]) (.t 5) (.t 7))]
def qblr : IC := zr [zv 8 (.fad (.t 2) 0), zv 9 (.ld false 1 (.t 8)), zi 10 (.call (.c (.fn 25 [] [])) [((.t 9), .id)]), zm 11 10, zw 11 true 12 (.fad (.t 5) 0), zw 11 true 13 (.ld false 1 (.t 12)), zw 11 true 14 (.bin .eql .no (.t 13) (.c (.str []))), zv 15 (.pick (.t 11) (.t 14) (.c (.bool false))), zm 16 15, zw 16 true 17 (.fad (.t 5) 2), zw 16 true 18 (.ld false 1 (.t 17)), zw 16 true 19 (.len false (.t 18)), zw 16 true 20 (.bin .eql .no (.t 19) (zc 0)), zv 21 (.pick (.t 16) (.t 20) (.c (.bool false))), zm 22 21, zw 22 true 23 (.fad (.t 5) 1), zw 22 true 24 (.ld false 1 (.t 23)), zw 22 true 25 (.bin .geq .no (.t 24) (zc 0)), zv 26 (.pick (.t 22) (.t 25) (.c (.bool false))), zm 27 26, zw 27 true 28 (.fad (.t 5) 1), zw 27 true 29 (.ld false 1 (.t 28)), zw 27 true 30 (.mov (.t 1)), zw 27 true 31 (.bin .lss .no (.t 29) (.t 30)), zv 32 (.pick (.t 27) (.t 31) (.c (.bool false))), zm 4 32]
def k0g : IC := (.seq qbhd (.seq qbks (.seq qblr .ret)))
@[go_sem] def s0g : List (RV × Co) := [(.t 4, .id)]
theorem c0g : cFun Tryz.prog 26 = some (33, k0g, s0g) := by kernel_rfl

def q7z : IC := zr [zv 2 zf]
def q9o : IC := zr [zm 3 0, zv 4 (.bin .neq .no (.t 3) (.c (.str []))), zm 5 4, zw 5 true 6 (.mov (.t 0)), zw 5 true 7 (.idx (.t 6) (zc 0)), ⟨some (5, true), some 8, .call (.c (.fn 45 [] [])) [((.t 7), .id)]⟩, zv 9 (.pick (.t 5) (.t 8) (.c (.bool false))), zm 10 9, zw 10 true 11 (.mov (.t 0)), ⟨some (10, true), some 12, .call (.c (.fn 46 [] [])) [((.t 11), .id)]⟩, zv 13 (.pick (.t 10) (.t 12) (.c (.bool false))), zm 2 13]
def k0cg : IC := (.seq q7z (.seq q9o .ret))
@[go_sem] def s0cg : List (RV × Co) := [(.t 2, .id)]
theorem c0cg : cFun Tryz.prog 27 = some (14, k0cg, s0cg) := by kernel_rfl

def qbij : IC := zr [zi 1 (.box (.t 0)), zv 2 (.mov (.c (.str [])))]
def qbpl : IC := zr [zv 3 (.ld true 3 (.t 1)), zi 4 (.call (.c (.fn 47 [] [])) [((.t 3), (.agg [.id, .id, (.sl 3)]))]), zv 5 (.un .not (.t 4))]
def qbo1 : IC := zr [zv 2 (.mov (.c (.str [])))]
def qbj2 : IC := zr [zv 6 (.ld true 3 (.t 1)), zi 7 (.call (.c (.fn 48 [] [])) [((.t 6), (.agg [.id, .id, (.sl 3)]))]), zm 2 7]
def k0z : IC := (.seq qbij (.seq (.seq qbpl (.cond (.t 5) (.seq qbo1 .ret) .skip)) (.seq qbj2 .ret)))
@[go_sem] def s0z : List (RV × Co) := [(.t 2, .id)]
theorem c0z : cFun Tryz.prog 28 = some (8, k0z, s0z) := by kernel_rfl

def qbgn : IC := zr [zv 2 (.mov (.c (.str [])))]
def q4y : IC := zr [zv 3 (.mov (.c .nils))]
def q99 : IC := zr [zm 7 0, zv 8 (.len false (.t 7)), zv 9 (.mov (zc 0))]
def q7s : IC := zr [zv 10 (.bin .lss .no (.t 9) (.t 8))]
def qbdf : IC := zr [zv 11 (.iad 4 (.t 7) (.t 9)), zv 12 (.ld true 4 (.t 11)), zi 5 (.alo [(.str []), (.str []), (.int .i64 0), .nils]), zn (.st 4 (.agg [.id, .id, .id, (.sl 3)]) (.t 5) (.t 12))]
def q6c : IC := zr [zv 13 (.ld true 4 (.t 5)), zi 14 (.call (.c (.fn 49 [] [])) [((.t 13), (.agg [.id, .id, .id, (.sl 3)]))]), zv 15 (.un .not (.t 14))]
def q8y : IC := zr [zv 2 (.mov (.c (.str [])))]
def q7m : IC := zr [zm 16 3, zv 17 (.ld true 4 (.t 5)), zi 18 (.call (.c (.fn 50 [] [])) [((.t 17), (.agg [.id, .id, .id, (.sl 3)]))]), zv 19 (.bsl 1 [((.t 18), .id)]), zi 20 (.app 1 (.str []) 16 (.sl 1) (.t 16) (.t 19)), zm 3 20]
def q56 : IC := zr [zv 21 (.bin .add .no (.t 9) (zc 1)), zm 9 21]
def q3y : IC := (.seq q7s (.seq (.cond (.t 10) .skip (.exit 0)) (.seq (.block 1 (.seq qbdf (.seq (.seq q6c (.cond (.t 15) (.seq q8y .ret) .skip)) q7m))) q56)))
def q05 : IC := zr [zm 22 3, zi 23 (.call (.c (.fn 51 [] [])) [((.t 22), (.sl 1)), ((.c (.str [44, 32])), .id)]), zm 6 23]
def q2p : IC := zr [zm 24 0, zv 25 (.len false (.t 24)), zv 26 (.bin .gtr .no (.t 25) (zc 1))]
def qzc : IC := zr [zm 27 6, zv 28 (.bin .add .no (.c (.str [40])) (.t 27)), zv 29 (.bin .add .no (.t 28) (.c (.str [41]))), zm 2 29]
def qz5 : IC := zr [zm 30 6, zm 2 30]
def k0ct : IC := (.seq qbgn (.seq q4y (.seq (.seq q99 (.block 0 (.loop q3y))) (.seq q05 (.seq (.seq q2p (.cond (.t 26) (.seq qzc .ret) .skip)) (.seq qz5 .ret))))))
@[go_sem] def s0ct : List (RV × Co) := [(.t 2, .id)]
theorem c0ct : cFun Tryz.prog 29 = some (31, k0ct, s0ct) := by kernel_rfl

def qbf8 : IC := zr [zv 2 (.mov (zc 0))]
def q7g : IC := zr [zv 3 (.mov (zc 20000))]
def q4z : IC := zr [zv 4 (.mov (zc 0))]
def qbcl : IC := zr [zm 5 4, zm 6 0, zv 7 (.len false (.t 6)), zv 8 (.bin .lss .no (.t 5) (.t 7))]
def q97 : IC := zr [zm 11 0, zm 12 4, zv 13 (.iad 3 (.t 11) (.t 12)), zv 14 (.ld true 3 (.t 13)), zm 15 3, zi 16 (.call (.c (.fn 54 [] [])) [((.t 14), (.agg [.id, .id, (.sl 3)])), ((.t 15), .id), ((zc 300), .id)]), zm 3 16]
def q4t : IC := zr [zm 9 4, zv 10 (.bin .add .no (.t 9) (zc 1)), zm 4 10]
def qbf5 : IC := (.seq (.seq qbcl (.cond (.t 8) .skip (.exit 0))) (.seq (.block 1 q97) q4t))
def qbdd : IC := zr [zm 17 3, zv 18 (.bin .lss .no (.t 17) (zc 0))]
def q40 : IC := zr [zv 2 (.mov (zc 0))]
def q09 : IC := zr [zv 2 (.mov (zc 1))]
def k0bk : IC := (.seq qbf8 (.seq q7g (.seq (.seq q4z (.block 0 (.loop qbf5))) (.seq (.seq qbdd (.cond (.t 18) (.seq q40 .ret) .skip)) (.seq q09 .ret)))))
@[go_sem] def s0bk : List (RV × Co) := [(.t 2, .id)]
theorem c0bk : cFun Tryz.prog 32 = some (19, k0bk, s0bk) := by kernel_rfl

def qbo0 : IC := zr [zv 2 (.mov (.c .nilp))]
def qbhb : IC := zr [zv 6 (.bld [.nils] []), zi 7 (.box (.t 6)), zm 3 7]
def qbmr : IC := zr [zm 8 0, zv 9 (.len false (.t 8)), zv 10 (.mov (zc 0))]
def qbif : IC := zr [zv 11 (.bin .lss .no (.t 10) (.t 9))]
def qbhl : IC := zr [zv 12 (.iad 4 (.t 8) (.t 10)), zv 13 (.ld true 4 (.t 12)), zi 5 (.alo [(.int .i64 0), (.str []), (.int .i64 0), .nils]), zn (.st 4 (.agg [.id, .id, .id, (.sl 3)]) (.t 5) (.t 13))]
def qbjy : IC := zr [zm 14 3, zv 15 (.fad (.t 5) 0), zv 16 (.ld false 1 (.t 15)), zv 17 (.fad (.t 5) 1), zv 18 (.ld true 3 (.t 17)), zi 19 (.call (.c (.fn 34 [] [])) [((.t 14), .id), ((.t 16), .id), ((.t 18), (.agg [.id, .id, (.sl 3)]))])]
def qbh6 : IC := zr [zv 20 (.bin .add .no (.t 10) (zc 1)), zm 10 20]
def qblp : IC := (.seq qbif (.seq (.cond (.t 11) .skip (.exit 0)) (.seq (.block 1 (.seq qbhl qbjy)) qbh6)))
def qbiz : IC := zr [zm 21 3, zm 2 21]
def k0m : IC := (.seq qbo0 (.seq qbhb (.seq (.seq qbmr (.block 0 (.loop qblp))) (.seq qbiz .ret))))
@[go_sem] def s0m : List (RV × Co) := [(.t 2, .id)]
theorem c0m : cFun Tryz.prog 33 = some (22, k0m, s0m) := by kernel_rfl

def qbj3 : IC := zr [zi 5 (.box (.t 2)), zv 6 (.mov (zc 0))]
def qbi1 : IC := zr [zm 9 0, zv 10 (.bin .eql .ptr (.t 9) (.c .nilp)), zm 11 10, zw 11 false 12 (.ld true 3 (.t 5)), ⟨some (11, false), some 13, .call (.c (.fn 47 [] [])) [((.t 12), (.agg [.id, .id, (.sl 3)]))]⟩, zw 11 false 14 (.un .not (.t 13)), zv 15 (.pick (.t 11) (.c (.bool true)) (.t 14))]
def qbnl : IC := zr [zv 6 (.mov (zc 1))]
def qbhv : IC := zr [zm 17 0, zm 18 1, zi 19 (.call (.c (.fn 55 [] [])) [((.t 17), .id), ((.t 18), .id)]), zm 16 19, zv 20 (.ext (.t 16) 0), zv 21 (.ext (.t 16) 1), zm 7 20, zm 8 21]
def qbnh : IC := zr [zm 22 8]
def qblt : IC := zr [zv 6 (.mov (zc 6))]
def qbok : IC := .drw [zp (zm 23 0), zp (zm 24 0), zp (zv 25 (.nck (.t 24))), zp (zv 26 (.fad (.t 25) 0)), zp (zv 27 (.ld false 1 (.t 26))), zp (zm 28 7), zp (zm 29 1), zp (zv 30 (.ld true 3 (.t 5))), (zi 31 (.call (.c (.fn 57 [] [])) [((.t 30), (.agg [.id, .id, (.sl 3)]))]), [4]), (zv 32 (.bld [(.int .i64 0), (.str []), (.int .i64 0), .nils] [(0, 1, (.t 29)), (1, 3, (.t 31))]), []), (zv 33 (.bsl 4 [((.t 32), (.agg [.id, .id, .id, (.sl 3)]))]), []), (zi 34 (.call (.c (.fn 56 [] [])) [((.t 27), (.sl 4)), ((.t 28), .id), ((.t 33), (.sl 4))]), []), zp (zv 35 (.nck (.t 23))), zp (zv 36 (.fad (.t 35) 0)), (zn (.st 1 (.sl 4) (.t 36) (.t 34)), [])]
def qbka : IC := zr [zv 6 (.mov (zc 0))]
def k0o : IC := (.seq qbj3 (.seq (.seq qbi1 (.cond (.t 15) (.seq qbnl .ret) .skip)) (.seq qbhv (.seq (.seq qbnh (.cond (.t 22) (.seq qblt .ret) .skip)) (.seq qbok (.seq qbka .ret))))))
@[go_sem] def s0o : List (RV × Co) := [(.t 6, .id)]
theorem c0o : cFun Tryz.prog 34 = some (37, k0o, s0o) := by kernel_rfl

def qbjs : IC := zr [zv 4 (.mov (.c .nils)), zv 5 (.mov (zc 0))]
def qbps : IC := zr [zv 6 (.mov (.c .nils))]
def qbkr : IC := zr [zm 11 1, zv 12 (.len false (.t 11)), zv 13 (.mov (zc 0))]
def qbow : IC := zr [zv 14 (.bin .lss .no (.t 13) (.t 12))]
def qbnc : IC := zr [zv 15 (.iad 4 (.t 11) (.t 13)), zv 16 (.ld true 4 (.t 15)), zi 8 (.alo [(.str []), (.str []), (.int .i64 0), .nils]), zn (.st 4 (.agg [.id, .id, .id, (.sl 3)]) (.t 8) (.t 16))]
def qbjw : IC := zr [zm 18 0, zv 19 (.fad (.t 8) 1), zv 20 (.ld true 3 (.t 19)), zi 21 (.call (.c (.fn 58 [] [])) [((.t 18), .id), ((.t 20), (.agg [.id, .id, (.sl 3)]))]), zm 17 21, zv 22 (.ext (.t 17) 0), zv 23 (.ext (.t 17) 1), zi 9 (.alo [(.str []), (.int .i64 0), .nils]), zn (.st 3 (.agg [.id, .id, (.sl 3)]) (.t 9) (.t 22)), zm 10 23]
def qbk1 : IC := zr [zm 24 10, zv 25 (.bin .neq .no (.t 24) (zc 0))]
def qbmi : IC := zr [zm 26 10, zv 4 (.mov (.c .nils)), zm 5 26]
def qbme : IC := zr [zm 27 6, zv 28 (.fad (.t 8) 0), zv 29 (.ld false 1 (.t 28)), zv 30 (.ld true 3 (.t 9)), zv 31 (.bld [(.str []), (.str []), (.int .i64 0), .nils] [(0, 1, (.t 29)), (1, 3, (.t 30))]), zv 32 (.bsl 4 [((.t 31), (.agg [.id, .id, .id, (.sl 3)]))]), zi 33 (.app 4 (.agg [(.str []), (.str []), (.int .i64 0), .nils]) 64 (.sl 4) (.t 27) (.t 32)), zm 6 33]
def q54 : IC := zr [zv 34 (.bin .add .no (.t 13) (zc 1)), zm 13 34]
def qbmn : IC := (.seq qbow (.seq (.cond (.t 14) .skip (.exit 0)) (.seq (.block 1 (.seq qbnc (.seq qbjw (.seq (.seq qbk1 (.cond (.t 25) (.seq qbmi .ret) .skip)) qbme)))) q54)))
def qbez : IC := zr [zm 35 6, zm 4 35, zv 5 (.mov (zc 0))]
def k0k : IC := (.seq qbjs (.seq qbps (.seq (.seq qbkr (.block 0 (.loop qbmn))) (.seq qbez .ret))))
@[go_sem] def s0k : List (RV × Co) := [(.t 4, (.sl 4)), (.t 5, .id)]
theorem c0k : cFun Tryz.prog 35 = some (36, k0k, s0k) := by kernel_rfl

def q4o : IC := zr [zi 2 (.box (.t 0)), zv 4 (.mov (.c .nils))]
def q4n : IC := zr [zv 5 (.mov (.c .nils))]
def q4e : IC := zr [zv 6 (.mov (zc 0))]
def qbes : IC := zr [zm 11 6, zm 12 1, zv 13 (.len false (.t 12)), zv 14 (.bin .lss .no (.t 11) (.t 13))]
def q88 : IC := zr [zm 18 5, zm 19 6, zm 20 1, zm 21 6, zv 22 (.iad 3 (.t 20) (.t 21)), zv 23 (.ld true 3 (.t 22)), zi 24 (.call (.c (.fn 59 [] [])) [((.t 18), (.sl 4)), ((.t 19), .id), ((.t 23), (.agg [.id, .id, (.sl 3)]))]), zm 17 24, zv 25 (.ext (.t 17) 0), zv 26 (.ext (.t 17) 1), zm 7 25, zm 8 26]
def q62 : IC := zr [zm 27 7, zm 5 27]
def qbbu : IC := zr [zm 15 6, zv 16 (.bin .add .no (.t 15) (zc 1)), zm 6 16]
def qbds : IC := (.seq (.seq qbes (.cond (.t 14) .skip (.exit 0))) (.seq (.block 1 (.seq q88 q62)) qbbu))
def qba5 : IC := zr [zm 29 5, zv 30 (.fad (.t 2) 3), zv 31 (.ld false 1 (.t 30)), zi 32 (.call (.c (.fn 60 [] [])) [((.t 29), (.sl 4)), ((.t 31), (.sl 4))]), zm 28 32, zv 33 (.ext (.t 28) 0), zv 34 (.ext (.t 28) 1), zm 9 33, zm 10 34]
def q0l : IC := zr [zm 35 9, zm 4 35]
def k0de : IC := (.seq q4o (.seq q4n (.seq (.seq q4e (.block 0 (.loop qbds))) (.seq qba5 (.seq q0l .ret)))))
@[go_sem] def s0de : List (RV × Co) := [(.t 4, (.sl 4))]
theorem c0de : cFun Tryz.prog 36 = some (36, k0de, s0de) := by kernel_rfl

def q4f : IC := zr [zi 2 (.box (.t 0)), zi 3 (.box (.t 1)), zv 4 zf]
def qbdo : IC := zr [zv 5 (.fad (.t 2) 0), zv 6 (.ld false 1 (.t 5)), zv 7 (.fad (.t 3) 0), zv 8 (.ld false 1 (.t 7)), zv 9 (.bin .eql .no (.t 6) (.t 8)), zm 10 9, zw 10 true 11 (.fad (.t 2) 1), zw 10 true 12 (.ld true 3 (.t 11)), zw 10 true 13 (.fad (.t 3) 1), zw 10 true 14 (.ld true 3 (.t 13)), ⟨some (10, true), some 15, .call (.c (.fn 61 [] [])) [((.t 12), (.agg [.id, .id, (.sl 3)])), ((.t 14), (.agg [.id, .id, (.sl 3)]))]⟩, zv 16 (.pick (.t 10) (.t 15) (.c (.bool false))), zm 4 16]
def k0co : IC := (.seq q4f (.seq qbdo .ret))
@[go_sem] def s0co : List (RV × Co) := [(.t 4, .id)]
theorem c0co : cFun Tryz.prog 37 = some (17, k0co, s0co) := by kernel_rfl

def q6d : IC := zr [zi 1 (.box (.t 0)), zv 2 (.mov (zc 0))]
def qbb3 : IC := zr [zv 3 (.mov (zc 0))]
def q7a : IC := zr [zv 4 (.mov (zc 0))]
def q92 : IC := zr [zm 5 4, zv 6 (.fad (.t 1) 2), zv 7 (.ld false 1 (.t 6)), zv 8 (.len false (.t 7)), zv 9 (.bin .lss .no (.t 5) (.t 8))]
def qbcd : IC := zr [zm 12 3, zv 13 (.fad (.t 1) 2), zv 14 (.ld false 1 (.t 13)), zm 15 4, zv 16 (.iad 3 (.t 14) (.t 15)), zv 17 (.ld true 3 (.t 16)), zi 18 (.call (.c (.fn 38 [] [])) [((.t 17), (.agg [.id, .id, (.sl 3)]))]), zv 19 (.mm true (.t 12) (.t 18)), zm 3 19]
def qbd5 : IC := zr [zm 10 4, zv 11 (.bin .add .no (.t 10) (zc 1)), zm 4 11]
def q7x : IC := (.seq (.seq q92 (.cond (.t 9) .skip (.exit 0))) (.seq (.block 1 qbcd) qbd5))
def q8l : IC := zr [zm 20 3, zv 21 (.bin .add .no (.t 20) (zc 1)), zm 2 21]
def k0bh : IC := (.seq q6d (.seq qbb3 (.seq (.seq q7a (.block 0 (.loop q7x))) (.seq q8l .ret))))
@[go_sem] def s0bh : List (RV × Co) := [(.t 2, .id)]
theorem c0bh : cFun Tryz.prog 38 = some (22, k0bh, s0bh) := by kernel_rfl

def q3k : IC := zr [zi 1 (.box (.t 0)), zv 2 zf]
def q86 : IC := zr [zv 3 (.mov (zc 0))]
def qbac : IC := zr [zm 5 3, zv 6 (.fad (.t 1) 2), zv 7 (.ld false 1 (.t 6)), zv 8 (.len false (.t 7)), zv 9 (.bin .lss .no (.t 5) (.t 8))]
def qbfq : IC := zr [zv 12 (.fad (.t 1) 2), zv 13 (.ld false 1 (.t 12)), zm 14 3, zv 15 (.iad 3 (.t 13) (.t 14)), zv 16 (.ld true 3 (.t 15)), zi 17 (.call (.c (.fn 39 [] [])) [((.t 16), (.agg [.id, .id, (.sl 3)]))]), zv 18 (.un .not (.t 17))]
def q7h : IC := zr [zv 2 zf]
def qbaf : IC := zr [zm 10 3, zv 11 (.bin .add .no (.t 10) (zc 1)), zm 3 11]
def qbbe : IC := (.seq (.seq qbac (.cond (.t 9) .skip (.exit 0))) (.seq (.block 1 (.seq qbfq (.cond (.t 18) (.seq q7h .ret) .skip))) qbaf))
def qbef : IC := zr [zv 19 (.fad (.t 1) 2), zv 20 (.ld false 1 (.t 19)), zv 21 (.len false (.t 20)), zm 4 21]
def q51 : IC := zr [zv 23 (.fad (.t 1) 0), zv 24 (.ld false 1 (.t 23)), zv 25 (.bin .eql .no (.t 24) (.c (.str []))), zm 22 25]
def q2i : IC := zr [zm 26 4, zv 27 (.bin .eql .no (.t 26) (zc 0)), zm 2 27]
def qx3 : IC := zr [zv 29 (.fad (.t 1) 0), zv 30 (.ld false 1 (.t 29)), zv 31 (.bin .eql .no (.t 30) (.c (.str [45, 62]))), zm 28 31]
def q08 : IC := zr [zm 32 4, zv 33 (.bin .eql .no (.t 32) (zc 2)), zm 34 33, zw 34 true 35 (.fad (.t 1) 1), zw 34 true 36 (.ld false 1 (.t 35)), zw 34 true 37 (.bin .eql .no (.t 36) (zc 0)), zv 38 (.pick (.t 34) (.t 37) (.c (.bool false))), zm 2 38]
def q1r : IC := zr [zv 40 (.fad (.t 1) 0), zv 41 (.ld false 1 (.t 40)), zi 42 (.call (.c (.fn 62 [] [])) [((.t 41), .id)]), zm 39 42]
def qy3 : IC := zr [zm 43 4, zv 44 (.bin .eql .no (.t 43) (zc 0)), zm 45 44, zw 45 true 46 (.fad (.t 1) 1), zw 45 true 47 (.ld false 1 (.t 46)), zw 45 true 48 (.bin .eql .no (.t 47) (zc 0)), zv 49 (.pick (.t 45) (.t 48) (.c (.bool false))), zm 2 49]
def qzn : IC := zr [zv 50 (.fad (.t 1) 0), zv 51 (.ld false 1 (.t 50)), zi 52 (.call (.c (.fn 27 [] [])) [((.t 51), .id)]), zm 53 52, zw 53 true 54 (.fad (.t 1) 1), zw 53 true 55 (.ld false 1 (.t 54)), zw 53 true 56 (.bin .eql .no (.t 55) (zc 0)), zv 57 (.pick (.t 53) (.t 56) (.c (.bool false))), zm 2 57]
def k0bi : IC := (.seq q3k (.seq (.seq q86 (.block 0 (.loop qbbe))) (.seq qbef (.seq (.block 2 (.seq q51 (.cond (.t 22) (.seq q2i .ret) (.seq qx3 (.cond (.t 28) (.seq q08 .ret) (.seq q1r (.cond (.t 39) (.seq qy3 .ret) .skip))))))) (.seq qzn .ret)))))
@[go_sem] def s0bi : List (RV × Co) := [(.t 2, .id)]
theorem c0bi : cFun Tryz.prog 39 = some (58, k0bi, s0bi) := by kernel_rfl

def q69 : IC := zr [zi 1 (.box (.t 0)), zi 2 (.alo [(.str []), (.int .i64 0), .nils])]
def q74 : IC := zr [zv 4 (.ld false 1 (.t 1)), zv 5 (.nck (.t 4)), zv 6 (.fad (.t 5) 1), zv 7 (.ld false 1 (.t 6)), zv 8 (.bin .add .no (.t 7) (zc 1)), zv 9 (.nck (.t 4)), zv 10 (.fad (.t 9) 1), zn (.st 1 .id (.t 10) (.t 8))]
def qbdy : IC := zr [zv 11 (.ld false 1 (.t 1)), zv 12 (.nck (.t 11)), zv 13 (.fad (.t 12) 1), zv 14 (.ld false 1 (.t 13)), zv 15 (.bin .gtr .no (.t 14) (zc 200))]
def qbab : IC := zr [zv 16 (.ld false 1 (.t 1)), zv 17 (.nck (.t 16)), zv 18 (.fad (.t 17) 2), zn (.st 1 .id (.t 18) (.c (.bool true)))]
def q6a : IC := .dfr [zv 19 (.mfn 64 [] [(.t 1)])] (.t 19)
def q9l : IC := zr [zv 20 (.ld false 1 (.t 1)), zv 21 (.nck (.t 20)), zv 22 (.fad (.t 21) 2), zv 23 (.ld false 1 (.t 22))]
def q41 : IC := zr [zv 24 (.bld [(.str []), (.int .i64 0), .nils] []), zn (.st 3 (.agg [.id, .id, (.sl 3)]) (.t 2) (.t 24))]
def q6y : IC := zr [zv 25 (.ld false 1 (.t 1)), zi 26 (.call (.c (.fn 65 [] [])) [((.t 25), .id)]), zi 3 (.alo [(.str []), (.int .i64 0), .nils]), zn (.st 3 (.agg [.id, .id, (.sl 3)]) (.t 3) (.t 26))]
def q58 : IC := zr [zv 27 (.ld false 1 (.t 1)), zv 28 (.nck (.t 27)), zv 29 (.fad (.t 28) 2), zv 30 (.ld false 1 (.t 29)), zv 31 (.un .not (.t 30)), zm 32 31, zw 32 true 33 (.ld false 1 (.t 1)), zw 32 true 34 (.nck (.t 33)), zw 32 true 35 (.fad (.t 34) 0), zw 32 true 36 (.ld false 1 (.t 35)), ⟨some (32, true), some 37, .call (.c (.fn 66 [] [])) [((.t 36), .id), ((.c (.str [32, 45, 62, 32])), .id)]⟩, zw 32 true 38 (.un .not (.t 37)), zv 39 (.pick (.t 32) (.t 38) (.c (.bool false))), zm 40 39, zw 40 true 41 (.ld false 1 (.t 1)), ⟨some (40, true), some 42, .call (.c (.fn 67 [] [])) [((.t 41), .id), ((.c (.str [32])), .id)]⟩, zv 43 (.pick (.t 40) (.t 42) (.c (.bool false)))]
def q1h : IC := .drw [zp (zv 44 (.fad (.t 3) 2)), zp (zv 45 (.ld false 1 (.t 44))), (zi 46 (.call (.c (.fn 68 [] [])) [((.t 45), (.sl 3))]), []), (zv 47 (.ld false 1 (.t 1)), [2]), (zi 48 (.call (.c (.fn 65 [] [])) [((.t 47), .id)]), []), (zv 49 (.bsl 3 [((.t 48), (.agg [.id, .id, (.sl 3)]))]), []), (zi 50 (.app 3 (.agg [(.str []), (.int .i64 0), .nils]) 48 (.sl 3) (.t 46) (.t 49)), []), zp (zv 51 (.fad (.t 3) 2)), (zn (.st 1 (.sl 3) (.t 51) (.t 50)), [])]
def ql1 : IC := (.seq (.seq q58 (.cond (.t 43) .skip (.exit 0))) (.block 1 q1h))
def q1u : IC := zr [zv 52 (.ld false 1 (.t 1)), zv 53 (.nck (.t 52)), zv 54 (.fad (.t 53) 2), zv 55 (.ld false 1 (.t 54)), zv 56 (.un .not (.t 55)), zm 57 56, zw 57 true 58 (.ld false 1 (.t 1)), ⟨some (57, true), some 59, .call (.c (.fn 67 [] [])) [((.t 58), .id), ((.c (.str [32, 45, 62, 32])), .id)]⟩, zv 60 (.pick (.t 57) (.t 59) (.c (.bool false)))]
def q23 : IC := .drw [zp (zv 61 (.ld true 3 (.t 3))), zp (zv 62 (.ld false 1 (.t 1))), (zi 63 (.call (.c (.fn 42 [] [])) [((.t 62), .id)]), [0]), (zv 64 (.bsl 3 [((.t 61), (.agg [.id, .id, (.sl 3)])), ((.t 63), (.agg [.id, .id, (.sl 3)]))]), []), (zv 65 (.bld [(.str []), (.int .i64 0), .nils] [(0, 1, (.c (.str [45, 62]))), (2, 1, (.t 64))]), []), (zn (.st 3 (.agg [.id, .id, (.sl 3)]) (.t 2) (.t 65)), [])]
def qzu : IC := zr [zv 66 (.ld true 3 (.t 3)), zn (.st 3 (.agg [.id, .id, (.sl 3)]) (.t 2) (.t 66))]
def k0cu : IC := (.seq q69 (.seq (.seq q74 (.seq qbdy (.cond (.t 15) qbab .skip))) (.seq q6a (.seq (.seq q9l (.cond (.t 23) (.seq q41 .ret) .skip)) (.seq q6y (.seq (.block 0 (.loop ql1)) (.seq (.seq q1u (.cond (.t 60) (.seq q23 .ret) .skip)) (.seq qzu .ret))))))))
@[go_sem] def s0cu : List (RV × Co) := [(.c true 3 2, (.agg [.id, .id, (.sl 3)]))]
theorem c0cu : cFun Tryz.prog 42 = some (67, k0cu, s0cu) := by kernel_rfl

def qbdu : IC := zr [zv 2 zf]
def q5u : IC := zr [zm 3 0, zv 4 (.bin .geq .no (.t 3) (.c (.int .u8 65))), zm 5 4, zw 5 true 6 (.mov (.t 0)), zw 5 true 7 (.bin .leq .no (.t 6) (.c (.int .u8 90))), zv 8 (.pick (.t 5) (.t 7) (.c (.bool false))), zm 2 8]
def k0bz : IC := (.seq qbdu (.seq q5u .ret))
@[go_sem] def s0bz : List (RV × Co) := [(.t 2, .id)]
theorem c0bz : cFun Tryz.prog 43 = some (9, k0bz, s0bz) := by kernel_rfl

def q3o : IC := zr [zv 2 zf]
def qbfv : IC := zr [zm 5 0, zv 6 (.len true (.t 5)), zv 7 (.mov (zc 0))]
def qbdi : IC := zr [zv 8 (.bin .lss .no (.t 7) (.t 6))]
def qbcg : IC := zr [zm 9 7, zm 3 9]
def qbbm : IC := zr [zm 10 0, zm 11 3, zv 12 (.idx (.t 10) (.t 11)), zm 4 12]
def qbam : IC := zr [zm 13 4, zi 14 (.call (.c (.fn 69 [] [])) [((.t 13), .id)]), zv 15 (.un .not (.t 14)), zm 16 15, zw 16 true 17 (.mov (.t 4)), ⟨some (16, true), some 18, .call (.c (.fn 43 [] [])) [((.t 17), .id)]⟩, zw 16 true 19 (.un .not (.t 18)), zv 20 (.pick (.t 16) (.t 19) (.c (.bool false))), zm 21 20, zw 21 true 22 (.mov (.t 4)), zw 21 true 23 (.bin .lss .no (.t 22) (.c (.int .u8 48))), zw 21 true 24 (.mov (.t 23)), zw 24 false 25 (.mov (.t 4)), zw 24 false 26 (.bin .gtr .no (.t 25) (.c (.int .u8 57))), zw 21 true 27 (.pick (.t 24) (.c (.bool true)) (.t 26)), zv 28 (.pick (.t 21) (.t 27) (.c (.bool false))), zm 29 28, zw 29 true 30 (.mov (.t 4)), zw 29 true 31 (.bin .neq .no (.t 30) (.c (.int .u8 39))), zv 32 (.pick (.t 29) (.t 31) (.c (.bool false)))]
def q72 : IC := zr [zv 2 zf]
def q65 : IC := zr [zv 33 (.bin .add .no (.t 7) (zc 1)), zm 7 33]
def q6i : IC := (.seq qbdi (.seq (.cond (.t 8) .skip (.exit 0)) (.seq (.block 1 (.seq qbcg (.seq qbbm (.seq qbam (.cond (.t 32) (.seq q72 .ret) .skip))))) q65)))
def q2e : IC := zr [zv 2 (.mov (.c (.bool true)))]
def k0cd : IC := (.seq q3o (.seq (.seq qbfv (.block 0 (.loop q6i))) (.seq q2e .ret)))
@[go_sem] def s0cd : List (RV × Co) := [(.t 2, .id)]
theorem c0cd : cFun Tryz.prog 44 = some (34, k0cd, s0cd) := by kernel_rfl

def q9g : IC := zr [zv 2 zf]
def qbck : IC := zr [zm 3 0, zv 4 (.bin .geq .no (.t 3) (.c (.int .u8 65))), zm 5 4, zw 5 true 6 (.mov (.t 0)), zw 5 true 7 (.bin .leq .no (.t 6) (.c (.int .u8 90))), zv 8 (.pick (.t 5) (.t 7) (.c (.bool false))), zm 2 8]
def k0ca : IC := (.seq q9g (.seq qbck .ret))
@[go_sem] def s0ca : List (RV × Co) := [(.t 2, .id)]
theorem c0ca : cFun Tryz.prog 45 = some (9, k0ca, s0ca) := by kernel_rfl

def q8t : IC := zr [zv 2 zf]
def q33 : IC := zr [zv 3 (.mov (zc 1))]
def q4d : IC := zr [zm 4 3, zm 5 0, zv 6 (.len true (.t 5)), zv 7 (.bin .lss .no (.t 4) (.t 6))]
def qbe8 : IC := zr [zm 10 0, zm 11 3, zv 12 (.idx (.t 10) (.t 11)), zi 13 (.call (.c (.fn 70 [] [])) [((.t 12), .id)]), zv 14 (.un .not (.t 13))]
def qbgq : IC := zr [zv 2 zf]
def q5e : IC := zr [zm 8 3, zv 9 (.bin .add .no (.t 8) (zc 1)), zm 3 9]
def q89 : IC := (.seq (.seq q4d (.cond (.t 7) .skip (.exit 0))) (.seq (.block 1 (.seq qbe8 (.cond (.t 14) (.seq qbgq .ret) .skip))) q5e))
def q9c : IC := zr [zv 2 (.mov (.c (.bool true)))]
def k0ce : IC := (.seq q8t (.seq (.seq q33 (.block 0 (.loop q89))) (.seq q9c .ret)))
@[go_sem] def s0ce : List (RV × Co) := [(.t 2, .id)]
theorem c0ce : cFun Tryz.prog 46 = some (15, k0ce, s0ce) := by kernel_rfl

def q5s : IC := zr [zi 1 (.box (.t 0)), zv 2 zf]
def qbgm : IC := zr [zi 3 (.alo [(.int .i64 0)]), zn (.st 1 .id (.t 3) (zc 0))]
def q79 : IC := zr [zv 4 (.ld true 3 (.t 1)), zv 5 (.mfn 72 [] [(.t 3)]), zi 6 (.call (.c (.fn 71 [] [])) [((.t 4), (.agg [.id, .id, (.sl 3)])), ((zc 1), .id), ((.t 5), .id)]), zm 2 6]
def k0bd : IC := (.seq q5s (.seq qbgm (.seq q79 .ret)))
@[go_sem] def s0bd : List (RV × Co) := [(.t 2, .id)]
theorem c0bd : cFun Tryz.prog 47 = some (7, k0bd, s0bd) := by kernel_rfl

def qbje : IC := zr [zi 1 (.box (.t 0)), zv 2 (.mov (.c (.str [])))]
def qbk5 : IC := zr [zv 6 (.fad (.t 1) 0), zv 7 (.ld false 1 (.t 6)), zv 8 (.bin .eql .no (.t 7) (.c (.str [45, 62])))]
def qbjo : IC := .drw [zp (zv 9 (.fad (.t 1) 2)), zp (zv 10 (.ld false 1 (.t 9))), zp (zv 11 (.iad 3 (.t 10) (zc 0))), zp (zv 12 (.ld true 3 (.t 11))), zp (zv 13 (.fad (.t 1) 2)), zp (zv 14 (.ld false 1 (.t 13))), zp (zv 15 (.iad 3 (.t 14) (zc 0))), zp (zv 16 (.fad (.t 15) 0)), zp (zv 17 (.ld false 1 (.t 16))), (zv 18 (.bin .eql .no (.t 17) (.c (.str [45, 62]))), []), (zi 19 (.call (.c (.fn 75 [] [])) [((.t 12), (.agg [.id, .id, (.sl 3)])), ((.t 18), .id)]), []), (zv 20 (.bin .add .no (.t 19) (.c (.str [32, 45, 62, 32]))), []), zp (zv 21 (.fad (.t 1) 2)), (zv 22 (.ld false 1 (.t 21)), [10]), zp (zv 23 (.iad 3 (.t 22) (zc 1))), (zv 24 (.ld true 3 (.t 23)), [10]), (zi 25 (.call (.c (.fn 48 [] [])) [((.t 24), (.agg [.id, .id, (.sl 3)]))]), []), zp (zv 26 (.bin .add .no (.t 20) (.t 25))), zp (zm 2 26)]
def qboq : IC := zr [zi 3 (.bld 104 5)]
def qbkb : IC := zr [zv 27 (.ld true 3 (.t 1)), zi 28 (.call (.c (.fn 73 [] [])) [((.t 27), (.agg [.id, .id, (.sl 3)]))]), zi 29 (.call (.c (.fn 77 [] [])) [((.t 28), .id)]), zi 30 (.call (.c (.fn 76 [] [])) [((.t 3), (.agg [.id, (.sl 1)])), ((.t 29), .id)])]
def qbnf : IC := zr [zv 31 (.fad (.t 1) 2), zv 32 (.ld false 1 (.t 31)), zv 33 (.len false (.t 32)), zv 34 (.mov (zc 0))]
def qbhs : IC := zr [zv 35 (.bin .lss .no (.t 34) (.t 33))]
def qbo5 : IC := zr [zv 36 (.iad 3 (.t 32) (.t 34)), zv 37 (.ld true 3 (.t 36)), zi 5 (.alo [(.str []), (.int .i64 0), .nils]), zn (.st 3 (.agg [.id, .id, (.sl 3)]) (.t 5) (.t 37))]
def qbna : IC := zr [zv 38 (.ld true 3 (.t 5)), zv 39 (.fad (.t 5) 2), zv 40 (.ld false 1 (.t 39)), zv 41 (.len false (.t 40)), zv 42 (.bin .gtr .no (.t 41) (zc 0)), zi 43 (.call (.c (.fn 75 [] [])) [((.t 38), (.agg [.id, .id, (.sl 3)])), ((.t 42), .id)]), zv 44 (.bin .add .no (.c (.str [32])) (.t 43)), zi 45 (.call (.c (.fn 76 [] [])) [((.t 3), (.agg [.id, (.sl 1)])), ((.t 44), .id)])]
def qbcx : IC := zr [zv 46 (.bin .add .no (.t 34) (zc 1)), zm 34 46]
def qbkd : IC := (.seq qbhs (.seq (.cond (.t 35) .skip (.exit 0)) (.seq (.block 1 (.seq qbo5 qbna)) qbcx)))
def q6w : IC := zr [zi 47 (.call (.c (.fn 78 [] [])) [((.t 3), (.agg [.id, (.sl 1)]))]), zm 2 47]
def k0y : IC := (.seq qbje (.seq (.seq qbk5 (.cond (.t 8) (.seq qbjo .ret) .skip)) (.seq qboq (.seq qbkb (.seq (.seq qbnf (.block 0 (.loop qbkd))) (.seq q6w .ret))))))
@[go_sem] def s0y : List (RV × Co) := [(.t 2, .id)]
theorem c0y : cFun Tryz.prog 48 = some (48, k0y, s0y) := by kernel_rfl

def qbaz : IC := zr [zi 1 (.box (.t 0)), zv 2 zf]
def q9d : IC := zr [zv 3 (.fad (.t 1) 0), zv 4 (.ld false 1 (.t 3)), zi 5 (.call (.c (.fn 25 [] [])) [((.t 4), .id)]), zm 6 5, zw 6 true 7 (.fad (.t 1) 1), zw 6 true 8 (.ld true 3 (.t 7)), ⟨some (6, true), some 9, .call (.c (.fn 47 [] [])) [((.t 8), (.agg [.id, .id, (.sl 3)]))]⟩, zv 10 (.pick (.t 6) (.t 9) (.c (.bool false))), zm 2 10]
def k0cm : IC := (.seq qbaz (.seq q9d .ret))
@[go_sem] def s0cm : List (RV × Co) := [(.t 2, .id)]
theorem c0cm : cFun Tryz.prog 49 = some (11, k0cm, s0cm) := by kernel_rfl

def q6q : IC := zr [zi 1 (.box (.t 0)), zv 2 (.mov (.c (.str [])))]
def q91 : IC := zr [zv 4 (.fad (.t 1) 1), zv 5 (.ld true 3 (.t 4)), zi 6 (.call (.c (.fn 28 [] [])) [((.t 5), (.agg [.id, .id, (.sl 3)]))]), zm 3 6]
def qbay : IC := zr [zv 7 (.fad (.t 1) 1), zv 8 (.fad (.t 7) 2), zv 9 (.ld false 1 (.t 8)), zv 10 (.len false (.t 9)), zv 11 (.bin .gtr .no (.t 10) (zc 0))]
def qbem : IC := zr [zm 12 3, zv 13 (.bin .add .no (.c (.str [40])) (.t 12)), zv 14 (.bin .add .no (.t 13) (.c (.str [41]))), zm 3 14]
def q5x : IC := zr [zv 15 (.fad (.t 1) 0), zv 16 (.ld false 1 (.t 15)), zv 17 (.bin .add .no (.t 16) (.c (.str [32]))), zm 18 3, zv 19 (.bin .add .no (.t 17) (.t 18)), zm 2 19]
def k0cs : IC := (.seq q6q (.seq q91 (.seq (.seq qbay (.cond (.t 11) qbem .skip)) (.seq q5x .ret))))
@[go_sem] def s0cs : List (RV × Co) := [(.t 2, .id)]
theorem c0cs : cFun Tryz.prog 50 = some (20, k0cs, s0cs) := by kernel_rfl

def q60 : IC := zr [zi 3 (.box (.t 0)), zv 6 (.mov (zc 0))]
def q9t : IC := zr [zm 8 1, zv 9 (.bin .sub .no (.t 8) (zc 1)), zm 1 9]
def qbgh : IC := zr [zm 10 2, zv 11 (.bin .lss .no (.t 10) (zc 1))]
def qbcz : IC := zr [zv 6 (.mov (zc (-1)))]
def q42 : IC := zr [zv 7 (.mov (zc 0))]
def qbeb : IC := zr [zm 12 7, zv 13 (.fad (.t 3) 2), zv 14 (.ld false 1 (.t 13)), zv 15 (.len false (.t 14)), zv 16 (.bin .lss .no (.t 12) (.t 15)), zm 17 16, zw 17 true 18 (.mov (.t 1)), zw 17 true 19 (.bin .geq .no (.t 18) (zc 0)), zv 20 (.pick (.t 17) (.t 19) (.c (.bool false)))]
def qbbr : IC := zr [zv 23 (.fad (.t 3) 2), zv 24 (.ld false 1 (.t 23)), zm 25 7, zv 26 (.iad 3 (.t 24) (.t 25)), zv 27 (.ld true 3 (.t 26)), zm 28 1, zm 29 2, zv 30 (.bin .sub .no (.t 29) (zc 1)), zi 31 (.call (.c (.fn 54 [] [])) [((.t 27), (.agg [.id, .id, (.sl 3)])), ((.t 28), .id), ((.t 30), .id)]), zm 1 31]
def q9s : IC := zr [zm 21 7, zv 22 (.bin .add .no (.t 21) (zc 1)), zm 7 22]
def qbfi : IC := (.seq (.seq qbeb (.cond (.t 20) .skip (.exit 0))) (.seq (.block 1 qbbr) q9s))
def q1l : IC := zr [zm 32 1, zm 6 32]
def k0bj : IC := (.seq q60 (.seq q9t (.seq (.seq qbgh (.cond (.t 11) (.seq qbcz .ret) .skip)) (.seq (.seq q42 (.block 0 (.loop qbfi))) (.seq q1l .ret)))))
@[go_sem] def s0bj : List (RV × Co) := [(.t 6, .id)]
theorem c0bj : cFun Tryz.prog 54 = some (33, k0bj, s0bj) := by kernel_rfl

def qbjx : IC := zr [zv 4 (.mov (zc 0)), zv 5 zf]
def qbjg : IC := zr [zm 6 0, zv 7 (.nck (.t 6)), zv 8 (.fad (.t 7) 0), zv 9 (.ld false 1 (.t 8)), zm 10 1, zi 11 (.call (.c (.fn 83 [] [])) [((.t 9), (.sl 4)), ((.t 10), .id), ((.c (.fn 84 [] [])), .id)]), zv 12 (.ext (.t 11) 0), zv 13 (.ext (.t 11) 1), zm 4 12, zm 5 13]
def k0r : IC := (.seq qbjx (.seq qbjg .ret))
@[go_sem] def s0r : List (RV × Co) := [(.t 4, .id), (.t 5, .id)]
theorem c0r : cFun Tryz.prog 55 = some (14, k0r, s0r) := by kernel_rfl

def qbo9 : IC := zr [zi 1 (.box (.t 0)), zi 2 (.alo [(.str []), (.int .i64 0), .nils])]
def qbk3 : IC := zr [zv 6 (.fad (.t 1) 2), zv 7 (.ld false 1 (.t 6)), zv 8 (.len false (.t 7)), zi 9 (.mks 3 (.agg [(.str []), (.int .i64 0), .nils]) 48 (.t 8) (.t 8)), zm 3 9]
def qbkn : IC := zr [zv 10 (.fad (.t 1) 2), zv 11 (.ld false 1 (.t 10)), zv 12 (.len false (.t 11)), zv 13 (.mov (zc 0))]
def qbm7 : IC := zr [zv 14 (.bin .lss .no (.t 13) (.t 12))]
def qbix : IC := zr [zm 15 13, zv 16 (.iad 3 (.t 11) (.t 13)), zv 17 (.ld true 3 (.t 16)), zi 5 (.alo [(.str []), (.int .i64 0), .nils]), zm 4 15, zn (.st 3 (.agg [.id, .id, (.sl 3)]) (.t 5) (.t 17))]
def qbkk : IC := zr [zm 18 3, zm 19 4, zv 20 (.ld true 3 (.t 5)), zi 21 (.call (.c (.fn 57 [] [])) [((.t 20), (.agg [.id, .id, (.sl 3)]))]), zv 22 (.iad 3 (.t 18) (.t 19)), zn (.st 3 (.agg [.id, .id, (.sl 3)]) (.t 22) (.t 21))]
def qbl4 : IC := zr [zv 23 (.bin .add .no (.t 13) (zc 1)), zm 13 23]
def qbou : IC := (.seq qbm7 (.seq (.cond (.t 14) .skip (.exit 0)) (.seq (.block 1 (.seq qbix qbkk)) qbl4)))
def qbhq : IC := zr [zm 24 3, zv 25 (.fad (.t 1) 2), zn (.st 1 (.sl 3) (.t 25) (.t 24))]
def q70 : IC := zr [zv 26 (.ld true 3 (.t 1)), zn (.st 3 (.agg [.id, .id, (.sl 3)]) (.t 2) (.t 26))]
def k0t : IC := (.seq qbo9 (.seq qbk3 (.seq (.seq qbkn (.block 0 (.loop qbou))) (.seq qbhq (.seq q70 .ret)))))
@[go_sem] def s0t : List (RV × Co) := [(.c true 3 2, (.agg [.id, .id, (.sl 3)]))]
theorem c0t : cFun Tryz.prog 57 = some (27, k0t, s0t) := by kernel_rfl

def qbjr : IC := zr [zi 3 (.box (.t 1)), zi 4 (.alo [(.str []), (.int .i64 0), .nils]), zv 5 (.mov (zc 0))]
def qbpq : IC := zr [zv 8 (.ld true 3 (.t 3)), zi 9 (.call (.c (.fn 47 [] [])) [((.t 8), (.agg [.id, .id, (.sl 3)]))]), zv 10 (.un .not (.t 9))]
def qbhx : IC := zr [zv 11 (.bld [(.str []), (.int .i64 0), .nils] []), zn (.st 3 (.agg [.id, .id, (.sl 3)]) (.t 4) (.t 11)), zv 5 (.mov (zc 1))]
def qbnv : IC := zr [zm 12 0, zv 13 (.bld [.nilp, (.int .i64 0)] [(0, 1, (.t 12)), (1, 1, (zc 4096))]), zi 14 (.box (.t 13)), zm 6 14]
def qbip : IC := zr [zm 15 6, zv 16 (.ld true 3 (.t 3)), zi 17 (.call (.c (.fn 87 [] [])) [((.t 15), .id), ((.t 16), (.agg [.id, .id, (.sl 3)])), ((zc 1), .id)]), zi 7 (.alo [(.str []), (.int .i64 0), .nils]), zn (.st 3 (.agg [.id, .id, (.sl 3)]) (.t 7) (.t 17))]
def qbpk : IC := zr [zm 18 6, zv 19 (.nck (.t 18)), zv 20 (.fad (.t 19) 1), zv 21 (.ld false 1 (.t 20)), zv 22 (.bin .lss .no (.t 21) (zc 0))]
def qbot : IC := zr [zv 23 (.bld [(.str []), (.int .i64 0), .nils] []), zn (.st 3 (.agg [.id, .id, (.sl 3)]) (.t 4) (.t 23)), zv 5 (.mov (zc 2))]
def qboz : IC := zr [zv 24 (.ld true 3 (.t 7)), zn (.st 3 (.agg [.id, .id, (.sl 3)]) (.t 4) (.t 24)), zv 5 (.mov (zc 0))]
def k0l : IC := (.seq qbjr (.seq (.seq qbpq (.cond (.t 10) (.seq qbhx .ret) .skip)) (.seq qbnv (.seq qbip (.seq (.seq qbpk (.cond (.t 22) (.seq qbot .ret) .skip)) (.seq qboz .ret))))))
@[go_sem] def s0l : List (RV × Co) := [(.c true 3 4, (.agg [.id, .id, (.sl 3)])), (.t 5, .id)]
theorem c0l : cFun Tryz.prog 58 = some (25, k0l, s0l) := by kernel_rfl

def qbho : IC := zr [zi 5 (.box (.t 2)), zv 6 (.mov (.c .nils)), zv 7 (.mov (zc 0))]
def qbju : IC := zr [zv 11 (.ld true 3 (.t 5)), zi 12 (.call (.c (.fn 20 [] [])) [((.t 11), (.agg [.id, .id, (.sl 3)]))]), zv 13 (.un .not (.t 12))]
def qboo : IC := zr [zm 14 0, zm 6 14, zv 7 (.mov (zc 1))]
def qbjq : IC := zr [zm 16 0, zm 17 1, zi 18 (.call (.c (.fn 88 [] [])) [((.t 16), (.sl 4)), ((.t 17), .id)]), zm 15 18, zv 19 (.ext (.t 15) 0), zv 20 (.ext (.t 15) 1), zi 8 (.alo [(.str []), (.int .i64 0), .nils]), zn (.st 3 (.agg [.id, .id, (.sl 3)]) (.t 8) (.t 19)), zm 9 20]
def qbmo : IC := zr [zm 21 9]
def qbkz : IC := zr [zm 22 0, zm 6 22, zv 7 (.mov (zc 6))]
def qble : IC := zr [zv 10 (.mov (zc 0))]
def qbj4 : IC := zr [zm 23 10, zm 24 0, zv 25 (.len false (.t 24)), zv 26 (.bin .lss .no (.t 23) (.t 25)), zm 27 26, zw 27 true 28 (.mov (.t 0)), zw 27 true 29 (.mov (.t 10)), zw 27 true 30 (.iad 4 (.t 28) (.t 29)), zw 27 true 31 (.fad (.t 30) 0), zw 27 true 32 (.ld false 1 (.t 31)), zw 27 true 33 (.mov (.t 1)), zw 27 true 34 (.bin .lss .no (.t 32) (.t 33)), zv 35 (.pick (.t 27) (.t 34) (.c (.bool false)))]
def qbk6 : IC := zr [zm 36 10, zv 37 (.bin .add .no (.t 36) (zc 1)), zm 10 37]
def qbop : IC := (.seq (.seq qbj4 (.cond (.t 35) .skip (.exit 0))) (.block 1 qbk6))
def qbap : IC := .drw [zp (zm 38 0), zp (zm 39 10), zp (zv 40 (.slv 4 (.t 38) none (some (.t 39)) none)), (zi 41 (.app 4 (.agg [(.int .i64 0), (.str []), (.int .i64 0), .nils]) 56 (.sl 4) (.c .nils) (.t 40)), []), zp (zm 42 1), (zv 43 (.ld true 3 (.t 5)), [3]), (zv 44 (.bld [(.int .i64 0), (.str []), (.int .i64 0), .nils] [(0, 1, (.t 42)), (1, 3, (.t 43))]), []), (zv 45 (.bsl 4 [((.t 44), (.agg [.id, .id, .id, (.sl 3)]))]), [3]), (zi 46 (.app 4 (.agg [(.int .i64 0), (.str []), (.int .i64 0), .nils]) 56 (.sl 4) (.t 41) (.t 45)), []), zp (zm 47 0), zp (zm 48 10), (zv 49 (.slv 4 (.t 47) (some (.t 48)) none none), [3, 8]), (zi 50 (.app 4 (.agg [(.int .i64 0), (.str []), (.int .i64 0), .nils]) 56 (.sl 4) (.t 46) (.t 49)), []), zp (zm 6 50), zp (zv 7 (.mov (zc 0)))]
def k0v : IC := (.seq qbho (.seq (.seq qbju (.cond (.t 13) (.seq qboo .ret) .skip)) (.seq (.seq qbjq (.seq qbmo (.cond (.t 21) (.seq qbkz .ret) .skip))) (.seq qble (.seq (.block 0 (.loop qbop)) (.seq qbap .ret))))))
@[go_sem] def s0v : List (RV × Co) := [(.t 6, (.sl 4)), (.t 7, .id)]
theorem c0v : cFun Tryz.prog 59 = some (51, k0v, s0v) := by kernel_rfl

def qbpp : IC := zr [zv 4 (.mov (.c .nils)), zv 5 (.mov (zc 0))]
def qbk8 : IC := zr [zv 6 (.mov (.c .nils))]
def qbik : IC := zr [zv 7 (.mov (zc 0))]
def qbmc : IC := zr [zm 10 7, zm 11 1, zv 12 (.len false (.t 11)), zv 13 (.bin .lss .no (.t 10) (.t 12))]
def qbpn : IC := zr [zm 17 0, zm 18 1, zm 19 7, zv 20 (.iad 4 (.t 18) (.t 19)), zv 21 (.fad (.t 20) 1), zv 22 (.ld true 3 (.t 21)), zi 23 (.call (.c (.fn 89 [] [])) [((.t 17), (.sl 4)), ((.t 22), (.agg [.id, .id, (.sl 3)]))]), zm 16 23, zv 24 (.ext (.t 16) 0), zv 25 (.ext (.t 16) 1), zi 8 (.alo [(.str []), (.int .i64 0), .nils]), zn (.st 3 (.agg [.id, .id, (.sl 3)]) (.t 8) (.t 24)), zm 9 25]
def qblu : IC := zr [zm 26 9, zv 27 (.bin .neq .no (.t 26) (zc 0))]
def qbiu : IC := zr [zm 28 9, zv 4 (.mov (.c .nils)), zm 5 28]
def qbnu : IC := .drw [zp (zm 29 6), zp (zm 30 1), zp (zm 31 7), zp (zv 32 (.iad 4 (.t 30) (.t 31))), zp (zv 33 (.fad (.t 32) 0)), zp (zv 34 (.ld false 1 (.t 33))), zp (zv 35 (.ld true 3 (.t 8))), (zv 36 (.bld [(.str []), (.str []), (.int .i64 0), .nils] [(0, 1, (.t 34)), (1, 3, (.t 35))]), []), (zv 37 (.bsl 4 [((.t 36), (.agg [.id, .id, .id, (.sl 3)]))]), []), (zi 38 (.app 4 (.agg [(.str []), (.str []), (.int .i64 0), .nils]) 64 (.sl 4) (.t 29) (.t 37)), []), zp (zm 6 38)]
def qbly : IC := zr [zm 14 7, zv 15 (.bin .add .no (.t 14) (zc 1)), zm 7 15]
def qbn7 : IC := (.seq (.seq qbmc (.cond (.t 13) .skip (.exit 0))) (.seq (.block 1 (.seq qbpn (.seq (.seq qblu (.cond (.t 27) (.seq qbiu .ret) .skip)) qbnu))) qbly))
def qbcv : IC := zr [zm 39 6, zm 4 39, zv 5 (.mov (zc 0))]
def k0j : IC := (.seq qbpp (.seq qbk8 (.seq (.seq qbik (.block 0 (.loop qbn7))) (.seq qbcv .ret))))
@[go_sem] def s0j : List (RV × Co) := [(.t 4, (.sl 4)), (.t 5, .id)]
theorem c0j : cFun Tryz.prog 60 = some (40, k0j, s0j) := by kernel_rfl

def q48 : IC := zr [zi 2 (.box (.t 0)), zi 3 (.box (.t 1)), zv 4 zf]
def qbcy : IC := zr [zv 6 (.fad (.t 2) 0), zv 7 (.ld false 1 (.t 6)), zv 8 (.fad (.t 3) 0), zv 9 (.ld false 1 (.t 8)), zv 10 (.bin .neq .no (.t 7) (.t 9)), zm 11 10, zw 11 false 12 (.fad (.t 2) 1), zw 11 false 13 (.ld false 1 (.t 12)), zw 11 false 14 (.fad (.t 3) 1), zw 11 false 15 (.ld false 1 (.t 14)), zw 11 false 16 (.bin .neq .no (.t 13) (.t 15)), zv 17 (.pick (.t 11) (.c (.bool true)) (.t 16)), zm 18 17, zw 18 false 19 (.fad (.t 2) 2), zw 18 false 20 (.ld false 1 (.t 19)), zw 18 false 21 (.len false (.t 20)), zw 18 false 22 (.fad (.t 3) 2), zw 18 false 23 (.ld false 1 (.t 22)), zw 18 false 24 (.len false (.t 23)), zw 18 false 25 (.bin .neq .no (.t 21) (.t 24)), zv 26 (.pick (.t 18) (.c (.bool true)) (.t 25))]
def q4l : IC := zr [zv 4 zf]
def qbc1 : IC := zr [zv 5 (.mov (zc 0))]
def q4w : IC := zr [zm 27 5, zv 28 (.fad (.t 2) 2), zv 29 (.ld false 1 (.t 28)), zv 30 (.len false (.t 29)), zv 31 (.bin .lss .no (.t 27) (.t 30))]
def q6h : IC := .drw [zp (zv 34 (.fad (.t 2) 2)), zp (zv 35 (.ld false 1 (.t 34))), zp (zm 36 5), zp (zv 37 (.iad 3 (.t 35) (.t 36))), zp (zv 38 (.ld true 3 (.t 37))), zp (zv 39 (.fad (.t 3) 2)), zp (zv 40 (.ld false 1 (.t 39))), zp (zm 41 5), zp (zv 42 (.iad 3 (.t 40) (.t 41))), zp (zv 43 (.ld true 3 (.t 42))), (zi 44 (.call (.c (.fn 61 [] [])) [((.t 38), (.agg [.id, .id, (.sl 3)])), ((.t 43), (.agg [.id, .id, (.sl 3)]))]), []), zp (zv 45 (.un .not (.t 44)))]
def q52 : IC := zr [zv 4 zf]
def q8d : IC := zr [zm 32 5, zv 33 (.bin .add .no (.t 32) (zc 1)), zm 5 33]
def q4p : IC := (.seq (.seq q4w (.cond (.t 31) .skip (.exit 0))) (.seq (.block 1 (.seq q6h (.cond (.t 45) (.seq q52 .ret) .skip))) q8d))
def q19 : IC := zr [zv 4 (.mov (.c (.bool true)))]
def k0bo : IC := (.seq q48 (.seq (.seq qbcy (.cond (.t 26) (.seq q4l .ret) .skip)) (.seq (.seq qbc1 (.block 0 (.loop q4p))) (.seq q19 .ret))))
@[go_sem] def s0bo : List (RV × Co) := [(.t 4, .id)]
theorem c0bo : cFun Tryz.prog 61 = some (46, k0bo, s0bo) := by kernel_rfl

def qbgi : IC := zr [zv 2 zf]
def qbgg : IC := zr [zm 5 0, zv 6 (.bin .eql .no (.t 5) (.c (.str []))), zm 7 6, zw 7 false 8 (.mov (.t 0)), zw 7 false 9 (.idx (.t 8) (zc 0)), zw 7 false 10 (.bin .neq .no (.t 9) (.c (.int .u8 33))), zv 11 (.pick (.t 7) (.c (.bool true)) (.t 10))]
def qbfn : IC := zr [zv 2 zf]
def q9j : IC := zr [zm 13 0, zv 14 (.sls (.t 13) (some (zc 1)) none), zi 15 (.call (.c (.fn 90 [] [])) [((.t 14), .id)]), zm 12 15, zv 16 (.ext (.t 12) 0), zv 17 (.ext (.t 12) 1), zm 3 16, zm 4 17]
def q6s : IC := .drw [zp (zm 18 4), zp (zv 19 (.bin .eql .no (.t 18) (zc 0))), zp (zm 20 19), zp (zw 20 true 21 (.mov (.t 3))), (⟨some (20, true), some 22, .call (.c (.fn 82 [] [])) [((.t 21), .id)]⟩, []), zp (zw 20 true 23 (.mov (.t 0))), zp (zw 20 true 24 (.sls (.t 23) (some (zc 1)) none)), zp (zw 20 true 25 (.bin .eql .no (.t 22) (.t 24))), zp (zv 26 (.pick (.t 20) (.t 25) (.c (.bool false)))), zp (zm 2 26)]
def k0bq : IC := (.seq qbgi (.seq (.seq qbgg (.cond (.t 11) (.seq qbfn .ret) .skip)) (.seq q9j (.seq q6s .ret))))
@[go_sem] def s0bq : List (RV × Co) := [(.t 2, .id)]
theorem c0bq : cFun Tryz.prog 62 = some (27, k0bq, s0bq) := by kernel_rfl

def qbby : IC := zr [zv 1 (.ld false 1 (.t 0)), zv 2 (.nck (.t 1)), zv 3 (.fad (.t 2) 1), zv 4 (.ld false 1 (.t 3)), zv 5 (.bin .sub .no (.t 4) (zc 1)), zv 6 (.nck (.t 1)), zv 7 (.fad (.t 6) 1), zn (.st 1 .id (.t 7) (.t 5))]
def k0cw : IC := qbby
@[go_sem] def s0cw : List (RV × Co) := []
theorem c0cw : cFun Tryz.prog 64 = some (8, k0cw, s0cw) := by kernel_rfl

def q7q : IC := zr [zi 2 (.alo [(.str []), (.int .i64 0), .nils])]
def q9b : IC := zr [zm 6 0, zi 7 (.call (.c (.fn 67 [] [])) [((.t 6), .id), ((.c (.str [40])), .id)])]
def q9v : IC := zr [zm 8 0, zi 9 (.call (.c (.fn 42 [] [])) [((.t 8), .id)]), zi 3 (.alo [(.str []), (.int .i64 0), .nils]), zn (.st 3 (.agg [.id, .id, (.sl 3)]) (.t 3) (.t 9))]
def q3p : IC := zr [zm 10 0, zm 11 0, zv 12 (.nck (.t 11)), zv 13 (.fad (.t 12) 2), zv 14 (.ld false 1 (.t 13)), zm 15 14, zw 15 false 16 (.mov (.t 0)), ⟨some (15, false), some 17, .call (.c (.fn 67 [] [])) [((.t 16), .id), ((.c (.str [41])), .id)]⟩, zw 15 false 18 (.un .not (.t 17)), zv 19 (.pick (.t 15) (.c (.bool true)) (.t 18)), zv 20 (.nck (.t 10)), zv 21 (.fad (.t 20) 2), zn (.st 1 .id (.t 21) (.t 19))]
def qbbg : IC := zr [zv 22 (.ld true 3 (.t 3)), zn (.st 3 (.agg [.id, .id, (.sl 3)]) (.t 2) (.t 22))]
def qbe7 : IC := zr [zm 23 0, zv 24 (.nck (.t 23)), zv 25 (.fad (.t 24) 0), zv 26 (.ld false 1 (.t 25)), zi 27 (.call (.c (.fn 95 [] [])) [((.t 26), .id), ((.c (.str [32, 40, 41])), .id)]), zm 4 27]
def q80 : IC := zr [zm 28 4, zv 29 (.bin .lss .no (.t 28) (zc 0))]
def q7c : IC := zr [zm 30 0, zv 31 (.nck (.t 30)), zv 32 (.fad (.t 31) 0), zv 33 (.ld false 1 (.t 32)), zv 34 (.len true (.t 33)), zm 4 34]
def q5p : IC := zr [zm 35 0, zv 36 (.nck (.t 35)), zv 37 (.fad (.t 36) 0), zv 38 (.ld false 1 (.t 37)), zm 39 4, zv 40 (.sls (.t 38) none (some (.t 39))), zi 41 (.call (.c (.fn 96 [] [])) [((.t 40), .id)]), zi 5 (.alo [(.str []), (.int .i64 0), .nils]), zn (.st 3 (.agg [.id, .id, (.sl 3)]) (.t 5) (.t 41))]
def qben : IC := .drw [zp (zm 42 0), zp (zm 43 0), zp (zm 44 0), zp (zv 45 (.nck (.t 44))), zp (zv 46 (.fad (.t 45) 0)), zp (zv 47 (.ld false 1 (.t 46))), zp (zm 48 4), zp (zv 49 (.sls (.t 47) (some (.t 48)) none)), zp (zm 50 0), zp (zv 51 (.nck (.t 50))), zp (zv 52 (.fad (.t 51) 2)), zp (zv 53 (.ld false 1 (.t 52))), zp (zm 54 53), zp (zw 54 false 55 (.mov (.t 4))), zp (zw 54 false 56 (.bin .eql .no (.t 55) (zc 0))), zp (zv 57 (.pick (.t 54) (.c (.bool true)) (.t 56))), zp (zv 58 (.nck (.t 42))), zp (zv 59 (.fad (.t 58) 0)), (zn (.st 1 .id (.t 59) (.t 49)), []), zp (zv 60 (.nck (.t 43))), zp (zv 61 (.fad (.t 60) 2)), (zn (.st 1 .id (.t 61) (.t 57)), [])]
def q1x : IC := zr [zv 62 (.ld true 3 (.t 5)), zn (.st 3 (.agg [.id, .id, (.sl 3)]) (.t 2) (.t 62))]
def k0cx : IC := (.seq q7q (.seq (.seq q9b (.cond (.t 7) (.seq q9v (.seq q3p (.seq qbbg .ret))) .skip)) (.seq qbe7 (.seq (.seq q80 (.cond (.t 29) q7c .skip)) (.seq q5p (.seq qben (.seq q1x .ret)))))))
@[go_sem] def s0cx : List (RV × Co) := [(.c true 3 2, (.agg [.id, .id, (.sl 3)]))]
theorem c0cx : cFun Tryz.prog 65 = some (63, k0cx, s0cx) := by kernel_rfl

def qba9 : IC := zr [zv 4 zf]
def qbda : IC := zr [zm 5 0, zm 6 1, zi 7 (.call (.c (.fn 97 [] [])) [((.t 5), .id), ((.t 6), .id)]), zm 4 7]
def k0bu : IC := (.seq qba9 (.seq qbda .ret))
@[go_sem] def s0bu : List (RV × Co) := [(.t 4, .id)]
theorem c0bu : cFun Tryz.prog 66 = some (8, k0bu, s0bu) := by kernel_rfl

def qbal : IC := zr [zv 4 zf]
def qbfg : IC := zr [zm 6 0, zv 7 (.nck (.t 6)), zv 8 (.fad (.t 7) 0), zv 9 (.ld false 1 (.t 8)), zm 10 1, zi 11 (.call (.c (.fn 66 [] [])) [((.t 9), .id), ((.t 10), .id)]), zm 5 11]
def qbc7 : IC := zr [zm 12 5]
def qbbc : IC := zr [zm 13 0, zm 14 0, zv 15 (.nck (.t 14)), zv 16 (.fad (.t 15) 0), zv 17 (.ld false 1 (.t 16)), zm 18 1, zv 19 (.len true (.t 18)), zv 20 (.sls (.t 17) (some (.t 19)) none), zv 21 (.nck (.t 13)), zv 22 (.fad (.t 21) 0), zn (.st 1 .id (.t 22) (.t 20))]
def q7w : IC := zr [zm 23 5, zm 4 23]
def k0da : IC := (.seq qbal (.seq qbfg (.seq (.seq qbc7 (.cond (.t 12) qbbc .skip)) (.seq q7w .ret))))
@[go_sem] def s0da : List (RV × Co) := [(.t 4, .id)]
theorem c0da : cFun Tryz.prog 67 = some (24, k0da, s0da) := by kernel_rfl

def qban : IC := zr [zv 2 (.mov (.c .nils))]
def qbec : IC := zr [zm 3 0, zv 4 (.bin .eql .slice (.t 3) (.c .nils))]
def q32 : IC := zr [zv 2 (.mov (.c .nils))]
def qbgf : IC := zr [zv 5 (.bsl 3 []), zm 6 0, zi 7 (.app 3 (.agg [(.str []), (.int .i64 0), .nils]) 48 (.sl 3) (.t 5) (.t 6)), zm 2 7]
def k0cz : IC := (.seq qban (.seq (.seq qbec (.cond (.t 4) (.seq q32 .ret) .skip)) (.seq qbgf .ret)))
@[go_sem] def s0cz : List (RV × Co) := [(.t 2, (.sl 3))]
theorem c0cz : cFun Tryz.prog 68 = some (8, k0cz, s0cz) := by kernel_rfl

def q94 : IC := zr [zv 2 zf]
def q8n : IC := zr [zm 3 0, zv 4 (.bin .geq .no (.t 3) (.c (.int .u8 97))), zm 5 4, zw 5 true 6 (.mov (.t 0)), zw 5 true 7 (.bin .leq .no (.t 6) (.c (.int .u8 122))), zv 8 (.pick (.t 5) (.t 7) (.c (.bool false))), zm 9 8, zw 9 false 10 (.mov (.t 0)), zw 9 false 11 (.bin .eql .no (.t 10) (.c (.int .u8 95))), zv 12 (.pick (.t 9) (.c (.bool true)) (.t 11)), zm 2 12]
def k0bx : IC := (.seq q94 (.seq q8n .ret))
@[go_sem] def s0bx : List (RV × Co) := [(.t 2, .id)]
theorem c0bx : cFun Tryz.prog 69 = some (13, k0bx, s0bx) := by kernel_rfl

def q8u : IC := zr [zv 2 zf]
def qbgs : IC := zr [zm 3 0, zi 4 (.call (.c (.fn 98 [] [])) [((.t 3), .id)]), zm 5 4, zw 5 false 6 (.mov (.t 0)), ⟨some (5, false), some 7, .call (.c (.fn 45 [] [])) [((.t 6), .id)]⟩, zv 8 (.pick (.t 5) (.c (.bool true)) (.t 7)), zm 9 8, zw 9 false 10 (.mov (.t 0)), ⟨some (9, false), some 11, .call (.c (.fn 99 [] [])) [((.t 10), .id)]⟩, zv 12 (.pick (.t 9) (.c (.bool true)) (.t 11)), zm 13 12, zw 13 false 14 (.mov (.t 0)), zw 13 false 15 (.bin .eql .no (.t 14) (.c (.int .u8 39))), zv 16 (.pick (.t 13) (.c (.bool true)) (.t 15)), zm 2 16]
def k0cc : IC := (.seq q8u (.seq qbgs .ret))
@[go_sem] def s0cc : List (RV × Co) := [(.t 2, .id)]
theorem c0cc : cFun Tryz.prog 70 = some (17, k0cc, s0cc) := by kernel_rfl

def qbd3 : IC := zr [zi 3 (.box (.t 0)), zv 6 zf]
def q5w : IC := zr [zm 9 2, zv 10 (.ld true 3 (.t 3)), zm 11 1, zi 12 (.call (.t 9) [((.t 10), (.agg [.id, .id, (.sl 3)])), ((.t 11), .id)]), zv 13 (.un .not (.t 12))]
def qbg2 : IC := zr [zv 6 zf]
def q43 : IC := zr [zv 14 (.fad (.t 3) 2), zv 15 (.ld false 1 (.t 14)), zv 16 (.len false (.t 15)), zv 17 (.mov (zc 0))]
def qbgj : IC := zr [zv 18 (.bin .lss .no (.t 17) (.t 16))]
def q49 : IC := zr [zv 19 (.iad 3 (.t 15) (.t 17)), zv 20 (.ld true 3 (.t 19)), zi 8 (.alo [(.str []), (.int .i64 0), .nils]), zn (.st 3 (.agg [.id, .id, (.sl 3)]) (.t 8) (.t 20))]
def qbew : IC := zr [zv 21 (.ld true 3 (.t 8)), zm 22 1, zv 23 (.bin .add .no (.t 22) (zc 1)), zm 24 2, zi 25 (.call (.c (.fn 71 [] [])) [((.t 21), (.agg [.id, .id, (.sl 3)])), ((.t 23), .id), ((.t 24), .id)]), zv 26 (.un .not (.t 25))]
def q3t : IC := zr [zv 6 zf]
def q3z : IC := zr [zv 27 (.bin .add .no (.t 17) (zc 1)), zm 17 27]
def qbag : IC := (.seq qbgj (.seq (.cond (.t 18) .skip (.exit 0)) (.seq (.block 1 (.seq q49 (.seq qbew (.cond (.t 26) (.seq q3t .ret) .skip)))) q3z)))
def qzb : IC := zr [zv 6 (.mov (.c (.bool true)))]
def k0bs : IC := (.seq qbd3 (.seq (.seq q5w (.cond (.t 13) (.seq qbg2 .ret) .skip)) (.seq (.seq q43 (.block 0 (.loop qbag))) (.seq qzb .ret))))
@[go_sem] def s0bs : List (RV × Co) := [(.t 6, .id)]
theorem c0bs : cFun Tryz.prog 71 = some (28, k0bs, s0bs) := by kernel_rfl

def q9q : IC := zr [zi 3 (.box (.t 0)), zv 5 zf]
def q6x : IC := zr [zv 6 (.ld false 1 (.t 2)), zv 7 (.bin .add .no (.t 6) (zc 1)), zn (.st 1 .id (.t 2) (.t 7))]
def qbgk : IC := zr [zv 8 (.ld false 1 (.t 2)), zv 9 (.bin .leq .no (.t 8) (zc 4096)), zm 10 9, zw 10 true 11 (.mov (.t 1)), zw 10 true 12 (.bin .leq .no (.t 11) (zc 100)), zv 13 (.pick (.t 10) (.t 12) (.c (.bool false))), zm 14 13, zw 14 true 15 (.ld true 3 (.t 3)), ⟨some (14, true), some 16, .call (.c (.fn 73 [] [])) [((.t 15), (.agg [.id, .id, (.sl 3)]))]⟩, ⟨some (14, true), some 17, .call (.c (.fn 74 [] [])) [((.t 16), .id)]⟩, zv 18 (.pick (.t 14) (.t 17) (.c (.bool false))), zm 5 18]
def k0ba : IC := (.seq q9q (.seq q6x (.seq qbgk .ret)))
@[go_sem] def s0ba : List (RV × Co) := [(.t 5, .id)]
theorem c0ba : cFun Tryz.prog 72 = some (19, k0ba, s0ba) := by kernel_rfl

def q9x : IC := zr [zi 1 (.box (.t 0)), zi 2 (.alo [(.str []), (.int .i64 0), (.int .i64 0)])]
def q93 : IC := zr [zv 3 (.fad (.t 1) 0), zv 4 (.ld false 1 (.t 3)), zv 5 (.fad (.t 1) 1), zv 6 (.ld false 1 (.t 5)), zv 7 (.fad (.t 1) 2), zv 8 (.ld false 1 (.t 7)), zv 9 (.len false (.t 8)), zv 10 (.bld [(.str []), (.int .i64 0), (.int .i64 0)] [(0, 1, (.t 4)), (1, 1, (.t 6)), (2, 1, (.t 9))]), zn (.st 3 .id (.t 2) (.t 10))]
def k0bm : IC := (.seq q9x (.seq q93 .ret))
@[go_sem] def s0bm : List (RV × Co) := [(.c true 3 2, .id)]
theorem c0bm : cFun Tryz.prog 73 = some (11, k0bm, s0bm) := by kernel_rfl

def qbbv : IC := zr [zi 1 (.box (.t 0)), zv 2 zf]
def qba0 : IC := zr [zv 4 (.fad (.t 1) 0), zv 5 (.ld false 1 (.t 4)), zv 6 (.bin .eql .no (.t 5) (.c (.str []))), zm 3 6]
def qbeg : IC := zr [zv 7 (.fad (.t 1) 2), zv 8 (.ld false 1 (.t 7)), zv 9 (.bin .eql .no (.t 8) (zc 0)), zm 2 9]
def q6l : IC := zr [zv 11 (.fad (.t 1) 0), zv 12 (.ld false 1 (.t 11)), zv 13 (.bin .eql .no (.t 12) (.c (.str [45, 62]))), zm 10 13]
def q4j : IC := zr [zv 14 (.ld true 3 (.t 1)), zv 15 (.bld [(.str []), (.int .i64 0), (.int .i64 0)] [(0, 1, (.c (.str [45, 62]))), (1, 1, (zc 0)), (2, 1, (zc 2))]), zv 16 (.bin .eql (.cells [.str, (.int .i64), (.int .i64)]) (.t 14) (.t 15)), zm 2 16]
def qbb6 : IC := zr [zv 18 (.fad (.t 1) 0), zv 19 (.ld false 1 (.t 18)), zi 20 (.call (.c (.fn 100 [] [])) [((.t 19), .id)]), zm 17 20]
def qbci : IC := zr [zv 21 (.ld true 3 (.t 1)), zv 22 (.fad (.t 1) 0), zv 23 (.ld false 1 (.t 22)), zv 24 (.bld [(.str []), (.int .i64 0), (.int .i64 0)] [(0, 1, (.t 23))]), zv 25 (.bin .eql (.cells [.str, (.int .i64), (.int .i64)]) (.t 21) (.t 24)), zm 2 25]
def q9r : IC := zr [zv 26 (.fad (.t 1) 1), zv 27 (.ld false 1 (.t 26)), zv 28 (.bin .eql .no (.t 27) (zc 0)), zm 29 28, zw 29 true 30 (.fad (.t 1) 0), zw 29 true 31 (.ld false 1 (.t 30)), ⟨some (29, true), some 32, .call (.c (.fn 25 [] [])) [((.t 31), .id)]⟩, zv 33 (.pick (.t 29) (.t 32) (.c (.bool false))), zm 2 33]
def k0br : IC := (.seq qbbv (.seq (.block 0 (.seq qba0 (.cond (.t 3) (.seq qbeg .ret) (.seq q6l (.cond (.t 10) (.seq q4j .ret) (.seq qbb6 (.cond (.t 17) (.seq qbci .ret) .skip))))))) (.seq q9r .ret)))
@[go_sem] def s0br : List (RV × Co) := [(.t 2, .id)]
theorem c0br : cFun Tryz.prog 74 = some (34, k0br, s0br) := by kernel_rfl

def qblf : IC := zr [zi 2 (.box (.t 0)), zv 4 (.mov (.c (.str [])))]
def qbn2 : IC := zr [zm 5 1]
def qboe : IC := zr [zv 6 (.ld true 3 (.t 2)), zi 7 (.call (.c (.fn 48 [] [])) [((.t 6), (.agg [.id, .id, (.sl 3)]))]), zv 8 (.bin .add .no (.c (.str [40])) (.t 7)), zv 9 (.bin .add .no (.t 8) (.c (.str [41]))), zm 4 9]
def qbkg : IC := zr [zv 10 (.ld true 3 (.t 2)), zi 11 (.call (.c (.fn 48 [] [])) [((.t 10), (.agg [.id, .id, (.sl 3)]))]), zm 4 11]
def k0x : IC := (.seq qblf (.seq (.seq qbn2 (.cond (.t 5) (.seq qboe .ret) .skip)) (.seq qbkg .ret)))
@[go_sem] def s0x : List (RV × Co) := [(.t 4, .id)]
theorem c0x : cFun Tryz.prog 75 = some (12, k0x, s0x) := by kernel_rfl

def qbne : IC := zr [zi 1 (.box (.t 0)), zv 2 (.mov (.c (.str [])))]
def qbm4 : IC := zr [zv 4 (.fad (.t 1) 0), zv 5 (.ld false 1 (.t 4)), zv 6 (.bin .neq .no (.t 5) (.c (.str []))), zm 3 6]
def qbm5 : IC := zr [zv 7 (.fad (.t 1) 0), zv 8 (.ld false 1 (.t 7)), zm 2 8]
def qbjf : IC := zr [zv 10 (.fad (.t 1) 1), zv 11 (.ld false 1 (.t 10)), zv 12 (.bin .geq .no (.t 11) (zc 0)), zm 9 12]
def qblm : IC := zr [zv 13 (.fad (.t 1) 1), zv 14 (.ld false 1 (.t 13)), zi 15 (.call (.c (.fn 102 [] [])) [((.t 14), .id)]), zm 2 15]
def qbms : IC := zr [zv 16 (.fad (.t 1) 1), zv 17 (.ld false 1 (.t 16)), zv 18 (.bin .sub .no (zc (-1)) (.t 17)), zi 19 (.call (.c (.fn 103 [] [])) [((.t 18), .id)]), zv 20 (.bin .add .no (.c (.str [63])) (.t 19)), zm 2 20]
def k0w : IC := (.seq qbne (.seq (.block 0 (.seq qbm4 (.cond (.t 3) (.seq qbm5 .ret) (.seq qbjf (.cond (.t 9) (.seq qblm .ret) .skip))))) (.seq qbms .ret)))
@[go_sem] def s0w : List (RV × Co) := [(.t 2, .id)]
theorem c0w : cFun Tryz.prog 77 = some (21, k0w, s0w) := by kernel_rfl

def qbge : IC := zr [zv 2 (.mov (.c (.str [])))]
def qbbk : IC := zr [zm 5 0, zi 6 (.call (.c (.fn 105 [] [])) [((.t 5), .id)]), zm 3 6]
def q4r : IC := zr [zv 4 (.mov (.c (.str [])))]
def qbf6 : IC := zr [zm 7 3, zv 8 (.bin .gtr .no (.t 7) (.c (.int .u64 9)))]
def qbeq : IC := zr [zm 9 3, zv 10 (.bin .rem .no (.t 9) (.c (.int .u64 10))), zv 11 (.bin .add .no (.c (.int .u64 48)) (.t 10)), zv 12 (.cvi .u8 (.t 11)), zv 13 (.bsl 1 [((.t 12), .id)]), zv 14 (.cbs (.t 13)), zm 15 4, zv 16 (.bin .add .no (.t 14) (.t 15)), zm 4 16]
def q7n : IC := zr [zm 17 3, zv 18 (.bin .quo .no (.t 17) (.c (.int .u64 10))), zm 3 18]
def qbgo : IC := (.seq (.seq qbf6 (.cond (.t 8) .skip (.exit 0))) (.block 1 (.seq qbeq q7n)))
def q8v : IC := zr [zm 19 3, zv 20 (.bin .add .no (.c (.int .u64 48)) (.t 19)), zv 21 (.cvi .u8 (.t 20)), zv 22 (.bsl 1 [((.t 21), .id)]), zv 23 (.cbs (.t 22)), zm 24 4, zv 25 (.bin .add .no (.t 23) (.t 24)), zm 4 25]
def q77 : IC := zr [zm 26 0, zv 27 (.bin .lss .no (.t 26) (zc 0))]
def qzw : IC := zr [zm 28 4, zv 29 (.bin .add .no (.c (.str [45])) (.t 28)), zm 2 29]
def q1p : IC := zr [zm 30 4, zm 2 30]
def k0ci : IC := (.seq qbge (.seq qbbk (.seq q4r (.seq (.block 0 (.loop qbgo)) (.seq q8v (.seq (.seq q77 (.cond (.t 27) (.seq qzw .ret) .skip)) (.seq q1p .ret)))))))
@[go_sem] def s0ci : List (RV × Co) := [(.t 2, .id)]
theorem c0ci : cFun Tryz.prog 82 = some (31, k0ci, s0ci) := by kernel_rfl

def qbh0 : IC := zr [zv 6 (.mov (zc 0)), zv 7 zf]
def qblq : IC := zr [zm 12 0, zv 13 (.len false (.t 12)), zm 8 13]
def qbhe : IC := zr [zm 14 8, zv 9 (.mov (zc 0)), zm 10 14]
def qbhn : IC := zr [zm 15 9, zm 16 10, zv 17 (.bin .lss .no (.t 15) (.t 16))]
def qbih : IC := zr [zm 18 9, zm 19 10, zv 20 (.bin .add .no (.t 18) (.t 19)), zv 21 (.cvi .u64 (.t 20)), zv 22 (.bin .shr .no (.t 21) (.c (.int .u64 1))), zv 23 (.cvi .i64 (.t 22)), zm 11 23]
def qbh4 : IC := zr [zm 24 2, zm 25 0, zm 26 11, zv 27 (.iad 4 (.t 25) (.t 26)), zv 28 (.ld true 4 (.t 27)), zm 29 1, zi 30 (.call (.t 24) [((.t 28), (.agg [.id, .id, .id, (.sl 3)])), ((.t 29), .id)]), zv 31 (.bin .lss .no (.t 30) (zc 0))]
def qbjd : IC := zr [zm 32 11, zv 33 (.bin .add .no (.t 32) (zc 1)), zm 9 33]
def qbn4 : IC := zr [zm 34 11, zm 10 34]
def qbl1 : IC := (.seq (.seq qbhn (.cond (.t 17) .skip (.exit 0))) (.block 1 (.seq qbih (.seq qbh4 (.cond (.t 31) qbjd qbn4)))))
def q5i : IC := zr [zm 35 9, zm 36 9, zm 37 8, zv 38 (.bin .lss .no (.t 36) (.t 37)), zm 39 38, zw 39 true 40 (.mov (.t 2)), zw 39 true 41 (.mov (.t 0)), zw 39 true 42 (.mov (.t 9)), zw 39 true 43 (.iad 4 (.t 41) (.t 42)), zw 39 true 44 (.ld true 4 (.t 43)), zw 39 true 45 (.mov (.t 1)), ⟨some (39, true), some 46, .call (.t 40) [((.t 44), (.agg [.id, .id, .id, (.sl 3)])), ((.t 45), .id)]⟩, zw 39 true 47 (.bin .eql .no (.t 46) (zc 0)), zv 48 (.pick (.t 39) (.t 47) (.c (.bool false))), zm 6 35, zm 7 48]
def k0q : IC := (.seq qbh0 (.seq qblq (.seq qbhe (.seq (.block 0 (.loop qbl1)) (.seq q5i .ret)))))
@[go_sem] def s0q : List (RV × Co) := [(.t 6, .id), (.t 7, .id)]
theorem c0q : cFun Tryz.prog 83 = some (49, k0q, s0q) := by kernel_rfl

def qbkf : IC := zr [zi 2 (.box (.t 0)), zv 4 (.mov (zc 0))]
def qbn9 : IC := zr [zv 6 (.fad (.t 2) 0), zv 7 (.ld false 1 (.t 6)), zm 8 1, zv 9 (.bin .lss .no (.t 7) (.t 8)), zm 5 9]
def qbja : IC := zr [zv 4 (.mov (zc (-1)))]
def qbo3 : IC := zr [zv 11 (.fad (.t 2) 0), zv 12 (.ld false 1 (.t 11)), zm 13 1, zv 14 (.bin .gtr .no (.t 12) (.t 13)), zm 10 14]
def qblo : IC := zr [zv 4 (.mov (zc 1))]
def qbla : IC := zr [zv 4 (.mov (zc 0))]
def k0s : IC := (.seq qbkf (.seq (.block 0 (.seq qbn9 (.cond (.t 5) (.seq qbja .ret) (.seq qbo3 (.cond (.t 10) (.seq qblo .ret) .skip))))) (.seq qbla .ret)))
@[go_sem] def s0s : List (RV × Co) := [(.t 4, .id)]
theorem c0s : cFun Tryz.prog 84 = some (15, k0s, s0s) := by kernel_rfl

def qbpm : IC := zr [zi 4 (.box (.t 1)), zi 6 (.alo [(.str []), (.int .i64 0), .nils])]
def qbm1 : IC := zr [zv 11 (.fad (.t 4) 0), zv 12 (.ld false 1 (.t 11)), zv 13 (.bin .eql .no (.t 12) (.c (.str [])))]
def qbi3 : IC := .drw [zp (zm 15 0), zp (zv 16 (.nck (.t 15))), zp (zv 17 (.fad (.t 16) 0)), zp (zv 18 (.ld false 1 (.t 17))), zp (zv 19 (.fad (.t 4) 1)), zp (zv 20 (.ld false 1 (.t 19))), (zi 21 (.call (.c (.fn 107 [] [])) [((.t 18), .id), ((.t 20), .id)]), []), zp (zm 14 21), zp (zv 22 (.ext (.t 14) 0)), zp (zv 23 (.ext (.t 14) 1)), (zi 7 (.alo [(.str []), (.int .i64 0), .nils]), [3, 5, 6]), (zn (.st 3 (.agg [.id, .id, (.sl 3)]) (.t 7) (.t 22)), []), zp (zm 8 23)]
def qbhi : IC := zr [zm 24 8]
def qbpo : IC := .drw [zp (zm 25 0), zp (zv 26 (.nck (.t 25))), zp (zv 27 (.fad (.t 26) 1)), zp (zv 28 (.ld false 1 (.t 27))), zp (zv 29 (.ld true 3 (.t 7))), (zi 30 (.call (.c (.fn 108 [] [])) [((.t 29), (.agg [.id, .id, (.sl 3)]))]), [3]), zp (zv 31 (.bin .sub .no (.t 28) (.t 30))), zp (zv 32 (.nck (.t 25))), zp (zv 33 (.fad (.t 32) 1)), (zn (.st 1 .id (.t 33) (.t 31)), [])]
def qbhj : IC := zr [zm 34 2, zv 35 (.ld true 3 (.t 7)), zi 36 (.call (.c (.fn 109 [] [])) [((.t 35), (.agg [.id, .id, (.sl 3)]))]), zv 37 (.bin .add .no (.t 34) (.t 36)), zv 38 (.bin .gtr .no (.t 37) (zc 101))]
def qbiw : IC := zr [zm 39 0, zv 40 (.nck (.t 39)), zv 41 (.fad (.t 40) 1), zn (.st 1 .id (.t 41) (zc (-1)))]
def qblk : IC := zr [zv 42 (.ld true 3 (.t 7)), zi 43 (.call (.c (.fn 57 [] [])) [((.t 42), (.agg [.id, .id, (.sl 3)]))]), zn (.st 3 (.agg [.id, .id, (.sl 3)]) (.t 6) (.t 43))]
def qbha : IC := zr [zm 44 0, zv 45 (.nck (.t 44)), zv 46 (.fad (.t 45) 1), zv 47 (.ld false 1 (.t 46)), zv 48 (.bin .sub .no (.t 47) (zc 1)), zv 49 (.nck (.t 44)), zv 50 (.fad (.t 49) 1), zn (.st 1 .id (.t 50) (.t 48))]
def qbol : IC := zr [zv 51 (.fad (.t 4) 2), zv 52 (.ld false 1 (.t 51)), zv 53 (.len false (.t 52)), zi 54 (.mks 3 (.agg [(.str []), (.int .i64 0), .nils]) 48 (.t 53) (.t 53)), zm 9 54]
def qbaj : IC := zr [zv 55 (.fad (.t 4) 2), zv 56 (.ld false 1 (.t 55)), zv 57 (.len false (.t 56)), zv 58 (.mov (zc 0))]
def qbe4 : IC := zr [zv 59 (.bin .lss .no (.t 58) (.t 57))]
def qbc2 : IC := zr [zm 60 58, zm 10 60]
def qba1 : IC := zr [zm 61 0, zv 62 (.nck (.t 61)), zv 63 (.fad (.t 62) 1), zv 64 (.ld false 1 (.t 63)), zv 65 (.bin .lss .no (.t 64) (zc 0))]
def qbdt : IC := zr [zv 66 (.ld true 3 (.t 4)), zn (.st 3 (.agg [.id, .id, (.sl 3)]) (.t 6) (.t 66))]
def q8m : IC := zr [zm 67 9, zm 68 10, zm 69 0, zv 70 (.fad (.t 4) 2), zv 71 (.ld false 1 (.t 70)), zm 72 10, zv 73 (.iad 3 (.t 71) (.t 72)), zv 74 (.ld true 3 (.t 73)), zm 75 2, zv 76 (.bin .add .no (.t 75) (zc 1)), zi 77 (.call (.c (.fn 87 [] [])) [((.t 69), .id), ((.t 74), (.agg [.id, .id, (.sl 3)])), ((.t 76), .id)]), zv 78 (.iad 3 (.t 67) (.t 68)), zn (.st 3 (.agg [.id, .id, (.sl 3)]) (.t 78) (.t 77))]
def q67 : IC := zr [zv 79 (.bin .add .no (.t 58) (zc 1)), zm 58 79]
def qbgt : IC := (.seq qbe4 (.seq (.cond (.t 59) .skip (.exit 0)) (.seq (.block 1 (.seq qbc2 (.seq (.seq qba1 (.cond (.t 65) (.seq qbdt .ret) .skip)) q8m))) q67)))
def q5b : IC := zr [zm 80 9, zv 81 (.fad (.t 4) 2), zn (.st 1 (.sl 3) (.t 81) (.t 80))]
def qbd1 : IC := zr [zv 82 (.ld true 3 (.t 4)), zn (.st 3 (.agg [.id, .id, (.sl 3)]) (.t 6) (.t 82))]
def k0n : IC := (.seq qbpm (.seq (.seq qbm1 (.cond (.t 13) (.seq qbi3 (.seq qbhi (.cond (.t 24) (.seq qbpo (.seq (.seq qbhj (.cond (.t 38) qbiw .skip)) (.seq qblk .ret))) .skip))) .skip)) (.seq qbha (.seq qbol (.seq (.seq qbaj (.block 0 (.loop qbgt))) (.seq q5b (.seq qbd1 .ret)))))))
@[go_sem] def s0n : List (RV × Co) := [(.c true 3 6, (.agg [.id, .id, (.sl 3)]))]
theorem c0n : cFun Tryz.prog 87 = some (83, k0n, s0n) := by kernel_rfl

def qbpj : IC := zr [zi 4 (.alo [(.str []), (.int .i64 0), .nils]), zv 5 zf]
def qbh5 : IC := zr [zv 6 (.mov (zc 0))]
def qbk2 : IC := zr [zm 7 6, zm 8 0, zv 9 (.len false (.t 8)), zv 10 (.bin .lss .no (.t 7) (.t 9))]
def qbig : IC := zr [zm 13 0, zm 14 6, zv 15 (.iad 4 (.t 13) (.t 14)), zv 16 (.fad (.t 15) 0), zv 17 (.ld false 1 (.t 16)), zm 18 1, zv 19 (.bin .eql .no (.t 17) (.t 18))]
def qblx : IC := zr [zm 20 0, zm 21 6, zv 22 (.iad 4 (.t 20) (.t 21)), zv 23 (.fad (.t 22) 1), zv 24 (.ld true 3 (.t 23)), zn (.st 3 (.agg [.id, .id, (.sl 3)]) (.t 4) (.t 24)), zv 5 (.mov (.c (.bool true)))]
def qbiy : IC := zr [zm 11 6, zv 12 (.bin .add .no (.t 11) (zc 1)), zm 6 12]
def qbhp : IC := (.seq (.seq qbk2 (.cond (.t 10) .skip (.exit 0))) (.seq (.block 1 (.seq qbig (.cond (.t 19) (.seq qblx .ret) .skip))) qbiy))
def qbj7 : IC := zr [zv 25 (.bld [(.str []), (.int .i64 0), .nils] []), zn (.st 3 (.agg [.id, .id, (.sl 3)]) (.t 4) (.t 25)), zv 5 zf]
def k0u : IC := (.seq qbpj (.seq (.seq qbh5 (.block 0 (.loop qbhp))) (.seq qbj7 .ret)))
@[go_sem] def s0u : List (RV × Co) := [(.c true 3 4, (.agg [.id, .id, (.sl 3)])), (.t 5, .id)]
theorem c0u : cFun Tryz.prog 88 = some (26, k0u, s0u) := by kernel_rfl

def q7j : IC := zr [zi 3 (.box (.t 1)), zi 4 (.alo [(.str []), (.int .i64 0), .nils]), zv 5 (.mov (zc 0))]
def qbbz : IC := zr [zv 7 (.ld true 3 (.t 3)), zi 8 (.call (.c (.fn 20 [] [])) [((.t 7), (.agg [.id, .id, (.sl 3)]))]), zv 9 (.un .not (.t 8))]
def qbcn : IC := zr [zv 10 (.bld [(.str []), (.int .i64 0), .nils] []), zn (.st 3 (.agg [.id, .id, (.sl 3)]) (.t 4) (.t 10)), zv 5 (.mov (zc 1))]
def q31 : IC := zr [zm 11 0, zv 12 (.ld true 3 (.t 3)), zi 13 (.call (.c (.fn 110 [] [])) [((.t 11), (.sl 4)), ((.t 12), (.agg [.id, .id, (.sl 3)]))]), zv 14 (.bin .gtr .no (.t 13) (zc 4096))]
def qbce : IC := zr [zv 15 (.bld [(.str []), (.int .i64 0), .nils] []), zn (.st 3 (.agg [.id, .id, (.sl 3)]) (.t 4) (.t 15)), zv 5 (.mov (zc 2))]
def qbav : IC := zr [zm 16 0, zv 17 (.ld true 3 (.t 3)), zi 18 (.call (.c (.fn 111 [] [])) [((.t 16), (.sl 4)), ((.t 17), (.agg [.id, .id, (.sl 3)]))]), zi 6 (.alo [(.str []), (.int .i64 0), .nils]), zn (.st 3 (.agg [.id, .id, (.sl 3)]) (.t 6) (.t 18))]
def q7d : IC := zr [zv 19 (.ld true 3 (.t 6)), zi 20 (.call (.c (.fn 20 [] [])) [((.t 19), (.agg [.id, .id, (.sl 3)]))]), zv 21 (.un .not (.t 20))]
def q63 : IC := zr [zv 22 (.bld [(.str []), (.int .i64 0), .nils] []), zn (.st 3 (.agg [.id, .id, (.sl 3)]) (.t 4) (.t 22)), zv 5 (.mov (zc 2))]
def q9z : IC := zr [zv 23 (.ld true 3 (.t 6)), zn (.st 3 (.agg [.id, .id, (.sl 3)]) (.t 4) (.t 23)), zv 5 (.mov (zc 0))]
def k0cp : IC := (.seq q7j (.seq (.seq qbbz (.cond (.t 9) (.seq qbcn .ret) .skip)) (.seq (.seq q31 (.cond (.t 14) (.seq qbce .ret) .skip)) (.seq qbav (.seq (.seq q7d (.cond (.t 21) (.seq q63 .ret) .skip)) (.seq q9z .ret))))))
@[go_sem] def s0cp : List (RV × Co) := [(.c true 3 4, (.agg [.id, .id, (.sl 3)])), (.t 5, .id)]
theorem c0cp : cFun Tryz.prog 89 = some (24, k0cp, s0cp) := by kernel_rfl

def qbe2 : IC := zr [zv 2 (.mov (zc 0)), zv 3 (.mov (zc 0))]
def qbat : IC := zr [zm 8 0, zv 9 (.bin .eql .no (.t 8) (.c (.str [])))]
def q59 : IC := zr [zv 2 (.mov (zc 0)), zv 3 (.mov (zc 5))]
def qbbi : IC := zr [zv 4 (.mov (zc 0))]
def qbch : IC := zr [zm 10 4, zm 11 0, zv 12 (.len true (.t 11)), zv 13 (.bin .lss .no (.t 10) (.t 12))]
def q66 : IC := zr [zm 16 0, zm 17 4, zv 18 (.idx (.t 16) (.t 17)), zv 19 (.bin .lss .no (.t 18) (.c (.int .u8 48))), zm 20 19, zw 20 false 21 (.mov (.t 0)), zw 20 false 22 (.mov (.t 4)), zw 20 false 23 (.idx (.t 21) (.t 22)), zw 20 false 24 (.bin .gtr .no (.t 23) (.c (.int .u8 57))), zv 25 (.pick (.t 20) (.c (.bool true)) (.t 24))]
def qbfp : IC := zr [zv 2 (.mov (zc 0)), zv 3 (.mov (zc 5))]
def q9e : IC := zr [zm 14 4, zv 15 (.bin .add .no (.t 14) (zc 1)), zm 4 15]
def qbbh : IC := (.seq (.seq qbch (.cond (.t 13) .skip (.exit 0))) (.seq (.block 1 (.seq q66 (.cond (.t 25) (.seq qbfp .ret) .skip))) q9e))
def q00 : IC := zr [zv 5 (.mov (zc 0))]
def qzd : IC := zr [zv 6 (.mov (zc 0))]
def q1d : IC := zr [zm 26 6, zm 27 0, zv 28 (.len true (.t 27)), zv 29 (.bin .lss .no (.t 26) (.t 28))]
def qyd : IC := zr [zm 32 0, zm 33 6, zv 34 (.idx (.t 32) (.t 33)), zv 35 (.bin .sub .no (.t 34) (.c (.int .u8 48))), zv 36 (.cvi .i64 (.t 35)), zm 7 36]
def q13 : IC := zr [zm 37 5, zm 38 7, zv 39 (.bin .sub .no (zc 9223372036854775807) (.t 38)), zv 40 (.bin .quo .no (.t 39) (zc 10)), zv 41 (.bin .gtr .no (.t 37) (.t 40))]
def qy1 : IC := zr [zv 2 (.mov (zc 0)), zv 3 (.mov (zc 4))]
def q0c : IC := zr [zm 42 5, zv 43 (.bin .mul .no (zc 10) (.t 42)), zm 44 7, zv 45 (.bin .add .no (.t 43) (.t 44)), zm 5 45]
def q2o : IC := zr [zm 30 6, zv 31 (.bin .add .no (.t 30) (zc 1)), zm 6 31]
def qyi : IC := (.seq (.seq q1d (.cond (.t 29) .skip (.exit 2))) (.seq (.block 3 (.seq qyd (.seq (.seq q13 (.cond (.t 41) (.seq qy1 .ret) .skip)) q0c))) q2o))
def qx0 : IC := zr [zm 46 5, zm 2 46, zv 3 (.mov (zc 0))]
def k0bv : IC := (.seq qbe2 (.seq (.seq qbat (.cond (.t 9) (.seq q59 .ret) .skip)) (.seq (.seq qbbi (.block 0 (.loop qbbh))) (.seq q00 (.seq (.seq qzd (.block 2 (.loop qyi))) (.seq qx0 .ret))))))
@[go_sem] def s0bv : List (RV × Co) := [(.t 2, .id), (.t 3, .id)]
theorem c0bv : cFun Tryz.prog 90 = some (47, k0bv, s0bv) := by kernel_rfl

def qbbl : IC := zr [zi 2 (.alo [(.str []), (.int .i64 0), .nils])]
def q8j : IC := zr [zm 6 0, zi 7 (.call (.c (.fn 119 [] [])) [((.t 6), .id)]), zm 3 7]
def qbb1 : IC := zr [zm 8 3, zv 9 (.bin .geq .no (.t 8) (zc 0))]
def qbf4 : IC := zr [zm 10 3, zv 11 (.bld [(.str []), (.int .i64 0), .nils] [(1, 1, (.t 10))]), zn (.st 3 (.agg [.id, .id, (.sl 3)]) (.t 2) (.t 11))]
def q6v : IC := zr [zm 12 0, zi 13 (.call (.c (.fn 66 [] [])) [((.t 12), .id), ((.c (.str [63])), .id)])]
def qbel : IC := zr [zm 15 0, zv 16 (.sls (.t 15) (some (zc 1)) none), zi 17 (.call (.c (.fn 120 [] [])) [((.t 16), .id)]), zm 14 17, zv 18 (.ext (.t 14) 0), zv 19 (.ext (.t 14) 1), zm 4 18, zm 5 19]
def qbd8 : IC := zr [zm 20 5, zv 21 (.bin .eql .no (.t 20) (zc 0))]
def q9a : IC := zr [zm 22 4, zv 23 (.bin .sub .no (zc (-1)) (.t 22)), zv 24 (.bld [(.str []), (.int .i64 0), .nils] [(1, 1, (.t 23))]), zn (.st 3 (.agg [.id, .id, (.sl 3)]) (.t 2) (.t 24))]
def qbc6 : IC := zr [zm 25 0, zv 26 (.bld [(.str []), (.int .i64 0), .nils] [(0, 1, (.t 25))]), zn (.st 3 (.agg [.id, .id, (.sl 3)]) (.t 2) (.t 26))]
def k0cy : IC := (.seq qbbl (.seq (.seq q8j (.seq qbb1 (.cond (.t 9) (.seq qbf4 .ret) .skip))) (.seq (.seq q6v (.cond (.t 13) (.seq qbel (.seq qbd8 (.cond (.t 21) (.seq q9a .ret) .skip))) .skip)) (.seq qbc6 .ret))))
@[go_sem] def s0cy : List (RV × Co) := [(.c true 3 2, (.agg [.id, .id, (.sl 3)]))]
theorem c0cy : cFun Tryz.prog 96 = some (27, k0cy, s0cy) := by kernel_rfl

def qbeo : IC := zr [zv 4 zf]
def q9n : IC := zr [zm 5 0, zv 6 (.len true (.t 5)), zm 7 1, zv 8 (.len true (.t 7)), zv 9 (.bin .geq .no (.t 6) (.t 8)), zm 10 9, zw 10 true 11 (.mov (.t 0)), zw 10 true 12 (.mov (.t 1)), zw 10 true 13 (.len true (.t 12)), zw 10 true 14 (.sls (.t 11) none (some (.t 13))), zw 10 true 15 (.mov (.t 1)), zw 10 true 16 (.bin .eql .no (.t 14) (.t 15)), zv 17 (.pick (.t 10) (.t 16) (.c (.bool false))), zm 4 17]
def k0bt : IC := (.seq qbeo (.seq q9n .ret))
@[go_sem] def s0bt : List (RV × Co) := [(.t 4, .id)]
theorem c0bt : cFun Tryz.prog 97 = some (18, k0bt, s0bt) := by kernel_rfl

def qbc5 : IC := zr [zv 2 zf]
def q4s : IC := zr [zm 3 0, zv 4 (.bin .geq .no (.t 3) (.c (.int .u8 97))), zm 5 4, zw 5 true 6 (.mov (.t 0)), zw 5 true 7 (.bin .leq .no (.t 6) (.c (.int .u8 122))), zv 8 (.pick (.t 5) (.t 7) (.c (.bool false))), zm 9 8, zw 9 false 10 (.mov (.t 0)), zw 9 false 11 (.bin .eql .no (.t 10) (.c (.int .u8 95))), zv 12 (.pick (.t 9) (.c (.bool true)) (.t 11)), zm 2 12]
def k0by : IC := (.seq qbc5 (.seq q4s .ret))
@[go_sem] def s0by : List (RV × Co) := [(.t 2, .id)]
theorem c0by : cFun Tryz.prog 98 = some (13, k0by, s0by) := by kernel_rfl

def qbc3 : IC := zr [zv 2 zf]
def q9k : IC := zr [zm 3 0, zv 4 (.bin .geq .no (.t 3) (.c (.int .u8 48))), zm 5 4, zw 5 true 6 (.mov (.t 0)), zw 5 true 7 (.bin .leq .no (.t 6) (.c (.int .u8 57))), zv 8 (.pick (.t 5) (.t 7) (.c (.bool false))), zm 2 8]
def k0cb : IC := (.seq qbc3 (.seq q9k .ret))
@[go_sem] def s0cb : List (RV × Co) := [(.t 2, .id)]
theorem c0cb : cFun Tryz.prog 99 = some (9, k0cb, s0cb) := by kernel_rfl

def qbek : IC := zr [zv 2 zf]
def qbbj : IC := zr [zm 5 0, zi 6 (.call (.c (.fn 66 [] [])) [((.t 5), .id), ((.c (.str [33])), .id)]), zv 7 (.un .not (.t 6))]
def qbfy : IC := zr [zv 2 zf]
def q5o : IC := zr [zm 9 0, zv 10 (.sls (.t 9) (some (zc 1)) none), zi 11 (.call (.c (.fn 120 [] [])) [((.t 10), .id)]), zm 8 11, zv 12 (.ext (.t 8) 0), zv 13 (.ext (.t 8) 1), zm 3 12, zm 4 13]
def qbdq : IC := .drw [zp (zm 14 4), zp (zv 15 (.bin .eql .no (.t 14) (zc 0))), zp (zm 16 15), zp (zw 16 true 17 (.mov (.t 3))), (⟨some (16, true), some 18, .call (.c (.fn 103 [] [])) [((.t 17), .id)]⟩, []), zp (zw 16 true 19 (.mov (.t 0))), zp (zw 16 true 20 (.sls (.t 19) (some (zc 1)) none)), zp (zw 16 true 21 (.bin .eql .no (.t 18) (.t 20))), zp (zv 22 (.pick (.t 16) (.t 21) (.c (.bool false)))), zp (zm 2 22)]
def k0bp : IC := (.seq qbek (.seq (.seq qbbj (.cond (.t 7) (.seq qbfy .ret) .skip)) (.seq q5o (.seq qbdq .ret))))
@[go_sem] def s0bp : List (RV × Co) := [(.t 2, .id)]
theorem c0bp : cFun Tryz.prog 100 = some (23, k0bp, s0bp) := by kernel_rfl

def qbcu : IC := zr [zv 2 (.mov (.c (.str [])))]
def qbga : IC := zr [zm 4 0, zv 5 (.bin .lss .no (.t 4) (zc 0))]
def qbg5 : IC := zr [zv 2 (.mov (.c (.str [])))]
def qbbo : IC := zr [zm 6 0, zv 7 (.bin .rem .no (.t 6) (zc 26)), zv 8 (.bin .add .no (zc 97) (.t 7)), zv 9 (.cvi .u8 (.t 8)), zv 10 (.bsl 1 [((.t 9), .id)]), zv 11 (.cbs (.t 10)), zm 3 11]
def qbfr : IC := zr [zm 12 0, zv 13 (.bin .lss .no (.t 12) (zc 26))]
def qbdr : IC := zr [zm 14 3, zm 2 14]
def qbee : IC := zr [zm 15 3, zm 16 0, zv 17 (.bin .quo .no (.t 16) (zc 26)), zi 18 (.call (.c (.fn 103 [] [])) [((.t 17), .id)]), zv 19 (.bin .add .no (.t 15) (.t 18)), zm 2 19]
def k0ck : IC := (.seq qbcu (.seq (.seq qbga (.cond (.t 5) (.seq qbg5 .ret) .skip)) (.seq qbbo (.seq (.seq qbfr (.cond (.t 13) (.seq qbdr .ret) .skip)) (.seq qbee .ret)))))
@[go_sem] def s0ck : List (RV × Co) := [(.t 2, .id)]
theorem c0ck : cFun Tryz.prog 102 = some (20, k0ck, s0ck) := by kernel_rfl

def q8a : IC := zr [zv 2 (.mov (.c (.str [])))]
def q5k : IC := zr [zm 6 0, zv 7 (.cvi .u64 (.t 6)), zm 3 7]
def q4m : IC := zr [zm 8 0, zv 9 (.bin .lss .no (.t 8) (zc 0))]
def q8r : IC := zr [zm 10 3, zv 11 (.un .neg (.t 10)), zm 3 11]
def qbcb : IC := zr [zi 4 (.alo [(.int .u8 0), (.int .u8 0), (.int .u8 0), (.int .u8 0), (.int .u8 0), (.int .u8 0), (.int .u8 0), (.int .u8 0), (.int .u8 0), (.int .u8 0), (.int .u8 0), (.int .u8 0), (.int .u8 0), (.int .u8 0), (.int .u8 0), (.int .u8 0), (.int .u8 0), (.int .u8 0), (.int .u8 0), (.int .u8 0)])]
def qbbw : IC := zr [zv 5 (.mov (zc 20))]
def qbct : IC := zr [zm 12 5, zv 13 (.bin .sub .no (.t 12) (zc 1)), zm 5 13]
def q6o : IC := zr [zm 14 5, zm 15 3, zv 16 (.bin .rem .no (.t 15) (.c (.int .u64 10))), zv 17 (.bin .add .no (.c (.int .u64 48)) (.t 16)), zv 18 (.cvi .u8 (.t 17)), zv 19 (.aad 1 20 (.t 4) (.t 14)), zn (.st 1 .id (.t 19) (.t 18))]
def qbg3 : IC := zr [zm 20 3, zv 21 (.bin .quo .no (.t 20) (.c (.int .u64 10))), zm 3 21]
def q1z : IC := zr [zm 22 3, zv 23 (.bin .eql .no (.t 22) (.c (.int .u64 0)))]
def qbe0 : IC := (.block 1 (.seq qbct (.seq q6o (.seq qbg3 (.seq q1z (.cond (.t 23) (.exit 0) .skip))))))
def q0m : IC := zr [zm 24 0, zv 25 (.bin .lss .no (.t 24) (zc 0))]
def q1q : IC := zr [zm 26 5, zv 27 (.sla 20 (.t 4) (.t 26)), zv 28 (.cbs (.t 27)), zv 29 (.bin .add .no (.c (.str [45])) (.t 28)), zm 2 29]
def qx2 : IC := zr [zm 30 5, zv 31 (.sla 20 (.t 4) (.t 30)), zv 32 (.cbs (.t 31)), zm 2 32]
def k0cj : IC := (.seq q8a (.seq q5k (.seq (.seq q4m (.cond (.t 9) q8r .skip)) (.seq qbcb (.seq qbbw (.seq (.block 0 (.loop qbe0)) (.seq (.seq q0m (.cond (.t 25) (.seq q1q .ret) .skip)) (.seq qx2 .ret))))))))
@[go_sem] def s0cj : List (RV × Co) := [(.t 2, .id)]
theorem c0cj : cFun Tryz.prog 103 = some (33, k0cj, s0cj) := by kernel_rfl

def q55 : IC := zr [zv 2 (.mov (.c (.int .u64 0)))]
def qbas : IC := zr [zm 3 0, zv 4 (.bin .lss .no (.t 3) (zc 0))]
def qbfj : IC := zr [zm 5 0, zv 6 (.cvi .u64 (.t 5)), zv 7 (.un .neg (.t 6)), zm 2 7]
def qbd4 : IC := zr [zm 8 0, zv 9 (.cvi .u64 (.t 8)), zm 2 9]
def k0ch : IC := (.seq q55 (.seq (.seq qbas (.cond (.t 4) (.seq qbfj .ret) .skip)) (.seq qbd4 .ret)))
@[go_sem] def s0ch : List (RV × Co) := [(.t 2, .id)]
theorem c0ch : cFun Tryz.prog 105 = some (10, k0ch, s0ch) := by kernel_rfl

def qbis : IC := zr [zi 4 (.alo [(.str []), (.int .i64 0), .nils]), zv 5 zf]
def qbhu : IC := zr [zm 8 0, zv 9 (.bin .eql .ptr (.t 8) (.c .nilp))]
def qbn3 : IC := zr [zv 10 (.bld [(.str []), (.int .i64 0), .nils] []), zn (.st 3 (.agg [.id, .id, (.sl 3)]) (.t 4) (.t 10)), zv 5 zf]
def qbo2 : IC := zr [zm 12 0, zm 13 1, zi 14 (.call (.c (.fn 55 [] [])) [((.t 12), .id), ((.t 13), .id)]), zm 11 14, zv 15 (.ext (.t 11) 0), zv 16 (.ext (.t 11) 1), zm 6 15, zm 7 16]
def qbm3 : IC := zr [zm 17 7, zv 18 (.un .not (.t 17))]
def qbn5 : IC := zr [zv 19 (.bld [(.str []), (.int .i64 0), .nils] []), zn (.st 3 (.agg [.id, .id, (.sl 3)]) (.t 4) (.t 19)), zv 5 zf]
def qbia : IC := zr [zm 20 0, zv 21 (.nck (.t 20)), zv 22 (.fad (.t 21) 0), zv 23 (.ld false 1 (.t 22)), zm 24 6, zv 25 (.iad 4 (.t 23) (.t 24)), zv 26 (.fad (.t 25) 1), zv 27 (.ld true 3 (.t 26)), zn (.st 3 (.agg [.id, .id, (.sl 3)]) (.t 4) (.t 27)), zv 5 (.mov (.c (.bool true)))]
def k0p : IC := (.seq qbis (.seq (.seq qbhu (.cond (.t 9) (.seq qbn3 .ret) .skip)) (.seq qbo2 (.seq (.seq qbm3 (.cond (.t 18) (.seq qbn5 .ret) .skip)) (.seq qbia .ret)))))
@[go_sem] def s0p : List (RV × Co) := [(.c true 3 4, (.agg [.id, .id, (.sl 3)])), (.t 5, .id)]
theorem c0p : cFun Tryz.prog 107 = some (28, k0p, s0p) := by kernel_rfl

def qbgr : IC := zr [zi 1 (.box (.t 0)), zv 2 (.mov (zc 0))]
def q7p : IC := zr [zi 3 (.alo [(.int .i64 0)]), zn (.st 1 .id (.t 3) (zc 0))]
def q7e : IC := zr [zv 4 (.ld true 3 (.t 1)), zv 5 (.mfn 124 [] [(.t 3)]), zi 6 (.call (.c (.fn 71 [] [])) [((.t 4), (.agg [.id, .id, (.sl 3)])), ((zc 1), .id), ((.t 5), .id)])]
def q96 : IC := zr [zv 7 (.ld false 1 (.t 3)), zm 2 7]
def k0be : IC := (.seq qbgr (.seq q7p (.seq q7e (.seq q96 .ret))))
@[go_sem] def s0be : List (RV × Co) := [(.t 2, .id)]
theorem c0be : cFun Tryz.prog 108 = some (8, k0be, s0be) := by kernel_rfl

def qba7 : IC := zr [zi 1 (.box (.t 0)), zv 2 (.mov (zc 0))]
def qbdh : IC := zr [zi 3 (.alo [(.int .i64 0)]), zn (.st 1 .id (.t 3) (zc 0))]
def q4b : IC := zr [zv 4 (.ld true 3 (.t 1)), zv 5 (.mfn 125 [] [(.t 3)]), zi 6 (.call (.c (.fn 71 [] [])) [((.t 4), (.agg [.id, .id, (.sl 3)])), ((zc 1), .id), ((.t 5), .id)])]
def q7k : IC := zr [zv 7 (.ld false 1 (.t 3)), zm 2 7]
def k0bf : IC := (.seq qba7 (.seq qbdh (.seq q4b (.seq q7k .ret))))
@[go_sem] def s0bf : List (RV × Co) := [(.t 2, .id)]
theorem c0bf : cFun Tryz.prog 109 = some (8, k0bf, s0bf) := by kernel_rfl

def q7y : IC := zr [zi 3 (.box (.t 1)), zv 4 (.mov (zc 0))]
def qbfk : IC := zr [zv 9 (.fad (.t 3) 0), zv 10 (.ld false 1 (.t 9)), zv 11 (.bin .eql .no (.t 10) (.c (.str [])))]
def qbfs : IC := zr [zm 13 0, zv 14 (.fad (.t 3) 1), zv 15 (.ld false 1 (.t 14)), zi 16 (.call (.c (.fn 88 [] [])) [((.t 13), (.sl 4)), ((.t 15), .id)]), zm 12 16, zv 17 (.ext (.t 12) 0), zv 18 (.ext (.t 12) 1), zi 5 (.alo [(.str []), (.int .i64 0), .nils]), zn (.st 3 (.agg [.id, .id, (.sl 3)]) (.t 5) (.t 17)), zm 6 18]
def q7f : IC := zr [zm 19 6]
def q8o : IC := zr [zv 20 (.ld true 3 (.t 5)), zi 21 (.call (.c (.fn 23 [] [])) [((.t 20), (.agg [.id, .id, (.sl 3)]))]), zm 4 21]
def qbde : IC := zr [zv 4 (.mov (zc 1))]
def qbai : IC := zr [zv 7 (.mov (zc 1))]
def q9f : IC := zr [zv 8 (.mov (zc 0))]
def q6m : IC := zr [zm 22 8, zv 23 (.fad (.t 3) 2), zv 24 (.ld false 1 (.t 23)), zv 25 (.len false (.t 24)), zv 26 (.bin .lss .no (.t 22) (.t 25))]
def q0z : IC := zr [zm 29 7, zm 30 0, zv 31 (.fad (.t 3) 2), zv 32 (.ld false 1 (.t 31)), zm 33 8, zv 34 (.iad 3 (.t 32) (.t 33)), zv 35 (.ld true 3 (.t 34)), zi 36 (.call (.c (.fn 110 [] [])) [((.t 30), (.sl 4)), ((.t 35), (.agg [.id, .id, (.sl 3)]))]), zv 37 (.bin .add .no (.t 29) (.t 36)), zm 7 37]
def q2t : IC := zr [zm 27 8, zv 28 (.bin .add .no (.t 27) (zc 1)), zm 8 28]
def qbe1 : IC := (.seq (.seq q6m (.cond (.t 26) .skip (.exit 0))) (.seq (.block 1 q0z) q2t))
def qy7 : IC := zr [zm 38 7, zm 4 38]
def k0cq : IC := (.seq q7y (.seq (.seq qbfk (.cond (.t 11) (.seq qbfs (.seq (.seq q7f (.cond (.t 19) (.seq q8o .ret) .skip)) (.seq qbde .ret))) .skip)) (.seq qbai (.seq (.seq q9f (.block 0 (.loop qbe1))) (.seq qy7 .ret)))))
@[go_sem] def s0cq : List (RV × Co) := [(.t 4, .id)]
theorem c0cq : cFun Tryz.prog 110 = some (39, k0cq, s0cq) := by kernel_rfl

def qbe9 : IC := zr [zi 3 (.box (.t 1)), zi 4 (.alo [(.str []), (.int .i64 0), .nils])]
def qbea : IC := zr [zv 9 (.fad (.t 3) 0), zv 10 (.ld false 1 (.t 9)), zv 11 (.bin .eql .no (.t 10) (.c (.str [])))]
def q8e : IC := zr [zm 13 0, zv 14 (.fad (.t 3) 1), zv 15 (.ld false 1 (.t 14)), zi 16 (.call (.c (.fn 88 [] [])) [((.t 13), (.sl 4)), ((.t 15), .id)]), zm 12 16, zv 17 (.ext (.t 12) 0), zv 18 (.ext (.t 12) 1), zi 5 (.alo [(.str []), (.int .i64 0), .nils]), zn (.st 3 (.agg [.id, .id, (.sl 3)]) (.t 5) (.t 17)), zm 6 18]
def q5y : IC := zr [zm 19 6]
def qbex : IC := zr [zv 20 (.ld true 3 (.t 5)), zn (.st 3 (.agg [.id, .id, (.sl 3)]) (.t 4) (.t 20))]
def q6u : IC := zr [zv 21 (.ld true 3 (.t 3)), zn (.st 3 (.agg [.id, .id, (.sl 3)]) (.t 4) (.t 21))]
def qbff : IC := zr [zv 7 (.mov (.c .nils))]
def qbgy : IC := zr [zv 8 (.mov (zc 0))]
def q3q : IC := zr [zm 22 8, zv 23 (.fad (.t 3) 2), zv 24 (.ld false 1 (.t 23)), zv 25 (.len false (.t 24)), zv 26 (.bin .lss .no (.t 22) (.t 25))]
def q01 : IC := zr [zm 29 7, zm 30 0, zv 31 (.fad (.t 3) 2), zv 32 (.ld false 1 (.t 31)), zm 33 8, zv 34 (.iad 3 (.t 32) (.t 33)), zv 35 (.ld true 3 (.t 34)), zi 36 (.call (.c (.fn 111 [] [])) [((.t 30), (.sl 4)), ((.t 35), (.agg [.id, .id, (.sl 3)]))]), zv 37 (.bsl 3 [((.t 36), (.agg [.id, .id, (.sl 3)]))]), zi 38 (.app 3 (.agg [(.str []), (.int .i64 0), .nils]) 48 (.sl 3) (.t 29) (.t 37)), zm 7 38]
def q1s : IC := zr [zm 27 8, zv 28 (.bin .add .no (.t 27) (zc 1)), zm 8 28]
def q68 : IC := (.seq (.seq q3q (.cond (.t 26) .skip (.exit 0))) (.seq (.block 1 q01) q1s))
def qyh : IC := zr [zm 39 7, zv 40 (.fad (.t 3) 2), zn (.st 1 (.sl 3) (.t 40) (.t 39))]
def q1n : IC := zr [zv 41 (.ld true 3 (.t 3)), zn (.st 3 (.agg [.id, .id, (.sl 3)]) (.t 4) (.t 41))]
def k0cr : IC := (.seq qbe9 (.seq (.seq qbea (.cond (.t 11) (.seq q8e (.seq (.seq q5y (.cond (.t 19) (.seq qbex .ret) .skip)) (.seq q6u .ret))) .skip)) (.seq qbff (.seq (.seq qbgy (.block 0 (.loop q68))) (.seq qyh (.seq q1n .ret))))))
@[go_sem] def s0cr : List (RV × Co) := [(.c true 3 4, (.agg [.id, .id, (.sl 3)]))]
theorem c0cr : cFun Tryz.prog 111 = some (42, k0cr, s0cr) := by kernel_rfl

def qbb7 : IC := zr [zi 2 (.box (.t 0)), zi 3 (.box (.t 1)), zv 4 zf]
def q36 : IC := .drw [zp (zv 6 (.ld true 3 (.t 2))), (zi 7 (.call (.c (.fn 73 [] [])) [((.t 6), (.agg [.id, .id, (.sl 3)]))]), []), (zv 8 (.ld true 3 (.t 3)), [1]), (zi 9 (.call (.c (.fn 73 [] [])) [((.t 8), (.agg [.id, .id, (.sl 3)]))]), []), (zv 10 (.bin .neq (.cells [.str, (.int .i64), (.int .i64)]) (.t 7) (.t 9)), [])]
def qbfw : IC := zr [zv 4 zf]
def q9y : IC := zr [zv 11 (.fad (.t 2) 2), zv 12 (.ld false 1 (.t 11)), zv 13 (.len false (.t 12)), zv 14 (.mov (zc 0))]
def q8i : IC := zr [zv 15 (.bin .lss .no (.t 14) (.t 13))]
def q85 : IC := zr [zm 16 14, zm 5 16]
def qbfh : IC := .drw [zp (zv 17 (.fad (.t 2) 2)), zp (zv 18 (.ld false 1 (.t 17))), zp (zm 19 5), zp (zv 20 (.iad 3 (.t 18) (.t 19))), zp (zv 21 (.ld true 3 (.t 20))), zp (zv 22 (.fad (.t 3) 2)), zp (zv 23 (.ld false 1 (.t 22))), zp (zm 24 5), zp (zv 25 (.iad 3 (.t 23) (.t 24))), zp (zv 26 (.ld true 3 (.t 25))), (zi 27 (.call (.c (.fn 113 [] [])) [((.t 21), (.agg [.id, .id, (.sl 3)])), ((.t 26), (.agg [.id, .id, (.sl 3)]))]), []), zp (zv 28 (.un .not (.t 27)))]
def qbfx : IC := zr [zv 4 zf]
def qbbq : IC := zr [zv 29 (.bin .add .no (.t 14) (zc 1)), zm 14 29]
def qbe5 : IC := (.seq q8i (.seq (.cond (.t 15) .skip (.exit 0)) (.seq (.block 1 (.seq q85 (.seq qbfh (.cond (.t 28) (.seq qbfx .ret) .skip)))) qbbq)))
def q1f : IC := zr [zv 4 (.mov (.c (.bool true)))]
def k0bn : IC := (.seq qbb7 (.seq (.seq q36 (.cond (.t 10) (.seq qbfw .ret) .skip)) (.seq (.seq q9y (.block 0 (.loop qbe5))) (.seq q1f .ret))))
@[go_sem] def s0bn : List (RV × Co) := [(.t 4, .id)]
theorem c0bn : cFun Tryz.prog 113 = some (30, k0bn, s0bn) := by kernel_rfl

def qbep : IC := zr [zv 2 (.mov (zc 0))]
def qbfd : IC := zr [zm 6 0, zv 7 (.bin .eql .no (.t 6) (.c (.str []))), zm 8 7, zw 8 false 9 (.mov (.t 0)), zw 8 false 10 (.idx (.t 9) (zc 0)), zw 8 false 11 (.bin .lss .no (.t 10) (.c (.int .u8 97))), zv 12 (.pick (.t 8) (.c (.bool true)) (.t 11)), zm 13 12, zw 13 false 14 (.mov (.t 0)), zw 13 false 15 (.idx (.t 14) (zc 0)), zw 13 false 16 (.bin .gtr .no (.t 15) (.c (.int .u8 122))), zv 17 (.pick (.t 13) (.c (.bool true)) (.t 16))]
def qbgz : IC := zr [zv 2 (.mov (zc (-1)))]
def q8b : IC := zr [zm 18 0, zv 19 (.idx (.t 18) (zc 0)), zv 20 (.bin .sub .no (.t 19) (.c (.int .u8 97))), zv 21 (.cvi .i64 (.t 20)), zm 3 21]
def q39 : IC := zr [zm 22 0, zv 23 (.len true (.t 22)), zv 24 (.bin .gtr .no (.t 23) (zc 1))]
def qbf3 : IC := zr [zm 26 0, zv 27 (.sls (.t 26) (some (zc 1)) none), zi 28 (.call (.c (.fn 120 [] [])) [((.t 27), .id)]), zm 25 28, zv 29 (.ext (.t 25) 0), zv 30 (.ext (.t 25) 1), zm 4 29, zm 5 30]
def qbgx : IC := zr [zm 31 5, zv 32 (.bin .neq .no (.t 31) (zc 0)), zm 33 32, zw 33 false 34 (.mov (.t 4)), zw 33 false 35 (.bin .gtr .no (.t 34) (zc 177372539170284150)), zv 36 (.pick (.t 33) (.c (.bool true)) (.t 35))]
def qbey : IC := zr [zv 2 (.mov (zc (-1)))]
def q4c : IC := zr [zm 37 3, zm 38 4, zv 39 (.bin .mul .no (zc 26) (.t 38)), zv 40 (.bin .add .no (.t 37) (.t 39)), zm 3 40]
def qbgv : IC := zr [zm 41 3, zv 42 (.bin .gtr .no (.t 41) (zc 4611686018427387904)), zm 43 42, zw 43 false 44 (.mov (.t 3)), ⟨some (43, false), some 45, .call (.c (.fn 102 [] [])) [((.t 44), .id)]⟩, zw 43 false 46 (.mov (.t 0)), zw 43 false 47 (.bin .neq .no (.t 45) (.t 46)), zv 48 (.pick (.t 43) (.c (.bool true)) (.t 47))]
def q0b : IC := zr [zv 2 (.mov (zc (-1)))]
def q0o : IC := zr [zm 49 3, zm 2 49]
def k0db : IC := (.seq qbep (.seq (.seq qbfd (.cond (.t 17) (.seq qbgz .ret) .skip)) (.seq q8b (.seq (.seq q39 (.cond (.t 24) (.seq qbf3 (.seq (.seq qbgx (.cond (.t 36) (.seq qbey .ret) .skip)) q4c)) .skip)) (.seq (.seq qbgv (.cond (.t 48) (.seq q0b .ret) .skip)) (.seq q0o .ret))))))
@[go_sem] def s0db : List (RV × Co) := [(.t 2, .id)]
theorem c0db : cFun Tryz.prog 119 = some (50, k0db, s0db) := by kernel_rfl

def q50 : IC := zr [zv 2 (.mov (zc 0)), zv 3 (.mov (zc 0))]
def q82 : IC := zr [zm 8 0, zv 9 (.len true (.t 8)), zv 10 (.mov (zc 0))]
def qbfb : IC := zr [zv 11 (.bin .lss .no (.t 10) (.t 9))]
def qba6 : IC := zr [zm 12 10, zm 4 12]
def qbg7 : IC := zr [zm 13 0, zm 14 4, zv 15 (.idx (.t 13) (.t 14)), zv 16 (.bin .lss .no (.t 15) (.c (.int .u8 48))), zm 17 16, zw 17 false 18 (.mov (.t 0)), zw 17 false 19 (.mov (.t 4)), zw 17 false 20 (.idx (.t 18) (.t 19)), zw 17 false 21 (.bin .gtr .no (.t 20) (.c (.int .u8 57))), zv 22 (.pick (.t 17) (.c (.bool true)) (.t 21))]
def q38 : IC := zr [zv 2 (.mov (zc 0)), zv 3 (.mov (zc 5))]
def q8f : IC := zr [zv 23 (.bin .add .no (.t 10) (zc 1)), zm 10 23]
def q83 : IC := (.seq qbfb (.seq (.cond (.t 11) .skip (.exit 0)) (.seq (.block 1 (.seq qba6 (.seq qbg7 (.cond (.t 22) (.seq q38 .ret) .skip)))) q8f)))
def q9p : IC := zr [zm 24 0, zv 25 (.bin .eql .no (.t 24) (.c (.str [])))]
def qx9 : IC := zr [zv 2 (.mov (zc 0)), zv 3 (.mov (zc 5))]
def q14 : IC := zr [zv 5 (.mov (zc 0)), zv 6 (.mov (zc 0))]
def q0d : IC := zr [zm 26 0, zm 27 6, zv 28 (.idx (.t 26) (.t 27)), zv 29 (.bin .sub .no (.t 28) (.c (.int .u8 48))), zv 30 (.cvi .i64 (.t 29)), zm 7 30]
def qye : IC := zr [zm 31 5, zm 32 7, zv 33 (.bin .sub .no (zc 9223372036854775807) (.t 32)), zv 34 (.bin .quo .no (.t 33) (zc 10)), zv 35 (.bin .gtr .no (.t 31) (.t 34))]
def qz6 : IC := zr [zv 2 (.mov (zc 0)), zv 3 (.mov (zc 4))]
def q2z : IC := zr [zm 36 5, zv 37 (.bin .mul .no (zc 10) (.t 36)), zm 38 7, zv 39 (.bin .add .no (.t 37) (.t 38)), zm 5 39]
def qz9 : IC := zr [zm 40 6, zv 41 (.bin .add .no (.t 40) (zc 1)), zm 6 41]
def q0h : IC := zr [zm 42 6, zm 43 0, zv 44 (.len true (.t 43)), zv 45 (.bin .lss .no (.t 42) (.t 44))]
def q03 : IC := zr [zm 46 5, zm 2 46, zv 3 (.mov (zc 0))]
def k0bw : IC := (.seq q50 (.scope (.seq (.seq q82 (.block 0 (.loop q83))) (.seq (.seq q9p (.cond (.t 25) (.seq qx9 .ret) .skip)) (.seq q14 (.seq (.label 0) (.seq q0d (.seq (.seq qye (.cond (.t 35) (.seq qz6 .ret) .skip)) (.seq q2z (.seq (.seq qz9 (.seq q0h (.cond (.t 45) (.goto 0) .skip))) (.seq q03 .ret)))))))))))
@[go_sem] def s0bw : List (RV × Co) := [(.t 2, .id), (.t 3, .id)]
theorem c0bw : cFun Tryz.prog 120 = some (47, k0bw, s0bw) := by kernel_rfl

def q87 : IC := zr [zi 3 (.box (.t 0)), zv 5 zf]
def q35 : IC := zr [zv 6 (.ld false 1 (.t 2)), zv 7 (.bin .add .no (.t 6) (zc 1)), zn (.st 1 .id (.t 2) (.t 7))]
def qbf0 : IC := zr [zv 5 (.mov (.c (.bool true)))]
def k0bb : IC := (.seq q87 (.seq q35 (.seq qbf0 .ret)))
@[go_sem] def s0bb : List (RV × Co) := [(.t 5, .id)]
theorem c0bb : cFun Tryz.prog 124 = some (8, k0bb, s0bb) := by kernel_rfl

def q78 : IC := zr [zi 3 (.box (.t 0)), zv 5 zf]
def qbdv : IC := zr [zv 6 (.ld false 1 (.t 2)), zm 7 1, zv 8 (.mm true (.t 6) (.t 7)), zn (.st 1 .id (.t 2) (.t 8))]
def q4g : IC := zr [zv 5 (.mov (.c (.bool true)))]
def k0bc : IC := (.seq q78 (.seq qbdv (.seq q4g .ret)))
@[go_sem] def s0bc : List (RV × Co) := [(.t 5, .id)]
theorem c0bc : cFun Tryz.prog 125 = some (9, k0bc, s0bc) := by kernel_rfl

end Go.Proofs.YtbbjelfnocmaoaaGreat
