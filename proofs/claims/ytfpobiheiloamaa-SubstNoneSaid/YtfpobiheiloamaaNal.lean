/- A text of this proof. -/
import Derived.Test.YtfpobiheiloamaaNaf
import Derived.Test.YtfpobiheiloamaaProg
/- The compiled code of the functions. -/
namespace Go.Proofs.Ytfpobiheiloamaa
open Go Go.V
@[reducible] def zm (d s : Nat) : GI := ⟨none, some d, .v (.mov (.t s))⟩
@[reducible] def zv (d : Nat) (x : IV) : GI := ⟨none, some d, .v x⟩
@[reducible] def zi (d : Nat) (i : I) : GI := ⟨none, some d, i⟩
@[reducible] def zn (i : I) : GI := ⟨none, none, i⟩
@[reducible] def zw (j : Nat) (b : Bool) (d : Nat) (x : IV) : GI := ⟨some (j, b), some d, .v x⟩
@[reducible] def zp (g : GI) : GI × List Nat := (g, [])
@[reducible] def zN : Co := .agg [.id, .id, .id, .id, (.sl 5)]
@[reducible] def zC : Co := .agg [(.sl 4), .id, .id, .id, .id, .id, .id, .id]
@[reducible] def zaN : I := .alo [(.int .i64 0), (.int .i64 0), (.int .i64 0), (.str []), .nils]
@[reducible] def zaC : I := .alo [.nils, (.int .i64 0), (.int .i64 0), (.int .i64 0), (.str []), (.int .i64 0), (.int .i64 0), (.int .i64 0)]
@[reducible] def zaT : I := .alo [(.int .i64 0), (.int .i64 0), (.int .i64 0), (.str [])]
@[reducible] def zZ : AV := .agg [(.int .i64 0), (.int .i64 0), (.int .i64 0), (.str []), .nils]
@[reducible] def zc (n : Int) : Opd := .c (.int .i64 n)
@[reducible] def zf : IV := .mov (.c (.bool false))
@[reducible] def zr (l : List GI) : IC := .reg false l
def q38 : IC := zr [zi 2 (.box (.t 0)), zv 4 zf]
def qbbc : IC := zr [zm 12 1, zi 13 (.call (.c (.fn 30 [] [])) [((.t 12), (.sl 4))]), zv 14 (.bin .eql .no (.t 13) (zc 0)), zm 15 14, zw 15 false 16 (.ld true 4 (.t 2)), zw 15 false 17 (.bsl 4 [((.t 16), (.agg [.id, .id, .id, (.sl 3)]))]), ⟨some (15, false), some 18, .call (.c (.fn 30 [] [])) [((.t 17), (.sl 4))]⟩, zw 15 false 19 (.bin .eql .no (.t 18) (zc 0)), zv 20 (.pick (.t 15) (.c (.bool true)) (.t 19))]
def q91 : IC := zr [zi 21 (.call (.c (.fn 32 [] [])) []), zm 4 21]
def q6e : IC := zr [zv 5 (.mov (.c .nilp))]
def q7i : IC := zr [zm 23 5, zv 24 (.fad (.t 2) 1), zv 25 (.ld true 3 (.t 24)), zi 26 (.call (.c (.fn 35 [] [])) [((.t 23), .id), ((.t 25), (.agg [.id, .id, (.sl 3)]))]), zm 22 26, zv 27 (.ext (.t 22) 0), zv 28 (.ext (.t 22) 1), zi 6 (.alo [(.str []), (.int .i64 0), .nils]), zn (.st 3 (.agg [.id, .id, (.sl 3)]) (.t 6) (.t 27)), zm 7 28]
def q3h : IC := zr [zm 30 5, zv 31 (.fad (.t 2) 0), zv 32 (.ld false 1 (.t 31)), zi 33 (.call (.c (.fn 37 [] [])) [((.t 30), .id), ((.t 32), .id)]), zm 29 33, zv 34 (.ext (.t 29) 0), zv 35 (.ext (.t 29) 1), zi 8 (.alo [(.str []), (.int .i64 0), .nils]), zn (.st 3 (.agg [.id, .id, (.sl 3)]) (.t 8) (.t 34)), zm 9 35]
def q02 : IC := zr [zm 37 5, zm 38 1, zi 39 (.call (.c (.fn 33 [] [])) [((.t 38), (.sl 4))]), zi 40 (.call (.c (.fn 46 [] [])) [((.t 37), .id), ((.t 39), .id)]), zm 36 40, zv 41 (.ext (.t 36) 0), zv 42 (.ext (.t 36) 1), zm 10 41, zm 11 42]
def q3l : IC := zr [zm 43 7, zv 44 (.bin .eql .no (.t 43) (zc 0)), zm 45 44, zw 45 true 46 (.ld true 3 (.t 6)), zw 45 true 47 (.fad (.t 2) 1), zw 45 true 48 (.ld true 3 (.t 47)), ⟨some (45, true), some 49, .call (.c (.fn 39 [] [])) [((.t 46), (.agg [.id, .id, (.sl 3)])), ((.t 48), (.agg [.id, .id, (.sl 3)]))]⟩, zw 45 true 50 (.un .not (.t 49)), zv 51 (.pick (.t 45) (.t 50) (.c (.bool false)))]
def q4i : IC := zr [zv 4 zf]
def q1v : IC := zr [zm 52 7, zv 53 (.bin .eql .no (.t 52) (zc 0)), zv 54 (.fad (.t 2) 1), zv 55 (.ld true 3 (.t 54)), zi 56 (.call (.c (.fn 48 [] [])) [((.t 55), (.agg [.id, .id, (.sl 3)]))]), zv 57 (.bin .eql .bool (.t 53) (.t 56)), zm 58 57, zw 58 true 59 (.ld true 3 (.t 8)), zw 58 true 60 (.bld [(.str []), (.int .i64 0), .nils] []), ⟨some (58, true), some 61, .call (.c (.fn 39 [] [])) [((.t 59), (.agg [.id, .id, (.sl 3)])), ((.t 60), (.agg [.id, .id, (.sl 3)]))]⟩, zv 62 (.pick (.t 58) (.t 61) (.c (.bool false))), zm 63 62, zw 63 true 64 (.mov (.t 9)), zw 63 true 65 (.un .not (.t 64)), zv 66 (.pick (.t 63) (.t 65) (.c (.bool false))), zm 67 66, zw 67 true 68 (.mov (.t 5)), zw 67 true 69 (.fad (.t 2) 0), zw 67 true 70 (.ld false 1 (.t 69)), zw 67 true 71 (.fad (.t 2) 1), zw 67 true 72 (.ld true 3 (.t 71)), ⟨some (67, true), some 73, .call (.c (.fn 45 [] [])) [((.t 68), .id), ((.t 70), .id), ((.t 72), (.agg [.id, .id, (.sl 3)]))]⟩, zw 67 true 74 (.bin .eql .no (.t 73) (zc 1)), zv 75 (.pick (.t 67) (.t 74) (.c (.bool false))), zm 76 75, zw 76 true 77 (.mov (.t 11)), zw 76 true 78 (.bin .eql .no (.t 77) (zc 0)), zv 79 (.pick (.t 76) (.t 78) (.c (.bool false))), zm 80 79, zw 80 true 81 (.mov (.t 10)), ⟨some (80, true), some 82, .call (.c (.fn 41 [] [])) [((.t 81), .id)]⟩, zw 80 true 83 (.mov (.t 1)), ⟨some (80, true), some 84, .call (.c (.fn 34 [] [])) [((.t 83), (.sl 4))]⟩, ⟨some (80, true), some 85, .call (.c (.fn 40 [] [])) [((.t 82), (.sl 4)), ((.t 84), (.sl 4))]⟩, zv 86 (.pick (.t 80) (.t 85) (.c (.bool false))), zm 87 86, zw 87 true 88 (.mov (.t 5)), ⟨some (87, true), some 89, .call (.c (.fn 41 [] [])) [((.t 88), .id)]⟩, zw 87 true 90 (.len false (.t 89)), zw 87 true 91 (.bin .eql .no (.t 90) (zc 0)), zv 92 (.pick (.t 87) (.t 91) (.c (.bool false))), zm 93 92, zw 93 true 94 (.mov (.t 5)), zw 93 true 95 (.fad (.t 2) 0), zw 93 true 96 (.ld false 1 (.t 95)), zw 93 true 97 (.bsl 1 [((.t 96), .id)]), ⟨some (93, true), some 98, .call (.c (.fn 42 [] [])) [((.t 94), .id), ((.t 97), (.sl 1))]⟩, ⟨some (93, true), some 99, .call (.c (.fn 41 [] [])) [((.t 98), .id)]⟩, zw 93 true 100 (.len false (.t 99)), zw 93 true 101 (.bin .eql .no (.t 100) (zc 0)), zv 102 (.pick (.t 93) (.t 101) (.c (.bool false))), zm 103 102, ⟨some (103, true), some 104, .call (.c (.fn 32 [] [])) []⟩, zv 105 (.pick (.t 103) (.t 104) (.c (.bool false))), zm 4 105]
def k0bb : IC := (.seq q38 (.seq (.seq qbbc (.cond (.t 20) (.seq q91 .ret) .skip)) (.seq q6e (.seq q7i (.seq q3h (.seq q02 (.seq (.seq q3l (.cond (.t 51) (.seq q4i .ret) .skip)) (.seq q1v .ret))))))))
@[go_sem] def s0bb : List (RV × Co) := [(.t 4, .id)]
theorem c0bb : cFun Try.prog 9 = some (106, k0bb, s0bb) := by kernel_rfl

def q3v : IC := zr [zv 2 (.mov (zc 0))]
def q8j : IC := zr [zm 5 0, zv 6 (.len false (.t 5)), zv 7 (.bin .gtr .no (.t 6) (zc 30))]
def q2m : IC := zr [zv 2 (.mov (zc 0))]
def qbba : IC := zr [zv 3 (.mov (.c .nils))]
def q0p : IC := zr [zv 4 (.mov (zc 0))]
def q16 : IC := zr [zm 8 4, zm 9 0, zv 10 (.len false (.t 9)), zv 11 (.bin .lss .no (.t 8) (.t 10))]
def q8z : IC := zr [zm 14 3, zm 15 0, zm 16 4, zv 17 (.iad 4 (.t 15) (.t 16)), zv 18 (.fad (.t 17) 1), zv 19 (.ld true 3 (.t 18)), zv 20 (.bsl 3 [((.t 19), (.agg [.id, .id, (.sl 3)]))]), zi 21 (.app 3 (.agg [(.str []), (.int .i64 0), .nils]) 48 (.sl 3) (.t 14) (.t 20)), zm 3 21]
def q01 : IC := zr [zm 12 4, zv 13 (.bin .add .no (.t 12) (zc 1)), zm 4 13]
def q3d : IC := (.seq (.seq q16 (.cond (.t 11) .skip (.exit 0))) (.seq (.block 1 q8z) q01))
def qxg : IC := zr [zm 22 3, zi 23 (.call (.c (.fn 31 [] [])) [((.t 22), (.sl 3))]), zm 2 23]
def k0bi : IC := (.seq q3v (.seq (.seq q8j (.cond (.t 7) (.seq q2m .ret) .skip)) (.seq qbba (.seq (.seq q0p (.block 0 (.loop q3d))) (.seq qxg .ret)))))
@[go_sem] def s0bi : List (RV × Co) := [(.t 2, .id)]
theorem c0bi : cFun Try.prog 30 = some (24, k0bi, s0bi) := by kernel_rfl

def qbbk : IC := zr [zv 2 (.mov (zc 0))]
def q6j : IC := zr [zv 3 (.mov (zc 20000))]
def q5a : IC := zr [zv 4 (.mov (zc 0))]
def q2j : IC := zr [zm 5 4, zm 6 0, zv 7 (.len false (.t 6)), zv 8 (.bin .lss .no (.t 5) (.t 7))]
def q36 : IC := zr [zm 11 0, zm 12 4, zv 13 (.iad 3 (.t 11) (.t 12)), zv 14 (.ld true 3 (.t 13)), zm 15 3, zi 16 (.call (.c (.fn 77 [] [])) [((.t 14), (.agg [.id, .id, (.sl 3)])), ((.t 15), .id), ((zc 300), .id)]), zm 3 16]
def qbai : IC := zr [zm 9 4, zv 10 (.bin .add .no (.t 9) (zc 1)), zm 4 10]
def q5o : IC := (.seq (.seq q2j (.cond (.t 8) .skip (.exit 0))) (.seq (.block 1 q36) qbai))
def qbbi : IC := zr [zm 17 3, zv 18 (.bin .lss .no (.t 17) (zc 0))]
def qbav : IC := zr [zv 2 (.mov (zc 0))]
def qv1 : IC := zr [zv 2 (.mov (zc 1))]
def k0cg : IC := (.seq qbbk (.seq q6j (.seq (.seq q5a (.block 0 (.loop q5o))) (.seq (.seq qbbi (.cond (.t 18) (.seq qbav .ret) .skip)) (.seq qv1 .ret)))))
@[go_sem] def s0cg : List (RV × Co) := [(.t 2, .id)]
theorem c0cg : cFun Try.prog 31 = some (19, k0cg, s0cg) := by kernel_rfl

def q3s : IC := zr [zv 0 zf]
def q80 : IC := zr [zv 11 (.bld [(.str []), (.int .i64 0), .nils] [(0, 1, (.c (.str [84])))]), zi 1 (.alo [(.str []), (.int .i64 0), .nils]), zn (.st 3 (.agg [.id, .id, (.sl 3)]) (.t 1) (.t 11))]
def q2n : IC := zr [zv 12 (.ld true 3 (.t 1)), zv 13 (.bld [(.int .i64 0), (.str []), (.int .i64 0), .nils] [(1, 3, (.t 12))]), zv 14 (.bld [(.str []), (.int .i64 0), .nils] [(0, 1, (.c (.str [85])))]), zv 15 (.bld [(.int .i64 0), (.str []), (.int .i64 0), .nils] [(1, 3, (.t 14))]), zv 16 (.bsl 4 [((.t 13), (.agg [.id, .id, .id, (.sl 3)])), ((.t 15), (.agg [.id, .id, .id, (.sl 3)]))]), zi 17 (.call (.c (.fn 33 [] [])) [((.t 16), (.sl 4))]), zm 2 17]
def q10 : IC := zr [zm 18 2, zv 19 (.bin .eql .ptr (.t 18) (.c .nilp))]
def q6a : IC := zr [zv 0 zf]
def q30 : IC := zr [zm 21 2, zv 22 (.bld [(.str []), (.int .i64 0), .nils] []), zv 23 (.bld [(.str []), (.int .i64 0), .nils] [(1, 1, (zc 1))]), zv 24 (.bsl 3 [((.t 22), (.agg [.id, .id, (.sl 3)])), ((.t 23), (.agg [.id, .id, (.sl 3)]))]), zv 25 (.bld [(.str []), (.int .i64 0), .nils] [(0, 1, (.c (.str [45, 62]))), (2, 1, (.t 24))]), zi 26 (.call (.c (.fn 35 [] [])) [((.t 21), .id), ((.t 25), (.agg [.id, .id, (.sl 3)]))]), zm 20 26, zv 27 (.ext (.t 20) 0), zv 28 (.ext (.t 20) 1), zi 3 (.alo [(.str []), (.int .i64 0), .nils]), zn (.st 3 (.agg [.id, .id, (.sl 3)]) (.t 3) (.t 27)), zm 4 28]
def q5v : IC := zr [zm 29 2, zv 30 (.ld true 3 (.t 1)), zi 31 (.call (.c (.fn 45 [] [])) [((.t 29), .id), ((zc 0), .id), ((.t 30), (.agg [.id, .id, (.sl 3)]))]), zm 32 2, zv 33 (.bld [(.str []), (.int .i64 0), .nils] []), zi 34 (.call (.c (.fn 45 [] [])) [((.t 32), .id), ((zc 1), .id), ((.t 33), (.agg [.id, .id, (.sl 3)]))]), zm 5 31, zm 6 34]
def q96 : IC := zr [zm 36 2, zv 37 (.bld [(.str []), (.int .i64 0), .nils] [(0, 1, (.c (.str [86])))]), zv 38 (.bld [(.int .i64 0), (.str []), (.int .i64 0), .nils] [(1, 3, (.t 37))]), zv 39 (.bsl 4 [((.t 38), (.agg [.id, .id, .id, (.sl 3)]))]), zi 40 (.call (.c (.fn 33 [] [])) [((.t 39), (.sl 4))]), zi 41 (.call (.c (.fn 46 [] [])) [((.t 36), .id), ((.t 40), .id)]), zm 35 41, zv 42 (.ext (.t 35) 0), zv 43 (.ext (.t 35) 1), zm 7 42, zm 8 43]
def qba2 : IC := zr [zm 45 7, zi 46 (.call (.c (.fn 37 [] [])) [((.t 45), .id), ((zc 1), .id)]), zm 44 46, zv 47 (.ext (.t 44) 0), zv 48 (.ext (.t 44) 1), zi 9 (.alo [(.str []), (.int .i64 0), .nils]), zn (.st 3 (.agg [.id, .id, (.sl 3)]) (.t 9) (.t 47)), zm 10 48]
def q4r : IC := zr [zv 49 (.ld true 3 (.t 3)), zi 50 (.call (.c (.fn 75 [] [])) [((.t 49), (.agg [.id, .id, (.sl 3)]))]), zv 51 (.bin .eql .no (.t 50) (.c (.str [84, 32, 45, 62, 32, 98]))), zm 52 51, zw 52 true 53 (.mov (.t 4)), zw 52 true 54 (.bin .eql .no (.t 53) (zc 0)), zv 55 (.pick (.t 52) (.t 54) (.c (.bool false))), zm 56 55, zw 56 true 57 (.mov (.t 5)), zw 56 true 58 (.bin .eql .no (.t 57) (zc 6)), zv 59 (.pick (.t 56) (.t 58) (.c (.bool false))), zm 60 59, zw 60 true 61 (.mov (.t 6)), zw 60 true 62 (.bin .eql .no (.t 61) (zc 0)), zv 63 (.pick (.t 60) (.t 62) (.c (.bool false))), zm 64 63, zw 64 true 65 (.mov (.t 8)), zw 64 true 66 (.bin .eql .no (.t 65) (zc 0)), zv 67 (.pick (.t 64) (.t 66) (.c (.bool false))), zm 68 67, zw 68 true 69 (.fad (.t 9) 0), zw 68 true 70 (.ld false 1 (.t 69)), zw 68 true 71 (.bin .eql .no (.t 70) (.c (.str [86]))), zv 72 (.pick (.t 68) (.t 71) (.c (.bool false))), zm 73 72, zw 73 true 74 (.mov (.t 10)), zv 75 (.pick (.t 73) (.t 74) (.c (.bool false))), zm 76 75, zw 76 true 77 (.mov (.t 2)), ⟨some (76, true), some 78, .call (.c (.fn 41 [] [])) [((.t 77), .id)]⟩, zw 76 true 79 (.len false (.t 78)), zw 76 true 80 (.bin .eql .no (.t 79) (zc 2)), zv 81 (.pick (.t 76) (.t 80) (.c (.bool false))), zm 82 81, zw 82 true 83 (.mov (.t 2)), zw 82 true 84 (.bsl 1 [((zc 1), .id)]), ⟨some (82, true), some 85, .call (.c (.fn 42 [] [])) [((.t 83), .id), ((.t 84), (.sl 1))]⟩, ⟨some (82, true), some 86, .call (.c (.fn 41 [] [])) [((.t 85), .id)]⟩, zw 82 true 87 (.len false (.t 86)), zw 82 true 88 (.bin .eql .no (.t 87) (zc 1)), zv 89 (.pick (.t 82) (.t 88) (.c (.bool false))), zm 0 89]
def k0bh : IC := (.seq q3s (.seq q80 (.seq q2n (.seq (.seq q10 (.cond (.t 19) (.seq q6a .ret) .skip)) (.seq q30 (.seq q5v (.seq q96 (.seq qba2 (.seq q4r .ret)))))))))
@[go_sem] def s0bh : List (RV × Co) := [(.t 0, .id)]
theorem c0bh : cFun Try.prog 32 = some (90, k0bh, s0bh) := by kernel_rfl

def q9k : IC := zr [zv 2 (.mov (.c .nilp))]
def q1y : IC := zr [zv 6 (.bld [.nils] []), zi 7 (.box (.t 6)), zm 3 7]
def q34 : IC := zr [zm 8 0, zv 9 (.len false (.t 8)), zv 10 (.mov (zc 0))]
def q95 : IC := zr [zv 11 (.bin .lss .no (.t 10) (.t 9))]
def q4w : IC := zr [zv 12 (.iad 4 (.t 8) (.t 10)), zv 13 (.ld true 4 (.t 12)), zi 5 (.alo [(.int .i64 0), (.str []), (.int .i64 0), .nils]), zn (.st 4 (.agg [.id, .id, .id, (.sl 3)]) (.t 5) (.t 13))]
def qz4 : IC := zr [zm 14 3, zv 15 (.fad (.t 5) 0), zv 16 (.ld false 1 (.t 15)), zv 17 (.fad (.t 5) 1), zv 18 (.ld true 3 (.t 17)), zi 19 (.call (.c (.fn 45 [] [])) [((.t 14), .id), ((.t 16), .id), ((.t 18), (.agg [.id, .id, (.sl 3)]))])]
def q3c : IC := zr [zv 20 (.bin .add .no (.t 10) (zc 1)), zm 10 20]
def q4a : IC := (.seq q95 (.seq (.cond (.t 11) .skip (.exit 0)) (.seq (.block 1 (.seq q4w qz4)) q3c)))
def q5n : IC := zr [zm 21 3, zm 2 21]
def k0bk : IC := (.seq q9k (.seq q1y (.seq (.seq q34 (.block 0 (.loop q4a))) (.seq q5n .ret))))
@[go_sem] def s0bk : List (RV × Co) := [(.t 2, .id)]
theorem c0bk : cFun Try.prog 33 = some (22, k0bk, s0bk) := by kernel_rfl

def q66 : IC := zr [zv 2 (.mov (.c .nils))]
def q57 : IC := zr [zv 3 (.mov (.c .nils))]
def q12 : IC := zr [zv 4 (.mov (zc 0))]
def q5p : IC := zr [zm 7 4, zm 8 0, zv 9 (.len false (.t 8)), zv 10 (.bin .lss .no (.t 7) (.t 9))]
def q99 : IC := .drw [zp (zm 14 3), zp (zm 15 0), zp (zm 16 4), zp (zv 17 (.iad 4 (.t 15) (.t 16))), zp (zv 18 (.fad (.t 17) 0)), zp (zv 19 (.ld false 1 (.t 18))), zp (zm 20 0), zp (zm 21 4), zp (zv 22 (.iad 4 (.t 20) (.t 21))), zp (zv 23 (.fad (.t 22) 1)), zp (zv 24 (.ld true 3 (.t 23))), (zi 25 (.call (.c (.fn 44 [] [])) [((.t 14), (.sl 4)), ((.t 19), .id), ((.t 24), (.agg [.id, .id, (.sl 3)]))]), []), zp (zm 13 25), zp (zv 26 (.ext (.t 13) 0)), zp (zv 27 (.ext (.t 13) 1)), zp (zm 5 26), zp (zm 6 27)]
def q44 : IC := zr [zm 28 5, zm 3 28]
def q7v : IC := zr [zm 11 4, zv 12 (.bin .add .no (.t 11) (zc 1)), zm 4 12]
def q7g : IC := (.seq (.seq q5p (.cond (.t 10) .skip (.exit 0))) (.seq (.block 1 (.seq q99 q44)) q7v))
def q7q : IC := zr [zm 29 3, zm 2 29]
def k0ck : IC := (.seq q66 (.seq q57 (.seq (.seq q12 (.block 0 (.loop q7g))) (.seq q7q .ret))))
@[go_sem] def s0ck : List (RV × Co) := [(.t 2, (.sl 4))]
theorem c0ck : cFun Try.prog 34 = some (30, k0ck, s0ck) := by kernel_rfl

def q8u : IC := zr [zi 3 (.box (.t 1)), zi 4 (.alo [(.str []), (.int .i64 0), .nils]), zv 5 (.mov (zc 0))]
def q50 : IC := zr [zv 8 (.ld true 3 (.t 3)), zi 9 (.call (.c (.fn 48 [] [])) [((.t 8), (.agg [.id, .id, (.sl 3)]))]), zv 10 (.un .not (.t 9))]
def q8c : IC := zr [zv 11 (.bld [(.str []), (.int .i64 0), .nils] []), zn (.st 3 (.agg [.id, .id, (.sl 3)]) (.t 4) (.t 11)), zv 5 (.mov (zc 1))]
def q5d : IC := zr [zm 12 0, zv 13 (.bld [.nilp, (.int .i64 0)] [(0, 1, (.t 12)), (1, 1, (zc 4096))]), zi 14 (.box (.t 13)), zm 6 14]
def qbbb : IC := zr [zm 15 6, zv 16 (.ld true 3 (.t 3)), zi 17 (.call (.c (.fn 78 [] [])) [((.t 15), .id), ((.t 16), (.agg [.id, .id, (.sl 3)])), ((zc 1), .id)]), zi 7 (.alo [(.str []), (.int .i64 0), .nils]), zn (.st 3 (.agg [.id, .id, (.sl 3)]) (.t 7) (.t 17))]
def q4x : IC := zr [zm 18 6, zv 19 (.nck (.t 18)), zv 20 (.fad (.t 19) 1), zv 21 (.ld false 1 (.t 20)), zv 22 (.bin .lss .no (.t 21) (zc 0))]
def q1u : IC := zr [zv 23 (.bld [(.str []), (.int .i64 0), .nils] []), zn (.st 3 (.agg [.id, .id, (.sl 3)]) (.t 4) (.t 23)), zv 5 (.mov (zc 2))]
def q0v : IC := zr [zv 24 (.ld true 3 (.t 7)), zn (.st 3 (.agg [.id, .id, (.sl 3)]) (.t 4) (.t 24)), zv 5 (.mov (zc 0))]
def k0bj : IC := (.seq q8u (.seq (.seq q50 (.cond (.t 10) (.seq q8c .ret) .skip)) (.seq q5d (.seq qbbb (.seq (.seq q4x (.cond (.t 22) (.seq q1u .ret) .skip)) (.seq q0v .ret))))))
@[go_sem] def s0bj : List (RV × Co) := [(.c true 3 4, (.agg [.id, .id, (.sl 3)])), (.t 5, .id)]
theorem c0bj : cFun Try.prog 35 = some (25, k0bj, s0bj) := by kernel_rfl

def q7e : IC := zr [zi 3 (.box (.t 1)), zi 4 (.alo [(.str []), (.int .i64 0), .nils]), zv 5 (.mov (zc 0))]
def q1f : IC := zr [zv 7 (.ld true 3 (.t 3)), zi 8 (.call (.c (.fn 79 [] [])) [((.t 7), (.agg [.id, .id, (.sl 3)]))]), zv 9 (.un .not (.t 8))]
def qbas : IC := zr [zv 10 (.bld [(.str []), (.int .i64 0), .nils] []), zn (.st 3 (.agg [.id, .id, (.sl 3)]) (.t 4) (.t 10)), zv 5 (.mov (zc 1))]
def q1t : IC := zr [zm 11 0, zv 12 (.ld true 3 (.t 3)), zi 13 (.call (.c (.fn 80 [] [])) [((.t 11), (.sl 4)), ((.t 12), (.agg [.id, .id, (.sl 3)]))]), zv 14 (.bin .gtr .no (.t 13) (zc 4096))]
def q9z : IC := zr [zv 15 (.bld [(.str []), (.int .i64 0), .nils] []), zn (.st 3 (.agg [.id, .id, (.sl 3)]) (.t 4) (.t 15)), zv 5 (.mov (zc 2))]
def q60 : IC := zr [zm 16 0, zv 17 (.ld true 3 (.t 3)), zi 18 (.call (.c (.fn 81 [] [])) [((.t 16), (.sl 4)), ((.t 17), (.agg [.id, .id, (.sl 3)]))]), zi 6 (.alo [(.str []), (.int .i64 0), .nils]), zn (.st 3 (.agg [.id, .id, (.sl 3)]) (.t 6) (.t 18))]
def q59 : IC := zr [zv 19 (.ld true 3 (.t 6)), zi 20 (.call (.c (.fn 79 [] [])) [((.t 19), (.agg [.id, .id, (.sl 3)]))]), zv 21 (.un .not (.t 20))]
def q4v : IC := zr [zv 22 (.bld [(.str []), (.int .i64 0), .nils] []), zn (.st 3 (.agg [.id, .id, (.sl 3)]) (.t 4) (.t 22)), zv 5 (.mov (zc 2))]
def q1s : IC := zr [zv 23 (.ld true 3 (.t 6)), zn (.st 3 (.agg [.id, .id, (.sl 3)]) (.t 4) (.t 23)), zv 5 (.mov (zc 0))]
def k0ci : IC := (.seq q7e (.seq (.seq q1f (.cond (.t 9) (.seq qbas .ret) .skip)) (.seq (.seq q1t (.cond (.t 14) (.seq q9z .ret) .skip)) (.seq q60 (.seq (.seq q59 (.cond (.t 21) (.seq q4v .ret) .skip)) (.seq q1s .ret))))))
@[go_sem] def s0ci : List (RV × Co) := [(.c true 3 4, (.agg [.id, .id, (.sl 3)])), (.t 5, .id)]
theorem c0ci : cFun Try.prog 36 = some (24, k0ci, s0ci) := by kernel_rfl

def q33 : IC := zr [zi 4 (.alo [(.str []), (.int .i64 0), .nils]), zv 5 zf]
def q82 : IC := zr [zm 8 0, zv 9 (.bin .eql .ptr (.t 8) (.c .nilp))]
def q5b : IC := zr [zv 10 (.bld [(.str []), (.int .i64 0), .nils] []), zn (.st 3 (.agg [.id, .id, (.sl 3)]) (.t 4) (.t 10)), zv 5 zf]
def q5e : IC := zr [zm 12 0, zm 13 1, zi 14 (.call (.c (.fn 82 [] [])) [((.t 12), .id), ((.t 13), .id)]), zm 11 14, zv 15 (.ext (.t 11) 0), zv 16 (.ext (.t 11) 1), zm 6 15, zm 7 16]
def q1j : IC := zr [zm 17 7, zv 18 (.un .not (.t 17))]
def q1p : IC := zr [zv 19 (.bld [(.str []), (.int .i64 0), .nils] []), zn (.st 3 (.agg [.id, .id, (.sl 3)]) (.t 4) (.t 19)), zv 5 zf]
def qba8 : IC := zr [zm 20 0, zv 21 (.nck (.t 20)), zv 22 (.fad (.t 21) 0), zv 23 (.ld false 1 (.t 22)), zm 24 6, zv 25 (.iad 4 (.t 23) (.t 24)), zv 26 (.fad (.t 25) 1), zv 27 (.ld true 3 (.t 26)), zn (.st 3 (.agg [.id, .id, (.sl 3)]) (.t 4) (.t 27)), zv 5 (.mov (.c (.bool true)))]
def k0bc : IC := (.seq q33 (.seq (.seq q82 (.cond (.t 9) (.seq q5b .ret) .skip)) (.seq q5e (.seq (.seq q1j (.cond (.t 18) (.seq q1p .ret) .skip)) (.seq qba8 .ret)))))
@[go_sem] def s0bc : List (RV × Co) := [(.c true 3 4, (.agg [.id, .id, (.sl 3)])), (.t 5, .id)]
theorem c0bc : cFun Try.prog 37 = some (28, k0bc, s0bc) := by kernel_rfl

def q4z : IC := zr [zi 4 (.alo [(.str []), (.int .i64 0), .nils]), zv 5 zf]
def q4h : IC := zr [zv 6 (.mov (zc 0))]
def q5f : IC := zr [zm 7 6, zm 8 0, zv 9 (.len false (.t 8)), zv 10 (.bin .lss .no (.t 7) (.t 9))]
def q0g : IC := zr [zm 13 0, zm 14 6, zv 15 (.iad 4 (.t 13) (.t 14)), zv 16 (.fad (.t 15) 0), zv 17 (.ld false 1 (.t 16)), zm 18 1, zv 19 (.bin .eql .no (.t 17) (.t 18))]
def q2r : IC := zr [zm 20 0, zm 21 6, zv 22 (.iad 4 (.t 20) (.t 21)), zv 23 (.fad (.t 22) 1), zv 24 (.ld true 3 (.t 23)), zn (.st 3 (.agg [.id, .id, (.sl 3)]) (.t 4) (.t 24)), zv 5 (.mov (.c (.bool true)))]
def q2v : IC := zr [zm 11 6, zv 12 (.bin .add .no (.t 11) (zc 1)), zm 6 12]
def q2a : IC := (.seq (.seq q5f (.cond (.t 10) .skip (.exit 0))) (.seq (.block 1 (.seq q0g (.cond (.t 19) (.seq q2r .ret) .skip))) q2v))
def q5j : IC := zr [zv 25 (.bld [(.str []), (.int .i64 0), .nils] []), zn (.st 3 (.agg [.id, .id, (.sl 3)]) (.t 4) (.t 25)), zv 5 zf]
def k0bq : IC := (.seq q4z (.seq (.seq q4h (.block 0 (.loop q2a))) (.seq q5j .ret)))
@[go_sem] def s0bq : List (RV × Co) := [(.c true 3 4, (.agg [.id, .id, (.sl 3)])), (.t 5, .id)]
theorem c0bq : cFun Try.prog 38 = some (26, k0bq, s0bq) := by kernel_rfl

def qbdv : IC := zr [zi 2 (.box (.t 0)), zi 3 (.box (.t 1)), zv 4 zf]
def qbc2 : IC := zr [zv 6 (.fad (.t 2) 0), zv 7 (.ld false 1 (.t 6)), zv 8 (.fad (.t 3) 0), zv 9 (.ld false 1 (.t 8)), zv 10 (.bin .neq .no (.t 7) (.t 9)), zm 11 10, zw 11 false 12 (.fad (.t 2) 1), zw 11 false 13 (.ld false 1 (.t 12)), zw 11 false 14 (.fad (.t 3) 1), zw 11 false 15 (.ld false 1 (.t 14)), zw 11 false 16 (.bin .neq .no (.t 13) (.t 15)), zv 17 (.pick (.t 11) (.c (.bool true)) (.t 16)), zm 18 17, zw 18 false 19 (.fad (.t 2) 2), zw 18 false 20 (.ld false 1 (.t 19)), zw 18 false 21 (.len false (.t 20)), zw 18 false 22 (.fad (.t 3) 2), zw 18 false 23 (.ld false 1 (.t 22)), zw 18 false 24 (.len false (.t 23)), zw 18 false 25 (.bin .neq .no (.t 21) (.t 24)), zv 26 (.pick (.t 18) (.c (.bool true)) (.t 25))]
def qbbu : IC := zr [zv 4 zf]
def qbg9 : IC := zr [zv 5 (.mov (zc 0))]
def qbez : IC := zr [zm 27 5, zv 28 (.fad (.t 2) 2), zv 29 (.ld false 1 (.t 28)), zv 30 (.len false (.t 29)), zv 31 (.bin .lss .no (.t 27) (.t 30))]
def qbd7 : IC := .drw [zp (zv 34 (.fad (.t 2) 2)), zp (zv 35 (.ld false 1 (.t 34))), zp (zm 36 5), zp (zv 37 (.iad 3 (.t 35) (.t 36))), zp (zv 38 (.ld true 3 (.t 37))), zp (zv 39 (.fad (.t 3) 2)), zp (zv 40 (.ld false 1 (.t 39))), zp (zm 41 5), zp (zv 42 (.iad 3 (.t 40) (.t 41))), zp (zv 43 (.ld true 3 (.t 42))), (zi 44 (.call (.c (.fn 39 [] [])) [((.t 38), (.agg [.id, .id, (.sl 3)])), ((.t 43), (.agg [.id, .id, (.sl 3)]))]), []), zp (zv 45 (.un .not (.t 44)))]
def qbem : IC := zr [zv 4 zf]
def qbcu : IC := zr [zm 32 5, zv 33 (.bin .add .no (.t 32) (zc 1)), zm 5 33]
def qbc3 : IC := (.seq (.seq qbez (.cond (.t 31) .skip (.exit 0))) (.seq (.block 1 (.seq qbd7 (.cond (.t 45) (.seq qbem .ret) .skip))) qbcu))
def q3b : IC := zr [zv 4 (.mov (.c (.bool true)))]
def k0e : IC := (.seq qbdv (.seq (.seq qbc2 (.cond (.t 26) (.seq qbbu .ret) .skip)) (.seq (.seq qbg9 (.block 0 (.loop qbc3))) (.seq q3b .ret))))
@[go_sem] def s0e : List (RV × Co) := [(.t 4, .id)]
theorem c0e : cFun Try.prog 39 = some (46, k0e, s0e) := by kernel_rfl

def q81 : IC := zr [zv 4 zf]
def q89 : IC := zr [zm 6 0, zv 7 (.len false (.t 6)), zm 8 1, zv 9 (.len false (.t 8)), zv 10 (.bin .neq .no (.t 7) (.t 9))]
def q2i : IC := zr [zv 4 zf]
def qba3 : IC := zr [zv 5 (.mov (zc 0))]
def q3o : IC := zr [zm 11 5, zm 12 0, zv 13 (.len false (.t 12)), zv 14 (.bin .lss .no (.t 11) (.t 13))]
def q9e : IC := .drw [zp (zm 17 0), zp (zm 18 5), zp (zv 19 (.iad 4 (.t 17) (.t 18))), zp (zv 20 (.fad (.t 19) 0)), zp (zv 21 (.ld false 1 (.t 20))), zp (zm 22 1), zp (zm 23 5), zp (zv 24 (.iad 4 (.t 22) (.t 23))), zp (zv 25 (.fad (.t 24) 0)), zp (zv 26 (.ld false 1 (.t 25))), zp (zv 27 (.bin .neq .no (.t 21) (.t 26))), zp (zm 28 27), zp (zw 28 false 29 (.mov (.t 0))), zp (zw 28 false 30 (.mov (.t 5))), zp (zw 28 false 31 (.iad 4 (.t 29) (.t 30))), zp (zw 28 false 32 (.fad (.t 31) 1)), zp (zw 28 false 33 (.ld true 3 (.t 32))), zp (zw 28 false 34 (.mov (.t 1))), zp (zw 28 false 35 (.mov (.t 5))), zp (zw 28 false 36 (.iad 4 (.t 34) (.t 35))), zp (zw 28 false 37 (.fad (.t 36) 1)), zp (zw 28 false 38 (.ld true 3 (.t 37))), (⟨some (28, false), some 39, .call (.c (.fn 39 [] [])) [((.t 33), (.agg [.id, .id, (.sl 3)])), ((.t 38), (.agg [.id, .id, (.sl 3)]))]⟩, []), zp (zw 28 false 40 (.un .not (.t 39))), zp (zv 41 (.pick (.t 28) (.c (.bool true)) (.t 40)))]
def q4n : IC := zr [zv 4 zf]
def qbay : IC := zr [zm 15 5, zv 16 (.bin .add .no (.t 15) (zc 1)), zm 5 16]
def q5z : IC := (.seq (.seq q3o (.cond (.t 14) .skip (.exit 0))) (.seq (.block 1 (.seq q9e (.cond (.t 41) (.seq q4n .ret) .skip))) qbay))
def qwz : IC := zr [zv 4 (.mov (.c (.bool true)))]
def k0cj : IC := (.seq q81 (.seq (.seq q89 (.cond (.t 10) (.seq q2i .ret) .skip)) (.seq (.seq qba3 (.block 0 (.loop q5z))) (.seq qwz .ret))))
@[go_sem] def s0cj : List (RV × Co) := [(.t 4, .id)]
theorem c0cj : cFun Try.prog 40 = some (42, k0cj, s0cj) := by kernel_rfl

def q7k : IC := zr [zv 2 (.mov (.c .nils))]
def q74 : IC := zr [zm 6 0, zv 7 (.bin .eql .ptr (.t 6) (.c .nilp))]
def q4u : IC := zr [zv 2 (.mov (.c .nils))]
def q7n : IC := zr [zm 8 0, zv 9 (.nck (.t 8)), zv 10 (.fad (.t 9) 0), zv 11 (.ld false 1 (.t 10)), zv 12 (.len false (.t 11)), zi 13 (.mks 4 (.agg [(.int .i64 0), (.str []), (.int .i64 0), .nils]) 56 (.t 12) (.t 12)), zm 3 13]
def q8d : IC := zr [zm 14 0, zv 15 (.nck (.t 14)), zv 16 (.fad (.t 15) 0), zv 17 (.ld false 1 (.t 16)), zv 18 (.len false (.t 17)), zv 19 (.mov (zc 0))]
def q8k : IC := zr [zv 20 (.bin .lss .no (.t 19) (.t 18))]
def q72 : IC := zr [zm 21 19, zv 22 (.iad 4 (.t 17) (.t 19)), zv 23 (.ld true 4 (.t 22)), zi 5 (.alo [(.int .i64 0), (.str []), (.int .i64 0), .nils]), zm 4 21, zn (.st 4 (.agg [.id, .id, .id, (.sl 3)]) (.t 5) (.t 23))]
def q9v : IC := .drw [zp (zm 24 3), zp (zm 25 4), zp (zv 26 (.fad (.t 5) 0)), zp (zv 27 (.ld false 1 (.t 26))), zp (zv 28 (.fad (.t 5) 1)), zp (zv 29 (.ld true 3 (.t 28))), (zi 30 (.call (.c (.fn 83 [] [])) [((.t 29), (.agg [.id, .id, (.sl 3)]))]), [3]), (zv 31 (.bld [(.int .i64 0), (.str []), (.int .i64 0), .nils] [(0, 1, (.t 27)), (1, 3, (.t 30))]), []), zp (zv 32 (.iad 4 (.t 24) (.t 25))), (zn (.st 4 (.agg [.id, .id, .id, (.sl 3)]) (.t 32) (.t 31)), [])]
def q00 : IC := zr [zv 33 (.bin .add .no (.t 19) (zc 1)), zm 19 33]
def q6p : IC := (.seq q8k (.seq (.cond (.t 20) .skip (.exit 0)) (.seq (.block 1 (.seq q72 q9v)) q00)))
def qxo : IC := zr [zm 34 3, zm 2 34]
def k0bg : IC := (.seq q7k (.seq (.seq q74 (.cond (.t 7) (.seq q4u .ret) .skip)) (.seq q7n (.seq (.seq q8d (.block 0 (.loop q6p))) (.seq qxo .ret)))))
@[go_sem] def s0bg : List (RV × Co) := [(.t 2, (.sl 4))]
theorem c0bg : cFun Try.prog 41 = some (35, k0bg, s0bg) := by kernel_rfl

def q4m : IC := zr [zv 4 (.mov (.c .nilp))]
def q8f : IC := zr [zi 8 (.call (.c (.fn 33 [] [])) [((.c .nils), (.sl 4))]), zm 5 8]
def q40 : IC := zr [zm 9 0, zi 10 (.call (.c (.fn 41 [] [])) [((.t 9), .id)]), zv 11 (.len false (.t 10)), zv 12 (.mov (zc 0))]
def q7w : IC := zr [zv 13 (.bin .lss .no (.t 12) (.t 11))]
def q5w : IC := zr [zv 14 (.iad 4 (.t 10) (.t 12)), zv 15 (.ld true 4 (.t 14)), zi 7 (.alo [(.int .i64 0), (.str []), (.int .i64 0), .nils]), zn (.st 4 (.agg [.id, .id, .id, (.sl 3)]) (.t 7) (.t 15))]
def q0c : IC := zr [zm 16 1, zv 17 (.fad (.t 7) 0), zv 18 (.ld false 1 (.t 17)), zi 19 (.call (.c (.fn 66 [] [])) [((.t 16), (.sl 1)), ((.t 18), .id)])]
def q7o : IC := zr [zm 20 5, zv 21 (.fad (.t 7) 0), zv 22 (.ld false 1 (.t 21)), zv 23 (.fad (.t 7) 1), zv 24 (.ld true 3 (.t 23)), zi 25 (.call (.c (.fn 45 [] [])) [((.t 20), .id), ((.t 22), .id), ((.t 24), (.agg [.id, .id, (.sl 3)]))])]
def q9c : IC := zr [zv 26 (.bin .add .no (.t 12) (zc 1)), zm 12 26]
def q6t : IC := (.seq q7w (.seq (.cond (.t 13) .skip (.exit 0)) (.seq (.block 1 (.seq q5w (.seq q0c (.cond (.t 19) q7o .skip)))) q9c)))
def qvr : IC := zr [zm 27 5, zm 4 27]
def k0be : IC := (.seq q4m (.seq q8f (.seq (.seq q40 (.block 0 (.loop q6t))) (.seq qvr .ret))))
@[go_sem] def s0be : List (RV × Co) := [(.t 4, .id)]
theorem c0be : cFun Try.prog 42 = some (28, k0be, s0be) := by kernel_rfl

def q0y : IC := zr [zi 5 (.box (.t 2)), zv 6 (.mov (.c .nils)), zv 7 (.mov (zc 0))]
def q4p : IC := zr [zv 11 (.ld true 3 (.t 5)), zi 12 (.call (.c (.fn 79 [] [])) [((.t 11), (.agg [.id, .id, (.sl 3)]))]), zv 13 (.un .not (.t 12))]
def q5q : IC := zr [zm 14 0, zm 6 14, zv 7 (.mov (zc 1))]
def q4y : IC := zr [zm 16 0, zm 17 1, zi 18 (.call (.c (.fn 38 [] [])) [((.t 16), (.sl 4)), ((.t 17), .id)]), zm 15 18, zv 19 (.ext (.t 15) 0), zv 20 (.ext (.t 15) 1), zi 8 (.alo [(.str []), (.int .i64 0), .nils]), zn (.st 3 (.agg [.id, .id, (.sl 3)]) (.t 8) (.t 19)), zm 9 20]
def q8q : IC := zr [zm 21 9]
def q2f : IC := zr [zm 22 0, zm 6 22, zv 7 (.mov (zc 6))]
def q8w : IC := zr [zv 10 (.mov (zc 0))]
def q2k : IC := zr [zm 23 10, zm 24 0, zv 25 (.len false (.t 24)), zv 26 (.bin .lss .no (.t 23) (.t 25)), zm 27 26, zw 27 true 28 (.mov (.t 0)), zw 27 true 29 (.mov (.t 10)), zw 27 true 30 (.iad 4 (.t 28) (.t 29)), zw 27 true 31 (.fad (.t 30) 0), zw 27 true 32 (.ld false 1 (.t 31)), zw 27 true 33 (.mov (.t 1)), zw 27 true 34 (.bin .lss .no (.t 32) (.t 33)), zv 35 (.pick (.t 27) (.t 34) (.c (.bool false)))]
def q2e : IC := zr [zm 36 10, zv 37 (.bin .add .no (.t 36) (zc 1)), zm 10 37]
def q77 : IC := (.seq (.seq q2k (.cond (.t 35) .skip (.exit 0))) (.block 1 q2e))
def qv8 : IC := .drw [zp (zm 38 0), zp (zm 39 10), zp (zv 40 (.slv 4 (.t 38) none (some (.t 39)) none)), (zi 41 (.app 4 (.agg [(.int .i64 0), (.str []), (.int .i64 0), .nils]) 56 (.sl 4) (.c .nils) (.t 40)), []), zp (zm 42 1), (zv 43 (.ld true 3 (.t 5)), [3]), (zv 44 (.bld [(.int .i64 0), (.str []), (.int .i64 0), .nils] [(0, 1, (.t 42)), (1, 3, (.t 43))]), []), (zv 45 (.bsl 4 [((.t 44), (.agg [.id, .id, .id, (.sl 3)]))]), [3]), (zi 46 (.app 4 (.agg [(.int .i64 0), (.str []), (.int .i64 0), .nils]) 56 (.sl 4) (.t 41) (.t 45)), []), zp (zm 47 0), zp (zm 48 10), (zv 49 (.slv 4 (.t 47) (some (.t 48)) none none), [3, 8]), (zi 50 (.app 4 (.agg [(.int .i64 0), (.str []), (.int .i64 0), .nils]) 56 (.sl 4) (.t 46) (.t 49)), []), zp (zm 6 50), zp (zv 7 (.mov (zc 0)))]
def k0br : IC := (.seq q0y (.seq (.seq q4p (.cond (.t 13) (.seq q5q .ret) .skip)) (.seq (.seq q4y (.seq q8q (.cond (.t 21) (.seq q2f .ret) .skip))) (.seq q8w (.seq (.block 0 (.loop q77)) (.seq qv8 .ret))))))
@[go_sem] def s0br : List (RV × Co) := [(.t 6, (.sl 4)), (.t 7, .id)]
theorem c0br : cFun Try.prog 44 = some (51, k0br, s0br) := by kernel_rfl

def q5m : IC := zr [zi 5 (.box (.t 2)), zv 6 (.mov (zc 0))]
def q3a : IC := zr [zm 9 0, zv 10 (.bin .eql .ptr (.t 9) (.c .nilp)), zm 11 10, zw 11 false 12 (.ld true 3 (.t 5)), ⟨some (11, false), some 13, .call (.c (.fn 48 [] [])) [((.t 12), (.agg [.id, .id, (.sl 3)]))]⟩, zw 11 false 14 (.un .not (.t 13)), zv 15 (.pick (.t 11) (.c (.bool true)) (.t 14))]
def q9j : IC := zr [zv 6 (.mov (zc 1))]
def q63 : IC := zr [zm 17 0, zm 18 1, zi 19 (.call (.c (.fn 82 [] [])) [((.t 17), .id), ((.t 18), .id)]), zm 16 19, zv 20 (.ext (.t 16) 0), zv 21 (.ext (.t 16) 1), zm 7 20, zm 8 21]
def q42 : IC := zr [zm 22 8]
def q0u : IC := zr [zv 6 (.mov (zc 6))]
def q85 : IC := .drw [zp (zm 23 0), zp (zm 24 0), zp (zv 25 (.nck (.t 24))), zp (zv 26 (.fad (.t 25) 0)), zp (zv 27 (.ld false 1 (.t 26))), zp (zm 28 7), zp (zm 29 1), zp (zv 30 (.ld true 3 (.t 5))), (zi 31 (.call (.c (.fn 83 [] [])) [((.t 30), (.agg [.id, .id, (.sl 3)]))]), [4]), (zv 32 (.bld [(.int .i64 0), (.str []), (.int .i64 0), .nils] [(0, 1, (.t 29)), (1, 3, (.t 31))]), []), (zv 33 (.bsl 4 [((.t 32), (.agg [.id, .id, .id, (.sl 3)]))]), []), (zi 34 (.call (.c (.fn 85 [] [])) [((.t 27), (.sl 4)), ((.t 28), .id), ((.t 33), (.sl 4))]), []), zp (zv 35 (.nck (.t 23))), zp (zv 36 (.fad (.t 35) 0)), (zn (.st 1 (.sl 4) (.t 36) (.t 34)), [])]
def q8n : IC := zr [zv 6 (.mov (zc 0))]
def k0bd : IC := (.seq q5m (.seq (.seq q3a (.cond (.t 15) (.seq q9j .ret) .skip)) (.seq q63 (.seq (.seq q42 (.cond (.t 22) (.seq q0u .ret) .skip)) (.seq q85 (.seq q8n .ret))))))
@[go_sem] def s0bd : List (RV × Co) := [(.t 6, .id)]
theorem c0bd : cFun Try.prog 45 = some (37, k0bd, s0bd) := by kernel_rfl

def q58 : IC := zr [zv 4 (.mov (.c .nilp)), zv 5 (.mov (zc 0))]
def qbax : IC := zr [zi 13 (.call (.c (.fn 33 [] [])) [((.c .nils), (.sl 4))]), zm 6 13]
def q2o : IC := zr [zm 14 0, zi 15 (.call (.c (.fn 41 [] [])) [((.t 14), .id)]), zv 16 (.len false (.t 15)), zv 17 (.mov (zc 0))]
def q2y : IC := zr [zv 18 (.bin .lss .no (.t 17) (.t 16))]
def q49 : IC := zr [zv 19 (.iad 4 (.t 15) (.t 17)), zv 20 (.ld true 4 (.t 19)), zi 8 (.alo [(.int .i64 0), (.str []), (.int .i64 0), .nils]), zn (.st 4 (.agg [.id, .id, .id, (.sl 3)]) (.t 8) (.t 20))]
def q2h : IC := zr [zm 22 1, zv 23 (.fad (.t 8) 1), zv 24 (.ld true 3 (.t 23)), zi 25 (.call (.c (.fn 35 [] [])) [((.t 22), .id), ((.t 24), (.agg [.id, .id, (.sl 3)]))]), zm 21 25, zv 26 (.ext (.t 21) 0), zv 27 (.ext (.t 21) 1), zi 9 (.alo [(.str []), (.int .i64 0), .nils]), zn (.st 3 (.agg [.id, .id, (.sl 3)]) (.t 9) (.t 26)), zm 10 27]
def q9l : IC := zr [zm 28 10, zv 29 (.bin .neq .no (.t 28) (zc 0))]
def q06 : IC := zr [zm 30 10, zv 4 (.mov (.c .nilp)), zm 5 30]
def q7r : IC := zr [zm 31 6, zv 32 (.fad (.t 8) 0), zv 33 (.ld false 1 (.t 32)), zv 34 (.ld true 3 (.t 9)), zi 35 (.call (.c (.fn 45 [] [])) [((.t 31), .id), ((.t 33), .id), ((.t 34), (.agg [.id, .id, (.sl 3)]))])]
def qwq : IC := zr [zv 36 (.bin .add .no (.t 17) (zc 1)), zm 17 36]
def q4e : IC := (.seq q2y (.seq (.cond (.t 18) .skip (.exit 0)) (.seq (.block 1 (.seq q49 (.seq q2h (.seq (.seq q9l (.cond (.t 29) (.seq q06 .ret) .skip)) q7r)))) qwq)))
def qv5 : IC := zr [zm 37 1, zi 38 (.call (.c (.fn 41 [] [])) [((.t 37), .id)]), zv 39 (.len false (.t 38)), zv 40 (.mov (zc 0))]
def qvw : IC := zr [zv 41 (.bin .lss .no (.t 40) (.t 39))]
def qv0 : IC := zr [zv 42 (.iad 4 (.t 38) (.t 40)), zv 43 (.ld true 4 (.t 42)), zi 12 (.alo [(.int .i64 0), (.str []), (.int .i64 0), .nils]), zn (.st 4 (.agg [.id, .id, .id, (.sl 3)]) (.t 12) (.t 43))]
def qxt : IC := zr [zm 44 6, zv 45 (.fad (.t 12) 0), zv 46 (.ld false 1 (.t 45)), zv 47 (.fad (.t 12) 1), zv 48 (.ld true 3 (.t 47)), zi 49 (.call (.c (.fn 45 [] [])) [((.t 44), .id), ((.t 46), .id), ((.t 48), (.agg [.id, .id, (.sl 3)]))])]
def qwg : IC := zr [zv 50 (.bin .add .no (.t 40) (zc 1)), zm 40 50]
def qwh : IC := (.seq qvw (.seq (.cond (.t 41) .skip (.exit 2)) (.seq (.block 3 (.seq qv0 qxt)) qwg)))
def qvx : IC := zr [zm 51 6, zm 4 51, zv 5 (.mov (zc 0))]
def k0bf : IC := (.seq q58 (.seq qbax (.seq (.seq q2o (.block 0 (.loop q4e))) (.seq (.seq qv5 (.block 2 (.loop qwh))) (.seq qvx .ret)))))
@[go_sem] def s0bf : List (RV × Co) := [(.t 4, .id), (.t 5, .id)]
theorem c0bf : cFun Try.prog 46 = some (52, k0bf, s0bf) := by kernel_rfl

def qz9 : IC := zr [zi 1 (.box (.t 0)), zv 2 zf]
def q6q : IC := zr [zi 3 (.alo [(.int .i64 0)]), zn (.st 1 .id (.t 3) (zc 0))]
def qbbh : IC := zr [zv 4 (.ld true 3 (.t 1)), zv 5 (.mfn 87 [] [(.t 3)]), zi 6 (.call (.c (.fn 86 [] [])) [((.t 4), (.agg [.id, .id, (.sl 3)])), ((zc 1), .id), ((.t 5), .id)]), zm 2 6]
def k0bz : IC := (.seq qz9 (.seq q6q (.seq qbbh .ret)))
@[go_sem] def s0bz : List (RV × Co) := [(.t 2, .id)]
theorem c0bz : cFun Try.prog 48 = some (7, k0bz, s0bz) := by kernel_rfl

def qbfl : IC := zr [zv 4 zf]
def qbdl : IC := zr [zm 5 0, zm 6 1, zi 7 (.call (.c (.fn 100 [] [])) [((.t 5), (.sl 1)), ((.t 6), .id)]), zv 8 (.bin .geq .no (.t 7) (zc 0)), zm 4 8]
def k0b : IC := (.seq qbfl (.seq qbdl .ret))
@[go_sem] def s0b : List (RV × Co) := [(.t 4, .id)]
theorem c0b : cFun Try.prog 66 = some (9, k0b, s0b) := by kernel_rfl

def qbee : IC := zr [zv 2 zf]
def qbgx : IC := zr [zm 3 0, zv 4 (.bin .neq .no (.t 3) (.c (.str []))), zm 5 4, zw 5 true 6 (.mov (.t 0)), zw 5 true 7 (.idx (.t 6) (zc 0)), ⟨some (5, true), some 8, .call (.c (.fn 106 [] [])) [((.t 7), .id)]⟩, zv 9 (.pick (.t 5) (.t 8) (.c (.bool false))), zm 10 9, zw 10 true 11 (.mov (.t 0)), ⟨some (10, true), some 12, .call (.c (.fn 107 [] [])) [((.t 11), .id)]⟩, zv 13 (.pick (.t 10) (.t 12) (.c (.bool false))), zm 2 13]
def k0v : IC := (.seq qbee (.seq qbgx .ret))
@[go_sem] def s0v : List (RV × Co) := [(.t 2, .id)]
theorem c0v : cFun Try.prog 72 = some (14, k0v, s0v) := by kernel_rfl

def q3t : IC := zr [zi 1 (.box (.t 0)), zv 2 (.mov (.c (.str [])))]
def q9m : IC := zr [zv 3 (.ld true 3 (.t 1)), zi 4 (.call (.c (.fn 48 [] [])) [((.t 3), (.agg [.id, .id, (.sl 3)]))]), zv 5 (.un .not (.t 4))]
def q4j : IC := zr [zv 2 (.mov (.c (.str [])))]
def q9t : IC := zr [zv 6 (.ld true 3 (.t 1)), zi 7 (.call (.c (.fn 109 [] [])) [((.t 6), (.agg [.id, .id, (.sl 3)]))]), zm 2 7]
def k0bv : IC := (.seq q3t (.seq (.seq q9m (.cond (.t 5) (.seq q4j .ret) .skip)) (.seq q9t .ret)))
@[go_sem] def s0bv : List (RV × Co) := [(.t 2, .id)]
theorem c0bv : cFun Try.prog 75 = some (8, k0bv, s0bv) := by kernel_rfl

def qbei : IC := zr [zi 2 (.box (.t 0)), zi 3 (.box (.t 1)), zv 4 zf]
def qbfa : IC := .drw [zp (zv 6 (.ld true 3 (.t 2))), (zi 7 (.call (.c (.fn 88 [] [])) [((.t 6), (.agg [.id, .id, (.sl 3)]))]), []), (zv 8 (.ld true 3 (.t 3)), [1]), (zi 9 (.call (.c (.fn 88 [] [])) [((.t 8), (.agg [.id, .id, (.sl 3)]))]), []), (zv 10 (.bin .neq (.cells [.str, (.int .i64), (.int .i64)]) (.t 7) (.t 9)), [])]
def qbcf : IC := zr [zv 4 zf]
def qber : IC := zr [zv 11 (.fad (.t 2) 2), zv 12 (.ld false 1 (.t 11)), zv 13 (.len false (.t 12)), zv 14 (.mov (zc 0))]
def qbdr : IC := zr [zv 15 (.bin .lss .no (.t 14) (.t 13))]
def qbd1 : IC := zr [zm 16 14, zm 5 16]
def qbgn : IC := .drw [zp (zv 17 (.fad (.t 2) 2)), zp (zv 18 (.ld false 1 (.t 17))), zp (zm 19 5), zp (zv 20 (.iad 3 (.t 18) (.t 19))), zp (zv 21 (.ld true 3 (.t 20))), zp (zv 22 (.fad (.t 3) 2)), zp (zv 23 (.ld false 1 (.t 22))), zp (zm 24 5), zp (zv 25 (.iad 3 (.t 23) (.t 24))), zp (zv 26 (.ld true 3 (.t 25))), (zi 27 (.call (.c (.fn 76 [] [])) [((.t 21), (.agg [.id, .id, (.sl 3)])), ((.t 26), (.agg [.id, .id, (.sl 3)]))]), []), zp (zv 28 (.un .not (.t 27)))]
def qbdo : IC := zr [zv 4 zf]
def qbg1 : IC := zr [zv 29 (.bin .add .no (.t 14) (zc 1)), zm 14 29]
def qbcq : IC := (.seq qbdr (.seq (.cond (.t 15) .skip (.exit 0)) (.seq (.block 1 (.seq qbd1 (.seq qbgn (.cond (.t 28) (.seq qbdo .ret) .skip)))) qbg1)))
def q8o : IC := zr [zv 4 (.mov (.c (.bool true)))]
def k0d : IC := (.seq qbei (.seq (.seq qbfa (.cond (.t 10) (.seq qbcf .ret) .skip)) (.seq (.seq qber (.block 0 (.loop qbcq))) (.seq q8o .ret))))
@[go_sem] def s0d : List (RV × Co) := [(.t 4, .id)]
theorem c0d : cFun Try.prog 76 = some (30, k0d, s0d) := by kernel_rfl

def qbag : IC := zr [zi 3 (.box (.t 0)), zv 6 (.mov (zc 0))]
def q8x : IC := zr [zm 8 1, zv 9 (.bin .sub .no (.t 8) (zc 1)), zm 1 9]
def q4l : IC := zr [zm 10 2, zv 11 (.bin .lss .no (.t 10) (zc 1))]
def qbar : IC := zr [zv 6 (.mov (zc (-1)))]
def q0i : IC := zr [zv 7 (.mov (zc 0))]
def qbau : IC := zr [zm 12 7, zv 13 (.fad (.t 3) 2), zv 14 (.ld false 1 (.t 13)), zv 15 (.len false (.t 14)), zv 16 (.bin .lss .no (.t 12) (.t 15)), zm 17 16, zw 17 true 18 (.mov (.t 1)), zw 17 true 19 (.bin .geq .no (.t 18) (zc 0)), zv 20 (.pick (.t 17) (.t 19) (.c (.bool false)))]
def q75 : IC := zr [zv 23 (.fad (.t 3) 2), zv 24 (.ld false 1 (.t 23)), zm 25 7, zv 26 (.iad 3 (.t 24) (.t 25)), zv 27 (.ld true 3 (.t 26)), zm 28 1, zm 29 2, zv 30 (.bin .sub .no (.t 29) (zc 1)), zi 31 (.call (.c (.fn 77 [] [])) [((.t 27), (.agg [.id, .id, (.sl 3)])), ((.t 28), .id), ((.t 30), .id)]), zm 1 31]
def q1z : IC := zr [zm 21 7, zv 22 (.bin .add .no (.t 21) (zc 1)), zm 7 22]
def q0q : IC := (.seq (.seq qbau (.cond (.t 20) .skip (.exit 0))) (.seq (.block 1 q75) q1z))
def qvo : IC := zr [zm 32 1, zm 6 32]
def k0cf : IC := (.seq qbag (.seq q8x (.seq (.seq q4l (.cond (.t 11) (.seq qbar .ret) .skip)) (.seq (.seq q0i (.block 0 (.loop q0q))) (.seq qvo .ret)))))
@[go_sem] def s0cf : List (RV × Co) := [(.t 6, .id)]
theorem c0cf : cFun Try.prog 77 = some (33, k0cf, s0cf) := by kernel_rfl

def q0t : IC := zr [zi 4 (.box (.t 1)), zi 6 (.alo [(.str []), (.int .i64 0), .nils])]
def q8v : IC := zr [zv 11 (.fad (.t 4) 0), zv 12 (.ld false 1 (.t 11)), zv 13 (.bin .eql .no (.t 12) (.c (.str [])))]
def q5g : IC := .drw [zp (zm 15 0), zp (zv 16 (.nck (.t 15))), zp (zv 17 (.fad (.t 16) 0)), zp (zv 18 (.ld false 1 (.t 17))), zp (zv 19 (.fad (.t 4) 1)), zp (zv 20 (.ld false 1 (.t 19))), (zi 21 (.call (.c (.fn 37 [] [])) [((.t 18), .id), ((.t 20), .id)]), []), zp (zm 14 21), zp (zv 22 (.ext (.t 14) 0)), zp (zv 23 (.ext (.t 14) 1)), (zi 7 (.alo [(.str []), (.int .i64 0), .nils]), [3, 5, 6]), (zn (.st 3 (.agg [.id, .id, (.sl 3)]) (.t 7) (.t 22)), []), zp (zm 8 23)]
def q03 : IC := zr [zm 24 8]
def q09 : IC := .drw [zp (zm 25 0), zp (zv 26 (.nck (.t 25))), zp (zv 27 (.fad (.t 26) 1)), zp (zv 28 (.ld false 1 (.t 27))), zp (zv 29 (.ld true 3 (.t 7))), (zi 30 (.call (.c (.fn 110 [] [])) [((.t 29), (.agg [.id, .id, (.sl 3)]))]), [3]), zp (zv 31 (.bin .sub .no (.t 28) (.t 30))), zp (zv 32 (.nck (.t 25))), zp (zv 33 (.fad (.t 32) 1)), (zn (.st 1 .id (.t 33) (.t 31)), [])]
def q3z : IC := zr [zm 34 2, zv 35 (.ld true 3 (.t 7)), zi 36 (.call (.c (.fn 111 [] [])) [((.t 35), (.agg [.id, .id, (.sl 3)]))]), zv 37 (.bin .add .no (.t 34) (.t 36)), zv 38 (.bin .gtr .no (.t 37) (zc 101))]
def q2t : IC := zr [zm 39 0, zv 40 (.nck (.t 39)), zv 41 (.fad (.t 40) 1), zn (.st 1 .id (.t 41) (zc (-1)))]
def q21 : IC := zr [zv 42 (.ld true 3 (.t 7)), zi 43 (.call (.c (.fn 83 [] [])) [((.t 42), (.agg [.id, .id, (.sl 3)]))]), zn (.st 3 (.agg [.id, .id, (.sl 3)]) (.t 6) (.t 43))]
def q29 : IC := zr [zm 44 0, zv 45 (.nck (.t 44)), zv 46 (.fad (.t 45) 1), zv 47 (.ld false 1 (.t 46)), zv 48 (.bin .sub .no (.t 47) (zc 1)), zv 49 (.nck (.t 44)), zv 50 (.fad (.t 49) 1), zn (.st 1 .id (.t 50) (.t 48))]
def q4s : IC := zr [zv 51 (.fad (.t 4) 2), zv 52 (.ld false 1 (.t 51)), zv 53 (.len false (.t 52)), zi 54 (.mks 3 (.agg [(.str []), (.int .i64 0), .nils]) 48 (.t 53) (.t 53)), zm 9 54]
def qyo : IC := zr [zv 55 (.fad (.t 4) 2), zv 56 (.ld false 1 (.t 55)), zv 57 (.len false (.t 56)), zv 58 (.mov (zc 0))]
def qwa : IC := zr [zv 59 (.bin .lss .no (.t 58) (.t 57))]
def qx9 : IC := zr [zm 60 58, zm 10 60]
def qwn : IC := zr [zm 61 0, zv 62 (.nck (.t 61)), zv 63 (.fad (.t 62) 1), zv 64 (.ld false 1 (.t 63)), zv 65 (.bin .lss .no (.t 64) (zc 0))]
def qw7 : IC := zr [zv 66 (.ld true 3 (.t 4)), zn (.st 3 (.agg [.id, .id, (.sl 3)]) (.t 6) (.t 66))]
def qwf : IC := zr [zm 67 9, zm 68 10, zm 69 0, zv 70 (.fad (.t 4) 2), zv 71 (.ld false 1 (.t 70)), zm 72 10, zv 73 (.iad 3 (.t 71) (.t 72)), zv 74 (.ld true 3 (.t 73)), zm 75 2, zv 76 (.bin .add .no (.t 75) (zc 1)), zi 77 (.call (.c (.fn 78 [] [])) [((.t 69), .id), ((.t 74), (.agg [.id, .id, (.sl 3)])), ((.t 76), .id)]), zv 78 (.iad 3 (.t 67) (.t 68)), zn (.st 3 (.agg [.id, .id, (.sl 3)]) (.t 78) (.t 77))]
def qvt : IC := zr [zv 79 (.bin .add .no (.t 58) (zc 1)), zm 58 79]
def qyy : IC := (.seq qwa (.seq (.cond (.t 59) .skip (.exit 0)) (.seq (.block 1 (.seq qx9 (.seq (.seq qwn (.cond (.t 65) (.seq qw7 .ret) .skip)) qwf))) qvt)))
def qwx : IC := zr [zm 80 9, zv 81 (.fad (.t 4) 2), zn (.st 1 (.sl 3) (.t 81) (.t 80))]
def qx3 : IC := zr [zv 82 (.ld true 3 (.t 4)), zn (.st 3 (.agg [.id, .id, (.sl 3)]) (.t 6) (.t 82))]
def k0bl : IC := (.seq q0t (.seq (.seq q8v (.cond (.t 13) (.seq q5g (.seq q03 (.cond (.t 24) (.seq q09 (.seq (.seq q3z (.cond (.t 38) q2t .skip)) (.seq q21 .ret))) .skip))) .skip)) (.seq q29 (.seq q4s (.seq (.seq qyo (.block 0 (.loop qyy))) (.seq qwx (.seq qx3 .ret)))))))
@[go_sem] def s0bl : List (RV × Co) := [(.c true 3 6, (.agg [.id, .id, (.sl 3)]))]
theorem c0bl : cFun Try.prog 78 = some (83, k0bl, s0bl) := by kernel_rfl

def q55 : IC := zr [zi 1 (.box (.t 0)), zv 2 zf]
def q04 : IC := zr [zv 3 (.ld true 3 (.t 1)), zi 4 (.call (.c (.fn 112 [] [])) [((.t 3), (.agg [.id, .id, (.sl 3)]))]), zv 5 (.bin .leq .no (.t 4) (zc 4096)), zm 6 5, zw 6 true 7 (.ld true 3 (.t 1)), ⟨some (6, true), some 8, .call (.c (.fn 113 [] [])) [((.t 7), (.agg [.id, .id, (.sl 3)]))]⟩, zw 6 true 9 (.bin .leq .no (.t 8) (zc 100)), zv 10 (.pick (.t 6) (.t 9) (.c (.bool false))), zm 11 10, zw 11 true 12 (.ld true 3 (.t 1)), ⟨some (11, true), some 13, .call (.c (.fn 114 [] [])) [((.t 12), (.agg [.id, .id, (.sl 3)]))]⟩, zv 14 (.pick (.t 11) (.t 13) (.c (.bool false))), zm 2 14]
def k0ch : IC := (.seq q55 (.seq q04 .ret))
@[go_sem] def s0ch : List (RV × Co) := [(.t 2, .id)]
theorem c0ch : cFun Try.prog 79 = some (15, k0ch, s0ch) := by kernel_rfl

def q8h : IC := zr [zi 3 (.box (.t 1)), zv 4 (.mov (zc 0))]
def q0b : IC := zr [zv 9 (.fad (.t 3) 0), zv 10 (.ld false 1 (.t 9)), zv 11 (.bin .eql .no (.t 10) (.c (.str [])))]
def q3w : IC := zr [zm 13 0, zv 14 (.fad (.t 3) 1), zv 15 (.ld false 1 (.t 14)), zi 16 (.call (.c (.fn 38 [] [])) [((.t 13), (.sl 4)), ((.t 15), .id)]), zm 12 16, zv 17 (.ext (.t 12) 0), zv 18 (.ext (.t 12) 1), zi 5 (.alo [(.str []), (.int .i64 0), .nils]), zn (.st 3 (.agg [.id, .id, (.sl 3)]) (.t 5) (.t 17)), zm 6 18]
def q7d : IC := zr [zm 19 6]
def q0w : IC := zr [zv 20 (.ld true 3 (.t 5)), zi 21 (.call (.c (.fn 112 [] [])) [((.t 20), (.agg [.id, .id, (.sl 3)]))]), zm 4 21]
def q7t : IC := zr [zv 4 (.mov (zc 1))]
def q43 : IC := zr [zv 7 (.mov (zc 1))]
def q6i : IC := zr [zv 8 (.mov (zc 0))]
def q0e : IC := zr [zm 22 8, zv 23 (.fad (.t 3) 2), zv 24 (.ld false 1 (.t 23)), zv 25 (.len false (.t 24)), zv 26 (.bin .lss .no (.t 22) (.t 25))]
def qx0 : IC := zr [zm 29 7, zm 30 0, zv 31 (.fad (.t 3) 2), zv 32 (.ld false 1 (.t 31)), zm 33 8, zv 34 (.iad 3 (.t 32) (.t 33)), zv 35 (.ld true 3 (.t 34)), zi 36 (.call (.c (.fn 80 [] [])) [((.t 30), (.sl 4)), ((.t 35), (.agg [.id, .id, (.sl 3)]))]), zv 37 (.bin .add .no (.t 29) (.t 36)), zm 7 37]
def qy4 : IC := zr [zm 27 8, zv 28 (.bin .add .no (.t 27) (zc 1)), zm 8 28]
def q8l : IC := (.seq (.seq q0e (.cond (.t 26) .skip (.exit 0))) (.seq (.block 1 qx0) qy4))
def qy7 : IC := zr [zm 38 7, zm 4 38]
def k0cl : IC := (.seq q8h (.seq (.seq q0b (.cond (.t 11) (.seq q3w (.seq (.seq q7d (.cond (.t 19) (.seq q0w .ret) .skip)) (.seq q7t .ret))) .skip)) (.seq q43 (.seq (.seq q6i (.block 0 (.loop q8l))) (.seq qy7 .ret)))))
@[go_sem] def s0cl : List (RV × Co) := [(.t 4, .id)]
theorem c0cl : cFun Try.prog 80 = some (39, k0cl, s0cl) := by kernel_rfl

def q3r : IC := zr [zi 3 (.box (.t 1)), zi 4 (.alo [(.str []), (.int .i64 0), .nils])]
def qbaq : IC := zr [zv 9 (.fad (.t 3) 0), zv 10 (.ld false 1 (.t 9)), zv 11 (.bin .eql .no (.t 10) (.c (.str [])))]
def q2s : IC := zr [zm 13 0, zv 14 (.fad (.t 3) 1), zv 15 (.ld false 1 (.t 14)), zi 16 (.call (.c (.fn 38 [] [])) [((.t 13), (.sl 4)), ((.t 15), .id)]), zm 12 16, zv 17 (.ext (.t 12) 0), zv 18 (.ext (.t 12) 1), zi 5 (.alo [(.str []), (.int .i64 0), .nils]), zn (.st 3 (.agg [.id, .id, (.sl 3)]) (.t 5) (.t 17)), zm 6 18]
def q9g : IC := zr [zm 19 6]
def q87 : IC := zr [zv 20 (.ld true 3 (.t 5)), zn (.st 3 (.agg [.id, .id, (.sl 3)]) (.t 4) (.t 20))]
def qbat : IC := zr [zv 21 (.ld true 3 (.t 3)), zn (.st 3 (.agg [.id, .id, (.sl 3)]) (.t 4) (.t 21))]
def q97 : IC := zr [zv 7 (.mov (.c .nils))]
def q1r : IC := zr [zv 8 (.mov (zc 0))]
def qbak : IC := zr [zm 22 8, zv 23 (.fad (.t 3) 2), zv 24 (.ld false 1 (.t 23)), zv 25 (.len false (.t 24)), zv 26 (.bin .lss .no (.t 22) (.t 25))]
def qye : IC := zr [zm 29 7, zm 30 0, zv 31 (.fad (.t 3) 2), zv 32 (.ld false 1 (.t 31)), zm 33 8, zv 34 (.iad 3 (.t 32) (.t 33)), zv 35 (.ld true 3 (.t 34)), zi 36 (.call (.c (.fn 81 [] [])) [((.t 30), (.sl 4)), ((.t 35), (.agg [.id, .id, (.sl 3)]))]), zv 37 (.bsl 3 [((.t 36), (.agg [.id, .id, (.sl 3)]))]), zi 38 (.app 3 (.agg [(.str []), (.int .i64 0), .nils]) 48 (.sl 3) (.t 29) (.t 37)), zm 7 38]
def qxi : IC := zr [zm 27 8, zv 28 (.bin .add .no (.t 27) (zc 1)), zm 8 28]
def q1d : IC := (.seq (.seq qbak (.cond (.t 26) .skip (.exit 0))) (.seq (.block 1 qye) qxi))
def qwy : IC := zr [zm 39 7, zv 40 (.fad (.t 3) 2), zn (.st 1 (.sl 3) (.t 40) (.t 39))]
def qx6 : IC := zr [zv 41 (.ld true 3 (.t 3)), zn (.st 3 (.agg [.id, .id, (.sl 3)]) (.t 4) (.t 41))]
def k0cm : IC := (.seq q3r (.seq (.seq qbaq (.cond (.t 11) (.seq q2s (.seq (.seq q9g (.cond (.t 19) (.seq q87 .ret) .skip)) (.seq qbat .ret))) .skip)) (.seq q97 (.seq (.seq q1r (.block 0 (.loop q1d))) (.seq qwy (.seq qx6 .ret))))))
@[go_sem] def s0cm : List (RV × Co) := [(.c true 3 4, (.agg [.id, .id, (.sl 3)]))]
theorem c0cm : cFun Try.prog 81 = some (42, k0cm, s0cm) := by kernel_rfl

def q6b : IC := zr [zv 4 (.mov (zc 0)), zv 5 zf]
def q6v : IC := zr [zm 6 0, zv 7 (.nck (.t 6)), zv 8 (.fad (.t 7) 0), zv 9 (.ld false 1 (.t 8)), zm 10 1, zi 11 (.call (.c (.fn 115 [] [])) [((.t 9), (.sl 4)), ((.t 10), .id), ((.c (.fn 116 [] [])), .id)]), zv 12 (.ext (.t 11) 0), zv 13 (.ext (.t 11) 1), zm 4 12, zm 5 13]
def k0bn : IC := (.seq q6b (.seq q6v .ret))
@[go_sem] def s0bn : List (RV × Co) := [(.t 4, .id), (.t 5, .id)]
theorem c0bn : cFun Try.prog 82 = some (14, k0bn, s0bn) := by kernel_rfl

def q27 : IC := zr [zi 1 (.box (.t 0)), zi 2 (.alo [(.str []), (.int .i64 0), .nils])]
def q7h : IC := zr [zv 6 (.fad (.t 1) 2), zv 7 (.ld false 1 (.t 6)), zv 8 (.len false (.t 7)), zi 9 (.mks 3 (.agg [(.str []), (.int .i64 0), .nils]) 48 (.t 8) (.t 8)), zm 3 9]
def q0j : IC := zr [zv 10 (.fad (.t 1) 2), zv 11 (.ld false 1 (.t 10)), zv 12 (.len false (.t 11)), zv 13 (.mov (zc 0))]
def q4t : IC := zr [zv 14 (.bin .lss .no (.t 13) (.t 12))]
def qbad : IC := zr [zm 15 13, zv 16 (.iad 3 (.t 11) (.t 13)), zv 17 (.ld true 3 (.t 16)), zi 5 (.alo [(.str []), (.int .i64 0), .nils]), zm 4 15, zn (.st 3 (.agg [.id, .id, (.sl 3)]) (.t 5) (.t 17))]
def q0k : IC := zr [zm 18 3, zm 19 4, zv 20 (.ld true 3 (.t 5)), zi 21 (.call (.c (.fn 83 [] [])) [((.t 20), (.agg [.id, .id, (.sl 3)]))]), zv 22 (.iad 3 (.t 18) (.t 19)), zn (.st 3 (.agg [.id, .id, (.sl 3)]) (.t 22) (.t 21))]
def qbaw : IC := zr [zv 23 (.bin .add .no (.t 13) (zc 1)), zm 13 23]
def q31 : IC := (.seq q4t (.seq (.cond (.t 14) .skip (.exit 0)) (.seq (.block 1 (.seq qbad q0k)) qbaw)))
def q6u : IC := zr [zm 24 3, zv 25 (.fad (.t 1) 2), zn (.st 1 (.sl 3) (.t 25) (.t 24))]
def qy2 : IC := zr [zv 26 (.ld true 3 (.t 1)), zn (.st 3 (.agg [.id, .id, (.sl 3)]) (.t 2) (.t 26))]
def k0bp : IC := (.seq q27 (.seq q7h (.seq (.seq q0j (.block 0 (.loop q31))) (.seq q6u (.seq qy2 .ret)))))
@[go_sem] def s0bp : List (RV × Co) := [(.c true 3 2, (.agg [.id, .id, (.sl 3)]))]
theorem c0bp : cFun Try.prog 83 = some (27, k0bp, s0bp) := by kernel_rfl

def qbfx : IC := zr [zi 3 (.box (.t 0)), zv 6 zf]
def qbfs : IC := zr [zm 9 2, zv 10 (.ld true 3 (.t 3)), zm 11 1, zi 12 (.call (.t 9) [((.t 10), (.agg [.id, .id, (.sl 3)])), ((.t 11), .id)]), zv 13 (.un .not (.t 12))]
def qbed : IC := zr [zv 6 zf]
def qbc1 : IC := zr [zv 14 (.fad (.t 3) 2), zv 15 (.ld false 1 (.t 14)), zv 16 (.len false (.t 15)), zv 17 (.mov (zc 0))]
def qbfd : IC := zr [zv 18 (.bin .lss .no (.t 17) (.t 16))]
def qbc5 : IC := zr [zv 19 (.iad 3 (.t 15) (.t 17)), zv 20 (.ld true 3 (.t 19)), zi 8 (.alo [(.str []), (.int .i64 0), .nils]), zn (.st 3 (.agg [.id, .id, (.sl 3)]) (.t 8) (.t 20))]
def qbh2 : IC := zr [zv 21 (.ld true 3 (.t 8)), zm 22 1, zv 23 (.bin .add .no (.t 22) (zc 1)), zm 24 2, zi 25 (.call (.c (.fn 86 [] [])) [((.t 21), (.agg [.id, .id, (.sl 3)])), ((.t 23), .id), ((.t 24), .id)]), zv 26 (.un .not (.t 25))]
def qbd8 : IC := zr [zv 6 zf]
def qbdx : IC := zr [zv 27 (.bin .add .no (.t 17) (zc 1)), zm 17 27]
def qbev : IC := (.seq qbfd (.seq (.cond (.t 18) .skip (.exit 0)) (.seq (.block 1 (.seq qbc5 (.seq qbh2 (.cond (.t 26) (.seq qbd8 .ret) .skip)))) qbdx)))
def q8y : IC := zr [zv 6 (.mov (.c (.bool true)))]
def k0i : IC := (.seq qbfx (.seq (.seq qbfs (.cond (.t 13) (.seq qbed .ret) .skip)) (.seq (.seq qbc1 (.block 0 (.loop qbev))) (.seq q8y .ret))))
@[go_sem] def s0i : List (RV × Co) := [(.t 6, .id)]
theorem c0i : cFun Try.prog 86 = some (28, k0i, s0i) := by kernel_rfl

def qbaa : IC := zr [zi 3 (.box (.t 0)), zv 5 zf]
def q2c : IC := zr [zv 6 (.ld false 1 (.t 2)), zv 7 (.bin .add .no (.t 6) (zc 1)), zn (.st 1 .id (.t 2) (.t 7))]
def q1c : IC := zr [zv 8 (.ld false 1 (.t 2)), zv 9 (.bin .leq .no (.t 8) (zc 4096)), zm 10 9, zw 10 true 11 (.mov (.t 1)), zw 10 true 12 (.bin .leq .no (.t 11) (zc 100)), zv 13 (.pick (.t 10) (.t 12) (.c (.bool false))), zm 14 13, zw 14 true 15 (.ld true 3 (.t 3)), ⟨some (14, true), some 16, .call (.c (.fn 88 [] [])) [((.t 15), (.agg [.id, .id, (.sl 3)]))]⟩, ⟨some (14, true), some 17, .call (.c (.fn 89 [] [])) [((.t 16), .id)]⟩, zv 18 (.pick (.t 14) (.t 17) (.c (.bool false))), zm 5 18]
def k0bw : IC := (.seq qbaa (.seq q2c (.seq q1c .ret)))
@[go_sem] def s0bw : List (RV × Co) := [(.t 5, .id)]
theorem c0bw : cFun Try.prog 87 = some (19, k0bw, s0bw) := by kernel_rfl

def qbhh : IC := zr [zi 1 (.box (.t 0)), zi 2 (.alo [(.str []), (.int .i64 0), (.int .i64 0)])]
def qbc0 : IC := zr [zv 3 (.fad (.t 1) 0), zv 4 (.ld false 1 (.t 3)), zv 5 (.fad (.t 1) 1), zv 6 (.ld false 1 (.t 5)), zv 7 (.fad (.t 1) 2), zv 8 (.ld false 1 (.t 7)), zv 9 (.len false (.t 8)), zv 10 (.bld [(.str []), (.int .i64 0), (.int .i64 0)] [(0, 1, (.t 4)), (1, 1, (.t 6)), (2, 1, (.t 9))]), zn (.st 3 .id (.t 2) (.t 10))]
def k0c : IC := (.seq qbhh (.seq qbc0 .ret))
@[go_sem] def s0c : List (RV × Co) := [(.c true 3 2, .id)]
theorem c0c : cFun Try.prog 88 = some (11, k0c, s0c) := by kernel_rfl

def qbfi : IC := zr [zi 1 (.box (.t 0)), zv 2 zf]
def qbhw : IC := zr [zv 4 (.fad (.t 1) 0), zv 5 (.ld false 1 (.t 4)), zv 6 (.bin .eql .no (.t 5) (.c (.str []))), zm 3 6]
def qbgh : IC := zr [zv 7 (.fad (.t 1) 2), zv 8 (.ld false 1 (.t 7)), zv 9 (.bin .eql .no (.t 8) (zc 0)), zm 2 9]
def qbdf : IC := zr [zv 11 (.fad (.t 1) 0), zv 12 (.ld false 1 (.t 11)), zv 13 (.bin .eql .no (.t 12) (.c (.str [45, 62]))), zm 10 13]
def qbfj : IC := zr [zv 14 (.ld true 3 (.t 1)), zv 15 (.bld [(.str []), (.int .i64 0), (.int .i64 0)] [(0, 1, (.c (.str [45, 62]))), (1, 1, (zc 0)), (2, 1, (zc 2))]), zv 16 (.bin .eql (.cells [.str, (.int .i64), (.int .i64)]) (.t 14) (.t 15)), zm 2 16]
def qbg2 : IC := zr [zv 18 (.fad (.t 1) 0), zv 19 (.ld false 1 (.t 18)), zi 20 (.call (.c (.fn 119 [] [])) [((.t 19), .id)]), zm 17 20]
def qbcp : IC := zr [zv 21 (.ld true 3 (.t 1)), zv 22 (.fad (.t 1) 0), zv 23 (.ld false 1 (.t 22)), zv 24 (.bld [(.str []), (.int .i64 0), (.int .i64 0)] [(0, 1, (.t 23))]), zv 25 (.bin .eql (.cells [.str, (.int .i64), (.int .i64)]) (.t 21) (.t 24)), zm 2 25]
def qbgs : IC := zr [zv 26 (.fad (.t 1) 1), zv 27 (.ld false 1 (.t 26)), zv 28 (.bin .eql .no (.t 27) (zc 0)), zm 29 28, zw 29 true 30 (.fad (.t 1) 0), zw 29 true 31 (.ld false 1 (.t 30)), ⟨some (29, true), some 32, .call (.c (.fn 72 [] [])) [((.t 31), .id)]⟩, zv 33 (.pick (.t 29) (.t 32) (.c (.bool false))), zm 2 33]
def k0h : IC := (.seq qbfi (.seq (.block 0 (.seq qbhw (.cond (.t 3) (.seq qbgh .ret) (.seq qbdf (.cond (.t 10) (.seq qbfj .ret) (.seq qbg2 (.cond (.t 17) (.seq qbcp .ret) .skip))))))) (.seq qbgs .ret)))
@[go_sem] def s0h : List (RV × Co) := [(.t 2, .id)]
theorem c0h : cFun Try.prog 89 = some (34, k0h, s0h) := by kernel_rfl

def qbhn : IC := zr [zv 4 (.mov (zc 0))]
def qbe5 : IC := zr [zm 6 0, zv 7 (.len false (.t 6)), zv 8 (.mov (zc 0))]
def qbc6 : IC := zr [zv 9 (.bin .lss .no (.t 8) (.t 7))]
def qbet : IC := zr [zm 10 8, zm 5 10]
def qbfn : IC := zr [zm 11 1, zm 12 0, zm 13 5, zv 14 (.iad 1 (.t 12) (.t 13)), zv 15 (.ld false 1 (.t 14)), zv 16 (.bin .eql .no (.t 11) (.t 15))]
def qbd0 : IC := zr [zm 17 5, zm 4 17]
def qbhc : IC := zr [zv 18 (.bin .add .no (.t 8) (zc 1)), zm 8 18]
def qbe1 : IC := (.seq qbc6 (.seq (.cond (.t 9) .skip (.exit 0)) (.seq (.block 1 (.seq qbet (.seq qbfn (.cond (.t 16) (.seq qbd0 .ret) .skip)))) qbhc)))
def qbe2 : IC := zr [zv 4 (.mov (zc (-1)))]
def k0a : IC := (.seq qbhn (.seq (.seq qbe5 (.block 0 (.loop qbe1))) (.seq qbe2 .ret)))
@[go_sem] def s0a : List (RV × Co) := [(.t 4, .id)]
theorem c0a : cFun Try.prog 100 = some (19, k0a, s0a) := by kernel_rfl

def qbhx : IC := zr [zv 2 zf]
def qbhy : IC := zr [zm 3 0, zv 4 (.bin .geq .no (.t 3) (.c (.int .u8 65))), zm 5 4, zw 5 true 6 (.mov (.t 0)), zw 5 true 7 (.bin .leq .no (.t 6) (.c (.int .u8 90))), zv 8 (.pick (.t 5) (.t 7) (.c (.bool false))), zm 2 8]
def k0p : IC := (.seq qbhx (.seq qbhy .ret))
@[go_sem] def s0p : List (RV × Co) := [(.t 2, .id)]
theorem c0p : cFun Try.prog 106 = some (9, k0p, s0p) := by kernel_rfl

def qbft : IC := zr [zv 2 zf]
def qbh0 : IC := zr [zm 5 0, zv 6 (.len true (.t 5)), zv 7 (.mov (zc 0))]
def qbgw : IC := zr [zv 8 (.bin .lss .no (.t 7) (.t 6))]
def qbcj : IC := zr [zm 9 7, zm 3 9]
def qbcl : IC := zr [zm 10 0, zm 11 3, zv 12 (.idx (.t 10) (.t 11)), zm 4 12]
def qbgc : IC := zr [zm 13 4, zi 14 (.call (.c (.fn 128 [] [])) [((.t 13), .id)]), zv 15 (.un .not (.t 14)), zm 16 15, zw 16 true 17 (.mov (.t 4)), ⟨some (16, true), some 18, .call (.c (.fn 106 [] [])) [((.t 17), .id)]⟩, zw 16 true 19 (.un .not (.t 18)), zv 20 (.pick (.t 16) (.t 19) (.c (.bool false))), zm 21 20, zw 21 true 22 (.mov (.t 4)), zw 21 true 23 (.bin .lss .no (.t 22) (.c (.int .u8 48))), zw 21 true 24 (.mov (.t 23)), zw 24 false 25 (.mov (.t 4)), zw 24 false 26 (.bin .gtr .no (.t 25) (.c (.int .u8 57))), zw 21 true 27 (.pick (.t 24) (.c (.bool true)) (.t 26)), zv 28 (.pick (.t 21) (.t 27) (.c (.bool false))), zm 29 28, zw 29 true 30 (.mov (.t 4)), zw 29 true 31 (.bin .neq .no (.t 30) (.c (.int .u8 39))), zv 32 (.pick (.t 29) (.t 31) (.c (.bool false)))]
def qbf0 : IC := zr [zv 2 zf]
def qbbv : IC := zr [zv 33 (.bin .add .no (.t 7) (zc 1)), zm 7 33]
def qbbr : IC := (.seq qbgw (.seq (.cond (.t 8) .skip (.exit 0)) (.seq (.block 1 (.seq qbcj (.seq qbcl (.seq qbgc (.cond (.t 32) (.seq qbf0 .ret) .skip))))) qbbv)))
def q7z : IC := zr [zv 2 (.mov (.c (.bool true)))]
def k0t : IC := (.seq qbft (.seq (.seq qbh0 (.block 0 (.loop qbbr))) (.seq q7z .ret)))
@[go_sem] def s0t : List (RV × Co) := [(.t 2, .id)]
theorem c0t : cFun Try.prog 107 = some (34, k0t, s0t) := by kernel_rfl

def q9b : IC := zr [zi 1 (.box (.t 0)), zv 2 (.mov (.c (.str [])))]
def q2w : IC := zr [zv 6 (.fad (.t 1) 0), zv 7 (.ld false 1 (.t 6)), zv 8 (.bin .eql .no (.t 7) (.c (.str [45, 62])))]
def q56 : IC := .drw [zp (zv 9 (.fad (.t 1) 2)), zp (zv 10 (.ld false 1 (.t 9))), zp (zv 11 (.iad 3 (.t 10) (zc 0))), zp (zv 12 (.ld true 3 (.t 11))), zp (zv 13 (.fad (.t 1) 2)), zp (zv 14 (.ld false 1 (.t 13))), zp (zv 15 (.iad 3 (.t 14) (zc 0))), zp (zv 16 (.fad (.t 15) 0)), zp (zv 17 (.ld false 1 (.t 16))), (zv 18 (.bin .eql .no (.t 17) (.c (.str [45, 62]))), []), (zi 19 (.call (.c (.fn 129 [] [])) [((.t 12), (.agg [.id, .id, (.sl 3)])), ((.t 18), .id)]), []), (zv 20 (.bin .add .no (.t 19) (.c (.str [32, 45, 62, 32]))), []), zp (zv 21 (.fad (.t 1) 2)), (zv 22 (.ld false 1 (.t 21)), [10]), zp (zv 23 (.iad 3 (.t 22) (zc 1))), (zv 24 (.ld true 3 (.t 23)), [10]), (zi 25 (.call (.c (.fn 109 [] [])) [((.t 24), (.agg [.id, .id, (.sl 3)]))]), []), zp (zv 26 (.bin .add .no (.t 20) (.t 25))), zp (zm 2 26)]
def q5k : IC := zr [zi 3 (.bld 125 5)]
def q83 : IC := zr [zv 27 (.ld true 3 (.t 1)), zi 28 (.call (.c (.fn 88 [] [])) [((.t 27), (.agg [.id, .id, (.sl 3)]))]), zi 29 (.call (.c (.fn 130 [] [])) [((.t 28), .id)]), zi 30 (.call (.c (.fn 102 [] [])) [((.t 3), (.agg [.id, (.sl 1)])), ((.t 29), .id)])]
def q7p : IC := zr [zv 31 (.fad (.t 1) 2), zv 32 (.ld false 1 (.t 31)), zv 33 (.len false (.t 32)), zv 34 (.mov (zc 0))]
def q0h : IC := zr [zv 35 (.bin .lss .no (.t 34) (.t 33))]
def q48 : IC := zr [zv 36 (.iad 3 (.t 32) (.t 34)), zv 37 (.ld true 3 (.t 36)), zi 5 (.alo [(.str []), (.int .i64 0), .nils]), zn (.st 3 (.agg [.id, .id, (.sl 3)]) (.t 5) (.t 37))]
def q2x : IC := zr [zv 38 (.ld true 3 (.t 5)), zv 39 (.fad (.t 5) 2), zv 40 (.ld false 1 (.t 39)), zv 41 (.len false (.t 40)), zv 42 (.bin .gtr .no (.t 41) (zc 0)), zi 43 (.call (.c (.fn 129 [] [])) [((.t 38), (.agg [.id, .id, (.sl 3)])), ((.t 42), .id)]), zv 44 (.bin .add .no (.c (.str [32])) (.t 43)), zi 45 (.call (.c (.fn 102 [] [])) [((.t 3), (.agg [.id, (.sl 1)])), ((.t 44), .id)])]
def qww : IC := zr [zv 46 (.bin .add .no (.t 34) (zc 1)), zm 34 46]
def q19 : IC := (.seq q0h (.seq (.cond (.t 35) .skip (.exit 0)) (.seq (.block 1 (.seq q48 q2x)) qww)))
def qxn : IC := zr [zi 47 (.call (.c (.fn 103 [] [])) [((.t 3), (.agg [.id, (.sl 1)]))]), zm 2 47]
def k0bu : IC := (.seq q9b (.seq (.seq q2w (.cond (.t 8) (.seq q56 .ret) .skip)) (.seq q5k (.seq q83 (.seq (.seq q7p (.block 0 (.loop q19))) (.seq qxn .ret))))))
@[go_sem] def s0bu : List (RV × Co) := [(.t 2, .id)]
theorem c0bu : cFun Try.prog 109 = some (48, k0bu, s0bu) := by kernel_rfl

def q3f : IC := zr [zi 1 (.box (.t 0)), zv 2 (.mov (zc 0))]
def qz5 : IC := zr [zi 3 (.alo [(.int .i64 0)]), zn (.st 1 .id (.t 3) (zc 0))]
def q4q : IC := zr [zv 4 (.ld true 3 (.t 1)), zv 5 (.mfn 131 [] [(.t 3)]), zi 6 (.call (.c (.fn 86 [] [])) [((.t 4), (.agg [.id, .id, (.sl 3)])), ((zc 1), .id), ((.t 5), .id)])]
def q6r : IC := zr [zv 7 (.ld false 1 (.t 3)), zm 2 7]
def k0ca : IC := (.seq q3f (.seq qz5 (.seq q4q (.seq q6r .ret))))
@[go_sem] def s0ca : List (RV × Co) := [(.t 2, .id)]
theorem c0ca : cFun Try.prog 110 = some (8, k0ca, s0ca) := by kernel_rfl

def q2l : IC := zr [zi 1 (.box (.t 0)), zv 2 (.mov (zc 0))]
def qz7 : IC := zr [zi 3 (.alo [(.int .i64 0)]), zn (.st 1 .id (.t 3) (zc 0))]
def q2g : IC := zr [zv 4 (.ld true 3 (.t 1)), zv 5 (.mfn 132 [] [(.t 3)]), zi 6 (.call (.c (.fn 86 [] [])) [((.t 4), (.agg [.id, .id, (.sl 3)])), ((zc 1), .id), ((.t 5), .id)])]
def q9n : IC := zr [zv 7 (.ld false 1 (.t 3)), zm 2 7]
def k0cb : IC := (.seq q2l (.seq qz7 (.seq q2g (.seq q9n .ret))))
@[go_sem] def s0cb : List (RV × Co) := [(.t 2, .id)]
theorem c0cb : cFun Try.prog 111 = some (8, k0cb, s0cb) := by kernel_rfl

def q41 : IC := zr [zi 1 (.box (.t 0)), zv 2 (.mov (zc 0))]
def q3x : IC := zr [zv 3 (.mov (zc 1))]
def q8r : IC := zr [zv 4 (.mov (zc 0))]
def q78 : IC := zr [zm 5 4, zv 6 (.fad (.t 1) 2), zv 7 (.ld false 1 (.t 6)), zv 8 (.len false (.t 7)), zv 9 (.bin .lss .no (.t 5) (.t 8))]
def qbab : IC := zr [zm 12 3, zv 13 (.fad (.t 1) 2), zv 14 (.ld false 1 (.t 13)), zm 15 4, zv 16 (.iad 3 (.t 14) (.t 15)), zv 17 (.ld true 3 (.t 16)), zi 18 (.call (.c (.fn 112 [] [])) [((.t 17), (.agg [.id, .id, (.sl 3)]))]), zv 19 (.bin .add .no (.t 12) (.t 18)), zm 3 19]
def q73 : IC := zr [zm 10 4, zv 11 (.bin .add .no (.t 10) (zc 1)), zm 4 11]
def q7c : IC := (.seq (.seq q78 (.cond (.t 9) .skip (.exit 0))) (.seq (.block 1 qbab) q73))
def q98 : IC := zr [zm 20 3, zm 2 20]
def k0cc : IC := (.seq q41 (.seq q3x (.seq (.seq q8r (.block 0 (.loop q7c))) (.seq q98 .ret))))
@[go_sem] def s0cc : List (RV × Co) := [(.t 2, .id)]
theorem c0cc : cFun Try.prog 112 = some (21, k0cc, s0cc) := by kernel_rfl

def q69 : IC := zr [zi 1 (.box (.t 0)), zv 2 (.mov (zc 0))]
def q47 : IC := zr [zv 3 (.mov (zc 0))]
def qba7 : IC := zr [zv 4 (.mov (zc 0))]
def qbap : IC := zr [zm 5 4, zv 6 (.fad (.t 1) 2), zv 7 (.ld false 1 (.t 6)), zv 8 (.len false (.t 7)), zv 9 (.bin .lss .no (.t 5) (.t 8))]
def qbbm : IC := zr [zm 12 3, zv 13 (.fad (.t 1) 2), zv 14 (.ld false 1 (.t 13)), zm 15 4, zv 16 (.iad 3 (.t 14) (.t 15)), zv 17 (.ld true 3 (.t 16)), zi 18 (.call (.c (.fn 113 [] [])) [((.t 17), (.agg [.id, .id, (.sl 3)]))]), zv 19 (.mm true (.t 12) (.t 18)), zm 3 19]
def q24 : IC := zr [zm 10 4, zv 11 (.bin .add .no (.t 10) (zc 1)), zm 4 11]
def q6n : IC := (.seq (.seq qbap (.cond (.t 9) .skip (.exit 0))) (.seq (.block 1 qbbm) q24))
def qba1 : IC := zr [zm 20 3, zv 21 (.bin .add .no (.t 20) (zc 1)), zm 2 21]
def k0cd : IC := (.seq q69 (.seq q47 (.seq (.seq qba7 (.block 0 (.loop q6n))) (.seq qba1 .ret))))
@[go_sem] def s0cd : List (RV × Co) := [(.t 2, .id)]
theorem c0cd : cFun Try.prog 113 = some (22, k0cd, s0cd) := by kernel_rfl

def q3u : IC := zr [zi 1 (.box (.t 0)), zv 2 zf]
def q3g : IC := zr [zv 3 (.mov (zc 0))]
def q5i : IC := zr [zm 5 3, zv 6 (.fad (.t 1) 2), zv 7 (.ld false 1 (.t 6)), zv 8 (.len false (.t 7)), zv 9 (.bin .lss .no (.t 5) (.t 8))]
def qz8 : IC := zr [zv 12 (.fad (.t 1) 2), zv 13 (.ld false 1 (.t 12)), zm 14 3, zv 15 (.iad 3 (.t 13) (.t 14)), zv 16 (.ld true 3 (.t 15)), zi 17 (.call (.c (.fn 114 [] [])) [((.t 16), (.agg [.id, .id, (.sl 3)]))]), zv 18 (.un .not (.t 17))]
def qba9 : IC := zr [zv 2 zf]
def q6o : IC := zr [zm 10 3, zv 11 (.bin .add .no (.t 10) (zc 1)), zm 3 11]
def q54 : IC := (.seq (.seq q5i (.cond (.t 9) .skip (.exit 0))) (.seq (.block 1 (.seq qz8 (.cond (.t 18) (.seq qba9 .ret) .skip))) q6o))
def q22 : IC := zr [zv 19 (.fad (.t 1) 2), zv 20 (.ld false 1 (.t 19)), zv 21 (.len false (.t 20)), zm 4 21]
def qba4 : IC := zr [zv 23 (.fad (.t 1) 0), zv 24 (.ld false 1 (.t 23)), zv 25 (.bin .eql .no (.t 24) (.c (.str []))), zm 22 25]
def qzb : IC := zr [zm 26 4, zv 27 (.bin .eql .no (.t 26) (zc 0)), zm 2 27]
def qxr : IC := zr [zv 29 (.fad (.t 1) 0), zv 30 (.ld false 1 (.t 29)), zv 31 (.bin .eql .no (.t 30) (.c (.str [45, 62]))), zm 28 31]
def qyb : IC := zr [zm 32 4, zv 33 (.bin .eql .no (.t 32) (zc 2)), zm 34 33, zw 34 true 35 (.fad (.t 1) 1), zw 34 true 36 (.ld false 1 (.t 35)), zw 34 true 37 (.bin .eql .no (.t 36) (zc 0)), zv 38 (.pick (.t 34) (.t 37) (.c (.bool false))), zm 2 38]
def qzc : IC := zr [zv 40 (.fad (.t 1) 0), zv 41 (.ld false 1 (.t 40)), zi 42 (.call (.c (.fn 133 [] [])) [((.t 41), .id)]), zm 39 42]
def qvj : IC := zr [zm 43 4, zv 44 (.bin .eql .no (.t 43) (zc 0)), zm 45 44, zw 45 true 46 (.fad (.t 1) 1), zw 45 true 47 (.ld false 1 (.t 46)), zw 45 true 48 (.bin .eql .no (.t 47) (zc 0)), zv 49 (.pick (.t 45) (.t 48) (.c (.bool false))), zm 2 49]
def qyn : IC := zr [zv 50 (.fad (.t 1) 0), zv 51 (.ld false 1 (.t 50)), zi 52 (.call (.c (.fn 125 [] [])) [((.t 51), .id)]), zm 53 52, zw 53 true 54 (.fad (.t 1) 1), zw 53 true 55 (.ld false 1 (.t 54)), zw 53 true 56 (.bin .eql .no (.t 55) (zc 0)), zv 57 (.pick (.t 53) (.t 56) (.c (.bool false))), zm 2 57]
def k0ce : IC := (.seq q3u (.seq (.seq q3g (.block 0 (.loop q54))) (.seq q22 (.seq (.block 2 (.seq qba4 (.cond (.t 22) (.seq qzb .ret) (.seq qxr (.cond (.t 28) (.seq qyb .ret) (.seq qzc (.cond (.t 39) (.seq qvj .ret) .skip))))))) (.seq qyn .ret)))))
@[go_sem] def s0ce : List (RV × Co) := [(.t 2, .id)]
theorem c0ce : cFun Try.prog 114 = some (58, k0ce, s0ce) := by kernel_rfl

def q9o : IC := zr [zv 6 (.mov (zc 0)), zv 7 zf]
def q53 : IC := zr [zm 12 0, zv 13 (.len false (.t 12)), zm 8 13]
def q3j : IC := zr [zm 14 8, zv 9 (.mov (zc 0)), zm 10 14]
def q68 : IC := zr [zm 15 9, zm 16 10, zv 17 (.bin .lss .no (.t 15) (.t 16))]
def q8a : IC := zr [zm 18 9, zm 19 10, zv 20 (.bin .add .no (.t 18) (.t 19)), zv 21 (.cvi .u64 (.t 20)), zv 22 (.bin .shr .no (.t 21) (.c (.int .u64 1))), zv 23 (.cvi .i64 (.t 22)), zm 11 23]
def q4d : IC := zr [zm 24 2, zm 25 0, zm 26 11, zv 27 (.iad 4 (.t 25) (.t 26)), zv 28 (.ld true 4 (.t 27)), zm 29 1, zi 30 (.call (.t 24) [((.t 28), (.agg [.id, .id, .id, (.sl 3)])), ((.t 29), .id)]), zv 31 (.bin .lss .no (.t 30) (zc 0))]
def qbao : IC := zr [zm 32 11, zv 33 (.bin .add .no (.t 32) (zc 1)), zm 9 33]
def q4o : IC := zr [zm 34 11, zm 10 34]
def q4g : IC := (.seq (.seq q68 (.cond (.t 17) .skip (.exit 0))) (.block 1 (.seq q8a (.seq q4d (.cond (.t 31) qbao q4o)))))
def qyx : IC := zr [zm 35 9, zm 36 9, zm 37 8, zv 38 (.bin .lss .no (.t 36) (.t 37)), zm 39 38, zw 39 true 40 (.mov (.t 2)), zw 39 true 41 (.mov (.t 0)), zw 39 true 42 (.mov (.t 9)), zw 39 true 43 (.iad 4 (.t 41) (.t 42)), zw 39 true 44 (.ld true 4 (.t 43)), zw 39 true 45 (.mov (.t 1)), ⟨some (39, true), some 46, .call (.t 40) [((.t 44), (.agg [.id, .id, .id, (.sl 3)])), ((.t 45), .id)]⟩, zw 39 true 47 (.bin .eql .no (.t 46) (zc 0)), zv 48 (.pick (.t 39) (.t 47) (.c (.bool false))), zm 6 35, zm 7 48]
def k0bm : IC := (.seq q9o (.seq q53 (.seq q3j (.seq (.block 0 (.loop q4g)) (.seq qyx .ret)))))
@[go_sem] def s0bm : List (RV × Co) := [(.t 6, .id), (.t 7, .id)]
theorem c0bm : cFun Try.prog 115 = some (49, k0bm, s0bm) := by kernel_rfl

def q61 : IC := zr [zi 2 (.box (.t 0)), zv 4 (.mov (zc 0))]
def q6m : IC := zr [zv 6 (.fad (.t 2) 0), zv 7 (.ld false 1 (.t 6)), zm 8 1, zv 9 (.bin .lss .no (.t 7) (.t 8)), zm 5 9]
def q6x : IC := zr [zv 4 (.mov (zc (-1)))]
def q92 : IC := zr [zv 11 (.fad (.t 2) 0), zv 12 (.ld false 1 (.t 11)), zm 13 1, zv 14 (.bin .gtr .no (.t 12) (.t 13)), zm 10 14]
def q9a : IC := zr [zv 4 (.mov (zc 1))]
def q7b : IC := zr [zv 4 (.mov (zc 0))]
def k0bo : IC := (.seq q61 (.seq (.block 0 (.seq q6m (.cond (.t 5) (.seq q6x .ret) (.seq q92 (.cond (.t 10) (.seq q9a .ret) .skip))))) (.seq q7b .ret)))
@[go_sem] def s0bo : List (RV × Co) := [(.t 4, .id)]
theorem c0bo : cFun Try.prog 116 = some (15, k0bo, s0bo) := by kernel_rfl

def qbha : IC := zr [zv 2 zf]
def qbfk : IC := zr [zm 5 0, zi 6 (.call (.c (.fn 135 [] [])) [((.t 5), .id), ((.c (.str [33])), .id)]), zv 7 (.un .not (.t 6))]
def qbfr : IC := zr [zv 2 zf]
def qbhs : IC := zr [zm 9 0, zv 10 (.sls (.t 9) (some (zc 1)) none), zi 11 (.call (.c (.fn 136 [] [])) [((.t 10), .id)]), zm 8 11, zv 12 (.ext (.t 8) 0), zv 13 (.ext (.t 8) 1), zm 3 12, zm 4 13]
def qbbs : IC := .drw [zp (zm 14 4), zp (zv 15 (.bin .eql .no (.t 14) (zc 0))), zp (zm 16 15), zp (zw 16 true 17 (.mov (.t 3))), (⟨some (16, true), some 18, .call (.c (.fn 137 [] [])) [((.t 17), .id)]⟩, []), zp (zw 16 true 19 (.mov (.t 0))), zp (zw 16 true 20 (.sls (.t 19) (some (zc 1)) none)), zp (zw 16 true 21 (.bin .eql .no (.t 18) (.t 20))), zp (zv 22 (.pick (.t 16) (.t 21) (.c (.bool false)))), zp (zm 2 22)]
def k0f : IC := (.seq qbha (.seq (.seq qbfk (.cond (.t 7) (.seq qbfr .ret) .skip)) (.seq qbhs (.seq qbbs .ret))))
@[go_sem] def s0f : List (RV × Co) := [(.t 2, .id)]
theorem c0f : cFun Try.prog 119 = some (23, k0f, s0f) := by kernel_rfl

def qbd5 : IC := zr [zv 2 zf]
def qbci : IC := zr [zm 3 0, zv 4 (.bin .neq .no (.t 3) (.c (.str []))), zm 5 4, zw 5 true 6 (.mov (.t 0)), zw 5 true 7 (.idx (.t 6) (zc 0)), ⟨some (5, true), some 8, .call (.c (.fn 141 [] [])) [((.t 7), .id)]⟩, zv 9 (.pick (.t 5) (.t 8) (.c (.bool false))), zm 10 9, zw 10 true 11 (.mov (.t 0)), ⟨some (10, true), some 12, .call (.c (.fn 142 [] [])) [((.t 11), .id)]⟩, zv 13 (.pick (.t 10) (.t 12) (.c (.bool false))), zm 2 13]
def k0w : IC := (.seq qbd5 (.seq qbci .ret))
@[go_sem] def s0w : List (RV × Co) := [(.t 2, .id)]
theorem c0w : cFun Try.prog 125 = some (14, k0w, s0w) := by kernel_rfl

def qbeg : IC := zr [zv 2 (.mov (.c (.str [])))]
def qbgd : IC := zr [zm 5 0, zi 6 (.call (.c (.fn 143 [] [])) [((.t 5), .id)]), zm 3 6]
def qbes : IC := zr [zv 4 (.mov (.c (.str [])))]
def qbfq : IC := zr [zm 7 3, zv 8 (.bin .gtr .no (.t 7) (.c (.int .u64 9)))]
def qbb0 : IC := zr [zm 9 3, zv 10 (.bin .rem .no (.t 9) (.c (.int .u64 10))), zv 11 (.bin .add .no (.c (.int .u64 48)) (.t 10)), zv 12 (.cvi .u8 (.t 11)), zv 13 (.bsl 1 [((.t 12), .id)]), zv 14 (.cbs (.t 13)), zm 15 4, zv 16 (.bin .add .no (.t 14) (.t 15)), zm 4 16]
def qbb6 : IC := zr [zm 17 3, zv 18 (.bin .quo .no (.t 17) (.c (.int .u64 10))), zm 3 18]
def qbfe : IC := (.seq (.seq qbfq (.cond (.t 8) .skip (.exit 0))) (.block 1 (.seq qbb0 qbb6)))
def qbf5 : IC := zr [zm 19 3, zv 20 (.bin .add .no (.c (.int .u64 48)) (.t 19)), zv 21 (.cvi .u8 (.t 20)), zv 22 (.bsl 1 [((.t 21), .id)]), zv 23 (.cbs (.t 22)), zm 24 4, zv 25 (.bin .add .no (.t 23) (.t 24)), zm 4 25]
def qbgi : IC := zr [zm 26 0, zv 27 (.bin .lss .no (.t 26) (zc 0))]
def q6f : IC := zr [zm 28 4, zv 29 (.bin .add .no (.c (.str [45])) (.t 28)), zm 2 29]
def q8t : IC := zr [zm 30 4, zm 2 30]
def k0y : IC := (.seq qbeg (.seq qbgd (.seq qbes (.seq (.block 0 (.loop qbfe)) (.seq qbf5 (.seq (.seq qbgi (.cond (.t 27) (.seq q6f .ret) .skip)) (.seq q8t .ret)))))))
@[go_sem] def s0y : List (RV × Co) := [(.t 2, .id)]
theorem c0y : cFun Try.prog 127 = some (31, k0y, s0y) := by kernel_rfl

def qbhu : IC := zr [zv 2 zf]
def qbbx : IC := zr [zm 3 0, zv 4 (.bin .geq .no (.t 3) (.c (.int .u8 97))), zm 5 4, zw 5 true 6 (.mov (.t 0)), zw 5 true 7 (.bin .leq .no (.t 6) (.c (.int .u8 122))), zv 8 (.pick (.t 5) (.t 7) (.c (.bool false))), zm 9 8, zw 9 false 10 (.mov (.t 0)), zw 9 false 11 (.bin .eql .no (.t 10) (.c (.int .u8 95))), zv 12 (.pick (.t 9) (.c (.bool true)) (.t 11)), zm 2 12]
def k0n : IC := (.seq qbhu (.seq qbbx .ret))
@[go_sem] def s0n : List (RV × Co) := [(.t 2, .id)]
theorem c0n : cFun Try.prog 128 = some (13, k0n, s0n) := by kernel_rfl

def q5r : IC := zr [zi 2 (.box (.t 0)), zv 4 (.mov (.c (.str [])))]
def q51 : IC := zr [zm 5 1]
def q11 : IC := zr [zv 6 (.ld true 3 (.t 2)), zi 7 (.call (.c (.fn 109 [] [])) [((.t 6), (.agg [.id, .id, (.sl 3)]))]), zv 8 (.bin .add .no (.c (.str [40])) (.t 7)), zv 9 (.bin .add .no (.t 8) (.c (.str [41]))), zm 4 9]
def q0f : IC := zr [zv 10 (.ld true 3 (.t 2)), zi 11 (.call (.c (.fn 109 [] [])) [((.t 10), (.agg [.id, .id, (.sl 3)]))]), zm 4 11]
def k0bt : IC := (.seq q5r (.seq (.seq q51 (.cond (.t 5) (.seq q11 .ret) .skip)) (.seq q0f .ret)))
@[go_sem] def s0bt : List (RV × Co) := [(.t 4, .id)]
theorem c0bt : cFun Try.prog 129 = some (12, k0bt, s0bt) := by kernel_rfl

def qbbl : IC := zr [zi 1 (.box (.t 0)), zv 2 (.mov (.c (.str [])))]
def q9i : IC := zr [zv 4 (.fad (.t 1) 0), zv 5 (.ld false 1 (.t 4)), zv 6 (.bin .neq .no (.t 5) (.c (.str []))), zm 3 6]
def q5c : IC := zr [zv 7 (.fad (.t 1) 0), zv 8 (.ld false 1 (.t 7)), zm 2 8]
def q1m : IC := zr [zv 10 (.fad (.t 1) 1), zv 11 (.ld false 1 (.t 10)), zv 12 (.bin .geq .no (.t 11) (zc 0)), zm 9 12]
def q1o : IC := zr [zv 13 (.fad (.t 1) 1), zv 14 (.ld false 1 (.t 13)), zi 15 (.call (.c (.fn 144 [] [])) [((.t 14), .id)]), zm 2 15]
def q3q : IC := zr [zv 16 (.fad (.t 1) 1), zv 17 (.ld false 1 (.t 16)), zv 18 (.bin .sub .no (zc (-1)) (.t 17)), zi 19 (.call (.c (.fn 137 [] [])) [((.t 18), .id)]), zv 20 (.bin .add .no (.c (.str [63])) (.t 19)), zm 2 20]
def k0bs : IC := (.seq qbbl (.seq (.block 0 (.seq q9i (.cond (.t 3) (.seq q5c .ret) (.seq q1m (.cond (.t 9) (.seq q1o .ret) .skip))))) (.seq q3q .ret)))
@[go_sem] def s0bs : List (RV × Co) := [(.t 2, .id)]
theorem c0bs : cFun Try.prog 130 = some (21, k0bs, s0bs) := by kernel_rfl

def qbaz : IC := zr [zi 3 (.box (.t 0)), zv 5 zf]
def q3k : IC := zr [zv 6 (.ld false 1 (.t 2)), zv 7 (.bin .add .no (.t 6) (zc 1)), zn (.st 1 .id (.t 2) (.t 7))]
def qbbg : IC := zr [zv 5 (.mov (.c (.bool true)))]
def k0bx : IC := (.seq qbaz (.seq q3k (.seq qbbg .ret)))
@[go_sem] def s0bx : List (RV × Co) := [(.t 5, .id)]
theorem c0bx : cFun Try.prog 131 = some (8, k0bx, s0bx) := by kernel_rfl

def qbac : IC := zr [zi 3 (.box (.t 0)), zv 5 zf]
def q5y : IC := zr [zv 6 (.ld false 1 (.t 2)), zm 7 1, zv 8 (.mm true (.t 6) (.t 7)), zn (.st 1 .id (.t 2) (.t 8))]
def q1e : IC := zr [zv 5 (.mov (.c (.bool true)))]
def k0by : IC := (.seq qbac (.seq q5y (.seq q1e .ret)))
@[go_sem] def s0by : List (RV × Co) := [(.t 5, .id)]
theorem c0by : cFun Try.prog 132 = some (9, k0by, s0by) := by kernel_rfl

def qbdd : IC := zr [zv 2 zf]
def qbdg : IC := zr [zm 5 0, zv 6 (.bin .eql .no (.t 5) (.c (.str []))), zm 7 6, zw 7 false 8 (.mov (.t 0)), zw 7 false 9 (.idx (.t 8) (zc 0)), zw 7 false 10 (.bin .neq .no (.t 9) (.c (.int .u8 33))), zv 11 (.pick (.t 7) (.c (.bool true)) (.t 10))]
def qbhp : IC := zr [zv 2 zf]
def qbg8 : IC := zr [zm 13 0, zv 14 (.sls (.t 13) (some (zc 1)) none), zi 15 (.call (.c (.fn 145 [] [])) [((.t 14), .id)]), zm 12 15, zv 16 (.ext (.t 12) 0), zv 17 (.ext (.t 12) 1), zm 3 16, zm 4 17]
def qbec : IC := .drw [zp (zm 18 4), zp (zv 19 (.bin .eql .no (.t 18) (zc 0))), zp (zm 20 19), zp (zw 20 true 21 (.mov (.t 3))), (⟨some (20, true), some 22, .call (.c (.fn 127 [] [])) [((.t 21), .id)]⟩, []), zp (zw 20 true 23 (.mov (.t 0))), zp (zw 20 true 24 (.sls (.t 23) (some (zc 1)) none)), zp (zw 20 true 25 (.bin .eql .no (.t 22) (.t 24))), zp (zv 26 (.pick (.t 20) (.t 25) (.c (.bool false)))), zp (zm 2 26)]
def k0g : IC := (.seq qbdd (.seq (.seq qbdg (.cond (.t 11) (.seq qbhp .ret) .skip)) (.seq qbg8 (.seq qbec .ret))))
@[go_sem] def s0g : List (RV × Co) := [(.t 2, .id)]
theorem c0g : cFun Try.prog 133 = some (27, k0g, s0g) := by kernel_rfl

def qbhr : IC := zr [zv 4 zf]
def qbco : IC := zr [zm 5 0, zm 6 1, zi 7 (.call (.c (.fn 147 [] [])) [((.t 5), .id), ((.t 6), .id)]), zm 4 7]
def k0k : IC := (.seq qbhr (.seq qbco .ret))
@[go_sem] def s0k : List (RV × Co) := [(.t 4, .id)]
theorem c0k : cFun Try.prog 135 = some (8, k0k, s0k) := by kernel_rfl

def qbhv : IC := zr [zv 2 (.mov (zc 0)), zv 3 (.mov (zc 0))]
def qbf9 : IC := zr [zm 8 0, zv 9 (.len true (.t 8)), zv 10 (.mov (zc 0))]
def qbe7 : IC := zr [zv 11 (.bin .lss .no (.t 10) (.t 9))]
def qbe0 : IC := zr [zm 12 10, zm 4 12]
def qbh4 : IC := zr [zm 13 0, zm 14 4, zv 15 (.idx (.t 13) (.t 14)), zv 16 (.bin .lss .no (.t 15) (.c (.int .u8 48))), zm 17 16, zw 17 false 18 (.mov (.t 0)), zw 17 false 19 (.mov (.t 4)), zw 17 false 20 (.idx (.t 18) (.t 19)), zw 17 false 21 (.bin .gtr .no (.t 20) (.c (.int .u8 57))), zv 22 (.pick (.t 17) (.c (.bool true)) (.t 21))]
def qbbz : IC := zr [zv 2 (.mov (zc 0)), zv 3 (.mov (zc 5))]
def qbf1 : IC := zr [zv 23 (.bin .add .no (.t 10) (zc 1)), zm 10 23]
def qbf7 : IC := (.seq qbe7 (.seq (.cond (.t 11) .skip (.exit 0)) (.seq (.block 1 (.seq qbe0 (.seq qbh4 (.cond (.t 22) (.seq qbbz .ret) .skip)))) qbf1)))
def qbfu : IC := zr [zm 24 0, zv 25 (.bin .eql .no (.t 24) (.c (.str [])))]
def q0a : IC := zr [zv 2 (.mov (zc 0)), zv 3 (.mov (zc 5))]
def q3i : IC := zr [zv 5 (.mov (zc 0)), zv 6 (.mov (zc 0))]
def q5t : IC := zr [zm 26 0, zm 27 6, zv 28 (.idx (.t 26) (.t 27)), zv 29 (.bin .sub .no (.t 28) (.c (.int .u8 48))), zv 30 (.cvi .i64 (.t 29)), zm 7 30]
def q1g : IC := zr [zm 31 5, zm 32 7, zv 33 (.bin .sub .no (zc 9223372036854775807) (.t 32)), zv 34 (.bin .quo .no (.t 33) (zc 10)), zv 35 (.bin .gtr .no (.t 31) (.t 34))]
def q4k : IC := zr [zv 2 (.mov (zc 0)), zv 3 (.mov (zc 4))]
def qbae : IC := zr [zm 36 5, zv 37 (.bin .mul .no (zc 10) (.t 36)), zm 38 7, zv 39 (.bin .add .no (.t 37) (.t 38)), zm 5 39]
def q5h : IC := zr [zm 40 6, zv 41 (.bin .add .no (.t 40) (zc 1)), zm 6 41]
def q7y : IC := zr [zm 42 6, zm 43 0, zv 44 (.len true (.t 43)), zv 45 (.bin .lss .no (.t 42) (.t 44))]
def q8i : IC := zr [zm 46 5, zm 2 46, zv 3 (.mov (zc 0))]
def k0m : IC := (.seq qbhv (.scope (.seq (.seq qbf9 (.block 0 (.loop qbf7))) (.seq (.seq qbfu (.cond (.t 25) (.seq q0a .ret) .skip)) (.seq q3i (.seq (.label 0) (.seq q5t (.seq (.seq q1g (.cond (.t 35) (.seq q4k .ret) .skip)) (.seq qbae (.seq (.seq q5h (.seq q7y (.cond (.t 45) (.goto 0) .skip))) (.seq q8i .ret)))))))))))
@[go_sem] def s0m : List (RV × Co) := [(.t 2, .id), (.t 3, .id)]
theorem c0m : cFun Try.prog 136 = some (47, k0m, s0m) := by kernel_rfl

def qbey : IC := zr [zv 2 (.mov (.c (.str [])))]
def qbds : IC := zr [zm 6 0, zv 7 (.cvi .u64 (.t 6)), zm 3 7]
def qbdn : IC := zr [zm 8 0, zv 9 (.bin .lss .no (.t 8) (zc 0))]
def qbff : IC := zr [zm 10 3, zv 11 (.un .neg (.t 10)), zm 3 11]
def qbda : IC := zr [zi 4 (.alo [(.int .u8 0), (.int .u8 0), (.int .u8 0), (.int .u8 0), (.int .u8 0), (.int .u8 0), (.int .u8 0), (.int .u8 0), (.int .u8 0), (.int .u8 0), (.int .u8 0), (.int .u8 0), (.int .u8 0), (.int .u8 0), (.int .u8 0), (.int .u8 0), (.int .u8 0), (.int .u8 0), (.int .u8 0), (.int .u8 0)])]
def qbhb : IC := zr [zv 5 (.mov (zc 20))]
def qbgf : IC := zr [zm 12 5, zv 13 (.bin .sub .no (.t 12) (zc 1)), zm 5 13]
def qbb5 : IC := zr [zm 14 5, zm 15 3, zv 16 (.bin .rem .no (.t 15) (.c (.int .u64 10))), zv 17 (.bin .add .no (.c (.int .u64 48)) (.t 16)), zv 18 (.cvi .u8 (.t 17)), zv 19 (.aad 1 20 (.t 4) (.t 14)), zn (.st 1 .id (.t 19) (.t 18))]
def qbfw : IC := zr [zm 20 3, zv 21 (.bin .quo .no (.t 20) (.c (.int .u64 10))), zm 3 21]
def q0d : IC := zr [zm 22 3, zv 23 (.bin .eql .no (.t 22) (.c (.int .u64 0)))]
def qbb1 : IC := (.block 1 (.seq qbgf (.seq qbb5 (.seq qbfw (.seq q0d (.cond (.t 23) (.exit 0) .skip))))))
def q9x : IC := zr [zm 24 0, zv 25 (.bin .lss .no (.t 24) (zc 0))]
def q4c : IC := zr [zm 26 5, zv 27 (.sla 20 (.t 4) (.t 26)), zv 28 (.cbs (.t 27)), zv 29 (.bin .add .no (.c (.str [45])) (.t 28)), zm 2 29]
def q0r : IC := zr [zm 30 5, zv 31 (.sla 20 (.t 4) (.t 30)), zv 32 (.cbs (.t 31)), zm 2 32]
def k0z : IC := (.seq qbey (.seq qbds (.seq (.seq qbdn (.cond (.t 9) qbff .skip)) (.seq qbda (.seq qbhb (.seq (.block 0 (.loop qbb1)) (.seq (.seq q9x (.cond (.t 25) (.seq q4c .ret) .skip)) (.seq q0r .ret))))))))
@[go_sem] def s0z : List (RV × Co) := [(.t 2, .id)]
theorem c0z : cFun Try.prog 137 = some (33, k0z, s0z) := by kernel_rfl

def qbc8 : IC := zr [zv 2 zf]
def qbce : IC := zr [zm 3 0, zv 4 (.bin .geq .no (.t 3) (.c (.int .u8 65))), zm 5 4, zw 5 true 6 (.mov (.t 0)), zw 5 true 7 (.bin .leq .no (.t 6) (.c (.int .u8 90))), zv 8 (.pick (.t 5) (.t 7) (.c (.bool false))), zm 2 8]
def k0q : IC := (.seq qbc8 (.seq qbce .ret))
@[go_sem] def s0q : List (RV × Co) := [(.t 2, .id)]
theorem c0q : cFun Try.prog 141 = some (9, k0q, s0q) := by kernel_rfl

def qbe6 : IC := zr [zv 2 zf]
def qbf3 : IC := zr [zv 3 (.mov (zc 1))]
def qbhk : IC := zr [zm 4 3, zm 5 0, zv 6 (.len true (.t 5)), zv 7 (.bin .lss .no (.t 4) (.t 6))]
def qbf8 : IC := zr [zm 10 0, zm 11 3, zv 12 (.idx (.t 10) (.t 11)), zi 13 (.call (.c (.fn 152 [] [])) [((.t 12), .id)]), zv 14 (.un .not (.t 13))]
def qbho : IC := zr [zv 2 zf]
def qbgo : IC := zr [zm 8 3, zv 9 (.bin .add .no (.t 8) (zc 1)), zm 3 9]
def qbhd : IC := (.seq (.seq qbhk (.cond (.t 7) .skip (.exit 0))) (.seq (.block 1 (.seq qbf8 (.cond (.t 14) (.seq qbho .ret) .skip))) qbgo))
def qbeu : IC := zr [zv 2 (.mov (.c (.bool true)))]
def k0u : IC := (.seq qbe6 (.seq (.seq qbf3 (.block 0 (.loop qbhd))) (.seq qbeu .ret)))
@[go_sem] def s0u : List (RV × Co) := [(.t 2, .id)]
theorem c0u : cFun Try.prog 142 = some (15, k0u, s0u) := by kernel_rfl

def qbby : IC := zr [zv 2 (.mov (.c (.int .u64 0)))]
def qbe4 : IC := zr [zm 3 0, zv 4 (.bin .lss .no (.t 3) (zc 0))]
def qbhj : IC := zr [zm 5 0, zv 6 (.cvi .u64 (.t 5)), zv 7 (.un .neg (.t 6)), zm 2 7]
def qbhz : IC := zr [zm 8 0, zv 9 (.cvi .u64 (.t 8)), zm 2 9]
def k0x : IC := (.seq qbby (.seq (.seq qbe4 (.cond (.t 4) (.seq qbhj .ret) .skip)) (.seq qbhz .ret)))
@[go_sem] def s0x : List (RV × Co) := [(.t 2, .id)]
theorem c0x : cFun Try.prog 143 = some (10, k0x, s0x) := by kernel_rfl

def q8g : IC := zr [zv 2 (.mov (.c (.str [])))]
def q2b : IC := zr [zm 4 0, zv 5 (.bin .lss .no (.t 4) (zc 0))]
def q1a : IC := zr [zv 2 (.mov (.c (.str [])))]
def q86 : IC := zr [zm 6 0, zv 7 (.bin .rem .no (.t 6) (zc 26)), zv 8 (.bin .add .no (zc 97) (.t 7)), zv 9 (.cvi .u8 (.t 8)), zv 10 (.bsl 1 [((.t 9), .id)]), zv 11 (.cbs (.t 10)), zm 3 11]
def q6k : IC := zr [zm 12 0, zv 13 (.bin .lss .no (.t 12) (zc 26))]
def q08 : IC := zr [zm 14 3, zm 2 14]
def q6d : IC := zr [zm 15 3, zm 16 0, zv 17 (.bin .quo .no (.t 16) (zc 26)), zi 18 (.call (.c (.fn 137 [] [])) [((.t 17), .id)]), zv 19 (.bin .add .no (.t 15) (.t 18)), zm 2 19]
def k0ba : IC := (.seq q8g (.seq (.seq q2b (.cond (.t 5) (.seq q1a .ret) .skip)) (.seq q86 (.seq (.seq q6k (.cond (.t 13) (.seq q08 .ret) .skip)) (.seq q6d .ret)))))
@[go_sem] def s0ba : List (RV × Co) := [(.t 2, .id)]
theorem c0ba : cFun Try.prog 144 = some (20, k0ba, s0ba) := by kernel_rfl

def qbb3 : IC := zr [zv 2 (.mov (zc 0)), zv 3 (.mov (zc 0))]
def qbgk : IC := zr [zm 8 0, zv 9 (.bin .eql .no (.t 8) (.c (.str [])))]
def qbg0 : IC := zr [zv 2 (.mov (zc 0)), zv 3 (.mov (zc 5))]
def qbgz : IC := zr [zv 4 (.mov (zc 0))]
def qbfy : IC := zr [zm 10 4, zm 11 0, zv 12 (.len true (.t 11)), zv 13 (.bin .lss .no (.t 10) (.t 12))]
def qbde : IC := zr [zm 16 0, zm 17 4, zv 18 (.idx (.t 16) (.t 17)), zv 19 (.bin .lss .no (.t 18) (.c (.int .u8 48))), zm 20 19, zw 20 false 21 (.mov (.t 0)), zw 20 false 22 (.mov (.t 4)), zw 20 false 23 (.idx (.t 21) (.t 22)), zw 20 false 24 (.bin .gtr .no (.t 23) (.c (.int .u8 57))), zv 25 (.pick (.t 20) (.c (.bool true)) (.t 24))]
def qbca : IC := zr [zv 2 (.mov (zc 0)), zv 3 (.mov (zc 5))]
def qbhe : IC := zr [zm 14 4, zv 15 (.bin .add .no (.t 14) (zc 1)), zm 4 15]
def qbd2 : IC := (.seq (.seq qbfy (.cond (.t 13) .skip (.exit 0))) (.seq (.block 1 (.seq qbde (.cond (.t 25) (.seq qbca .ret) .skip))) qbhe))
def q6c : IC := zr [zv 5 (.mov (zc 0))]
def q0n : IC := zr [zv 6 (.mov (zc 0))]
def q14 : IC := zr [zm 26 6, zm 27 0, zv 28 (.len true (.t 27)), zv 29 (.bin .lss .no (.t 26) (.t 28))]
def q25 : IC := zr [zm 32 0, zm 33 6, zv 34 (.idx (.t 32) (.t 33)), zv 35 (.bin .sub .no (.t 34) (.c (.int .u8 48))), zv 36 (.cvi .i64 (.t 35)), zm 7 36]
def q84 : IC := zr [zm 37 5, zm 38 7, zv 39 (.bin .sub .no (zc 9223372036854775807) (.t 38)), zv 40 (.bin .quo .no (.t 39) (zc 10)), zv 41 (.bin .gtr .no (.t 37) (.t 40))]
def q7f : IC := zr [zv 2 (.mov (zc 0)), zv 3 (.mov (zc 4))]
def q0l : IC := zr [zm 42 5, zv 43 (.bin .mul .no (zc 10) (.t 42)), zm 44 7, zv 45 (.bin .add .no (.t 43) (.t 44)), zm 5 45]
def qba0 : IC := zr [zm 30 6, zv 31 (.bin .add .no (.t 30) (zc 1)), zm 6 31]
def qz6 : IC := (.seq (.seq q14 (.cond (.t 29) .skip (.exit 2))) (.seq (.block 3 (.seq q25 (.seq (.seq q84 (.cond (.t 41) (.seq q7f .ret) .skip)) q0l))) qba0))
def q79 : IC := zr [zm 46 5, zm 2 46, zv 3 (.mov (zc 0))]
def k0l : IC := (.seq qbb3 (.seq (.seq qbgk (.cond (.t 9) (.seq qbg0 .ret) .skip)) (.seq (.seq qbgz (.block 0 (.loop qbd2))) (.seq q6c (.seq (.seq q0n (.block 2 (.loop qz6))) (.seq q79 .ret))))))
@[go_sem] def s0l : List (RV × Co) := [(.t 2, .id), (.t 3, .id)]
theorem c0l : cFun Try.prog 145 = some (47, k0l, s0l) := by kernel_rfl

def qbe8 : IC := zr [zv 4 zf]
def qbgb : IC := zr [zm 5 0, zv 6 (.len true (.t 5)), zm 7 1, zv 8 (.len true (.t 7)), zv 9 (.bin .geq .no (.t 6) (.t 8)), zm 10 9, zw 10 true 11 (.mov (.t 0)), zw 10 true 12 (.mov (.t 1)), zw 10 true 13 (.len true (.t 12)), zw 10 true 14 (.sls (.t 11) none (some (.t 13))), zw 10 true 15 (.mov (.t 1)), zw 10 true 16 (.bin .eql .no (.t 14) (.t 15)), zv 17 (.pick (.t 10) (.t 16) (.c (.bool false))), zm 4 17]
def k0j : IC := (.seq qbe8 (.seq qbgb .ret))
@[go_sem] def s0j : List (RV × Co) := [(.t 4, .id)]
theorem c0j : cFun Try.prog 147 = some (18, k0j, s0j) := by kernel_rfl

def qbeb : IC := zr [zv 2 zf]
def qbgq : IC := zr [zm 3 0, zi 4 (.call (.c (.fn 155 [] [])) [((.t 3), .id)]), zm 5 4, zw 5 false 6 (.mov (.t 0)), ⟨some (5, false), some 7, .call (.c (.fn 141 [] [])) [((.t 6), .id)]⟩, zv 8 (.pick (.t 5) (.c (.bool true)) (.t 7)), zm 9 8, zw 9 false 10 (.mov (.t 0)), ⟨some (9, false), some 11, .call (.c (.fn 156 [] [])) [((.t 10), .id)]⟩, zv 12 (.pick (.t 9) (.c (.bool true)) (.t 11)), zm 13 12, zw 13 false 14 (.mov (.t 0)), zw 13 false 15 (.bin .eql .no (.t 14) (.c (.int .u8 39))), zv 16 (.pick (.t 13) (.c (.bool true)) (.t 15)), zm 2 16]
def k0s : IC := (.seq qbeb (.seq qbgq .ret))
@[go_sem] def s0s : List (RV × Co) := [(.t 2, .id)]
theorem c0s : cFun Try.prog 152 = some (17, k0s, s0s) := by kernel_rfl

def qbct : IC := zr [zv 2 zf]
def qbch : IC := zr [zm 3 0, zv 4 (.bin .geq .no (.t 3) (.c (.int .u8 97))), zm 5 4, zw 5 true 6 (.mov (.t 0)), zw 5 true 7 (.bin .leq .no (.t 6) (.c (.int .u8 122))), zv 8 (.pick (.t 5) (.t 7) (.c (.bool false))), zm 9 8, zw 9 false 10 (.mov (.t 0)), zw 9 false 11 (.bin .eql .no (.t 10) (.c (.int .u8 95))), zv 12 (.pick (.t 9) (.c (.bool true)) (.t 11)), zm 2 12]
def k0o : IC := (.seq qbct (.seq qbch .ret))
@[go_sem] def s0o : List (RV × Co) := [(.t 2, .id)]
theorem c0o : cFun Try.prog 155 = some (13, k0o, s0o) := by kernel_rfl

def qbd6 : IC := zr [zv 2 zf]
def qbhi : IC := zr [zm 3 0, zv 4 (.bin .geq .no (.t 3) (.c (.int .u8 48))), zm 5 4, zw 5 true 6 (.mov (.t 0)), zw 5 true 7 (.bin .leq .no (.t 6) (.c (.int .u8 57))), zv 8 (.pick (.t 5) (.t 7) (.c (.bool false))), zm 2 8]
def k0r : IC := (.seq qbd6 (.seq qbhi .ret))
@[go_sem] def s0r : List (RV × Co) := [(.t 2, .id)]
theorem c0r : cFun Try.prog 156 = some (9, k0r, s0r) := by kernel_rfl

end Go.Proofs.Ytfpobiheiloamaa
