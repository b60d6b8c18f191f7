/- A text of this proof. -/
import Derived.Test.YtfpobiheiloamaaEaf
import Derived.Test.YtfpobiheiloamaaProg
/- The compiled code of the functions. -/
namespace Go.Proofs.Ytfpobiheiloamaa
open Go Go.V
@[reducible] def zm (d s : Nat) : GI := ⟨none, some d, .v (.mov (.t s))⟩
@[reducible] def zv (d : Nat) (x : IV) : GI := ⟨none, some d, .v x⟩
@[reducible] def zi (d : Nat) (i : I) : GI := ⟨none, some d, i⟩
@[reducible] def zn (i : I) : GI := ⟨none, none, i⟩
@[reducible] def zw (j : Nat) (b : Bool) (d : Nat) (x : IV) : GI := ⟨some (j, b), some d, .v x⟩
@[reducible] def zp (g : GI) : GI × List Nat := (g, [])
@[reducible] def zN : Co := .agg [.id, .id, .id, .id, (.sl 5)]
@[reducible] def zC : Co := .agg [(.sl 4), .id, .id, .id, .id, .id, .id, .id]
@[reducible] def zaN : I := .alo [(.int .i64 0), (.int .i64 0), (.int .i64 0), (.str []), .nils]
@[reducible] def zaC : I := .alo [.nils, (.int .i64 0), (.int .i64 0), (.int .i64 0), (.str []), (.int .i64 0), (.int .i64 0), (.int .i64 0)]
@[reducible] def zaT : I := .alo [(.int .i64 0), (.int .i64 0), (.int .i64 0), (.str [])]
@[reducible] def zZ : AV := .agg [(.int .i64 0), (.int .i64 0), (.int .i64 0), (.str []), .nils]
@[reducible] def zc (n : Int) : Opd := .c (.int .i64 n)
@[reducible] def zf : IV := .mov (.c (.bool false))
@[reducible] def zr (l : List GI) : IC := .reg false l
def q80 : IC := zr [zi 5 (.box (.t 2)), zv 6 zf]
def q99 : IC := zr [zm 16 0, zi 17 (.call (.c (.fn 30 [] [])) [((.t 16), (.sl 4))]), zv 18 (.bin .eql .no (.t 17) (zc 0)), zm 19 18, zw 19 false 20 (.mov (.t 1)), ⟨some (19, false), some 21, .call (.c (.fn 30 [] [])) [((.t 20), (.sl 4))]⟩, zw 19 false 22 (.bin .eql .no (.t 21) (zc 0)), zv 23 (.pick (.t 19) (.c (.bool true)) (.t 22)), zm 24 23, zw 24 false 25 (.ld true 4 (.t 5)), zw 24 false 26 (.bsl 4 [((.t 25), (.agg [.id, .id, .id, (.sl 3)]))]), ⟨some (24, false), some 27, .call (.c (.fn 30 [] [])) [((.t 26), (.sl 4))]⟩, zw 24 false 28 (.bin .eql .no (.t 27) (zc 0)), zv 29 (.pick (.t 24) (.c (.bool true)) (.t 28))]
def q55 : IC := zr [zi 30 (.call (.c (.fn 32 [] [])) []), zm 6 30]
def qba9 : IC := zr [zm 31 0, zi 32 (.call (.c (.fn 33 [] [])) [((.t 31), (.sl 4))]), zm 33 0, zi 34 (.call (.c (.fn 34 [] [])) [((.t 33), (.sl 4))]), zm 7 32, zm 8 34]
def qbbv : IC := zr [zm 36 8, zv 37 (.fad (.t 5) 0), zv 38 (.ld false 1 (.t 37)), zv 39 (.fad (.t 5) 1), zv 40 (.ld true 3 (.t 39)), zi 41 (.call (.c (.fn 44 [] [])) [((.t 36), (.sl 4)), ((.t 38), .id), ((.t 40), (.agg [.id, .id, (.sl 3)]))]), zm 35 41, zv 42 (.ext (.t 35) 0), zv 43 (.ext (.t 35) 1), zm 9 42, zm 10 43]
def q5u : IC := zr [zm 44 7, zv 45 (.fad (.t 5) 0), zv 46 (.ld false 1 (.t 45)), zv 47 (.fad (.t 5) 1), zv 48 (.ld true 3 (.t 47)), zi 49 (.call (.c (.fn 45 [] [])) [((.t 44), .id), ((.t 46), .id), ((.t 48), (.agg [.id, .id, (.sl 3)]))]), zm 11 49]
def q2x : IC := zr [zm 50 11, zm 51 10, zv 52 (.bin .neq .no (.t 50) (.t 51)), zm 53 52, zw 53 false 54 (.mov (.t 7)), ⟨some (53, false), some 55, .call (.c (.fn 41 [] [])) [((.t 54), .id)]⟩, zw 53 false 56 (.mov (.t 9)), ⟨some (53, false), some 57, .call (.c (.fn 40 [] [])) [((.t 55), (.sl 4)), ((.t 56), (.sl 4))]⟩, zw 53 false 58 (.un .not (.t 57)), zv 59 (.pick (.t 53) (.c (.bool true)) (.t 58))]
def qbaa : IC := zr [zv 6 zf]
def q03 : IC := zr [zm 61 7, zm 62 1, zi 63 (.call (.c (.fn 33 [] [])) [((.t 62), (.sl 4))]), zi 64 (.call (.c (.fn 46 [] [])) [((.t 61), .id), ((.t 63), .id)]), zm 60 64, zv 65 (.ext (.t 60) 0), zv 66 (.ext (.t 60) 1), zm 12 65, zm 13 66]
def q8b : IC := zr [zm 68 9, zm 69 1, zi 70 (.call (.c (.fn 34 [] [])) [((.t 69), (.sl 4))]), zi 71 (.call (.c (.fn 47 [] [])) [((.t 68), (.sl 4)), ((.t 70), (.sl 4))]), zm 67 71, zv 72 (.ext (.t 67) 0), zv 73 (.ext (.t 67) 1), zm 14 72, zm 15 73]
def qwm : IC := zr [zm 74 13, zm 75 15, zv 76 (.bin .eql .no (.t 74) (.t 75)), zm 77 76, zw 77 true 78 (.mov (.t 12)), zw 77 true 79 (.bin .eql .ptr (.t 78) (.c .nilp)), zw 77 true 80 (.mov (.t 15)), zw 77 true 81 (.bin .neq .no (.t 80) (zc 0)), zw 77 true 82 (.bin .eql .bool (.t 79) (.t 81)), zv 83 (.pick (.t 77) (.t 82) (.c (.bool false))), zm 84 83, zw 84 true 85 (.mov (.t 12)), ⟨some (84, true), some 86, .call (.c (.fn 41 [] [])) [((.t 85), .id)]⟩, zw 84 true 87 (.mov (.t 14)), ⟨some (84, true), some 88, .call (.c (.fn 40 [] [])) [((.t 86), (.sl 4)), ((.t 87), (.sl 4))]⟩, zv 89 (.pick (.t 84) (.t 88) (.c (.bool false))), zm 90 89, zw 90 true 91 (.mov (.t 7)), ⟨some (90, true), some 92, .call (.c (.fn 41 [] [])) [((.t 91), .id)]⟩, zw 90 true 93 (.mov (.t 9)), ⟨some (90, true), some 94, .call (.c (.fn 40 [] [])) [((.t 92), (.sl 4)), ((.t 93), (.sl 4))]⟩, zv 95 (.pick (.t 90) (.t 94) (.c (.bool false))), zm 96 95, ⟨some (96, true), some 97, .call (.c (.fn 32 [] [])) []⟩, zv 98 (.pick (.t 96) (.t 97) (.c (.bool false))), zm 6 98]
def k0bc : IC := (.seq q80 (.seq (.seq q99 (.cond (.t 29) (.seq q55 .ret) .skip)) (.seq qba9 (.seq qbbv (.seq q5u (.seq (.seq q2x (.cond (.t 59) (.seq qbaa .ret) .skip)) (.seq q03 (.seq q8b (.seq qwm .ret)))))))))
@[go_sem] def s0bc : List (RV × Co) := [(.t 6, .id)]
theorem c0bc : cFun Try.prog 7 = some (99, k0bc, s0bc) := by kernel_rfl

def q3c : IC := zr [zv 2 (.mov (zc 0))]
def q7b : IC := zr [zm 5 0, zv 6 (.len false (.t 5)), zv 7 (.bin .gtr .no (.t 6) (zc 30))]
def q3h : IC := zr [zv 2 (.mov (zc 0))]
def q20 : IC := zr [zv 3 (.mov (.c .nils))]
def qba5 : IC := zr [zv 4 (.mov (zc 0))]
def q6l : IC := zr [zm 8 4, zm 9 0, zv 10 (.len false (.t 9)), zv 11 (.bin .lss .no (.t 8) (.t 10))]
def qbam : IC := zr [zm 14 3, zm 15 0, zm 16 4, zv 17 (.iad 4 (.t 15) (.t 16)), zv 18 (.fad (.t 17) 1), zv 19 (.ld true 3 (.t 18)), zv 20 (.bsl 3 [((.t 19), (.agg [.id, .id, (.sl 3)]))]), zi 21 (.app 3 (.agg [(.str []), (.int .i64 0), .nils]) 48 (.sl 3) (.t 14) (.t 20)), zm 3 21]
def q6y : IC := zr [zm 12 4, zv 13 (.bin .add .no (.t 12) (zc 1)), zm 4 13]
def q37 : IC := (.seq (.seq q6l (.cond (.t 11) .skip (.exit 0))) (.seq (.block 1 qbam) q6y))
def qyk : IC := zr [zm 22 3, zi 23 (.call (.c (.fn 31 [] [])) [((.t 22), (.sl 3))]), zm 2 23]
def k0be : IC := (.seq q3c (.seq (.seq q7b (.cond (.t 7) (.seq q3h .ret) .skip)) (.seq q20 (.seq (.seq qba5 (.block 0 (.loop q37))) (.seq qyk .ret)))))
@[go_sem] def s0be : List (RV × Co) := [(.t 2, .id)]
theorem c0be : cFun Try.prog 30 = some (24, k0be, s0be) := by kernel_rfl

def q96 : IC := zr [zv 2 (.mov (zc 0))]
def qba2 : IC := zr [zv 3 (.mov (zc 20000))]
def q0h : IC := zr [zv 4 (.mov (zc 0))]
def q8m : IC := zr [zm 5 4, zm 6 0, zv 7 (.len false (.t 6)), zv 8 (.bin .lss .no (.t 5) (.t 7))]
def q6i : IC := zr [zm 11 0, zm 12 4, zv 13 (.iad 3 (.t 11) (.t 12)), zv 14 (.ld true 3 (.t 13)), zm 15 3, zi 16 (.call (.c (.fn 77 [] [])) [((.t 14), (.agg [.id, .id, (.sl 3)])), ((.t 15), .id), ((zc 300), .id)]), zm 3 16]
def q1d : IC := zr [zm 9 4, zv 10 (.bin .add .no (.t 9) (zc 1)), zm 4 10]
def q76 : IC := (.seq (.seq q8m (.cond (.t 8) .skip (.exit 0))) (.seq (.block 1 q6i) q1d))
def q6s : IC := zr [zm 17 3, zv 18 (.bin .lss .no (.t 17) (zc 0))]
def q15 : IC := zr [zv 2 (.mov (zc 0))]
def qx7 : IC := zr [zv 2 (.mov (zc 1))]
def k0cg : IC := (.seq q96 (.seq qba2 (.seq (.seq q0h (.block 0 (.loop q76))) (.seq (.seq q6s (.cond (.t 18) (.seq q15 .ret) .skip)) (.seq qx7 .ret)))))
@[go_sem] def s0cg : List (RV × Co) := [(.t 2, .id)]
theorem c0cg : cFun Try.prog 31 = some (19, k0cg, s0cg) := by kernel_rfl

def q6z : IC := zr [zv 0 zf]
def qbbw : IC := zr [zv 11 (.bld [(.str []), (.int .i64 0), .nils] [(0, 1, (.c (.str [84])))]), zi 1 (.alo [(.str []), (.int .i64 0), .nils]), zn (.st 3 (.agg [.id, .id, (.sl 3)]) (.t 1) (.t 11))]
def q70 : IC := zr [zv 12 (.ld true 3 (.t 1)), zv 13 (.bld [(.int .i64 0), (.str []), (.int .i64 0), .nils] [(1, 3, (.t 12))]), zv 14 (.bld [(.str []), (.int .i64 0), .nils] [(0, 1, (.c (.str [85])))]), zv 15 (.bld [(.int .i64 0), (.str []), (.int .i64 0), .nils] [(1, 3, (.t 14))]), zv 16 (.bsl 4 [((.t 13), (.agg [.id, .id, .id, (.sl 3)])), ((.t 15), (.agg [.id, .id, .id, (.sl 3)]))]), zi 17 (.call (.c (.fn 33 [] [])) [((.t 16), (.sl 4))]), zm 2 17]
def q8w : IC := zr [zm 18 2, zv 19 (.bin .eql .ptr (.t 18) (.c .nilp))]
def q2v : IC := zr [zv 0 zf]
def q7r : IC := zr [zm 21 2, zv 22 (.bld [(.str []), (.int .i64 0), .nils] []), zv 23 (.bld [(.str []), (.int .i64 0), .nils] [(1, 1, (zc 1))]), zv 24 (.bsl 3 [((.t 22), (.agg [.id, .id, (.sl 3)])), ((.t 23), (.agg [.id, .id, (.sl 3)]))]), zv 25 (.bld [(.str []), (.int .i64 0), .nils] [(0, 1, (.c (.str [45, 62]))), (2, 1, (.t 24))]), zi 26 (.call (.c (.fn 35 [] [])) [((.t 21), .id), ((.t 25), (.agg [.id, .id, (.sl 3)]))]), zm 20 26, zv 27 (.ext (.t 20) 0), zv 28 (.ext (.t 20) 1), zi 3 (.alo [(.str []), (.int .i64 0), .nils]), zn (.st 3 (.agg [.id, .id, (.sl 3)]) (.t 3) (.t 27)), zm 4 28]
def q12 : IC := zr [zm 29 2, zv 30 (.ld true 3 (.t 1)), zi 31 (.call (.c (.fn 45 [] [])) [((.t 29), .id), ((zc 0), .id), ((.t 30), (.agg [.id, .id, (.sl 3)]))]), zm 32 2, zv 33 (.bld [(.str []), (.int .i64 0), .nils] []), zi 34 (.call (.c (.fn 45 [] [])) [((.t 32), .id), ((zc 1), .id), ((.t 33), (.agg [.id, .id, (.sl 3)]))]), zm 5 31, zm 6 34]
def q8q : IC := zr [zm 36 2, zv 37 (.bld [(.str []), (.int .i64 0), .nils] [(0, 1, (.c (.str [86])))]), zv 38 (.bld [(.int .i64 0), (.str []), (.int .i64 0), .nils] [(1, 3, (.t 37))]), zv 39 (.bsl 4 [((.t 38), (.agg [.id, .id, .id, (.sl 3)]))]), zi 40 (.call (.c (.fn 33 [] [])) [((.t 39), (.sl 4))]), zi 41 (.call (.c (.fn 46 [] [])) [((.t 36), .id), ((.t 40), .id)]), zm 35 41, zv 42 (.ext (.t 35) 0), zv 43 (.ext (.t 35) 1), zm 7 42, zm 8 43]
def q2f : IC := zr [zm 45 7, zi 46 (.call (.c (.fn 37 [] [])) [((.t 45), .id), ((zc 1), .id)]), zm 44 46, zv 47 (.ext (.t 44) 0), zv 48 (.ext (.t 44) 1), zi 9 (.alo [(.str []), (.int .i64 0), .nils]), zn (.st 3 (.agg [.id, .id, (.sl 3)]) (.t 9) (.t 47)), zm 10 48]
def q3t : IC := zr [zv 49 (.ld true 3 (.t 3)), zi 50 (.call (.c (.fn 75 [] [])) [((.t 49), (.agg [.id, .id, (.sl 3)]))]), zv 51 (.bin .eql .no (.t 50) (.c (.str [84, 32, 45, 62, 32, 98]))), zm 52 51, zw 52 true 53 (.mov (.t 4)), zw 52 true 54 (.bin .eql .no (.t 53) (zc 0)), zv 55 (.pick (.t 52) (.t 54) (.c (.bool false))), zm 56 55, zw 56 true 57 (.mov (.t 5)), zw 56 true 58 (.bin .eql .no (.t 57) (zc 6)), zv 59 (.pick (.t 56) (.t 58) (.c (.bool false))), zm 60 59, zw 60 true 61 (.mov (.t 6)), zw 60 true 62 (.bin .eql .no (.t 61) (zc 0)), zv 63 (.pick (.t 60) (.t 62) (.c (.bool false))), zm 64 63, zw 64 true 65 (.mov (.t 8)), zw 64 true 66 (.bin .eql .no (.t 65) (zc 0)), zv 67 (.pick (.t 64) (.t 66) (.c (.bool false))), zm 68 67, zw 68 true 69 (.fad (.t 9) 0), zw 68 true 70 (.ld false 1 (.t 69)), zw 68 true 71 (.bin .eql .no (.t 70) (.c (.str [86]))), zv 72 (.pick (.t 68) (.t 71) (.c (.bool false))), zm 73 72, zw 73 true 74 (.mov (.t 10)), zv 75 (.pick (.t 73) (.t 74) (.c (.bool false))), zm 76 75, zw 76 true 77 (.mov (.t 2)), ⟨some (76, true), some 78, .call (.c (.fn 41 [] [])) [((.t 77), .id)]⟩, zw 76 true 79 (.len false (.t 78)), zw 76 true 80 (.bin .eql .no (.t 79) (zc 2)), zv 81 (.pick (.t 76) (.t 80) (.c (.bool false))), zm 82 81, zw 82 true 83 (.mov (.t 2)), zw 82 true 84 (.bsl 1 [((zc 1), .id)]), ⟨some (82, true), some 85, .call (.c (.fn 42 [] [])) [((.t 83), .id), ((.t 84), (.sl 1))]⟩, ⟨some (82, true), some 86, .call (.c (.fn 41 [] [])) [((.t 85), .id)]⟩, zw 82 true 87 (.len false (.t 86)), zw 82 true 88 (.bin .eql .no (.t 87) (zc 1)), zv 89 (.pick (.t 82) (.t 88) (.c (.bool false))), zm 0 89]
def k0bd : IC := (.seq q6z (.seq qbbw (.seq q70 (.seq (.seq q8w (.cond (.t 19) (.seq q2v .ret) .skip)) (.seq q7r (.seq q12 (.seq q8q (.seq q2f (.seq q3t .ret)))))))))
@[go_sem] def s0bd : List (RV × Co) := [(.t 0, .id)]
theorem c0bd : cFun Try.prog 32 = some (90, k0bd, s0bd) := by kernel_rfl

def q06 : IC := zr [zv 2 (.mov (.c .nilp))]
def q5m : IC := zr [zv 6 (.bld [.nils] []), zi 7 (.box (.t 6)), zm 3 7]
def q8f : IC := zr [zm 8 0, zv 9 (.len false (.t 8)), zv 10 (.mov (zc 0))]
def q4p : IC := zr [zv 11 (.bin .lss .no (.t 10) (.t 9))]
def q4o : IC := zr [zv 12 (.iad 4 (.t 8) (.t 10)), zv 13 (.ld true 4 (.t 12)), zi 5 (.alo [(.int .i64 0), (.str []), (.int .i64 0), .nils]), zn (.st 4 (.agg [.id, .id, .id, (.sl 3)]) (.t 5) (.t 13))]
def q60 : IC := zr [zm 14 3, zv 15 (.fad (.t 5) 0), zv 16 (.ld false 1 (.t 15)), zv 17 (.fad (.t 5) 1), zv 18 (.ld true 3 (.t 17)), zi 19 (.call (.c (.fn 45 [] [])) [((.t 14), .id), ((.t 16), .id), ((.t 18), (.agg [.id, .id, (.sl 3)]))])]
def q0m : IC := zr [zv 20 (.bin .add .no (.t 10) (zc 1)), zm 10 20]
def q3z : IC := (.seq q4p (.seq (.cond (.t 11) .skip (.exit 0)) (.seq (.block 1 (.seq q4o q60)) q0m)))
def q9g : IC := zr [zm 21 3, zm 2 21]
def k0bi : IC := (.seq q06 (.seq q5m (.seq (.seq q8f (.block 0 (.loop q3z))) (.seq q9g .ret))))
@[go_sem] def s0bi : List (RV × Co) := [(.t 2, .id)]
theorem c0bi : cFun Try.prog 33 = some (22, k0bi, s0bi) := by kernel_rfl

def q4v : IC := zr [zv 2 (.mov (.c .nils))]
def q5e : IC := zr [zv 3 (.mov (.c .nils))]
def q93 : IC := zr [zv 4 (.mov (zc 0))]
def q2z : IC := zr [zm 7 4, zm 8 0, zv 9 (.len false (.t 8)), zv 10 (.bin .lss .no (.t 7) (.t 9))]
def q0x : IC := .drw [zp (zm 14 3), zp (zm 15 0), zp (zm 16 4), zp (zv 17 (.iad 4 (.t 15) (.t 16))), zp (zv 18 (.fad (.t 17) 0)), zp (zv 19 (.ld false 1 (.t 18))), zp (zm 20 0), zp (zm 21 4), zp (zv 22 (.iad 4 (.t 20) (.t 21))), zp (zv 23 (.fad (.t 22) 1)), zp (zv 24 (.ld true 3 (.t 23))), (zi 25 (.call (.c (.fn 44 [] [])) [((.t 14), (.sl 4)), ((.t 19), .id), ((.t 24), (.agg [.id, .id, (.sl 3)]))]), []), zp (zm 13 25), zp (zv 26 (.ext (.t 13) 0)), zp (zv 27 (.ext (.t 13) 1)), zp (zm 5 26), zp (zm 6 27)]
def q8i : IC := zr [zm 28 5, zm 3 28]
def q2j : IC := zr [zm 11 4, zv 12 (.bin .add .no (.t 11) (zc 1)), zm 4 12]
def q2a : IC := (.seq (.seq q2z (.cond (.t 10) .skip (.exit 0))) (.seq (.block 1 (.seq q0x q8i)) q2j))
def q3s : IC := zr [zm 29 3, zm 2 29]
def k0cl : IC := (.seq q4v (.seq q5e (.seq (.seq q93 (.block 0 (.loop q2a))) (.seq q3s .ret))))
@[go_sem] def s0cl : List (RV × Co) := [(.t 2, (.sl 4))]
theorem c0cl : cFun Try.prog 34 = some (30, k0cl, s0cl) := by kernel_rfl

def q84 : IC := zr [zi 3 (.box (.t 1)), zi 4 (.alo [(.str []), (.int .i64 0), .nils]), zv 5 (.mov (zc 0))]
def q5f : IC := zr [zv 8 (.ld true 3 (.t 3)), zi 9 (.call (.c (.fn 48 [] [])) [((.t 8), (.agg [.id, .id, (.sl 3)]))]), zv 10 (.un .not (.t 9))]
def qbah : IC := zr [zv 11 (.bld [(.str []), (.int .i64 0), .nils] []), zn (.st 3 (.agg [.id, .id, (.sl 3)]) (.t 4) (.t 11)), zv 5 (.mov (zc 1))]
def q19 : IC := zr [zm 12 0, zv 13 (.bld [.nilp, (.int .i64 0)] [(0, 1, (.t 12)), (1, 1, (zc 4096))]), zi 14 (.box (.t 13)), zm 6 14]
def q4z : IC := zr [zm 15 6, zv 16 (.ld true 3 (.t 3)), zi 17 (.call (.c (.fn 78 [] [])) [((.t 15), .id), ((.t 16), (.agg [.id, .id, (.sl 3)])), ((zc 1), .id)]), zi 7 (.alo [(.str []), (.int .i64 0), .nils]), zn (.st 3 (.agg [.id, .id, (.sl 3)]) (.t 7) (.t 17))]
def q9i : IC := zr [zm 18 6, zv 19 (.nck (.t 18)), zv 20 (.fad (.t 19) 1), zv 21 (.ld false 1 (.t 20)), zv 22 (.bin .lss .no (.t 21) (zc 0))]
def qbak : IC := zr [zv 23 (.bld [(.str []), (.int .i64 0), .nils] []), zn (.st 3 (.agg [.id, .id, (.sl 3)]) (.t 4) (.t 23)), zv 5 (.mov (zc 2))]
def q58 : IC := zr [zv 24 (.ld true 3 (.t 7)), zn (.st 3 (.agg [.id, .id, (.sl 3)]) (.t 4) (.t 24)), zv 5 (.mov (zc 0))]
def k0bh : IC := (.seq q84 (.seq (.seq q5f (.cond (.t 10) (.seq qbah .ret) .skip)) (.seq q19 (.seq q4z (.seq (.seq q9i (.cond (.t 22) (.seq qbak .ret) .skip)) (.seq q58 .ret))))))
@[go_sem] def s0bh : List (RV × Co) := [(.c true 3 4, (.agg [.id, .id, (.sl 3)])), (.t 5, .id)]
theorem c0bh : cFun Try.prog 35 = some (25, k0bh, s0bh) := by kernel_rfl

def qbbh : IC := zr [zi 3 (.box (.t 1)), zi 4 (.alo [(.str []), (.int .i64 0), .nils]), zv 5 (.mov (zc 0))]
def q2d : IC := zr [zv 7 (.ld true 3 (.t 3)), zi 8 (.call (.c (.fn 79 [] [])) [((.t 7), (.agg [.id, .id, (.sl 3)]))]), zv 9 (.un .not (.t 8))]
def q5n : IC := zr [zv 10 (.bld [(.str []), (.int .i64 0), .nils] []), zn (.st 3 (.agg [.id, .id, (.sl 3)]) (.t 4) (.t 10)), zv 5 (.mov (zc 1))]
def q0t : IC := zr [zm 11 0, zv 12 (.ld true 3 (.t 3)), zi 13 (.call (.c (.fn 80 [] [])) [((.t 11), (.sl 4)), ((.t 12), (.agg [.id, .id, (.sl 3)]))]), zv 14 (.bin .gtr .no (.t 13) (zc 4096))]
def q2i : IC := zr [zv 15 (.bld [(.str []), (.int .i64 0), .nils] []), zn (.st 3 (.agg [.id, .id, (.sl 3)]) (.t 4) (.t 15)), zv 5 (.mov (zc 2))]
def q1o : IC := zr [zm 16 0, zv 17 (.ld true 3 (.t 3)), zi 18 (.call (.c (.fn 81 [] [])) [((.t 16), (.sl 4)), ((.t 17), (.agg [.id, .id, (.sl 3)]))]), zi 6 (.alo [(.str []), (.int .i64 0), .nils]), zn (.st 3 (.agg [.id, .id, (.sl 3)]) (.t 6) (.t 18))]
def q0s : IC := zr [zv 19 (.ld true 3 (.t 6)), zi 20 (.call (.c (.fn 79 [] [])) [((.t 19), (.agg [.id, .id, (.sl 3)]))]), zv 21 (.un .not (.t 20))]
def q07 : IC := zr [zv 22 (.bld [(.str []), (.int .i64 0), .nils] []), zn (.st 3 (.agg [.id, .id, (.sl 3)]) (.t 4) (.t 22)), zv 5 (.mov (zc 2))]
def q1g : IC := zr [zv 23 (.ld true 3 (.t 6)), zn (.st 3 (.agg [.id, .id, (.sl 3)]) (.t 4) (.t 23)), zv 5 (.mov (zc 0))]
def k0cj : IC := (.seq qbbh (.seq (.seq q2d (.cond (.t 9) (.seq q5n .ret) .skip)) (.seq (.seq q0t (.cond (.t 14) (.seq q2i .ret) .skip)) (.seq q1o (.seq (.seq q0s (.cond (.t 21) (.seq q07 .ret) .skip)) (.seq q1g .ret))))))
@[go_sem] def s0cj : List (RV × Co) := [(.c true 3 4, (.agg [.id, .id, (.sl 3)])), (.t 5, .id)]
theorem c0cj : cFun Try.prog 36 = some (24, k0cj, s0cj) := by kernel_rfl

def q7a : IC := zr [zi 4 (.alo [(.str []), (.int .i64 0), .nils]), zv 5 zf]
def q9s : IC := zr [zm 8 0, zv 9 (.bin .eql .ptr (.t 8) (.c .nilp))]
def q7c : IC := zr [zv 10 (.bld [(.str []), (.int .i64 0), .nils] []), zn (.st 3 (.agg [.id, .id, (.sl 3)]) (.t 4) (.t 10)), zv 5 zf]
def q0l : IC := zr [zm 12 0, zm 13 1, zi 14 (.call (.c (.fn 82 [] [])) [((.t 12), .id), ((.t 13), .id)]), zm 11 14, zv 15 (.ext (.t 11) 0), zv 16 (.ext (.t 11) 1), zm 6 15, zm 7 16]
def q77 : IC := zr [zm 17 7, zv 18 (.un .not (.t 17))]
def q3u : IC := zr [zv 19 (.bld [(.str []), (.int .i64 0), .nils] []), zn (.st 3 (.agg [.id, .id, (.sl 3)]) (.t 4) (.t 19)), zv 5 zf]
def qbbx : IC := zr [zm 20 0, zv 21 (.nck (.t 20)), zv 22 (.fad (.t 21) 0), zv 23 (.ld false 1 (.t 22)), zm 24 6, zv 25 (.iad 4 (.t 23) (.t 24)), zv 26 (.fad (.t 25) 1), zv 27 (.ld true 3 (.t 26)), zn (.st 3 (.agg [.id, .id, (.sl 3)]) (.t 4) (.t 27)), zv 5 (.mov (.c (.bool true)))]
def k0bl : IC := (.seq q7a (.seq (.seq q9s (.cond (.t 9) (.seq q7c .ret) .skip)) (.seq q0l (.seq (.seq q77 (.cond (.t 18) (.seq q3u .ret) .skip)) (.seq qbbx .ret)))))
@[go_sem] def s0bl : List (RV × Co) := [(.c true 3 4, (.agg [.id, .id, (.sl 3)])), (.t 5, .id)]
theorem c0bl : cFun Try.prog 37 = some (28, k0bl, s0bl) := by kernel_rfl

def qbbj : IC := zr [zi 4 (.alo [(.str []), (.int .i64 0), .nils]), zv 5 zf]
def q3i : IC := zr [zv 6 (.mov (zc 0))]
def q43 : IC := zr [zm 7 6, zm 8 0, zv 9 (.len false (.t 8)), zv 10 (.bin .lss .no (.t 7) (.t 9))]
def q4s : IC := zr [zm 13 0, zm 14 6, zv 15 (.iad 4 (.t 13) (.t 14)), zv 16 (.fad (.t 15) 0), zv 17 (.ld false 1 (.t 16)), zm 18 1, zv 19 (.bin .eql .no (.t 17) (.t 18))]
def q1b : IC := zr [zm 20 0, zm 21 6, zv 22 (.iad 4 (.t 20) (.t 21)), zv 23 (.fad (.t 22) 1), zv 24 (.ld true 3 (.t 23)), zn (.st 3 (.agg [.id, .id, (.sl 3)]) (.t 4) (.t 24)), zv 5 (.mov (.c (.bool true)))]
def q3p : IC := zr [zm 11 6, zv 12 (.bin .add .no (.t 11) (zc 1)), zm 6 12]
def qbbz : IC := (.seq (.seq q43 (.cond (.t 10) .skip (.exit 0))) (.seq (.block 1 (.seq q4s (.cond (.t 19) (.seq q1b .ret) .skip))) q3p))
def q0j : IC := zr [zv 25 (.bld [(.str []), (.int .i64 0), .nils] []), zn (.st 3 (.agg [.id, .id, (.sl 3)]) (.t 4) (.t 25)), zv 5 zf]
def k0bq : IC := (.seq qbbj (.seq (.seq q3i (.block 0 (.loop qbbz))) (.seq q0j .ret)))
@[go_sem] def s0bq : List (RV × Co) := [(.c true 3 4, (.agg [.id, .id, (.sl 3)])), (.t 5, .id)]
theorem c0bq : cFun Try.prog 38 = some (26, k0bq, s0bq) := by kernel_rfl

def qbcp : IC := zr [zi 2 (.box (.t 0)), zi 3 (.box (.t 1)), zv 4 zf]
def qber : IC := zr [zv 6 (.fad (.t 2) 0), zv 7 (.ld false 1 (.t 6)), zv 8 (.fad (.t 3) 0), zv 9 (.ld false 1 (.t 8)), zv 10 (.bin .neq .no (.t 7) (.t 9)), zm 11 10, zw 11 false 12 (.fad (.t 2) 1), zw 11 false 13 (.ld false 1 (.t 12)), zw 11 false 14 (.fad (.t 3) 1), zw 11 false 15 (.ld false 1 (.t 14)), zw 11 false 16 (.bin .neq .no (.t 13) (.t 15)), zv 17 (.pick (.t 11) (.c (.bool true)) (.t 16)), zm 18 17, zw 18 false 19 (.fad (.t 2) 2), zw 18 false 20 (.ld false 1 (.t 19)), zw 18 false 21 (.len false (.t 20)), zw 18 false 22 (.fad (.t 3) 2), zw 18 false 23 (.ld false 1 (.t 22)), zw 18 false 24 (.len false (.t 23)), zw 18 false 25 (.bin .neq .no (.t 21) (.t 24)), zv 26 (.pick (.t 18) (.c (.bool true)) (.t 25))]
def qbf1 : IC := zr [zv 4 zf]
def qbgq : IC := zr [zv 5 (.mov (zc 0))]
def qbfy : IC := zr [zm 27 5, zv 28 (.fad (.t 2) 2), zv 29 (.ld false 1 (.t 28)), zv 30 (.len false (.t 29)), zv 31 (.bin .lss .no (.t 27) (.t 30))]
def qbey : IC := .drw [zp (zv 34 (.fad (.t 2) 2)), zp (zv 35 (.ld false 1 (.t 34))), zp (zm 36 5), zp (zv 37 (.iad 3 (.t 35) (.t 36))), zp (zv 38 (.ld true 3 (.t 37))), zp (zv 39 (.fad (.t 3) 2)), zp (zv 40 (.ld false 1 (.t 39))), zp (zm 41 5), zp (zv 42 (.iad 3 (.t 40) (.t 41))), zp (zv 43 (.ld true 3 (.t 42))), (zi 44 (.call (.c (.fn 39 [] [])) [((.t 38), (.agg [.id, .id, (.sl 3)])), ((.t 43), (.agg [.id, .id, (.sl 3)]))]), []), zp (zv 45 (.un .not (.t 44)))]
def qbir : IC := zr [zv 4 zf]
def qbdo : IC := zr [zm 32 5, zv 33 (.bin .add .no (.t 32) (zc 1)), zm 5 33]
def qbc1 : IC := (.seq (.seq qbfy (.cond (.t 31) .skip (.exit 0))) (.seq (.block 1 (.seq qbey (.cond (.t 45) (.seq qbir .ret) .skip))) qbdo))
def q6u : IC := zr [zv 4 (.mov (.c (.bool true)))]
def k0e : IC := (.seq qbcp (.seq (.seq qber (.cond (.t 26) (.seq qbf1 .ret) .skip)) (.seq (.seq qbgq (.block 0 (.loop qbc1))) (.seq q6u .ret))))
@[go_sem] def s0e : List (RV × Co) := [(.t 4, .id)]
theorem c0e : cFun Try.prog 39 = some (46, k0e, s0e) := by kernel_rfl

def q6h : IC := zr [zv 4 zf]
def q6k : IC := zr [zm 6 0, zv 7 (.len false (.t 6)), zm 8 1, zv 9 (.len false (.t 8)), zv 10 (.bin .neq .no (.t 7) (.t 9))]
def q3f : IC := zr [zv 4 zf]
def q7y : IC := zr [zv 5 (.mov (zc 0))]
def qbbk : IC := zr [zm 11 5, zm 12 0, zv 13 (.len false (.t 12)), zv 14 (.bin .lss .no (.t 11) (.t 13))]
def qbbb : IC := .drw [zp (zm 17 0), zp (zm 18 5), zp (zv 19 (.iad 4 (.t 17) (.t 18))), zp (zv 20 (.fad (.t 19) 0)), zp (zv 21 (.ld false 1 (.t 20))), zp (zm 22 1), zp (zm 23 5), zp (zv 24 (.iad 4 (.t 22) (.t 23))), zp (zv 25 (.fad (.t 24) 0)), zp (zv 26 (.ld false 1 (.t 25))), zp (zv 27 (.bin .neq .no (.t 21) (.t 26))), zp (zm 28 27), zp (zw 28 false 29 (.mov (.t 0))), zp (zw 28 false 30 (.mov (.t 5))), zp (zw 28 false 31 (.iad 4 (.t 29) (.t 30))), zp (zw 28 false 32 (.fad (.t 31) 1)), zp (zw 28 false 33 (.ld true 3 (.t 32))), zp (zw 28 false 34 (.mov (.t 1))), zp (zw 28 false 35 (.mov (.t 5))), zp (zw 28 false 36 (.iad 4 (.t 34) (.t 35))), zp (zw 28 false 37 (.fad (.t 36) 1)), zp (zw 28 false 38 (.ld true 3 (.t 37))), (⟨some (28, false), some 39, .call (.c (.fn 39 [] [])) [((.t 33), (.agg [.id, .id, (.sl 3)])), ((.t 38), (.agg [.id, .id, (.sl 3)]))]⟩, []), zp (zw 28 false 40 (.un .not (.t 39))), zp (zv 41 (.pick (.t 28) (.c (.bool true)) (.t 40)))]
def q8g : IC := zr [zv 4 zf]
def q34 : IC := zr [zm 15 5, zv 16 (.bin .add .no (.t 15) (zc 1)), zm 5 16]
def q91 : IC := (.seq (.seq qbbk (.cond (.t 14) .skip (.exit 0))) (.seq (.block 1 (.seq qbbb (.cond (.t 41) (.seq q8g .ret) .skip))) q34))
def qyx : IC := zr [zv 4 (.mov (.c (.bool true)))]
def k0ck : IC := (.seq q6h (.seq (.seq q6k (.cond (.t 10) (.seq q3f .ret) .skip)) (.seq (.seq q7y (.block 0 (.loop q91))) (.seq qyx .ret))))
@[go_sem] def s0ck : List (RV × Co) := [(.t 4, .id)]
theorem c0ck : cFun Try.prog 40 = some (42, k0ck, s0ck) := by kernel_rfl

def q1m : IC := zr [zv 2 (.mov (.c .nils))]
def qbao : IC := zr [zm 6 0, zv 7 (.bin .eql .ptr (.t 6) (.c .nilp))]
def q0i : IC := zr [zv 2 (.mov (.c .nils))]
def q7m : IC := zr [zm 8 0, zv 9 (.nck (.t 8)), zv 10 (.fad (.t 9) 0), zv 11 (.ld false 1 (.t 10)), zv 12 (.len false (.t 11)), zi 13 (.mks 4 (.agg [(.int .i64 0), (.str []), (.int .i64 0), .nils]) 56 (.t 12) (.t 12)), zm 3 13]
def q2p : IC := zr [zm 14 0, zv 15 (.nck (.t 14)), zv 16 (.fad (.t 15) 0), zv 17 (.ld false 1 (.t 16)), zv 18 (.len false (.t 17)), zv 19 (.mov (zc 0))]
def q8t : IC := zr [zv 20 (.bin .lss .no (.t 19) (.t 18))]
def q5d : IC := zr [zm 21 19, zv 22 (.iad 4 (.t 17) (.t 19)), zv 23 (.ld true 4 (.t 22)), zi 5 (.alo [(.int .i64 0), (.str []), (.int .i64 0), .nils]), zm 4 21, zn (.st 4 (.agg [.id, .id, .id, (.sl 3)]) (.t 5) (.t 23))]
def q0k : IC := .drw [zp (zm 24 3), zp (zm 25 4), zp (zv 26 (.fad (.t 5) 0)), zp (zv 27 (.ld false 1 (.t 26))), zp (zv 28 (.fad (.t 5) 1)), zp (zv 29 (.ld true 3 (.t 28))), (zi 30 (.call (.c (.fn 83 [] [])) [((.t 29), (.agg [.id, .id, (.sl 3)]))]), [3]), (zv 31 (.bld [(.int .i64 0), (.str []), (.int .i64 0), .nils] [(0, 1, (.t 27)), (1, 3, (.t 30))]), []), zp (zv 32 (.iad 4 (.t 24) (.t 25))), (zn (.st 4 (.agg [.id, .id, .id, (.sl 3)]) (.t 32) (.t 31)), [])]
def q17 : IC := zr [zv 33 (.bin .add .no (.t 19) (zc 1)), zm 19 33]
def q9y : IC := (.seq q8t (.seq (.cond (.t 20) .skip (.exit 0)) (.seq (.block 1 (.seq q5d q0k)) q17)))
def qwk : IC := zr [zm 34 3, zm 2 34]
def k0bb : IC := (.seq q1m (.seq (.seq qbao (.cond (.t 7) (.seq q0i .ret) .skip)) (.seq q7m (.seq (.seq q2p (.block 0 (.loop q9y))) (.seq qwk .ret)))))
@[go_sem] def s0bb : List (RV × Co) := [(.t 2, (.sl 4))]
theorem c0bb : cFun Try.prog 41 = some (35, k0bb, s0bb) := by kernel_rfl

def q56 : IC := zr [zv 4 (.mov (.c .nilp))]
def q3m : IC := zr [zi 8 (.call (.c (.fn 33 [] [])) [((.c .nils), (.sl 4))]), zm 5 8]
def q09 : IC := zr [zm 9 0, zi 10 (.call (.c (.fn 41 [] [])) [((.t 9), .id)]), zv 11 (.len false (.t 10)), zv 12 (.mov (zc 0))]
def q52 : IC := zr [zv 13 (.bin .lss .no (.t 12) (.t 11))]
def q6p : IC := zr [zv 14 (.iad 4 (.t 10) (.t 12)), zv 15 (.ld true 4 (.t 14)), zi 7 (.alo [(.int .i64 0), (.str []), (.int .i64 0), .nils]), zn (.st 4 (.agg [.id, .id, .id, (.sl 3)]) (.t 7) (.t 15))]
def q5j : IC := zr [zm 16 1, zv 17 (.fad (.t 7) 0), zv 18 (.ld false 1 (.t 17)), zi 19 (.call (.c (.fn 66 [] [])) [((.t 16), (.sl 1)), ((.t 18), .id)])]
def q5x : IC := zr [zm 20 5, zv 21 (.fad (.t 7) 0), zv 22 (.ld false 1 (.t 21)), zv 23 (.fad (.t 7) 1), zv 24 (.ld true 3 (.t 23)), zi 25 (.call (.c (.fn 45 [] [])) [((.t 20), .id), ((.t 22), .id), ((.t 24), (.agg [.id, .id, (.sl 3)]))])]
def q61 : IC := zr [zv 26 (.bin .add .no (.t 12) (zc 1)), zm 12 26]
def q4c : IC := (.seq q52 (.seq (.cond (.t 13) .skip (.exit 0)) (.seq (.block 1 (.seq q6p (.seq q5j (.cond (.t 19) q5x .skip)))) q61)))
def qvl : IC := zr [zm 27 5, zm 4 27]
def k0bg : IC := (.seq q56 (.seq q3m (.seq (.seq q09 (.block 0 (.loop q4c))) (.seq qvl .ret))))
@[go_sem] def s0bg : List (RV × Co) := [(.t 4, .id)]
theorem c0bg : cFun Try.prog 42 = some (28, k0bg, s0bg) := by kernel_rfl

def q9o : IC := zr [zi 5 (.box (.t 2)), zv 6 (.mov (.c .nils)), zv 7 (.mov (zc 0))]
def q9a : IC := zr [zv 11 (.ld true 3 (.t 5)), zi 12 (.call (.c (.fn 79 [] [])) [((.t 11), (.agg [.id, .id, (.sl 3)]))]), zv 13 (.un .not (.t 12))]
def q13 : IC := zr [zm 14 0, zm 6 14, zv 7 (.mov (zc 1))]
def q5z : IC := zr [zm 16 0, zm 17 1, zi 18 (.call (.c (.fn 38 [] [])) [((.t 16), (.sl 4)), ((.t 17), .id)]), zm 15 18, zv 19 (.ext (.t 15) 0), zv 20 (.ext (.t 15) 1), zi 8 (.alo [(.str []), (.int .i64 0), .nils]), zn (.st 3 (.agg [.id, .id, (.sl 3)]) (.t 8) (.t 19)), zm 9 20]
def q4a : IC := zr [zm 21 9]
def q6w : IC := zr [zm 22 0, zm 6 22, zv 7 (.mov (zc 6))]
def q1r : IC := zr [zv 10 (.mov (zc 0))]
def q1f : IC := zr [zm 23 10, zm 24 0, zv 25 (.len false (.t 24)), zv 26 (.bin .lss .no (.t 23) (.t 25)), zm 27 26, zw 27 true 28 (.mov (.t 0)), zw 27 true 29 (.mov (.t 10)), zw 27 true 30 (.iad 4 (.t 28) (.t 29)), zw 27 true 31 (.fad (.t 30) 0), zw 27 true 32 (.ld false 1 (.t 31)), zw 27 true 33 (.mov (.t 1)), zw 27 true 34 (.bin .lss .no (.t 32) (.t 33)), zv 35 (.pick (.t 27) (.t 34) (.c (.bool false)))]
def q4r : IC := zr [zm 36 10, zv 37 (.bin .add .no (.t 36) (zc 1)), zm 10 37]
def q6g : IC := (.seq (.seq q1f (.cond (.t 35) .skip (.exit 0))) (.block 1 q4r))
def qy2 : IC := .drw [zp (zm 38 0), zp (zm 39 10), zp (zv 40 (.slv 4 (.t 38) none (some (.t 39)) none)), (zi 41 (.app 4 (.agg [(.int .i64 0), (.str []), (.int .i64 0), .nils]) 56 (.sl 4) (.c .nils) (.t 40)), []), zp (zm 42 1), (zv 43 (.ld true 3 (.t 5)), [3]), (zv 44 (.bld [(.int .i64 0), (.str []), (.int .i64 0), .nils] [(0, 1, (.t 42)), (1, 3, (.t 43))]), []), (zv 45 (.bsl 4 [((.t 44), (.agg [.id, .id, .id, (.sl 3)]))]), [3]), (zi 46 (.app 4 (.agg [(.int .i64 0), (.str []), (.int .i64 0), .nils]) 56 (.sl 4) (.t 41) (.t 45)), []), zp (zm 47 0), zp (zm 48 10), (zv 49 (.slv 4 (.t 47) (some (.t 48)) none none), [3, 8]), (zi 50 (.app 4 (.agg [(.int .i64 0), (.str []), (.int .i64 0), .nils]) 56 (.sl 4) (.t 46) (.t 49)), []), zp (zm 6 50), zp (zv 7 (.mov (zc 0)))]
def k0br : IC := (.seq q9o (.seq (.seq q9a (.cond (.t 13) (.seq q13 .ret) .skip)) (.seq (.seq q5z (.seq q4a (.cond (.t 21) (.seq q6w .ret) .skip))) (.seq q1r (.seq (.block 0 (.loop q6g)) (.seq qy2 .ret))))))
@[go_sem] def s0br : List (RV × Co) := [(.t 6, (.sl 4)), (.t 7, .id)]
theorem c0br : cFun Try.prog 44 = some (51, k0br, s0br) := by kernel_rfl

def qbal : IC := zr [zi 5 (.box (.t 2)), zv 6 (.mov (zc 0))]
def q46 : IC := zr [zm 9 0, zv 10 (.bin .eql .ptr (.t 9) (.c .nilp)), zm 11 10, zw 11 false 12 (.ld true 3 (.t 5)), ⟨some (11, false), some 13, .call (.c (.fn 48 [] [])) [((.t 12), (.agg [.id, .id, (.sl 3)]))]⟩, zw 11 false 14 (.un .not (.t 13)), zv 15 (.pick (.t 11) (.c (.bool true)) (.t 14))]
def q3b : IC := zr [zv 6 (.mov (zc 1))]
def q1u : IC := zr [zm 17 0, zm 18 1, zi 19 (.call (.c (.fn 82 [] [])) [((.t 17), .id), ((.t 18), .id)]), zm 16 19, zv 20 (.ext (.t 16) 0), zv 21 (.ext (.t 16) 1), zm 7 20, zm 8 21]
def q7g : IC := zr [zm 22 8]
def q4d : IC := zr [zv 6 (.mov (zc 6))]
def q41 : IC := .drw [zp (zm 23 0), zp (zm 24 0), zp (zv 25 (.nck (.t 24))), zp (zv 26 (.fad (.t 25) 0)), zp (zv 27 (.ld false 1 (.t 26))), zp (zm 28 7), zp (zm 29 1), zp (zv 30 (.ld true 3 (.t 5))), (zi 31 (.call (.c (.fn 83 [] [])) [((.t 30), (.agg [.id, .id, (.sl 3)]))]), [4]), (zv 32 (.bld [(.int .i64 0), (.str []), (.int .i64 0), .nils] [(0, 1, (.t 29)), (1, 3, (.t 31))]), []), (zv 33 (.bsl 4 [((.t 32), (.agg [.id, .id, .id, (.sl 3)]))]), []), (zi 34 (.call (.c (.fn 85 [] [])) [((.t 27), (.sl 4)), ((.t 28), .id), ((.t 33), (.sl 4))]), []), zp (zv 35 (.nck (.t 23))), zp (zv 36 (.fad (.t 35) 0)), (zn (.st 1 (.sl 4) (.t 36) (.t 34)), [])]
def q8r : IC := zr [zv 6 (.mov (zc 0))]
def k0bk : IC := (.seq qbal (.seq (.seq q46 (.cond (.t 15) (.seq q3b .ret) .skip)) (.seq q1u (.seq (.seq q7g (.cond (.t 22) (.seq q4d .ret) .skip)) (.seq q41 (.seq q8r .ret))))))
@[go_sem] def s0bk : List (RV × Co) := [(.t 6, .id)]
theorem c0bk : cFun Try.prog 45 = some (37, k0bk, s0bk) := by kernel_rfl

def qbbs : IC := zr [zv 4 (.mov (.c .nilp)), zv 5 (.mov (zc 0))]
def qbb5 : IC := zr [zi 13 (.call (.c (.fn 33 [] [])) [((.c .nils), (.sl 4))]), zm 6 13]
def q1j : IC := zr [zm 14 0, zi 15 (.call (.c (.fn 41 [] [])) [((.t 14), .id)]), zv 16 (.len false (.t 15)), zv 17 (.mov (zc 0))]
def q2q : IC := zr [zv 18 (.bin .lss .no (.t 17) (.t 16))]
def q51 : IC := zr [zv 19 (.iad 4 (.t 15) (.t 17)), zv 20 (.ld true 4 (.t 19)), zi 8 (.alo [(.int .i64 0), (.str []), (.int .i64 0), .nils]), zn (.st 4 (.agg [.id, .id, .id, (.sl 3)]) (.t 8) (.t 20))]
def q92 : IC := zr [zm 22 1, zv 23 (.fad (.t 8) 1), zv 24 (.ld true 3 (.t 23)), zi 25 (.call (.c (.fn 35 [] [])) [((.t 22), .id), ((.t 24), (.agg [.id, .id, (.sl 3)]))]), zm 21 25, zv 26 (.ext (.t 21) 0), zv 27 (.ext (.t 21) 1), zi 9 (.alo [(.str []), (.int .i64 0), .nils]), zn (.st 3 (.agg [.id, .id, (.sl 3)]) (.t 9) (.t 26)), zm 10 27]
def q9v : IC := zr [zm 28 10, zv 29 (.bin .neq .no (.t 28) (zc 0))]
def q7k : IC := zr [zm 30 10, zv 4 (.mov (.c .nilp)), zm 5 30]
def q4j : IC := zr [zm 31 6, zv 32 (.fad (.t 8) 0), zv 33 (.ld false 1 (.t 32)), zv 34 (.ld true 3 (.t 9)), zi 35 (.call (.c (.fn 45 [] [])) [((.t 31), .id), ((.t 33), .id), ((.t 34), (.agg [.id, .id, (.sl 3)]))])]
def qyl : IC := zr [zv 36 (.bin .add .no (.t 17) (zc 1)), zm 17 36]
def q9m : IC := (.seq q2q (.seq (.cond (.t 18) .skip (.exit 0)) (.seq (.block 1 (.seq q51 (.seq q92 (.seq (.seq q9v (.cond (.t 29) (.seq q7k .ret) .skip)) q4j)))) qyl)))
def qx0 : IC := zr [zm 37 1, zi 38 (.call (.c (.fn 41 [] [])) [((.t 37), .id)]), zv 39 (.len false (.t 38)), zv 40 (.mov (zc 0))]
def qzw : IC := zr [zv 41 (.bin .lss .no (.t 40) (.t 39))]
def qza : IC := zr [zv 42 (.iad 4 (.t 38) (.t 40)), zv 43 (.ld true 4 (.t 42)), zi 12 (.alo [(.int .i64 0), (.str []), (.int .i64 0), .nils]), zn (.st 4 (.agg [.id, .id, .id, (.sl 3)]) (.t 12) (.t 43))]
def qyq : IC := zr [zm 44 6, zv 45 (.fad (.t 12) 0), zv 46 (.ld false 1 (.t 45)), zv 47 (.fad (.t 12) 1), zv 48 (.ld true 3 (.t 47)), zi 49 (.call (.c (.fn 45 [] [])) [((.t 44), .id), ((.t 46), .id), ((.t 48), (.agg [.id, .id, (.sl 3)]))])]
def qxy : IC := zr [zv 50 (.bin .add .no (.t 40) (zc 1)), zm 40 50]
def qzo : IC := (.seq qzw (.seq (.cond (.t 41) .skip (.exit 2)) (.seq (.block 3 (.seq qza qyq)) qxy)))
def qyt : IC := zr [zm 51 6, zm 4 51, zv 5 (.mov (zc 0))]
def k0bf : IC := (.seq qbbs (.seq qbb5 (.seq (.seq q1j (.block 0 (.loop q9m))) (.seq (.seq qx0 (.block 2 (.loop qzo))) (.seq qyt .ret)))))
@[go_sem] def s0bf : List (RV × Co) := [(.t 4, .id), (.t 5, .id)]
theorem c0bf : cFun Try.prog 46 = some (52, k0bf, s0bf) := by kernel_rfl

def q27 : IC := zr [zv 4 (.mov (.c .nils)), zv 5 (.mov (zc 0))]
def qbaf : IC := zr [zv 6 (.mov (.c .nils))]
def q3n : IC := zr [zv 7 (.mov (zc 0))]
def q8s : IC := zr [zm 13 7, zm 14 0, zv 15 (.len false (.t 14)), zv 16 (.bin .lss .no (.t 13) (.t 15))]
def q2l : IC := zr [zm 20 1, zm 21 0, zm 22 7, zv 23 (.iad 4 (.t 21) (.t 22)), zv 24 (.fad (.t 23) 1), zv 25 (.ld true 3 (.t 24)), zi 26 (.call (.c (.fn 36 [] [])) [((.t 20), (.sl 4)), ((.t 25), (.agg [.id, .id, (.sl 3)]))]), zm 19 26, zv 27 (.ext (.t 19) 0), zv 28 (.ext (.t 19) 1), zi 8 (.alo [(.str []), (.int .i64 0), .nils]), zn (.st 3 (.agg [.id, .id, (.sl 3)]) (.t 8) (.t 27)), zm 9 28]
def q6v : IC := zr [zm 29 9, zv 30 (.bin .neq .no (.t 29) (zc 0))]
def q50 : IC := zr [zm 31 9, zv 4 (.mov (.c .nils)), zm 5 31]
def q89 : IC := .drw [zp (zm 32 6), zp (zm 33 0), zp (zm 34 7), zp (zv 35 (.iad 4 (.t 33) (.t 34))), zp (zv 36 (.fad (.t 35) 0)), zp (zv 37 (.ld false 1 (.t 36))), zp (zv 38 (.ld true 3 (.t 8))), (zv 39 (.bld [(.int .i64 0), (.str []), (.int .i64 0), .nils] [(0, 1, (.t 37)), (1, 3, (.t 38))]), []), (zv 40 (.bsl 4 [((.t 39), (.agg [.id, .id, .id, (.sl 3)]))]), []), (zi 41 (.app 4 (.agg [(.int .i64 0), (.str []), (.int .i64 0), .nils]) 56 (.sl 4) (.t 32) (.t 40)), []), zp (zm 6 41)]
def q23 : IC := zr [zm 17 7, zv 18 (.bin .add .no (.t 17) (zc 1)), zm 7 18]
def q71 : IC := (.seq (.seq q8s (.cond (.t 16) .skip (.exit 0))) (.seq (.block 1 (.seq q2l (.seq (.seq q6v (.cond (.t 30) (.seq q50 .ret) .skip)) q89))) q23))
def qy6 : IC := zr [zv 10 (.mov (zc 0))]
def qvp : IC := zr [zm 42 10, zm 43 1, zv 44 (.len false (.t 43)), zv 45 (.bin .lss .no (.t 42) (.t 44))]
def qyw : IC := .drw [zp (zm 49 6), zp (zm 50 1), zp (zm 51 10), zp (zv 52 (.iad 4 (.t 50) (.t 51))), zp (zv 53 (.fad (.t 52) 0)), zp (zv 54 (.ld false 1 (.t 53))), zp (zm 55 1), zp (zm 56 10), zp (zv 57 (.iad 4 (.t 55) (.t 56))), zp (zv 58 (.fad (.t 57) 1)), zp (zv 59 (.ld true 3 (.t 58))), (zi 60 (.call (.c (.fn 44 [] [])) [((.t 49), (.sl 4)), ((.t 54), .id), ((.t 59), (.agg [.id, .id, (.sl 3)]))]), []), zp (zm 48 60), zp (zv 61 (.ext (.t 48) 0)), zp (zv 62 (.ext (.t 48) 1)), zp (zm 11 61), zp (zm 12 62)]
def qxq : IC := zr [zm 63 11, zm 6 63]
def qxb : IC := zr [zm 46 10, zv 47 (.bin .add .no (.t 46) (zc 1)), zm 10 47]
def qpc : IC := (.seq (.seq qvp (.cond (.t 45) .skip (.exit 2))) (.seq (.block 3 (.seq qyw qxq)) qxb))
def k0ci_r18 : IC := zr [zm 64 6, zm 4 64, zv 5 (.mov (zc 0))]
def k0ci : IC := (.seq q27 (.seq qbaf (.seq (.seq q3n (.block 0 (.loop q71))) (.seq (.seq qy6 (.block 2 (.loop qpc))) (.seq k0ci_r18 .ret)))))
@[go_sem] def s0ci : List (RV × Co) := [(.t 4, (.sl 4)), (.t 5, .id)]
theorem c0ci : cFun Try.prog 47 = some (65, k0ci, s0ci) := by kernel_rfl

def q40 : IC := zr [zi 1 (.box (.t 0)), zv 2 zf]
def q8y : IC := zr [zi 3 (.alo [(.int .i64 0)]), zn (.st 1 .id (.t 3) (zc 0))]
def q1v : IC := zr [zv 4 (.ld true 3 (.t 1)), zv 5 (.mfn 87 [] [(.t 3)]), zi 6 (.call (.c (.fn 86 [] [])) [((.t 4), (.agg [.id, .id, (.sl 3)])), ((zc 1), .id), ((.t 5), .id)]), zm 2 6]
def k0bz : IC := (.seq q40 (.seq q8y (.seq q1v .ret)))
@[go_sem] def s0bz : List (RV × Co) := [(.t 2, .id)]
theorem c0bz : cFun Try.prog 48 = some (7, k0bz, s0bz) := by kernel_rfl

def qbf0 : IC := zr [zv 4 zf]
def qbgs : IC := zr [zm 5 0, zm 6 1, zi 7 (.call (.c (.fn 100 [] [])) [((.t 5), (.sl 1)), ((.t 6), .id)]), zv 8 (.bin .geq .no (.t 7) (zc 0)), zm 4 8]
def k0b : IC := (.seq qbf0 (.seq qbgs .ret))
@[go_sem] def s0b : List (RV × Co) := [(.t 4, .id)]
theorem c0b : cFun Try.prog 66 = some (9, k0b, s0b) := by kernel_rfl

def qbc4 : IC := zr [zv 2 zf]
def qbhx : IC := zr [zm 3 0, zv 4 (.bin .neq .no (.t 3) (.c (.str []))), zm 5 4, zw 5 true 6 (.mov (.t 0)), zw 5 true 7 (.idx (.t 6) (zc 0)), ⟨some (5, true), some 8, .call (.c (.fn 106 [] [])) [((.t 7), .id)]⟩, zv 9 (.pick (.t 5) (.t 8) (.c (.bool false))), zm 10 9, zw 10 true 11 (.mov (.t 0)), ⟨some (10, true), some 12, .call (.c (.fn 107 [] [])) [((.t 11), .id)]⟩, zv 13 (.pick (.t 10) (.t 12) (.c (.bool false))), zm 2 13]
def k0v : IC := (.seq qbc4 (.seq qbhx .ret))
@[go_sem] def s0v : List (RV × Co) := [(.t 2, .id)]
theorem c0v : cFun Try.prog 72 = some (14, k0v, s0v) := by kernel_rfl

def q7l : IC := zr [zi 1 (.box (.t 0)), zv 2 (.mov (.c (.str [])))]
def q1l : IC := zr [zv 3 (.ld true 3 (.t 1)), zi 4 (.call (.c (.fn 48 [] [])) [((.t 3), (.agg [.id, .id, (.sl 3)]))]), zv 5 (.un .not (.t 4))]
def q21 : IC := zr [zv 2 (.mov (.c (.str [])))]
def q7p : IC := zr [zv 6 (.ld true 3 (.t 1)), zi 7 (.call (.c (.fn 109 [] [])) [((.t 6), (.agg [.id, .id, (.sl 3)]))]), zm 2 7]
def k0bv : IC := (.seq q7l (.seq (.seq q1l (.cond (.t 5) (.seq q21 .ret) .skip)) (.seq q7p .ret)))
@[go_sem] def s0bv : List (RV × Co) := [(.t 2, .id)]
theorem c0bv : cFun Try.prog 75 = some (8, k0bv, s0bv) := by kernel_rfl

def qbcf : IC := zr [zi 2 (.box (.t 0)), zi 3 (.box (.t 1)), zv 4 zf]
def qbh3 : IC := .drw [zp (zv 6 (.ld true 3 (.t 2))), (zi 7 (.call (.c (.fn 88 [] [])) [((.t 6), (.agg [.id, .id, (.sl 3)]))]), []), (zv 8 (.ld true 3 (.t 3)), [1]), (zi 9 (.call (.c (.fn 88 [] [])) [((.t 8), (.agg [.id, .id, (.sl 3)]))]), []), (zv 10 (.bin .neq (.cells [.str, (.int .i64), (.int .i64)]) (.t 7) (.t 9)), [])]
def qbeb : IC := zr [zv 4 zf]
def qbem : IC := zr [zv 11 (.fad (.t 2) 2), zv 12 (.ld false 1 (.t 11)), zv 13 (.len false (.t 12)), zv 14 (.mov (zc 0))]
def qbc2 : IC := zr [zv 15 (.bin .lss .no (.t 14) (.t 13))]
def qbil : IC := zr [zm 16 14, zm 5 16]
def qbej : IC := .drw [zp (zv 17 (.fad (.t 2) 2)), zp (zv 18 (.ld false 1 (.t 17))), zp (zm 19 5), zp (zv 20 (.iad 3 (.t 18) (.t 19))), zp (zv 21 (.ld true 3 (.t 20))), zp (zv 22 (.fad (.t 3) 2)), zp (zv 23 (.ld false 1 (.t 22))), zp (zm 24 5), zp (zv 25 (.iad 3 (.t 23) (.t 24))), zp (zv 26 (.ld true 3 (.t 25))), (zi 27 (.call (.c (.fn 76 [] [])) [((.t 21), (.agg [.id, .id, (.sl 3)])), ((.t 26), (.agg [.id, .id, (.sl 3)]))]), []), zp (zv 28 (.un .not (.t 27)))]
def qbfi : IC := zr [zv 4 zf]
def qbck : IC := zr [zv 29 (.bin .add .no (.t 14) (zc 1)), zm 14 29]
def qbib : IC := (.seq qbc2 (.seq (.cond (.t 15) .skip (.exit 0)) (.seq (.block 1 (.seq qbil (.seq qbej (.cond (.t 28) (.seq qbfi .ret) .skip)))) qbck)))
def q49 : IC := zr [zv 4 (.mov (.c (.bool true)))]
def k0d : IC := (.seq qbcf (.seq (.seq qbh3 (.cond (.t 10) (.seq qbeb .ret) .skip)) (.seq (.seq qbem (.block 0 (.loop qbib))) (.seq q49 .ret))))
@[go_sem] def s0d : List (RV × Co) := [(.t 4, .id)]
theorem c0d : cFun Try.prog 76 = some (30, k0d, s0d) := by kernel_rfl

def q4w : IC := zr [zi 3 (.box (.t 0)), zv 6 (.mov (zc 0))]
def q8a : IC := zr [zm 8 1, zv 9 (.bin .sub .no (.t 8) (zc 1)), zm 1 9]
def q1n : IC := zr [zm 10 2, zv 11 (.bin .lss .no (.t 10) (zc 1))]
def q4b : IC := zr [zv 6 (.mov (zc (-1)))]
def q9h : IC := zr [zv 7 (.mov (zc 0))]
def q5o : IC := zr [zm 12 7, zv 13 (.fad (.t 3) 2), zv 14 (.ld false 1 (.t 13)), zv 15 (.len false (.t 14)), zv 16 (.bin .lss .no (.t 12) (.t 15)), zm 17 16, zw 17 true 18 (.mov (.t 1)), zw 17 true 19 (.bin .geq .no (.t 18) (zc 0)), zv 20 (.pick (.t 17) (.t 19) (.c (.bool false)))]
def qbbd : IC := zr [zv 23 (.fad (.t 3) 2), zv 24 (.ld false 1 (.t 23)), zm 25 7, zv 26 (.iad 3 (.t 24) (.t 25)), zv 27 (.ld true 3 (.t 26)), zm 28 1, zm 29 2, zv 30 (.bin .sub .no (.t 29) (zc 1)), zi 31 (.call (.c (.fn 77 [] [])) [((.t 27), (.agg [.id, .id, (.sl 3)])), ((.t 28), .id), ((.t 30), .id)]), zm 1 31]
def q85 : IC := zr [zm 21 7, zv 22 (.bin .add .no (.t 21) (zc 1)), zm 7 22]
def q5v : IC := (.seq (.seq q5o (.cond (.t 20) .skip (.exit 0))) (.seq (.block 1 qbbd) q85))
def qwr : IC := zr [zm 32 1, zm 6 32]
def k0cf : IC := (.seq q4w (.seq q8a (.seq (.seq q1n (.cond (.t 11) (.seq q4b .ret) .skip)) (.seq (.seq q9h (.block 0 (.loop q5v))) (.seq qwr .ret)))))
@[go_sem] def s0cf : List (RV × Co) := [(.t 6, .id)]
theorem c0cf : cFun Try.prog 77 = some (33, k0cf, s0cf) := by kernel_rfl

def q6d : IC := zr [zi 4 (.box (.t 1)), zi 6 (.alo [(.str []), (.int .i64 0), .nils])]
def q8v : IC := zr [zv 11 (.fad (.t 4) 0), zv 12 (.ld false 1 (.t 11)), zv 13 (.bin .eql .no (.t 12) (.c (.str [])))]
def q82 : IC := .drw [zp (zm 15 0), zp (zv 16 (.nck (.t 15))), zp (zv 17 (.fad (.t 16) 0)), zp (zv 18 (.ld false 1 (.t 17))), zp (zv 19 (.fad (.t 4) 1)), zp (zv 20 (.ld false 1 (.t 19))), (zi 21 (.call (.c (.fn 37 [] [])) [((.t 18), .id), ((.t 20), .id)]), []), zp (zm 14 21), zp (zv 22 (.ext (.t 14) 0)), zp (zv 23 (.ext (.t 14) 1)), (zi 7 (.alo [(.str []), (.int .i64 0), .nils]), [3, 5, 6]), (zn (.st 3 (.agg [.id, .id, (.sl 3)]) (.t 7) (.t 22)), []), zp (zm 8 23)]
def q5c : IC := zr [zm 24 8]
def q5b : IC := .drw [zp (zm 25 0), zp (zv 26 (.nck (.t 25))), zp (zv 27 (.fad (.t 26) 1)), zp (zv 28 (.ld false 1 (.t 27))), zp (zv 29 (.ld true 3 (.t 7))), (zi 30 (.call (.c (.fn 110 [] [])) [((.t 29), (.agg [.id, .id, (.sl 3)]))]), [3]), zp (zv 31 (.bin .sub .no (.t 28) (.t 30))), zp (zv 32 (.nck (.t 25))), zp (zv 33 (.fad (.t 32) 1)), (zn (.st 1 .id (.t 33) (.t 31)), [])]
def qbb2 : IC := zr [zm 34 2, zv 35 (.ld true 3 (.t 7)), zi 36 (.call (.c (.fn 111 [] [])) [((.t 35), (.agg [.id, .id, (.sl 3)]))]), zv 37 (.bin .add .no (.t 34) (.t 36)), zv 38 (.bin .gtr .no (.t 37) (zc 101))]
def q9b : IC := zr [zm 39 0, zv 40 (.nck (.t 39)), zv 41 (.fad (.t 40) 1), zn (.st 1 .id (.t 41) (zc (-1)))]
def qbb4 : IC := zr [zv 42 (.ld true 3 (.t 7)), zi 43 (.call (.c (.fn 83 [] [])) [((.t 42), (.agg [.id, .id, (.sl 3)]))]), zn (.st 3 (.agg [.id, .id, (.sl 3)]) (.t 6) (.t 43))]
def q1z : IC := zr [zm 44 0, zv 45 (.nck (.t 44)), zv 46 (.fad (.t 45) 1), zv 47 (.ld false 1 (.t 46)), zv 48 (.bin .sub .no (.t 47) (zc 1)), zv 49 (.nck (.t 44)), zv 50 (.fad (.t 49) 1), zn (.st 1 .id (.t 50) (.t 48))]
def qbbu : IC := zr [zv 51 (.fad (.t 4) 2), zv 52 (.ld false 1 (.t 51)), zv 53 (.len false (.t 52)), zi 54 (.mks 3 (.agg [(.str []), (.int .i64 0), .nils]) 48 (.t 53) (.t 53)), zm 9 54]
def qw7 : IC := zr [zv 55 (.fad (.t 4) 2), zv 56 (.ld false 1 (.t 55)), zv 57 (.len false (.t 56)), zv 58 (.mov (zc 0))]
def qx1 : IC := zr [zv 59 (.bin .lss .no (.t 58) (.t 57))]
def qzs : IC := zr [zm 60 58, zm 10 60]
def qzv : IC := zr [zm 61 0, zv 62 (.nck (.t 61)), zv 63 (.fad (.t 62) 1), zv 64 (.ld false 1 (.t 63)), zv 65 (.bin .lss .no (.t 64) (zc 0))]
def qyc : IC := zr [zv 66 (.ld true 3 (.t 4)), zn (.st 3 (.agg [.id, .id, (.sl 3)]) (.t 6) (.t 66))]
def qxe : IC := zr [zm 67 9, zm 68 10, zm 69 0, zv 70 (.fad (.t 4) 2), zv 71 (.ld false 1 (.t 70)), zm 72 10, zv 73 (.iad 3 (.t 71) (.t 72)), zv 74 (.ld true 3 (.t 73)), zm 75 2, zv 76 (.bin .add .no (.t 75) (zc 1)), zi 77 (.call (.c (.fn 78 [] [])) [((.t 69), .id), ((.t 74), (.agg [.id, .id, (.sl 3)])), ((.t 76), .id)]), zv 78 (.iad 3 (.t 67) (.t 68)), zn (.st 3 (.agg [.id, .id, (.sl 3)]) (.t 78) (.t 77))]
def qxk : IC := zr [zv 79 (.bin .add .no (.t 58) (zc 1)), zm 58 79]
def qwv : IC := (.seq qx1 (.seq (.cond (.t 59) .skip (.exit 0)) (.seq (.block 1 (.seq qzs (.seq (.seq qzv (.cond (.t 65) (.seq qyc .ret) .skip)) qxe))) qxk)))
def qwx : IC := zr [zm 80 9, zv 81 (.fad (.t 4) 2), zn (.st 1 (.sl 3) (.t 81) (.t 80))]
def qy4 : IC := zr [zv 82 (.ld true 3 (.t 4)), zn (.st 3 (.agg [.id, .id, (.sl 3)]) (.t 6) (.t 82))]
def k0bj : IC := (.seq q6d (.seq (.seq q8v (.cond (.t 13) (.seq q82 (.seq q5c (.cond (.t 24) (.seq q5b (.seq (.seq qbb2 (.cond (.t 38) q9b .skip)) (.seq qbb4 .ret))) .skip))) .skip)) (.seq q1z (.seq qbbu (.seq (.seq qw7 (.block 0 (.loop qwv))) (.seq qwx (.seq qy4 .ret)))))))
@[go_sem] def s0bj : List (RV × Co) := [(.c true 3 6, (.agg [.id, .id, (.sl 3)]))]
theorem c0bj : cFun Try.prog 78 = some (83, k0bj, s0bj) := by kernel_rfl

def q7n : IC := zr [zi 1 (.box (.t 0)), zv 2 zf]
def q2w : IC := zr [zv 3 (.ld true 3 (.t 1)), zi 4 (.call (.c (.fn 112 [] [])) [((.t 3), (.agg [.id, .id, (.sl 3)]))]), zv 5 (.bin .leq .no (.t 4) (zc 4096)), zm 6 5, zw 6 true 7 (.ld true 3 (.t 1)), ⟨some (6, true), some 8, .call (.c (.fn 113 [] [])) [((.t 7), (.agg [.id, .id, (.sl 3)]))]⟩, zw 6 true 9 (.bin .leq .no (.t 8) (zc 100)), zv 10 (.pick (.t 6) (.t 9) (.c (.bool false))), zm 11 10, zw 11 true 12 (.ld true 3 (.t 1)), ⟨some (11, true), some 13, .call (.c (.fn 114 [] [])) [((.t 12), (.agg [.id, .id, (.sl 3)]))]⟩, zv 14 (.pick (.t 11) (.t 13) (.c (.bool false))), zm 2 14]
def k0ch : IC := (.seq q7n (.seq q2w .ret))
@[go_sem] def s0ch : List (RV × Co) := [(.t 2, .id)]
theorem c0ch : cFun Try.prog 79 = some (15, k0ch, s0ch) := by kernel_rfl

def qbbm : IC := zr [zi 3 (.box (.t 1)), zv 4 (.mov (zc 0))]
def q7v : IC := zr [zv 9 (.fad (.t 3) 0), zv 10 (.ld false 1 (.t 9)), zv 11 (.bin .eql .no (.t 10) (.c (.str [])))]
def q1t : IC := zr [zm 13 0, zv 14 (.fad (.t 3) 1), zv 15 (.ld false 1 (.t 14)), zi 16 (.call (.c (.fn 38 [] [])) [((.t 13), (.sl 4)), ((.t 15), .id)]), zm 12 16, zv 17 (.ext (.t 12) 0), zv 18 (.ext (.t 12) 1), zi 5 (.alo [(.str []), (.int .i64 0), .nils]), zn (.st 3 (.agg [.id, .id, (.sl 3)]) (.t 5) (.t 17)), zm 6 18]
def q98 : IC := zr [zm 19 6]
def q7o : IC := zr [zv 20 (.ld true 3 (.t 5)), zi 21 (.call (.c (.fn 112 [] [])) [((.t 20), (.agg [.id, .id, (.sl 3)]))]), zm 4 21]
def qba7 : IC := zr [zv 4 (.mov (zc 1))]
def q2y : IC := zr [zv 7 (.mov (zc 1))]
def q6m : IC := zr [zv 8 (.mov (zc 0))]
def qbab : IC := zr [zm 22 8, zv 23 (.fad (.t 3) 2), zv 24 (.ld false 1 (.t 23)), zv 25 (.len false (.t 24)), zv 26 (.bin .lss .no (.t 22) (.t 25))]
def qwf : IC := zr [zm 29 7, zm 30 0, zv 31 (.fad (.t 3) 2), zv 32 (.ld false 1 (.t 31)), zm 33 8, zv 34 (.iad 3 (.t 32) (.t 33)), zv 35 (.ld true 3 (.t 34)), zi 36 (.call (.c (.fn 80 [] [])) [((.t 30), (.sl 4)), ((.t 35), (.agg [.id, .id, (.sl 3)]))]), zv 37 (.bin .add .no (.t 29) (.t 36)), zm 7 37]
def qwh : IC := zr [zm 27 8, zv 28 (.bin .add .no (.t 27) (zc 1)), zm 8 28]
def q78 : IC := (.seq (.seq qbab (.cond (.t 26) .skip (.exit 0))) (.seq (.block 1 qwf) qwh))
def qwz : IC := zr [zm 38 7, zm 4 38]
def k0cm : IC := (.seq qbbm (.seq (.seq q7v (.cond (.t 11) (.seq q1t (.seq (.seq q98 (.cond (.t 19) (.seq q7o .ret) .skip)) (.seq qba7 .ret))) .skip)) (.seq q2y (.seq (.seq q6m (.block 0 (.loop q78))) (.seq qwz .ret)))))
@[go_sem] def s0cm : List (RV × Co) := [(.t 4, .id)]
theorem c0cm : cFun Try.prog 80 = some (39, k0cm, s0cm) := by kernel_rfl

def qba6 : IC := zr [zi 3 (.box (.t 1)), zi 4 (.alo [(.str []), (.int .i64 0), .nils])]
def q00 : IC := zr [zv 9 (.fad (.t 3) 0), zv 10 (.ld false 1 (.t 9)), zv 11 (.bin .eql .no (.t 10) (.c (.str [])))]
def q1a : IC := zr [zm 13 0, zv 14 (.fad (.t 3) 1), zv 15 (.ld false 1 (.t 14)), zi 16 (.call (.c (.fn 38 [] [])) [((.t 13), (.sl 4)), ((.t 15), .id)]), zm 12 16, zv 17 (.ext (.t 12) 0), zv 18 (.ext (.t 12) 1), zi 5 (.alo [(.str []), (.int .i64 0), .nils]), zn (.st 3 (.agg [.id, .id, (.sl 3)]) (.t 5) (.t 17)), zm 6 18]
def q1q : IC := zr [zm 19 6]
def q9d : IC := zr [zv 20 (.ld true 3 (.t 5)), zn (.st 3 (.agg [.id, .id, (.sl 3)]) (.t 4) (.t 20))]
def q7i : IC := zr [zv 21 (.ld true 3 (.t 3)), zn (.st 3 (.agg [.id, .id, (.sl 3)]) (.t 4) (.t 21))]
def q90 : IC := zr [zv 7 (.mov (.c .nils))]
def q47 : IC := zr [zv 8 (.mov (zc 0))]
def q9c : IC := zr [zm 22 8, zv 23 (.fad (.t 3) 2), zv 24 (.ld false 1 (.t 23)), zv 25 (.len false (.t 24)), zv 26 (.bin .lss .no (.t 22) (.t 25))]
def qwn : IC := zr [zm 29 7, zm 30 0, zv 31 (.fad (.t 3) 2), zv 32 (.ld false 1 (.t 31)), zm 33 8, zv 34 (.iad 3 (.t 32) (.t 33)), zv 35 (.ld true 3 (.t 34)), zi 36 (.call (.c (.fn 81 [] [])) [((.t 30), (.sl 4)), ((.t 35), (.agg [.id, .id, (.sl 3)]))]), zv 37 (.bsl 3 [((.t 36), (.agg [.id, .id, (.sl 3)]))]), zi 38 (.app 3 (.agg [(.str []), (.int .i64 0), .nils]) 48 (.sl 3) (.t 29) (.t 37)), zm 7 38]
def qv0 : IC := zr [zm 27 8, zv 28 (.bin .add .no (.t 27) (zc 1)), zm 8 28]
def q7z : IC := (.seq (.seq q9c (.cond (.t 26) .skip (.exit 0))) (.seq (.block 1 qwn) qv0))
def qx3 : IC := zr [zm 39 7, zv 40 (.fad (.t 3) 2), zn (.st 1 (.sl 3) (.t 40) (.t 39))]
def qyu : IC := zr [zv 41 (.ld true 3 (.t 3)), zn (.st 3 (.agg [.id, .id, (.sl 3)]) (.t 4) (.t 41))]
def k0cn : IC := (.seq qba6 (.seq (.seq q00 (.cond (.t 11) (.seq q1a (.seq (.seq q1q (.cond (.t 19) (.seq q9d .ret) .skip)) (.seq q7i .ret))) .skip)) (.seq q90 (.seq (.seq q47 (.block 0 (.loop q7z))) (.seq qx3 (.seq qyu .ret))))))
@[go_sem] def s0cn : List (RV × Co) := [(.c true 3 4, (.agg [.id, .id, (.sl 3)]))]
theorem c0cn : cFun Try.prog 81 = some (42, k0cn, s0cn) := by kernel_rfl

def q44 : IC := zr [zv 4 (.mov (zc 0)), zv 5 zf]
def q5p : IC := zr [zm 6 0, zv 7 (.nck (.t 6)), zv 8 (.fad (.t 7) 0), zv 9 (.ld false 1 (.t 8)), zm 10 1, zi 11 (.call (.c (.fn 115 [] [])) [((.t 9), (.sl 4)), ((.t 10), .id), ((.c (.fn 116 [] [])), .id)]), zv 12 (.ext (.t 11) 0), zv 13 (.ext (.t 11) 1), zm 4 12, zm 5 13]
def k0bn : IC := (.seq q44 (.seq q5p .ret))
@[go_sem] def s0bn : List (RV × Co) := [(.t 4, .id), (.t 5, .id)]
theorem c0bn : cFun Try.prog 82 = some (14, k0bn, s0bn) := by kernel_rfl

def q18 : IC := zr [zi 1 (.box (.t 0)), zi 2 (.alo [(.str []), (.int .i64 0), .nils])]
def q9l : IC := zr [zv 6 (.fad (.t 1) 2), zv 7 (.ld false 1 (.t 6)), zv 8 (.len false (.t 7)), zi 9 (.mks 3 (.agg [(.str []), (.int .i64 0), .nils]) 48 (.t 8) (.t 8)), zm 3 9]
def qbbe : IC := zr [zv 10 (.fad (.t 1) 2), zv 11 (.ld false 1 (.t 10)), zv 12 (.len false (.t 11)), zv 13 (.mov (zc 0))]
def q8d : IC := zr [zv 14 (.bin .lss .no (.t 13) (.t 12))]
def q5a : IC := zr [zm 15 13, zv 16 (.iad 3 (.t 11) (.t 13)), zv 17 (.ld true 3 (.t 16)), zi 5 (.alo [(.str []), (.int .i64 0), .nils]), zm 4 15, zn (.st 3 (.agg [.id, .id, (.sl 3)]) (.t 5) (.t 17))]
def q3l : IC := zr [zm 18 3, zm 19 4, zv 20 (.ld true 3 (.t 5)), zi 21 (.call (.c (.fn 83 [] [])) [((.t 20), (.agg [.id, .id, (.sl 3)]))]), zv 22 (.iad 3 (.t 18) (.t 19)), zn (.st 3 (.agg [.id, .id, (.sl 3)]) (.t 22) (.t 21))]
def q95 : IC := zr [zv 23 (.bin .add .no (.t 13) (zc 1)), zm 13 23]
def q01 : IC := (.seq q8d (.seq (.cond (.t 14) .skip (.exit 0)) (.seq (.block 1 (.seq q5a q3l)) q95)))
def q9e : IC := zr [zm 24 3, zv 25 (.fad (.t 1) 2), zn (.st 1 (.sl 3) (.t 25) (.t 24))]
def qxz : IC := zr [zv 26 (.ld true 3 (.t 1)), zn (.st 3 (.agg [.id, .id, (.sl 3)]) (.t 2) (.t 26))]
def k0bp : IC := (.seq q18 (.seq q9l (.seq (.seq qbbe (.block 0 (.loop q01))) (.seq q9e (.seq qxz .ret)))))
@[go_sem] def s0bp : List (RV × Co) := [(.c true 3 2, (.agg [.id, .id, (.sl 3)]))]
theorem c0bp : cFun Try.prog 83 = some (27, k0bp, s0bp) := by kernel_rfl

def qbhd : IC := zr [zi 3 (.box (.t 0)), zv 6 zf]
def qbgn : IC := zr [zm 9 2, zv 10 (.ld true 3 (.t 3)), zm 11 1, zi 12 (.call (.t 9) [((.t 10), (.agg [.id, .id, (.sl 3)])), ((.t 11), .id)]), zv 13 (.un .not (.t 12))]
def qbee : IC := zr [zv 6 zf]
def qbis : IC := zr [zv 14 (.fad (.t 3) 2), zv 15 (.ld false 1 (.t 14)), zv 16 (.len false (.t 15)), zv 17 (.mov (zc 0))]
def qbel : IC := zr [zv 18 (.bin .lss .no (.t 17) (.t 16))]
def qbgu : IC := zr [zv 19 (.iad 3 (.t 15) (.t 17)), zv 20 (.ld true 3 (.t 19)), zi 8 (.alo [(.str []), (.int .i64 0), .nils]), zn (.st 3 (.agg [.id, .id, (.sl 3)]) (.t 8) (.t 20))]
def qbge : IC := zr [zv 21 (.ld true 3 (.t 8)), zm 22 1, zv 23 (.bin .add .no (.t 22) (zc 1)), zm 24 2, zi 25 (.call (.c (.fn 86 [] [])) [((.t 21), (.agg [.id, .id, (.sl 3)])), ((.t 23), .id), ((.t 24), .id)]), zv 26 (.un .not (.t 25))]
def qbc7 : IC := zr [zv 6 zf]
def qbha : IC := zr [zv 27 (.bin .add .no (.t 17) (zc 1)), zm 17 27]
def qbeg : IC := (.seq qbel (.seq (.cond (.t 18) .skip (.exit 0)) (.seq (.block 1 (.seq qbgu (.seq qbge (.cond (.t 26) (.seq qbc7 .ret) .skip)))) qbha)))
def q1c : IC := zr [zv 6 (.mov (.c (.bool true)))]
def k0i : IC := (.seq qbhd (.seq (.seq qbgn (.cond (.t 13) (.seq qbee .ret) .skip)) (.seq (.seq qbis (.block 0 (.loop qbeg))) (.seq q1c .ret))))
@[go_sem] def s0i : List (RV × Co) := [(.t 6, .id)]
theorem c0i : cFun Try.prog 86 = some (28, k0i, s0i) := by kernel_rfl

def qba1 : IC := zr [zi 3 (.box (.t 0)), zv 5 zf]
def q2o : IC := zr [zv 6 (.ld false 1 (.t 2)), zv 7 (.bin .add .no (.t 6) (zc 1)), zn (.st 1 .id (.t 2) (.t 7))]
def q57 : IC := zr [zv 8 (.ld false 1 (.t 2)), zv 9 (.bin .leq .no (.t 8) (zc 4096)), zm 10 9, zw 10 true 11 (.mov (.t 1)), zw 10 true 12 (.bin .leq .no (.t 11) (zc 100)), zv 13 (.pick (.t 10) (.t 12) (.c (.bool false))), zm 14 13, zw 14 true 15 (.ld true 3 (.t 3)), ⟨some (14, true), some 16, .call (.c (.fn 88 [] [])) [((.t 15), (.agg [.id, .id, (.sl 3)]))]⟩, ⟨some (14, true), some 17, .call (.c (.fn 89 [] [])) [((.t 16), .id)]⟩, zv 18 (.pick (.t 14) (.t 17) (.c (.bool false))), zm 5 18]
def k0bw : IC := (.seq qba1 (.seq q2o (.seq q57 .ret)))
@[go_sem] def s0bw : List (RV × Co) := [(.t 5, .id)]
theorem c0bw : cFun Try.prog 87 = some (19, k0bw, s0bw) := by kernel_rfl

def qbd0 : IC := zr [zi 1 (.box (.t 0)), zi 2 (.alo [(.str []), (.int .i64 0), (.int .i64 0)])]
def qbhp : IC := zr [zv 3 (.fad (.t 1) 0), zv 4 (.ld false 1 (.t 3)), zv 5 (.fad (.t 1) 1), zv 6 (.ld false 1 (.t 5)), zv 7 (.fad (.t 1) 2), zv 8 (.ld false 1 (.t 7)), zv 9 (.len false (.t 8)), zv 10 (.bld [(.str []), (.int .i64 0), (.int .i64 0)] [(0, 1, (.t 4)), (1, 1, (.t 6)), (2, 1, (.t 9))]), zn (.st 3 .id (.t 2) (.t 10))]
def k0c : IC := (.seq qbd0 (.seq qbhp .ret))
@[go_sem] def s0c : List (RV × Co) := [(.c true 3 2, .id)]
theorem c0c : cFun Try.prog 88 = some (11, k0c, s0c) := by kernel_rfl

def qbdf : IC := zr [zi 1 (.box (.t 0)), zv 2 zf]
def qbe4 : IC := zr [zv 4 (.fad (.t 1) 0), zv 5 (.ld false 1 (.t 4)), zv 6 (.bin .eql .no (.t 5) (.c (.str []))), zm 3 6]
def qbfe : IC := zr [zv 7 (.fad (.t 1) 2), zv 8 (.ld false 1 (.t 7)), zv 9 (.bin .eql .no (.t 8) (zc 0)), zm 2 9]
def qbik : IC := zr [zv 11 (.fad (.t 1) 0), zv 12 (.ld false 1 (.t 11)), zv 13 (.bin .eql .no (.t 12) (.c (.str [45, 62]))), zm 10 13]
def qbed : IC := zr [zv 14 (.ld true 3 (.t 1)), zv 15 (.bld [(.str []), (.int .i64 0), (.int .i64 0)] [(0, 1, (.c (.str [45, 62]))), (1, 1, (zc 0)), (2, 1, (zc 2))]), zv 16 (.bin .eql (.cells [.str, (.int .i64), (.int .i64)]) (.t 14) (.t 15)), zm 2 16]
def qbh6 : IC := zr [zv 18 (.fad (.t 1) 0), zv 19 (.ld false 1 (.t 18)), zi 20 (.call (.c (.fn 119 [] [])) [((.t 19), .id)]), zm 17 20]
def qbhm : IC := zr [zv 21 (.ld true 3 (.t 1)), zv 22 (.fad (.t 1) 0), zv 23 (.ld false 1 (.t 22)), zv 24 (.bld [(.str []), (.int .i64 0), (.int .i64 0)] [(0, 1, (.t 23))]), zv 25 (.bin .eql (.cells [.str, (.int .i64), (.int .i64)]) (.t 21) (.t 24)), zm 2 25]
def qbgo : IC := zr [zv 26 (.fad (.t 1) 1), zv 27 (.ld false 1 (.t 26)), zv 28 (.bin .eql .no (.t 27) (zc 0)), zm 29 28, zw 29 true 30 (.fad (.t 1) 0), zw 29 true 31 (.ld false 1 (.t 30)), ⟨some (29, true), some 32, .call (.c (.fn 72 [] [])) [((.t 31), .id)]⟩, zv 33 (.pick (.t 29) (.t 32) (.c (.bool false))), zm 2 33]
def k0h : IC := (.seq qbdf (.seq (.block 0 (.seq qbe4 (.cond (.t 3) (.seq qbfe .ret) (.seq qbik (.cond (.t 10) (.seq qbed .ret) (.seq qbh6 (.cond (.t 17) (.seq qbhm .ret) .skip))))))) (.seq qbgo .ret)))
@[go_sem] def s0h : List (RV × Co) := [(.t 2, .id)]
theorem c0h : cFun Try.prog 89 = some (34, k0h, s0h) := by kernel_rfl

def qbfj : IC := zr [zv 4 (.mov (zc 0))]
def qbiu : IC := zr [zm 6 0, zv 7 (.len false (.t 6)), zv 8 (.mov (zc 0))]
def qbf7 : IC := zr [zv 9 (.bin .lss .no (.t 8) (.t 7))]
def qbdh : IC := zr [zm 10 8, zm 5 10]
def qbim : IC := zr [zm 11 1, zm 12 0, zm 13 5, zv 14 (.iad 1 (.t 12) (.t 13)), zv 15 (.ld false 1 (.t 14)), zv 16 (.bin .eql .no (.t 11) (.t 15))]
def qbdr : IC := zr [zm 17 5, zm 4 17]
def qbhs : IC := zr [zv 18 (.bin .add .no (.t 8) (zc 1)), zm 8 18]
def qbg3 : IC := (.seq qbf7 (.seq (.cond (.t 9) .skip (.exit 0)) (.seq (.block 1 (.seq qbdh (.seq qbim (.cond (.t 16) (.seq qbdr .ret) .skip)))) qbhs)))
def qbgc : IC := zr [zv 4 (.mov (zc (-1)))]
def k0a : IC := (.seq qbfj (.seq (.seq qbiu (.block 0 (.loop qbg3))) (.seq qbgc .ret)))
@[go_sem] def s0a : List (RV × Co) := [(.t 4, .id)]
theorem c0a : cFun Try.prog 100 = some (19, k0a, s0a) := by kernel_rfl

def qbcw : IC := zr [zv 2 zf]
def qbd2 : IC := zr [zm 3 0, zv 4 (.bin .geq .no (.t 3) (.c (.int .u8 65))), zm 5 4, zw 5 true 6 (.mov (.t 0)), zw 5 true 7 (.bin .leq .no (.t 6) (.c (.int .u8 90))), zv 8 (.pick (.t 5) (.t 7) (.c (.bool false))), zm 2 8]
def k0p : IC := (.seq qbcw (.seq qbd2 .ret))
@[go_sem] def s0p : List (RV × Co) := [(.t 2, .id)]
theorem c0p : cFun Try.prog 106 = some (9, k0p, s0p) := by kernel_rfl

def qbev : IC := zr [zv 2 zf]
def qbgv : IC := zr [zm 5 0, zv 6 (.len true (.t 5)), zv 7 (.mov (zc 0))]
def qbdc : IC := zr [zv 8 (.bin .lss .no (.t 7) (.t 6))]
def qbcv : IC := zr [zm 9 7, zm 3 9]
def qbig : IC := zr [zm 10 0, zm 11 3, zv 12 (.idx (.t 10) (.t 11)), zm 4 12]
def qbhl : IC := zr [zm 13 4, zi 14 (.call (.c (.fn 128 [] [])) [((.t 13), .id)]), zv 15 (.un .not (.t 14)), zm 16 15, zw 16 true 17 (.mov (.t 4)), ⟨some (16, true), some 18, .call (.c (.fn 106 [] [])) [((.t 17), .id)]⟩, zw 16 true 19 (.un .not (.t 18)), zv 20 (.pick (.t 16) (.t 19) (.c (.bool false))), zm 21 20, zw 21 true 22 (.mov (.t 4)), zw 21 true 23 (.bin .lss .no (.t 22) (.c (.int .u8 48))), zw 21 true 24 (.mov (.t 23)), zw 24 false 25 (.mov (.t 4)), zw 24 false 26 (.bin .gtr .no (.t 25) (.c (.int .u8 57))), zw 21 true 27 (.pick (.t 24) (.c (.bool true)) (.t 26)), zv 28 (.pick (.t 21) (.t 27) (.c (.bool false))), zm 29 28, zw 29 true 30 (.mov (.t 4)), zw 29 true 31 (.bin .neq .no (.t 30) (.c (.int .u8 39))), zv 32 (.pick (.t 29) (.t 31) (.c (.bool false)))]
def qbfm : IC := zr [zv 2 zf]
def qbft : IC := zr [zv 33 (.bin .add .no (.t 7) (zc 1)), zm 7 33]
def qbcx : IC := (.seq qbdc (.seq (.cond (.t 8) .skip (.exit 0)) (.seq (.block 1 (.seq qbcv (.seq qbig (.seq qbhl (.cond (.t 32) (.seq qbfm .ret) .skip))))) qbft)))
def q54 : IC := zr [zv 2 (.mov (.c (.bool true)))]
def k0t : IC := (.seq qbev (.seq (.seq qbgv (.block 0 (.loop qbcx))) (.seq q54 .ret)))
@[go_sem] def s0t : List (RV × Co) := [(.t 2, .id)]
theorem c0t : cFun Try.prog 107 = some (34, k0t, s0t) := by kernel_rfl

def q9f : IC := zr [zi 1 (.box (.t 0)), zv 2 (.mov (.c (.str [])))]
def q2k : IC := zr [zv 6 (.fad (.t 1) 0), zv 7 (.ld false 1 (.t 6)), zv 8 (.bin .eql .no (.t 7) (.c (.str [45, 62])))]
def q5h : IC := .drw [zp (zv 9 (.fad (.t 1) 2)), zp (zv 10 (.ld false 1 (.t 9))), zp (zv 11 (.iad 3 (.t 10) (zc 0))), zp (zv 12 (.ld true 3 (.t 11))), zp (zv 13 (.fad (.t 1) 2)), zp (zv 14 (.ld false 1 (.t 13))), zp (zv 15 (.iad 3 (.t 14) (zc 0))), zp (zv 16 (.fad (.t 15) 0)), zp (zv 17 (.ld false 1 (.t 16))), (zv 18 (.bin .eql .no (.t 17) (.c (.str [45, 62]))), []), (zi 19 (.call (.c (.fn 129 [] [])) [((.t 12), (.agg [.id, .id, (.sl 3)])), ((.t 18), .id)]), []), (zv 20 (.bin .add .no (.t 19) (.c (.str [32, 45, 62, 32]))), []), zp (zv 21 (.fad (.t 1) 2)), (zv 22 (.ld false 1 (.t 21)), [10]), zp (zv 23 (.iad 3 (.t 22) (zc 1))), (zv 24 (.ld true 3 (.t 23)), [10]), (zi 25 (.call (.c (.fn 109 [] [])) [((.t 24), (.agg [.id, .id, (.sl 3)]))]), []), zp (zv 26 (.bin .add .no (.t 20) (.t 25))), zp (zm 2 26)]
def q5t : IC := zr [zi 3 (.bld 125 5)]
def q9q : IC := zr [zv 27 (.ld true 3 (.t 1)), zi 28 (.call (.c (.fn 88 [] [])) [((.t 27), (.agg [.id, .id, (.sl 3)]))]), zi 29 (.call (.c (.fn 130 [] [])) [((.t 28), .id)]), zi 30 (.call (.c (.fn 102 [] [])) [((.t 3), (.agg [.id, (.sl 1)])), ((.t 29), .id)])]
def q42 : IC := zr [zv 31 (.fad (.t 1) 2), zv 32 (.ld false 1 (.t 31)), zv 33 (.len false (.t 32)), zv 34 (.mov (zc 0))]
def q4h : IC := zr [zv 35 (.bin .lss .no (.t 34) (.t 33))]
def qbb9 : IC := zr [zv 36 (.iad 3 (.t 32) (.t 34)), zv 37 (.ld true 3 (.t 36)), zi 5 (.alo [(.str []), (.int .i64 0), .nils]), zn (.st 3 (.agg [.id, .id, (.sl 3)]) (.t 5) (.t 37))]
def q2b : IC := zr [zv 38 (.ld true 3 (.t 5)), zv 39 (.fad (.t 5) 2), zv 40 (.ld false 1 (.t 39)), zv 41 (.len false (.t 40)), zv 42 (.bin .gtr .no (.t 41) (zc 0)), zi 43 (.call (.c (.fn 129 [] [])) [((.t 38), (.agg [.id, .id, (.sl 3)])), ((.t 42), .id)]), zv 44 (.bin .add .no (.c (.str [32])) (.t 43)), zi 45 (.call (.c (.fn 102 [] [])) [((.t 3), (.agg [.id, (.sl 1)])), ((.t 44), .id)])]
def qyr : IC := zr [zv 46 (.bin .add .no (.t 34) (zc 1)), zm 34 46]
def q72 : IC := (.seq q4h (.seq (.cond (.t 35) .skip (.exit 0)) (.seq (.block 1 (.seq qbb9 q2b)) qyr)))
def qw5 : IC := zr [zi 47 (.call (.c (.fn 103 [] [])) [((.t 3), (.agg [.id, (.sl 1)]))]), zm 2 47]
def k0bu : IC := (.seq q9f (.seq (.seq q2k (.cond (.t 8) (.seq q5h .ret) .skip)) (.seq q5t (.seq q9q (.seq (.seq q42 (.block 0 (.loop q72))) (.seq qw5 .ret))))))
@[go_sem] def s0bu : List (RV × Co) := [(.t 2, .id)]
theorem c0bu : cFun Try.prog 109 = some (48, k0bu, s0bu) := by kernel_rfl

def q86 : IC := zr [zi 1 (.box (.t 0)), zv 2 (.mov (zc 0))]
def q9t : IC := zr [zi 3 (.alo [(.int .i64 0)]), zn (.st 1 .id (.t 3) (zc 0))]
def q1x : IC := zr [zv 4 (.ld true 3 (.t 1)), zv 5 (.mfn 131 [] [(.t 3)]), zi 6 (.call (.c (.fn 86 [] [])) [((.t 4), (.agg [.id, .id, (.sl 3)])), ((zc 1), .id), ((.t 5), .id)])]
def q11 : IC := zr [zv 7 (.ld false 1 (.t 3)), zm 2 7]
def k0ca : IC := (.seq q86 (.seq q9t (.seq q1x (.seq q11 .ret))))
@[go_sem] def s0ca : List (RV × Co) := [(.t 2, .id)]
theorem c0ca : cFun Try.prog 110 = some (8, k0ca, s0ca) := by kernel_rfl

def q29 : IC := zr [zi 1 (.box (.t 0)), zv 2 (.mov (zc 0))]
def qbb7 : IC := zr [zi 3 (.alo [(.int .i64 0)]), zn (.st 1 .id (.t 3) (zc 0))]
def q08 : IC := zr [zv 4 (.ld true 3 (.t 1)), zv 5 (.mfn 132 [] [(.t 3)]), zi 6 (.call (.c (.fn 86 [] [])) [((.t 4), (.agg [.id, .id, (.sl 3)])), ((zc 1), .id), ((.t 5), .id)])]
def q0q : IC := zr [zv 7 (.ld false 1 (.t 3)), zm 2 7]
def k0cb : IC := (.seq q29 (.seq qbb7 (.seq q08 (.seq q0q .ret))))
@[go_sem] def s0cb : List (RV × Co) := [(.t 2, .id)]
theorem c0cb : cFun Try.prog 111 = some (8, k0cb, s0cb) := by kernel_rfl

def q1i : IC := zr [zi 1 (.box (.t 0)), zv 2 (.mov (zc 0))]
def q8o : IC := zr [zv 3 (.mov (zc 1))]
def q3k : IC := zr [zv 4 (.mov (zc 0))]
def qbap : IC := zr [zm 5 4, zv 6 (.fad (.t 1) 2), zv 7 (.ld false 1 (.t 6)), zv 8 (.len false (.t 7)), zv 9 (.bin .lss .no (.t 5) (.t 8))]
def q5s : IC := zr [zm 12 3, zv 13 (.fad (.t 1) 2), zv 14 (.ld false 1 (.t 13)), zm 15 4, zv 16 (.iad 3 (.t 14) (.t 15)), zv 17 (.ld true 3 (.t 16)), zi 18 (.call (.c (.fn 112 [] [])) [((.t 17), (.agg [.id, .id, (.sl 3)]))]), zv 19 (.bin .add .no (.t 12) (.t 18)), zm 3 19]
def qbai : IC := zr [zm 10 4, zv 11 (.bin .add .no (.t 10) (zc 1)), zm 4 11]
def q4m : IC := (.seq (.seq qbap (.cond (.t 9) .skip (.exit 0))) (.seq (.block 1 q5s) qbai))
def q02 : IC := zr [zm 20 3, zm 2 20]
def k0cc : IC := (.seq q1i (.seq q8o (.seq (.seq q3k (.block 0 (.loop q4m))) (.seq q02 .ret))))
@[go_sem] def s0cc : List (RV × Co) := [(.t 2, .id)]
theorem c0cc : cFun Try.prog 112 = some (21, k0cc, s0cc) := by kernel_rfl

def qbac : IC := zr [zi 1 (.box (.t 0)), zv 2 (.mov (zc 0))]
def q05 : IC := zr [zv 3 (.mov (zc 0))]
def qbbl : IC := zr [zv 4 (.mov (zc 0))]
def q67 : IC := zr [zm 5 4, zv 6 (.fad (.t 1) 2), zv 7 (.ld false 1 (.t 6)), zv 8 (.len false (.t 7)), zv 9 (.bin .lss .no (.t 5) (.t 8))]
def q7t : IC := zr [zm 12 3, zv 13 (.fad (.t 1) 2), zv 14 (.ld false 1 (.t 13)), zm 15 4, zv 16 (.iad 3 (.t 14) (.t 15)), zv 17 (.ld true 3 (.t 16)), zi 18 (.call (.c (.fn 113 [] [])) [((.t 17), (.agg [.id, .id, (.sl 3)]))]), zv 19 (.mm true (.t 12) (.t 18)), zm 3 19]
def q3r : IC := zr [zm 10 4, zv 11 (.bin .add .no (.t 10) (zc 1)), zm 4 11]
def q8j : IC := (.seq (.seq q67 (.cond (.t 9) .skip (.exit 0))) (.seq (.block 1 q7t) q3r))
def q4l : IC := zr [zm 20 3, zv 21 (.bin .add .no (.t 20) (zc 1)), zm 2 21]
def k0cd : IC := (.seq qbac (.seq q05 (.seq (.seq qbbl (.block 0 (.loop q8j))) (.seq q4l .ret))))
@[go_sem] def s0cd : List (RV × Co) := [(.t 2, .id)]
theorem c0cd : cFun Try.prog 113 = some (22, k0cd, s0cd) := by kernel_rfl

def qbb8 : IC := zr [zi 1 (.box (.t 0)), zv 2 zf]
def q3j : IC := zr [zv 3 (.mov (zc 0))]
def q8l : IC := zr [zm 5 3, zv 6 (.fad (.t 1) 2), zv 7 (.ld false 1 (.t 6)), zv 8 (.len false (.t 7)), zv 9 (.bin .lss .no (.t 5) (.t 8))]
def qbb3 : IC := zr [zv 12 (.fad (.t 1) 2), zv 13 (.ld false 1 (.t 12)), zm 14 3, zv 15 (.iad 3 (.t 13) (.t 14)), zv 16 (.ld true 3 (.t 15)), zi 17 (.call (.c (.fn 114 [] [])) [((.t 16), (.agg [.id, .id, (.sl 3)]))]), zv 18 (.un .not (.t 17))]
def q5w : IC := zr [zv 2 zf]
def q2s : IC := zr [zm 10 3, zv 11 (.bin .add .no (.t 10) (zc 1)), zm 3 11]
def q0y : IC := (.seq (.seq q8l (.cond (.t 9) .skip (.exit 0))) (.seq (.block 1 (.seq qbb3 (.cond (.t 18) (.seq q5w .ret) .skip))) q2s))
def q16 : IC := zr [zv 19 (.fad (.t 1) 2), zv 20 (.ld false 1 (.t 19)), zv 21 (.len false (.t 20)), zm 4 21]
def q2g : IC := zr [zv 23 (.fad (.t 1) 0), zv 24 (.ld false 1 (.t 23)), zv 25 (.bin .eql .no (.t 24) (.c (.str []))), zm 22 25]
def qxn : IC := zr [zm 26 4, zv 27 (.bin .eql .no (.t 26) (zc 0)), zm 2 27]
def qye : IC := zr [zv 29 (.fad (.t 1) 0), zv 30 (.ld false 1 (.t 29)), zv 31 (.bin .eql .no (.t 30) (.c (.str [45, 62]))), zm 28 31]
def qvz : IC := zr [zm 32 4, zv 33 (.bin .eql .no (.t 32) (zc 2)), zm 34 33, zw 34 true 35 (.fad (.t 1) 1), zw 34 true 36 (.ld false 1 (.t 35)), zw 34 true 37 (.bin .eql .no (.t 36) (zc 0)), zv 38 (.pick (.t 34) (.t 37) (.c (.bool false))), zm 2 38]
def qzb : IC := zr [zv 40 (.fad (.t 1) 0), zv 41 (.ld false 1 (.t 40)), zi 42 (.call (.c (.fn 133 [] [])) [((.t 41), .id)]), zm 39 42]
def qx2 : IC := zr [zm 43 4, zv 44 (.bin .eql .no (.t 43) (zc 0)), zm 45 44, zw 45 true 46 (.fad (.t 1) 1), zw 45 true 47 (.ld false 1 (.t 46)), zw 45 true 48 (.bin .eql .no (.t 47) (zc 0)), zv 49 (.pick (.t 45) (.t 48) (.c (.bool false))), zm 2 49]
def qx6 : IC := zr [zv 50 (.fad (.t 1) 0), zv 51 (.ld false 1 (.t 50)), zi 52 (.call (.c (.fn 125 [] [])) [((.t 51), .id)]), zm 53 52, zw 53 true 54 (.fad (.t 1) 1), zw 53 true 55 (.ld false 1 (.t 54)), zw 53 true 56 (.bin .eql .no (.t 55) (zc 0)), zv 57 (.pick (.t 53) (.t 56) (.c (.bool false))), zm 2 57]
def k0ce : IC := (.seq qbb8 (.seq (.seq q3j (.block 0 (.loop q0y))) (.seq q16 (.seq (.block 2 (.seq q2g (.cond (.t 22) (.seq qxn .ret) (.seq qye (.cond (.t 28) (.seq qvz .ret) (.seq qzb (.cond (.t 39) (.seq qx2 .ret) .skip))))))) (.seq qx6 .ret)))))
@[go_sem] def s0ce : List (RV × Co) := [(.t 2, .id)]
theorem c0ce : cFun Try.prog 114 = some (58, k0ce, s0ce) := by kernel_rfl

def qba8 : IC := zr [zv 6 (.mov (zc 0)), zv 7 zf]
def q0z : IC := zr [zm 12 0, zv 13 (.len false (.t 12)), zm 8 13]
def qbae : IC := zr [zm 14 8, zv 9 (.mov (zc 0)), zm 10 14]
def q5q : IC := zr [zm 15 9, zm 16 10, zv 17 (.bin .lss .no (.t 15) (.t 16))]
def qbbq : IC := zr [zm 18 9, zm 19 10, zv 20 (.bin .add .no (.t 18) (.t 19)), zv 21 (.cvi .u64 (.t 20)), zv 22 (.bin .shr .no (.t 21) (.c (.int .u64 1))), zv 23 (.cvi .i64 (.t 22)), zm 11 23]
def q9z : IC := zr [zm 24 2, zm 25 0, zm 26 11, zv 27 (.iad 4 (.t 25) (.t 26)), zv 28 (.ld true 4 (.t 27)), zm 29 1, zi 30 (.call (.t 24) [((.t 28), (.agg [.id, .id, .id, (.sl 3)])), ((.t 29), .id)]), zv 31 (.bin .lss .no (.t 30) (zc 0))]
def q7f : IC := zr [zm 32 11, zv 33 (.bin .add .no (.t 32) (zc 1)), zm 9 33]
def q3q : IC := zr [zm 34 11, zm 10 34]
def q32 : IC := (.seq (.seq q5q (.cond (.t 17) .skip (.exit 0))) (.block 1 (.seq qbbq (.seq q9z (.cond (.t 31) q7f q3q)))))
def qwb : IC := zr [zm 35 9, zm 36 9, zm 37 8, zv 38 (.bin .lss .no (.t 36) (.t 37)), zm 39 38, zw 39 true 40 (.mov (.t 2)), zw 39 true 41 (.mov (.t 0)), zw 39 true 42 (.mov (.t 9)), zw 39 true 43 (.iad 4 (.t 41) (.t 42)), zw 39 true 44 (.ld true 4 (.t 43)), zw 39 true 45 (.mov (.t 1)), ⟨some (39, true), some 46, .call (.t 40) [((.t 44), (.agg [.id, .id, .id, (.sl 3)])), ((.t 45), .id)]⟩, zw 39 true 47 (.bin .eql .no (.t 46) (zc 0)), zv 48 (.pick (.t 39) (.t 47) (.c (.bool false))), zm 6 35, zm 7 48]
def k0bm : IC := (.seq qba8 (.seq q0z (.seq qbae (.seq (.block 0 (.loop q32)) (.seq qwb .ret)))))
@[go_sem] def s0bm : List (RV × Co) := [(.t 6, .id), (.t 7, .id)]
theorem c0bm : cFun Try.prog 115 = some (49, k0bm, s0bm) := by kernel_rfl

def q6f : IC := zr [zi 2 (.box (.t 0)), zv 4 (.mov (zc 0))]
def qbaq : IC := zr [zv 6 (.fad (.t 2) 0), zv 7 (.ld false 1 (.t 6)), zm 8 1, zv 9 (.bin .lss .no (.t 7) (.t 8)), zm 5 9]
def q9r : IC := zr [zv 4 (.mov (zc (-1)))]
def qbbt : IC := zr [zv 11 (.fad (.t 2) 0), zv 12 (.ld false 1 (.t 11)), zm 13 1, zv 14 (.bin .gtr .no (.t 12) (.t 13)), zm 10 14]
def q4i : IC := zr [zv 4 (.mov (zc 1))]
def qbav : IC := zr [zv 4 (.mov (zc 0))]
def k0bo : IC := (.seq q6f (.seq (.block 0 (.seq qbaq (.cond (.t 5) (.seq q9r .ret) (.seq qbbt (.cond (.t 10) (.seq q4i .ret) .skip))))) (.seq qbav .ret)))
@[go_sem] def s0bo : List (RV × Co) := [(.t 4, .id)]
theorem c0bo : cFun Try.prog 116 = some (15, k0bo, s0bo) := by kernel_rfl

def qbih : IC := zr [zv 2 zf]
def qbgy : IC := zr [zm 5 0, zi 6 (.call (.c (.fn 135 [] [])) [((.t 5), .id), ((.c (.str [33])), .id)]), zv 7 (.un .not (.t 6))]
def qbd9 : IC := zr [zv 2 zf]
def qbg4 : IC := zr [zm 9 0, zv 10 (.sls (.t 9) (some (zc 1)) none), zi 11 (.call (.c (.fn 136 [] [])) [((.t 10), .id)]), zm 8 11, zv 12 (.ext (.t 8) 0), zv 13 (.ext (.t 8) 1), zm 3 12, zm 4 13]
def qbg1 : IC := .drw [zp (zm 14 4), zp (zv 15 (.bin .eql .no (.t 14) (zc 0))), zp (zm 16 15), zp (zw 16 true 17 (.mov (.t 3))), (⟨some (16, true), some 18, .call (.c (.fn 137 [] [])) [((.t 17), .id)]⟩, []), zp (zw 16 true 19 (.mov (.t 0))), zp (zw 16 true 20 (.sls (.t 19) (some (zc 1)) none)), zp (zw 16 true 21 (.bin .eql .no (.t 18) (.t 20))), zp (zv 22 (.pick (.t 16) (.t 21) (.c (.bool false)))), zp (zm 2 22)]
def k0f : IC := (.seq qbih (.seq (.seq qbgy (.cond (.t 7) (.seq qbd9 .ret) .skip)) (.seq qbg4 (.seq qbg1 .ret))))
@[go_sem] def s0f : List (RV × Co) := [(.t 2, .id)]
theorem c0f : cFun Try.prog 119 = some (23, k0f, s0f) := by kernel_rfl

def qbcm : IC := zr [zv 2 zf]
def qbei : IC := zr [zm 3 0, zv 4 (.bin .neq .no (.t 3) (.c (.str []))), zm 5 4, zw 5 true 6 (.mov (.t 0)), zw 5 true 7 (.idx (.t 6) (zc 0)), ⟨some (5, true), some 8, .call (.c (.fn 141 [] [])) [((.t 7), .id)]⟩, zv 9 (.pick (.t 5) (.t 8) (.c (.bool false))), zm 10 9, zw 10 true 11 (.mov (.t 0)), ⟨some (10, true), some 12, .call (.c (.fn 142 [] [])) [((.t 11), .id)]⟩, zv 13 (.pick (.t 10) (.t 12) (.c (.bool false))), zm 2 13]
def k0w : IC := (.seq qbcm (.seq qbei .ret))
@[go_sem] def s0w : List (RV × Co) := [(.t 2, .id)]
theorem c0w : cFun Try.prog 125 = some (14, k0w, s0w) := by kernel_rfl

def qbef : IC := zr [zv 2 (.mov (.c (.str [])))]
def qbeu : IC := zr [zm 5 0, zi 6 (.call (.c (.fn 143 [] [])) [((.t 5), .id)]), zm 3 6]
def qbin : IC := zr [zv 4 (.mov (.c (.str [])))]
def qbg7 : IC := zr [zm 7 3, zv 8 (.bin .gtr .no (.t 7) (.c (.int .u64 9)))]
def qbdj : IC := zr [zm 9 3, zv 10 (.bin .rem .no (.t 9) (.c (.int .u64 10))), zv 11 (.bin .add .no (.c (.int .u64 48)) (.t 10)), zv 12 (.cvi .u8 (.t 11)), zv 13 (.bsl 1 [((.t 12), .id)]), zv 14 (.cbs (.t 13)), zm 15 4, zv 16 (.bin .add .no (.t 14) (.t 15)), zm 4 16]
def qbf4 : IC := zr [zm 17 3, zv 18 (.bin .quo .no (.t 17) (.c (.int .u64 10))), zm 3 18]
def qbc0 : IC := (.seq (.seq qbg7 (.cond (.t 8) .skip (.exit 0))) (.block 1 (.seq qbdj qbf4)))
def qbix : IC := zr [zm 19 3, zv 20 (.bin .add .no (.c (.int .u64 48)) (.t 19)), zv 21 (.cvi .u8 (.t 20)), zv 22 (.bsl 1 [((.t 21), .id)]), zv 23 (.cbs (.t 22)), zm 24 4, zv 25 (.bin .add .no (.t 23) (.t 24)), zm 4 25]
def qbd8 : IC := zr [zm 26 0, zv 27 (.bin .lss .no (.t 26) (zc 0))]
def qbau : IC := zr [zm 28 4, zv 29 (.bin .add .no (.c (.str [45])) (.t 28)), zm 2 29]
def q63 : IC := zr [zm 30 4, zm 2 30]
def k0y : IC := (.seq qbef (.seq qbeu (.seq qbin (.seq (.block 0 (.loop qbc0)) (.seq qbix (.seq (.seq qbd8 (.cond (.t 27) (.seq qbau .ret) .skip)) (.seq q63 .ret)))))))
@[go_sem] def s0y : List (RV × Co) := [(.t 2, .id)]
theorem c0y : cFun Try.prog 127 = some (31, k0y, s0y) := by kernel_rfl

def qbde : IC := zr [zv 2 zf]
def qbh9 : IC := zr [zm 3 0, zv 4 (.bin .geq .no (.t 3) (.c (.int .u8 97))), zm 5 4, zw 5 true 6 (.mov (.t 0)), zw 5 true 7 (.bin .leq .no (.t 6) (.c (.int .u8 122))), zv 8 (.pick (.t 5) (.t 7) (.c (.bool false))), zm 9 8, zw 9 false 10 (.mov (.t 0)), zw 9 false 11 (.bin .eql .no (.t 10) (.c (.int .u8 95))), zv 12 (.pick (.t 9) (.c (.bool true)) (.t 11)), zm 2 12]
def k0n : IC := (.seq qbde (.seq qbh9 .ret))
@[go_sem] def s0n : List (RV × Co) := [(.t 2, .id)]
theorem c0n : cFun Try.prog 128 = some (13, k0n, s0n) := by kernel_rfl

def q9j : IC := zr [zi 2 (.box (.t 0)), zv 4 (.mov (.c (.str [])))]
def q36 : IC := zr [zm 5 1]
def q8c : IC := zr [zv 6 (.ld true 3 (.t 2)), zi 7 (.call (.c (.fn 109 [] [])) [((.t 6), (.agg [.id, .id, (.sl 3)]))]), zv 8 (.bin .add .no (.c (.str [40])) (.t 7)), zv 9 (.bin .add .no (.t 8) (.c (.str [41]))), zm 4 9]
def q2m : IC := zr [zv 10 (.ld true 3 (.t 2)), zi 11 (.call (.c (.fn 109 [] [])) [((.t 10), (.agg [.id, .id, (.sl 3)]))]), zm 4 11]
def k0bt : IC := (.seq q9j (.seq (.seq q36 (.cond (.t 5) (.seq q8c .ret) .skip)) (.seq q2m .ret)))
@[go_sem] def s0bt : List (RV × Co) := [(.t 4, .id)]
theorem c0bt : cFun Try.prog 129 = some (12, k0bt, s0bt) := by kernel_rfl

def qba4 : IC := zr [zi 1 (.box (.t 0)), zv 2 (.mov (.c (.str [])))]
def q0o : IC := zr [zv 4 (.fad (.t 1) 0), zv 5 (.ld false 1 (.t 4)), zv 6 (.bin .neq .no (.t 5) (.c (.str []))), zm 3 6]
def q9u : IC := zr [zv 7 (.fad (.t 1) 0), zv 8 (.ld false 1 (.t 7)), zm 2 8]
def q7h : IC := zr [zv 10 (.fad (.t 1) 1), zv 11 (.ld false 1 (.t 10)), zv 12 (.bin .geq .no (.t 11) (zc 0)), zm 9 12]
def qbbg : IC := zr [zv 13 (.fad (.t 1) 1), zv 14 (.ld false 1 (.t 13)), zi 15 (.call (.c (.fn 144 [] [])) [((.t 14), .id)]), zm 2 15]
def q31 : IC := zr [zv 16 (.fad (.t 1) 1), zv 17 (.ld false 1 (.t 16)), zv 18 (.bin .sub .no (zc (-1)) (.t 17)), zi 19 (.call (.c (.fn 137 [] [])) [((.t 18), .id)]), zv 20 (.bin .add .no (.c (.str [63])) (.t 19)), zm 2 20]
def k0bs : IC := (.seq qba4 (.seq (.block 0 (.seq q0o (.cond (.t 3) (.seq q9u .ret) (.seq q7h (.cond (.t 9) (.seq qbbg .ret) .skip))))) (.seq q31 .ret)))
@[go_sem] def s0bs : List (RV × Co) := [(.t 2, .id)]
theorem c0bs : cFun Try.prog 130 = some (21, k0bs, s0bs) := by kernel_rfl

def q1p : IC := zr [zi 3 (.box (.t 0)), zv 5 zf]
def q14 : IC := zr [zv 6 (.ld false 1 (.t 2)), zv 7 (.bin .add .no (.t 6) (zc 1)), zn (.st 1 .id (.t 2) (.t 7))]
def q8z : IC := zr [zv 5 (.mov (.c (.bool true)))]
def k0bx : IC := (.seq q1p (.seq q14 (.seq q8z .ret)))
@[go_sem] def s0bx : List (RV × Co) := [(.t 5, .id)]
theorem c0bx : cFun Try.prog 131 = some (8, k0bx, s0bx) := by kernel_rfl

def q0w : IC := zr [zi 3 (.box (.t 0)), zv 5 zf]
def q6a : IC := zr [zv 6 (.ld false 1 (.t 2)), zm 7 1, zv 8 (.mm true (.t 6) (.t 7)), zn (.st 1 .id (.t 2) (.t 8))]
def q9w : IC := zr [zv 5 (.mov (.c (.bool true)))]
def k0by : IC := (.seq q0w (.seq q6a (.seq q9w .ret)))
@[go_sem] def s0by : List (RV × Co) := [(.t 5, .id)]
theorem c0by : cFun Try.prog 132 = some (9, k0by, s0by) := by kernel_rfl

def qbg6 : IC := zr [zv 2 zf]
def qbhi : IC := zr [zm 5 0, zv 6 (.bin .eql .no (.t 5) (.c (.str []))), zm 7 6, zw 7 false 8 (.mov (.t 0)), zw 7 false 9 (.idx (.t 8) (zc 0)), zw 7 false 10 (.bin .neq .no (.t 9) (.c (.int .u8 33))), zv 11 (.pick (.t 7) (.c (.bool true)) (.t 10))]
def qbgt : IC := zr [zv 2 zf]
def qbcn : IC := zr [zm 13 0, zv 14 (.sls (.t 13) (some (zc 1)) none), zi 15 (.call (.c (.fn 145 [] [])) [((.t 14), .id)]), zm 12 15, zv 16 (.ext (.t 12) 0), zv 17 (.ext (.t 12) 1), zm 3 16, zm 4 17]
def qbff : IC := .drw [zp (zm 18 4), zp (zv 19 (.bin .eql .no (.t 18) (zc 0))), zp (zm 20 19), zp (zw 20 true 21 (.mov (.t 3))), (⟨some (20, true), some 22, .call (.c (.fn 127 [] [])) [((.t 21), .id)]⟩, []), zp (zw 20 true 23 (.mov (.t 0))), zp (zw 20 true 24 (.sls (.t 23) (some (zc 1)) none)), zp (zw 20 true 25 (.bin .eql .no (.t 22) (.t 24))), zp (zv 26 (.pick (.t 20) (.t 25) (.c (.bool false)))), zp (zm 2 26)]
def k0g : IC := (.seq qbg6 (.seq (.seq qbhi (.cond (.t 11) (.seq qbgt .ret) .skip)) (.seq qbcn (.seq qbff .ret))))
@[go_sem] def s0g : List (RV × Co) := [(.t 2, .id)]
theorem c0g : cFun Try.prog 133 = some (27, k0g, s0g) := by kernel_rfl

def qbdg : IC := zr [zv 4 zf]
def qbew : IC := zr [zm 5 0, zm 6 1, zi 7 (.call (.c (.fn 147 [] [])) [((.t 5), .id), ((.t 6), .id)]), zm 4 7]
def k0k : IC := (.seq qbdg (.seq qbew .ret))
@[go_sem] def s0k : List (RV × Co) := [(.t 4, .id)]
theorem c0k : cFun Try.prog 135 = some (8, k0k, s0k) := by kernel_rfl

def qbce : IC := zr [zv 2 (.mov (zc 0)), zv 3 (.mov (zc 0))]
def qbhh : IC := zr [zm 8 0, zv 9 (.len true (.t 8)), zv 10 (.mov (zc 0))]
def qbh4 : IC := zr [zv 11 (.bin .lss .no (.t 10) (.t 9))]
def qbf3 : IC := zr [zm 12 10, zm 4 12]
def qbdl : IC := zr [zm 13 0, zm 14 4, zv 15 (.idx (.t 13) (.t 14)), zv 16 (.bin .lss .no (.t 15) (.c (.int .u8 48))), zm 17 16, zw 17 false 18 (.mov (.t 0)), zw 17 false 19 (.mov (.t 4)), zw 17 false 20 (.idx (.t 18) (.t 19)), zw 17 false 21 (.bin .gtr .no (.t 20) (.c (.int .u8 57))), zv 22 (.pick (.t 17) (.c (.bool true)) (.t 21))]
def qbcg : IC := zr [zv 2 (.mov (zc 0)), zv 3 (.mov (zc 5))]
def qbhf : IC := zr [zv 23 (.bin .add .no (.t 10) (zc 1)), zm 10 23]
def qbht : IC := (.seq qbh4 (.seq (.cond (.t 11) .skip (.exit 0)) (.seq (.block 1 (.seq qbf3 (.seq qbdl (.cond (.t 22) (.seq qbcg .ret) .skip)))) qbhf)))
def qbes : IC := zr [zm 24 0, zv 25 (.bin .eql .no (.t 24) (.c (.str [])))]
def qbat : IC := zr [zv 2 (.mov (zc 0)), zv 3 (.mov (zc 5))]
def qbbi : IC := zr [zv 5 (.mov (zc 0)), zv 6 (.mov (zc 0))]
def q5k : IC := zr [zm 26 0, zm 27 6, zv 28 (.idx (.t 26) (.t 27)), zv 29 (.bin .sub .no (.t 28) (.c (.int .u8 48))), zv 30 (.cvi .i64 (.t 29)), zm 7 30]
def qbaz : IC := zr [zm 31 5, zm 32 7, zv 33 (.bin .sub .no (zc 9223372036854775807) (.t 32)), zv 34 (.bin .quo .no (.t 33) (zc 10)), zv 35 (.bin .gtr .no (.t 31) (.t 34))]
def q9p : IC := zr [zv 2 (.mov (zc 0)), zv 3 (.mov (zc 4))]
def q2c : IC := zr [zm 36 5, zv 37 (.bin .mul .no (zc 10) (.t 36)), zm 38 7, zv 39 (.bin .add .no (.t 37) (.t 38)), zm 5 39]
def q3a : IC := zr [zm 40 6, zv 41 (.bin .add .no (.t 40) (zc 1)), zm 6 41]
def q5r : IC := zr [zm 42 6, zm 43 0, zv 44 (.len true (.t 43)), zv 45 (.bin .lss .no (.t 42) (.t 44))]
def q1s : IC := zr [zm 46 5, zm 2 46, zv 3 (.mov (zc 0))]
def k0m : IC := (.seq qbce (.scope (.seq (.seq qbhh (.block 0 (.loop qbht))) (.seq (.seq qbes (.cond (.t 25) (.seq qbat .ret) .skip)) (.seq qbbi (.seq (.label 0) (.seq q5k (.seq (.seq qbaz (.cond (.t 35) (.seq q9p .ret) .skip)) (.seq q2c (.seq (.seq q3a (.seq q5r (.cond (.t 45) (.goto 0) .skip))) (.seq q1s .ret)))))))))))
@[go_sem] def s0m : List (RV × Co) := [(.t 2, .id), (.t 3, .id)]
theorem c0m : cFun Try.prog 136 = some (47, k0m, s0m) := by kernel_rfl

def qbcl : IC := zr [zv 2 (.mov (.c (.str [])))]
def qbf2 : IC := zr [zm 6 0, zv 7 (.cvi .u64 (.t 6)), zm 3 7]
def qbia : IC := zr [zm 8 0, zv 9 (.bin .lss .no (.t 8) (zc 0))]
def qbit : IC := zr [zm 10 3, zv 11 (.un .neg (.t 10)), zm 3 11]
def qbcy : IC := zr [zi 4 (.alo [(.int .u8 0), (.int .u8 0), (.int .u8 0), (.int .u8 0), (.int .u8 0), (.int .u8 0), (.int .u8 0), (.int .u8 0), (.int .u8 0), (.int .u8 0), (.int .u8 0), (.int .u8 0), (.int .u8 0), (.int .u8 0), (.int .u8 0), (.int .u8 0), (.int .u8 0), (.int .u8 0), (.int .u8 0), (.int .u8 0)])]
def qbdq : IC := zr [zv 5 (.mov (zc 20))]
def qbe5 : IC := zr [zm 12 5, zv 13 (.bin .sub .no (.t 12) (zc 1)), zm 5 13]
def qbc5 : IC := zr [zm 14 5, zm 15 3, zv 16 (.bin .rem .no (.t 15) (.c (.int .u64 10))), zv 17 (.bin .add .no (.c (.int .u64 48)) (.t 16)), zv 18 (.cvi .u8 (.t 17)), zv 19 (.aad 1 20 (.t 4) (.t 14)), zn (.st 1 .id (.t 19) (.t 18))]
def qbe2 : IC := zr [zm 20 3, zv 21 (.bin .quo .no (.t 20) (.c (.int .u64 10))), zm 3 21]
def qbar : IC := zr [zm 22 3, zv 23 (.bin .eql .no (.t 22) (.c (.int .u64 0)))]
def qbhw : IC := (.block 1 (.seq qbe5 (.seq qbc5 (.seq qbe2 (.seq qbar (.cond (.t 23) (.exit 0) .skip))))))
def q6o : IC := zr [zm 24 0, zv 25 (.bin .lss .no (.t 24) (zc 0))]
def q6j : IC := zr [zm 26 5, zv 27 (.sla 20 (.t 4) (.t 26)), zv 28 (.cbs (.t 27)), zv 29 (.bin .add .no (.c (.str [45])) (.t 28)), zm 2 29]
def q64 : IC := zr [zm 30 5, zv 31 (.sla 20 (.t 4) (.t 30)), zv 32 (.cbs (.t 31)), zm 2 32]
def k0z : IC := (.seq qbcl (.seq qbf2 (.seq (.seq qbia (.cond (.t 9) qbit .skip)) (.seq qbcy (.seq qbdq (.seq (.block 0 (.loop qbhw)) (.seq (.seq q6o (.cond (.t 25) (.seq q6j .ret) .skip)) (.seq q64 .ret))))))))
@[go_sem] def s0z : List (RV × Co) := [(.t 2, .id)]
theorem c0z : cFun Try.prog 137 = some (33, k0z, s0z) := by kernel_rfl

def qbfp : IC := zr [zv 2 zf]
def qbh8 : IC := zr [zm 3 0, zv 4 (.bin .geq .no (.t 3) (.c (.int .u8 65))), zm 5 4, zw 5 true 6 (.mov (.t 0)), zw 5 true 7 (.bin .leq .no (.t 6) (.c (.int .u8 90))), zv 8 (.pick (.t 5) (.t 7) (.c (.bool false))), zm 2 8]
def k0q : IC := (.seq qbfp (.seq qbh8 .ret))
@[go_sem] def s0q : List (RV × Co) := [(.t 2, .id)]
theorem c0q : cFun Try.prog 141 = some (9, k0q, s0q) := by kernel_rfl

def qbh0 : IC := zr [zv 2 zf]
def qbeq : IC := zr [zv 3 (.mov (zc 1))]
def qbdm : IC := zr [zm 4 3, zm 5 0, zv 6 (.len true (.t 5)), zv 7 (.bin .lss .no (.t 4) (.t 6))]
def qbds : IC := zr [zm 10 0, zm 11 3, zv 12 (.idx (.t 10) (.t 11)), zi 13 (.call (.c (.fn 152 [] [])) [((.t 12), .id)]), zv 14 (.un .not (.t 13))]
def qbfq : IC := zr [zv 2 zf]
def qbc3 : IC := zr [zm 8 3, zv 9 (.bin .add .no (.t 8) (zc 1)), zm 3 9]
def qbec : IC := (.seq (.seq qbdm (.cond (.t 7) .skip (.exit 0))) (.seq (.block 1 (.seq qbds (.cond (.t 14) (.seq qbfq .ret) .skip))) qbc3))
def qbdk : IC := zr [zv 2 (.mov (.c (.bool true)))]
def k0u : IC := (.seq qbh0 (.seq (.seq qbeq (.block 0 (.loop qbec))) (.seq qbdk .ret)))
@[go_sem] def s0u : List (RV × Co) := [(.t 2, .id)]
theorem c0u : cFun Try.prog 142 = some (15, k0u, s0u) := by kernel_rfl

def qbgl : IC := zr [zv 2 (.mov (.c (.int .u64 0)))]
def qbg8 : IC := zr [zm 3 0, zv 4 (.bin .lss .no (.t 3) (zc 0))]
def qbcu : IC := zr [zm 5 0, zv 6 (.cvi .u64 (.t 5)), zv 7 (.un .neg (.t 6)), zm 2 7]
def qbie : IC := zr [zm 8 0, zv 9 (.cvi .u64 (.t 8)), zm 2 9]
def k0x : IC := (.seq qbgl (.seq (.seq qbg8 (.cond (.t 4) (.seq qbcu .ret) .skip)) (.seq qbie .ret)))
@[go_sem] def s0x : List (RV × Co) := [(.t 2, .id)]
theorem c0x : cFun Try.prog 143 = some (10, k0x, s0x) := by kernel_rfl

def qbaj : IC := zr [zv 2 (.mov (.c (.str [])))]
def q2e : IC := zr [zm 4 0, zv 5 (.bin .lss .no (.t 4) (zc 0))]
def qbby : IC := zr [zv 2 (.mov (.c (.str [])))]
def qbba : IC := zr [zm 6 0, zv 7 (.bin .rem .no (.t 6) (zc 26)), zv 8 (.bin .add .no (zc 97) (.t 7)), zv 9 (.cvi .u8 (.t 8)), zv 10 (.bsl 1 [((.t 9), .id)]), zv 11 (.cbs (.t 10)), zm 3 11]
def q0r : IC := zr [zm 12 0, zv 13 (.bin .lss .no (.t 12) (zc 26))]
def q65 : IC := zr [zm 14 3, zm 2 14]
def q5i : IC := zr [zm 15 3, zm 16 0, zv 17 (.bin .quo .no (.t 16) (zc 26)), zi 18 (.call (.c (.fn 137 [] [])) [((.t 17), .id)]), zv 19 (.bin .add .no (.t 15) (.t 18)), zm 2 19]
def k0ba : IC := (.seq qbaj (.seq (.seq q2e (.cond (.t 5) (.seq qbby .ret) .skip)) (.seq qbba (.seq (.seq q0r (.cond (.t 13) (.seq q65 .ret) .skip)) (.seq q5i .ret)))))
@[go_sem] def s0ba : List (RV × Co) := [(.t 2, .id)]
theorem c0ba : cFun Try.prog 144 = some (20, k0ba, s0ba) := by kernel_rfl

def qbfw : IC := zr [zv 2 (.mov (zc 0)), zv 3 (.mov (zc 0))]
def qbif : IC := zr [zm 8 0, zv 9 (.bin .eql .no (.t 8) (.c (.str [])))]
def qbd5 : IC := zr [zv 2 (.mov (zc 0)), zv 3 (.mov (zc 5))]
def qbii : IC := zr [zv 4 (.mov (zc 0))]
def qbg9 : IC := zr [zm 10 4, zm 11 0, zv 12 (.len true (.t 11)), zv 13 (.bin .lss .no (.t 10) (.t 12))]
def qbe9 : IC := zr [zm 16 0, zm 17 4, zv 18 (.idx (.t 16) (.t 17)), zv 19 (.bin .lss .no (.t 18) (.c (.int .u8 48))), zm 20 19, zw 20 false 21 (.mov (.t 0)), zw 20 false 22 (.mov (.t 4)), zw 20 false 23 (.idx (.t 21) (.t 22)), zw 20 false 24 (.bin .gtr .no (.t 23) (.c (.int .u8 57))), zv 25 (.pick (.t 20) (.c (.bool true)) (.t 24))]
def qbeo : IC := zr [zv 2 (.mov (zc 0)), zv 3 (.mov (zc 5))]
def qbea : IC := zr [zm 14 4, zv 15 (.bin .add .no (.t 14) (zc 1)), zm 4 15]
def qbh1 : IC := (.seq (.seq qbg9 (.cond (.t 13) .skip (.exit 0))) (.seq (.block 1 (.seq qbe9 (.cond (.t 25) (.seq qbeo .ret) .skip))) qbea))
def q9n : IC := zr [zv 5 (.mov (zc 0))]
def q1h : IC := zr [zv 6 (.mov (zc 0))]
def q3e : IC := zr [zm 26 6, zm 27 0, zv 28 (.len true (.t 27)), zv 29 (.bin .lss .no (.t 26) (.t 28))]
def q5y : IC := zr [zm 32 0, zm 33 6, zv 34 (.idx (.t 32) (.t 33)), zv 35 (.bin .sub .no (.t 34) (.c (.int .u8 48))), zv 36 (.cvi .i64 (.t 35)), zm 7 36]
def q30 : IC := zr [zm 37 5, zm 38 7, zv 39 (.bin .sub .no (zc 9223372036854775807) (.t 38)), zv 40 (.bin .quo .no (.t 39) (zc 10)), zv 41 (.bin .gtr .no (.t 37) (.t 40))]
def q6t : IC := zr [zv 2 (.mov (zc 0)), zv 3 (.mov (zc 4))]
def qbax : IC := zr [zm 42 5, zv 43 (.bin .mul .no (zc 10) (.t 42)), zm 44 7, zv 45 (.bin .add .no (.t 43) (.t 44)), zm 5 45]
def qbas : IC := zr [zm 30 6, zv 31 (.bin .add .no (.t 30) (zc 1)), zm 6 31]
def q3v : IC := (.seq (.seq q3e (.cond (.t 29) .skip (.exit 2))) (.seq (.block 3 (.seq q5y (.seq (.seq q30 (.cond (.t 41) (.seq q6t .ret) .skip)) qbax))) qbas))
def q6b : IC := zr [zm 46 5, zm 2 46, zv 3 (.mov (zc 0))]
def k0l : IC := (.seq qbfw (.seq (.seq qbif (.cond (.t 9) (.seq qbd5 .ret) .skip)) (.seq (.seq qbii (.block 0 (.loop qbh1))) (.seq q9n (.seq (.seq q1h (.block 2 (.loop q3v))) (.seq q6b .ret))))))
@[go_sem] def s0l : List (RV × Co) := [(.t 2, .id), (.t 3, .id)]
theorem c0l : cFun Try.prog 145 = some (47, k0l, s0l) := by kernel_rfl

def qbh2 : IC := zr [zv 4 zf]
def qbgj : IC := zr [zm 5 0, zv 6 (.len true (.t 5)), zm 7 1, zv 8 (.len true (.t 7)), zv 9 (.bin .geq .no (.t 6) (.t 8)), zm 10 9, zw 10 true 11 (.mov (.t 0)), zw 10 true 12 (.mov (.t 1)), zw 10 true 13 (.len true (.t 12)), zw 10 true 14 (.sls (.t 11) none (some (.t 13))), zw 10 true 15 (.mov (.t 1)), zw 10 true 16 (.bin .eql .no (.t 14) (.t 15)), zv 17 (.pick (.t 10) (.t 16) (.c (.bool false))), zm 4 17]
def k0j : IC := (.seq qbh2 (.seq qbgj .ret))
@[go_sem] def s0j : List (RV × Co) := [(.t 4, .id)]
theorem c0j : cFun Try.prog 147 = some (18, k0j, s0j) := by kernel_rfl

def qbfb : IC := zr [zv 2 zf]
def qbf6 : IC := zr [zm 3 0, zi 4 (.call (.c (.fn 155 [] [])) [((.t 3), .id)]), zm 5 4, zw 5 false 6 (.mov (.t 0)), ⟨some (5, false), some 7, .call (.c (.fn 141 [] [])) [((.t 6), .id)]⟩, zv 8 (.pick (.t 5) (.c (.bool true)) (.t 7)), zm 9 8, zw 9 false 10 (.mov (.t 0)), ⟨some (9, false), some 11, .call (.c (.fn 156 [] [])) [((.t 10), .id)]⟩, zv 12 (.pick (.t 9) (.c (.bool true)) (.t 11)), zm 13 12, zw 13 false 14 (.mov (.t 0)), zw 13 false 15 (.bin .eql .no (.t 14) (.c (.int .u8 39))), zv 16 (.pick (.t 13) (.c (.bool true)) (.t 15)), zm 2 16]
def k0s : IC := (.seq qbfb (.seq qbf6 .ret))
@[go_sem] def s0s : List (RV × Co) := [(.t 2, .id)]
theorem c0s : cFun Try.prog 152 = some (17, k0s, s0s) := by kernel_rfl

def qbdy : IC := zr [zv 2 zf]
def qbfg : IC := zr [zm 3 0, zv 4 (.bin .geq .no (.t 3) (.c (.int .u8 97))), zm 5 4, zw 5 true 6 (.mov (.t 0)), zw 5 true 7 (.bin .leq .no (.t 6) (.c (.int .u8 122))), zv 8 (.pick (.t 5) (.t 7) (.c (.bool false))), zm 9 8, zw 9 false 10 (.mov (.t 0)), zw 9 false 11 (.bin .eql .no (.t 10) (.c (.int .u8 95))), zv 12 (.pick (.t 9) (.c (.bool true)) (.t 11)), zm 2 12]
def k0o : IC := (.seq qbdy (.seq qbfg .ret))
@[go_sem] def s0o : List (RV × Co) := [(.t 2, .id)]
theorem c0o : cFun Try.prog 155 = some (13, k0o, s0o) := by kernel_rfl

def qbic : IC := zr [zv 2 zf]
def qbgi : IC := zr [zm 3 0, zv 4 (.bin .geq .no (.t 3) (.c (.int .u8 48))), zm 5 4, zw 5 true 6 (.mov (.t 0)), zw 5 true 7 (.bin .leq .no (.t 6) (.c (.int .u8 57))), zv 8 (.pick (.t 5) (.t 7) (.c (.bool false))), zm 2 8]
def k0r : IC := (.seq qbic (.seq qbgi .ret))
@[go_sem] def s0r : List (RV × Co) := [(.t 2, .id)]
theorem c0r : cFun Try.prog 156 = some (9, k0r, s0r) := by kernel_rfl

end Go.Proofs.Ytfpobiheiloamaa
