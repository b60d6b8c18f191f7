/- A text of this proof. -/
import Derived.Test.YtfpobiheiloamaaTaf
import Derived.Test.YtfpobiheiloamaaProg
/- The compiled code of the functions. -/
namespace Go.Proofs.Ytfpobiheiloamaa
open Go Go.V
@[reducible] def zm (d s : Nat) : GI := ⟨none, some d, .v (.mov (.t s))⟩
@[reducible] def zv (d : Nat) (x : IV) : GI := ⟨none, some d, .v x⟩
@[reducible] def zi (d : Nat) (i : I) : GI := ⟨none, some d, i⟩
@[reducible] def zn (i : I) : GI := ⟨none, none, i⟩
@[reducible] def zw (j : Nat) (b : Bool) (d : Nat) (x : IV) : GI := ⟨some (j, b), some d, .v x⟩
@[reducible] def zp (g : GI) : GI × List Nat := (g, [])
@[reducible] def zN : Co := .agg [.id, .id, .id, .id, (.sl 5)]
@[reducible] def zC : Co := .agg [(.sl 4), .id, .id, .id, .id, .id, .id, .id]
@[reducible] def zaN : I := .alo [(.int .i64 0), (.int .i64 0), (.int .i64 0), (.str []), .nils]
@[reducible] def zaC : I := .alo [.nils, (.int .i64 0), (.int .i64 0), (.int .i64 0), (.str []), (.int .i64 0), (.int .i64 0), (.int .i64 0)]
@[reducible] def zaT : I := .alo [(.int .i64 0), (.int .i64 0), (.int .i64 0), (.str [])]
@[reducible] def zZ : AV := .agg [(.int .i64 0), (.int .i64 0), (.int .i64 0), (.str []), .nils]
@[reducible] def zc (n : Int) : Opd := .c (.int .i64 n)
@[reducible] def zf : IV := .mov (.c (.bool false))
@[reducible] def zr (l : List GI) : IC := .reg false l
def qbcj : IC := zr [zi 5 (.box (.t 2)), zv 6 zf]
def qbb0 : IC := zr [zm 17 0, zi 18 (.call (.c (.fn 30 [] [])) [((.t 17), (.sl 4))]), zv 19 (.bin .eql .no (.t 18) (zc 0)), zm 20 19, zw 20 false 21 (.mov (.t 1)), ⟨some (20, false), some 22, .call (.c (.fn 30 [] [])) [((.t 21), (.sl 4))]⟩, zw 20 false 23 (.bin .eql .no (.t 22) (zc 0)), zv 24 (.pick (.t 20) (.c (.bool true)) (.t 23)), zm 25 24, zw 25 false 26 (.ld true 3 (.t 5)), zw 25 false 27 (.bsl 3 [((.t 26), (.agg [.id, .id, (.sl 3)]))]), ⟨some (25, false), some 28, .call (.c (.fn 31 [] [])) [((.t 27), (.sl 3))]⟩, zw 25 false 29 (.bin .eql .no (.t 28) (zc 0)), zv 30 (.pick (.t 25) (.c (.bool true)) (.t 29))]
def q89 : IC := zr [zi 31 (.call (.c (.fn 32 [] [])) []), zm 6 31]
def q7t : IC := zr [zm 32 0, zi 33 (.call (.c (.fn 33 [] [])) [((.t 32), (.sl 4))]), zm 34 1, zi 35 (.call (.c (.fn 33 [] [])) [((.t 34), (.sl 4))]), zm 7 33, zm 8 35]
def q6i : IC := zr [zm 37 7, zm 38 8, zi 39 (.call (.c (.fn 46 [] [])) [((.t 37), .id), ((.t 38), .id)]), zm 36 39, zv 40 (.ext (.t 36) 0), zv 41 (.ext (.t 36) 1), zm 9 40, zm 10 41]
def qbb2 : IC := zr [zm 43 7, zv 44 (.ld true 3 (.t 5)), zi 45 (.call (.c (.fn 35 [] [])) [((.t 43), .id), ((.t 44), (.agg [.id, .id, (.sl 3)]))]), zm 42 45, zv 46 (.ext (.t 42) 0), zv 47 (.ext (.t 42) 1), zi 11 (.alo [(.str []), (.int .i64 0), .nils]), zn (.st 3 (.agg [.id, .id, (.sl 3)]) (.t 11) (.t 46)), zm 12 47]
def q93 : IC := zr [zm 48 10, zv 49 (.bin .neq .no (.t 48) (zc 0)), zm 50 49, zw 50 false 51 (.mov (.t 12)), zw 50 false 52 (.bin .neq .no (.t 51) (zc 0)), zv 53 (.pick (.t 50) (.c (.bool true)) (.t 52))]
def q8o : IC := zr [zm 54 12, zv 55 (.bin .eql .no (.t 54) (zc 0)), zm 56 55, zw 56 false 57 (.fad (.t 11) 2), zw 56 false 58 (.ld false 1 (.t 57)), zw 56 false 59 (.len false (.t 58)), zw 56 false 60 (.bin .eql .no (.t 59) (zc 0)), zv 61 (.pick (.t 56) (.c (.bool true)) (.t 60)), zm 62 61, ⟨some (62, true), some 63, .call (.c (.fn 32 [] [])) []⟩, zv 64 (.pick (.t 62) (.t 63) (.c (.bool false))), zm 6 64]
def qba0 : IC := zr [zm 66 8, zv 67 (.ld true 3 (.t 11)), zi 68 (.call (.c (.fn 35 [] [])) [((.t 66), .id), ((.t 67), (.agg [.id, .id, (.sl 3)]))]), zm 65 68, zv 69 (.ext (.t 65) 0), zv 70 (.ext (.t 65) 1), zi 13 (.alo [(.str []), (.int .i64 0), .nils]), zn (.st 3 (.agg [.id, .id, (.sl 3)]) (.t 13) (.t 69)), zm 14 70]
def q84 : IC := zr [zm 72 9, zv 73 (.ld true 3 (.t 5)), zi 74 (.call (.c (.fn 35 [] [])) [((.t 72), .id), ((.t 73), (.agg [.id, .id, (.sl 3)]))]), zm 71 74, zv 75 (.ext (.t 71) 0), zv 76 (.ext (.t 71) 1), zi 15 (.alo [(.str []), (.int .i64 0), .nils]), zn (.st 3 (.agg [.id, .id, (.sl 3)]) (.t 15) (.t 75)), zm 16 76]
def qyx : IC := zr [zm 77 14, zv 78 (.bin .eql .no (.t 77) (zc 0)), zm 79 16, zv 80 (.bin .eql .no (.t 79) (zc 0)), zv 81 (.bin .eql .bool (.t 78) (.t 80)), zm 82 81, zw 82 true 83 (.ld true 3 (.t 13)), zw 82 true 84 (.ld true 3 (.t 15)), ⟨some (82, true), some 85, .call (.c (.fn 39 [] [])) [((.t 83), (.agg [.id, .id, (.sl 3)])), ((.t 84), (.agg [.id, .id, (.sl 3)]))]⟩, zv 86 (.pick (.t 82) (.t 85) (.c (.bool false))), zm 87 86, ⟨some (87, true), some 88, .call (.c (.fn 32 [] [])) []⟩, zv 89 (.pick (.t 87) (.t 88) (.c (.bool false))), zm 6 89]
def k0u : IC := (.seq qbcj (.seq (.seq qbb0 (.cond (.t 30) (.seq q89 .ret) .skip)) (.seq q7t (.seq q6i (.seq qbb2 (.seq (.seq q93 (.cond (.t 53) (.seq q8o .ret) .skip)) (.seq qba0 (.seq q84 (.seq qyx .ret)))))))))
@[go_sem] def s0u : List (RV × Co) := [(.t 6, .id)]
theorem c0u : cFun Try.prog 8 = some (90, k0u, s0u) := by kernel_rfl

def q7z : IC := zr [zv 2 (.mov (zc 0))]
def qbak : IC := zr [zm 5 0, zv 6 (.len false (.t 5)), zv 7 (.bin .gtr .no (.t 6) (zc 30))]
def qbbd : IC := zr [zv 2 (.mov (zc 0))]
def qbaz : IC := zr [zv 3 (.mov (.c .nils))]
def q6w : IC := zr [zv 4 (.mov (zc 0))]
def qbb4 : IC := zr [zm 8 4, zm 9 0, zv 10 (.len false (.t 9)), zv 11 (.bin .lss .no (.t 8) (.t 10))]
def q9d : IC := zr [zm 14 3, zm 15 0, zm 16 4, zv 17 (.iad 4 (.t 15) (.t 16)), zv 18 (.fad (.t 17) 1), zv 19 (.ld true 3 (.t 18)), zv 20 (.bsl 3 [((.t 19), (.agg [.id, .id, (.sl 3)]))]), zi 21 (.app 3 (.agg [(.str []), (.int .i64 0), .nils]) 48 (.sl 3) (.t 14) (.t 20)), zm 3 21]
def qbca : IC := zr [zm 12 4, zv 13 (.bin .add .no (.t 12) (zc 1)), zm 4 13]
def q5g : IC := (.seq (.seq qbb4 (.cond (.t 11) .skip (.exit 0))) (.seq (.block 1 q9d) qbca))
def q4j : IC := zr [zm 22 3, zi 23 (.call (.c (.fn 31 [] [])) [((.t 22), (.sl 3))]), zm 2 23]
def k0w : IC := (.seq q7z (.seq (.seq qbak (.cond (.t 7) (.seq qbbd .ret) .skip)) (.seq qbaz (.seq (.seq q6w (.block 0 (.loop q5g))) (.seq q4j .ret)))))
@[go_sem] def s0w : List (RV × Co) := [(.t 2, .id)]
theorem c0w : cFun Try.prog 30 = some (24, k0w, s0w) := by kernel_rfl

def q4q : IC := zr [zv 2 (.mov (zc 0))]
def qzv : IC := zr [zv 3 (.mov (zc 20000))]
def q1a : IC := zr [zv 4 (.mov (zc 0))]
def q31 : IC := zr [zm 5 4, zm 6 0, zv 7 (.len false (.t 6)), zv 8 (.bin .lss .no (.t 5) (.t 7))]
def q3o : IC := zr [zm 11 0, zm 12 4, zv 13 (.iad 3 (.t 11) (.t 12)), zv 14 (.ld true 3 (.t 13)), zm 15 3, zi 16 (.call (.c (.fn 77 [] [])) [((.t 14), (.agg [.id, .id, (.sl 3)])), ((.t 15), .id), ((zc 300), .id)]), zm 3 16]
def q3l : IC := zr [zm 9 4, zv 10 (.bin .add .no (.t 9) (zc 1)), zm 4 10]
def q25 : IC := (.seq (.seq q31 (.cond (.t 8) .skip (.exit 0))) (.seq (.block 1 q3o) q3l))
def qy0 : IC := zr [zm 17 3, zv 18 (.bin .lss .no (.t 17) (zc 0))]
def q2a : IC := zr [zv 2 (.mov (zc 0))]
def qu5 : IC := zr [zv 2 (.mov (zc 1))]
def k0bu : IC := (.seq q4q (.seq qzv (.seq (.seq q1a (.block 0 (.loop q25))) (.seq (.seq qy0 (.cond (.t 18) (.seq q2a .ret) .skip)) (.seq qu5 .ret)))))
@[go_sem] def s0bu : List (RV × Co) := [(.t 2, .id)]
theorem c0bu : cFun Try.prog 31 = some (19, k0bu, s0bu) := by kernel_rfl

def q9s : IC := zr [zv 0 zf]
def q9e : IC := zr [zv 11 (.bld [(.str []), (.int .i64 0), .nils] [(0, 1, (.c (.str [84])))]), zi 1 (.alo [(.str []), (.int .i64 0), .nils]), zn (.st 3 (.agg [.id, .id, (.sl 3)]) (.t 1) (.t 11))]
def q7b : IC := zr [zv 12 (.ld true 3 (.t 1)), zv 13 (.bld [(.int .i64 0), (.str []), (.int .i64 0), .nils] [(1, 3, (.t 12))]), zv 14 (.bld [(.str []), (.int .i64 0), .nils] [(0, 1, (.c (.str [85])))]), zv 15 (.bld [(.int .i64 0), (.str []), (.int .i64 0), .nils] [(1, 3, (.t 14))]), zv 16 (.bsl 4 [((.t 13), (.agg [.id, .id, .id, (.sl 3)])), ((.t 15), (.agg [.id, .id, .id, (.sl 3)]))]), zi 17 (.call (.c (.fn 33 [] [])) [((.t 16), (.sl 4))]), zm 2 17]
def qbas : IC := zr [zm 18 2, zv 19 (.bin .eql .ptr (.t 18) (.c .nilp))]
def q8p : IC := zr [zv 0 zf]
def q9t : IC := zr [zm 21 2, zv 22 (.bld [(.str []), (.int .i64 0), .nils] []), zv 23 (.bld [(.str []), (.int .i64 0), .nils] [(1, 1, (zc 1))]), zv 24 (.bsl 3 [((.t 22), (.agg [.id, .id, (.sl 3)])), ((.t 23), (.agg [.id, .id, (.sl 3)]))]), zv 25 (.bld [(.str []), (.int .i64 0), .nils] [(0, 1, (.c (.str [45, 62]))), (2, 1, (.t 24))]), zi 26 (.call (.c (.fn 35 [] [])) [((.t 21), .id), ((.t 25), (.agg [.id, .id, (.sl 3)]))]), zm 20 26, zv 27 (.ext (.t 20) 0), zv 28 (.ext (.t 20) 1), zi 3 (.alo [(.str []), (.int .i64 0), .nils]), zn (.st 3 (.agg [.id, .id, (.sl 3)]) (.t 3) (.t 27)), zm 4 28]
def q5s : IC := zr [zm 29 2, zv 30 (.ld true 3 (.t 1)), zi 31 (.call (.c (.fn 45 [] [])) [((.t 29), .id), ((zc 0), .id), ((.t 30), (.agg [.id, .id, (.sl 3)]))]), zm 32 2, zv 33 (.bld [(.str []), (.int .i64 0), .nils] []), zi 34 (.call (.c (.fn 45 [] [])) [((.t 32), .id), ((zc 1), .id), ((.t 33), (.agg [.id, .id, (.sl 3)]))]), zm 5 31, zm 6 34]
def qbb1 : IC := zr [zm 36 2, zv 37 (.bld [(.str []), (.int .i64 0), .nils] [(0, 1, (.c (.str [86])))]), zv 38 (.bld [(.int .i64 0), (.str []), (.int .i64 0), .nils] [(1, 3, (.t 37))]), zv 39 (.bsl 4 [((.t 38), (.agg [.id, .id, .id, (.sl 3)]))]), zi 40 (.call (.c (.fn 33 [] [])) [((.t 39), (.sl 4))]), zi 41 (.call (.c (.fn 46 [] [])) [((.t 36), .id), ((.t 40), .id)]), zm 35 41, zv 42 (.ext (.t 35) 0), zv 43 (.ext (.t 35) 1), zm 7 42, zm 8 43]
def q94 : IC := zr [zm 45 7, zi 46 (.call (.c (.fn 37 [] [])) [((.t 45), .id), ((zc 1), .id)]), zm 44 46, zv 47 (.ext (.t 44) 0), zv 48 (.ext (.t 44) 1), zi 9 (.alo [(.str []), (.int .i64 0), .nils]), zn (.st 3 (.agg [.id, .id, (.sl 3)]) (.t 9) (.t 47)), zm 10 48]
def q8d : IC := zr [zv 49 (.ld true 3 (.t 3)), zi 50 (.call (.c (.fn 75 [] [])) [((.t 49), (.agg [.id, .id, (.sl 3)]))]), zv 51 (.bin .eql .no (.t 50) (.c (.str [84, 32, 45, 62, 32, 98]))), zm 52 51, zw 52 true 53 (.mov (.t 4)), zw 52 true 54 (.bin .eql .no (.t 53) (zc 0)), zv 55 (.pick (.t 52) (.t 54) (.c (.bool false))), zm 56 55, zw 56 true 57 (.mov (.t 5)), zw 56 true 58 (.bin .eql .no (.t 57) (zc 6)), zv 59 (.pick (.t 56) (.t 58) (.c (.bool false))), zm 60 59, zw 60 true 61 (.mov (.t 6)), zw 60 true 62 (.bin .eql .no (.t 61) (zc 0)), zv 63 (.pick (.t 60) (.t 62) (.c (.bool false))), zm 64 63, zw 64 true 65 (.mov (.t 8)), zw 64 true 66 (.bin .eql .no (.t 65) (zc 0)), zv 67 (.pick (.t 64) (.t 66) (.c (.bool false))), zm 68 67, zw 68 true 69 (.fad (.t 9) 0), zw 68 true 70 (.ld false 1 (.t 69)), zw 68 true 71 (.bin .eql .no (.t 70) (.c (.str [86]))), zv 72 (.pick (.t 68) (.t 71) (.c (.bool false))), zm 73 72, zw 73 true 74 (.mov (.t 10)), zv 75 (.pick (.t 73) (.t 74) (.c (.bool false))), zm 76 75, zw 76 true 77 (.mov (.t 2)), ⟨some (76, true), some 78, .call (.c (.fn 41 [] [])) [((.t 77), .id)]⟩, zw 76 true 79 (.len false (.t 78)), zw 76 true 80 (.bin .eql .no (.t 79) (zc 2)), zv 81 (.pick (.t 76) (.t 80) (.c (.bool false))), zm 82 81, zw 82 true 83 (.mov (.t 2)), zw 82 true 84 (.bsl 1 [((zc 1), .id)]), ⟨some (82, true), some 85, .call (.c (.fn 42 [] [])) [((.t 83), .id), ((.t 84), (.sl 1))]⟩, ⟨some (82, true), some 86, .call (.c (.fn 41 [] [])) [((.t 85), .id)]⟩, zw 82 true 87 (.len false (.t 86)), zw 82 true 88 (.bin .eql .no (.t 87) (zc 1)), zv 89 (.pick (.t 82) (.t 88) (.c (.bool false))), zm 0 89]
def k0v : IC := (.seq q9s (.seq q9e (.seq q7b (.seq (.seq qbas (.cond (.t 19) (.seq q8p .ret) .skip)) (.seq q9t (.seq q5s (.seq qbb1 (.seq q94 (.seq q8d .ret)))))))))
@[go_sem] def s0v : List (RV × Co) := [(.t 0, .id)]
theorem c0v : cFun Try.prog 32 = some (90, k0v, s0v) := by kernel_rfl

def qz6 : IC := zr [zv 2 (.mov (.c .nilp))]
def q16 : IC := zr [zv 6 (.bld [.nils] []), zi 7 (.box (.t 6)), zm 3 7]
def qzl : IC := zr [zm 8 0, zv 9 (.len false (.t 8)), zv 10 (.mov (zc 0))]
def q2t : IC := zr [zv 11 (.bin .lss .no (.t 10) (.t 9))]
def q0q : IC := zr [zv 12 (.iad 4 (.t 8) (.t 10)), zv 13 (.ld true 4 (.t 12)), zi 5 (.alo [(.int .i64 0), (.str []), (.int .i64 0), .nils]), zn (.st 4 (.agg [.id, .id, .id, (.sl 3)]) (.t 5) (.t 13))]
def q2u : IC := zr [zm 14 3, zv 15 (.fad (.t 5) 0), zv 16 (.ld false 1 (.t 15)), zv 17 (.fad (.t 5) 1), zv 18 (.ld true 3 (.t 17)), zi 19 (.call (.c (.fn 45 [] [])) [((.t 14), .id), ((.t 16), .id), ((.t 18), (.agg [.id, .id, (.sl 3)]))])]
def q12 : IC := zr [zv 20 (.bin .add .no (.t 10) (zc 1)), zm 10 20]
def q2d : IC := (.seq q2t (.seq (.cond (.t 11) .skip (.exit 0)) (.seq (.block 1 (.seq q0q q2u)) q12)))
def qx2 : IC := zr [zm 21 3, zm 2 21]
def k0bb : IC := (.seq qz6 (.seq q16 (.seq (.seq qzl (.block 0 (.loop q2d))) (.seq qx2 .ret))))
@[go_sem] def s0bb : List (RV × Co) := [(.t 2, .id)]
theorem c0bb : cFun Try.prog 33 = some (22, k0bb, s0bb) := by kernel_rfl

def q4r : IC := zr [zi 3 (.box (.t 1)), zi 4 (.alo [(.str []), (.int .i64 0), .nils]), zv 5 (.mov (zc 0))]
def q1v : IC := zr [zv 8 (.ld true 3 (.t 3)), zi 9 (.call (.c (.fn 48 [] [])) [((.t 8), (.agg [.id, .id, (.sl 3)]))]), zv 10 (.un .not (.t 9))]
def qzm : IC := zr [zv 11 (.bld [(.str []), (.int .i64 0), .nils] []), zn (.st 3 (.agg [.id, .id, (.sl 3)]) (.t 4) (.t 11)), zv 5 (.mov (zc 1))]
def q0m : IC := zr [zm 12 0, zv 13 (.bld [.nilp, (.int .i64 0)] [(0, 1, (.t 12)), (1, 1, (zc 4096))]), zi 14 (.box (.t 13)), zm 6 14]
def q4f : IC := zr [zm 15 6, zv 16 (.ld true 3 (.t 3)), zi 17 (.call (.c (.fn 78 [] [])) [((.t 15), .id), ((.t 16), (.agg [.id, .id, (.sl 3)])), ((zc 1), .id)]), zi 7 (.alo [(.str []), (.int .i64 0), .nils]), zn (.st 3 (.agg [.id, .id, (.sl 3)]) (.t 7) (.t 17))]
def qyl : IC := zr [zm 18 6, zv 19 (.nck (.t 18)), zv 20 (.fad (.t 19) 1), zv 21 (.ld false 1 (.t 20)), zv 22 (.bin .lss .no (.t 21) (zc 0))]
def qy3 : IC := zr [zv 23 (.bld [(.str []), (.int .i64 0), .nils] []), zn (.st 3 (.agg [.id, .id, (.sl 3)]) (.t 4) (.t 23)), zv 5 (.mov (zc 2))]
def qz2 : IC := zr [zv 24 (.ld true 3 (.t 7)), zn (.st 3 (.agg [.id, .id, (.sl 3)]) (.t 4) (.t 24)), zv 5 (.mov (zc 0))]
def k0ba : IC := (.seq q4r (.seq (.seq q1v (.cond (.t 10) (.seq qzm .ret) .skip)) (.seq q0m (.seq q4f (.seq (.seq qyl (.cond (.t 22) (.seq qy3 .ret) .skip)) (.seq qz2 .ret))))))
@[go_sem] def s0ba : List (RV × Co) := [(.c true 3 4, (.agg [.id, .id, (.sl 3)])), (.t 5, .id)]
theorem c0ba : cFun Try.prog 35 = some (25, k0ba, s0ba) := by kernel_rfl

def q0f : IC := zr [zi 4 (.alo [(.str []), (.int .i64 0), .nils]), zv 5 zf]
def qzw : IC := zr [zm 8 0, zv 9 (.bin .eql .ptr (.t 8) (.c .nilp))]
def qz8 : IC := zr [zv 10 (.bld [(.str []), (.int .i64 0), .nils] []), zn (.st 3 (.agg [.id, .id, (.sl 3)]) (.t 4) (.t 10)), zv 5 zf]
def q1r : IC := zr [zm 12 0, zm 13 1, zi 14 (.call (.c (.fn 82 [] [])) [((.t 12), .id), ((.t 13), .id)]), zm 11 14, zv 15 (.ext (.t 11) 0), zv 16 (.ext (.t 11) 1), zm 6 15, zm 7 16]
def q3y : IC := zr [zm 17 7, zv 18 (.un .not (.t 17))]
def q0o : IC := zr [zv 19 (.bld [(.str []), (.int .i64 0), .nils] []), zn (.st 3 (.agg [.id, .id, (.sl 3)]) (.t 4) (.t 19)), zv 5 zf]
def q1h : IC := zr [zm 20 0, zv 21 (.nck (.t 20)), zv 22 (.fad (.t 21) 0), zv 23 (.ld false 1 (.t 22)), zm 24 6, zv 25 (.iad 4 (.t 23) (.t 24)), zv 26 (.fad (.t 25) 1), zv 27 (.ld true 3 (.t 26)), zn (.st 3 (.agg [.id, .id, (.sl 3)]) (.t 4) (.t 27)), zv 5 (.mov (.c (.bool true)))]
def k0be : IC := (.seq q0f (.seq (.seq qzw (.cond (.t 9) (.seq qz8 .ret) .skip)) (.seq q1r (.seq (.seq q3y (.cond (.t 18) (.seq q0o .ret) .skip)) (.seq q1h .ret)))))
@[go_sem] def s0be : List (RV × Co) := [(.c true 3 4, (.agg [.id, .id, (.sl 3)])), (.t 5, .id)]
theorem c0be : cFun Try.prog 37 = some (28, k0be, s0be) := by kernel_rfl

def qbcs : IC := zr [zi 2 (.box (.t 0)), zi 3 (.box (.t 1)), zv 4 zf]
def qbap : IC := zr [zv 6 (.fad (.t 2) 0), zv 7 (.ld false 1 (.t 6)), zv 8 (.fad (.t 3) 0), zv 9 (.ld false 1 (.t 8)), zv 10 (.bin .neq .no (.t 7) (.t 9)), zm 11 10, zw 11 false 12 (.fad (.t 2) 1), zw 11 false 13 (.ld false 1 (.t 12)), zw 11 false 14 (.fad (.t 3) 1), zw 11 false 15 (.ld false 1 (.t 14)), zw 11 false 16 (.bin .neq .no (.t 13) (.t 15)), zv 17 (.pick (.t 11) (.c (.bool true)) (.t 16)), zm 18 17, zw 18 false 19 (.fad (.t 2) 2), zw 18 false 20 (.ld false 1 (.t 19)), zw 18 false 21 (.len false (.t 20)), zw 18 false 22 (.fad (.t 3) 2), zw 18 false 23 (.ld false 1 (.t 22)), zw 18 false 24 (.len false (.t 23)), zw 18 false 25 (.bin .neq .no (.t 21) (.t 24)), zv 26 (.pick (.t 18) (.c (.bool true)) (.t 25))]
def q9v : IC := zr [zv 4 zf]
def q5p : IC := zr [zv 5 (.mov (zc 0))]
def q7v : IC := zr [zm 27 5, zv 28 (.fad (.t 2) 2), zv 29 (.ld false 1 (.t 28)), zv 30 (.len false (.t 29)), zv 31 (.bin .lss .no (.t 27) (.t 30))]
def q79 : IC := .drw [zp (zv 34 (.fad (.t 2) 2)), zp (zv 35 (.ld false 1 (.t 34))), zp (zm 36 5), zp (zv 37 (.iad 3 (.t 35) (.t 36))), zp (zv 38 (.ld true 3 (.t 37))), zp (zv 39 (.fad (.t 3) 2)), zp (zv 40 (.ld false 1 (.t 39))), zp (zm 41 5), zp (zv 42 (.iad 3 (.t 40) (.t 41))), zp (zv 43 (.ld true 3 (.t 42))), (zi 44 (.call (.c (.fn 39 [] [])) [((.t 38), (.agg [.id, .id, (.sl 3)])), ((.t 43), (.agg [.id, .id, (.sl 3)]))]), []), zp (zv 45 (.un .not (.t 44)))]
def q7o : IC := zr [zv 4 zf]
def q9r : IC := zr [zm 32 5, zv 33 (.bin .add .no (.t 32) (zc 1)), zm 5 33]
def qbb3 : IC := (.seq (.seq q7v (.cond (.t 31) .skip (.exit 0))) (.seq (.block 1 (.seq q79 (.cond (.t 45) (.seq q7o .ret) .skip))) q9r))
def q4p : IC := zr [zv 4 (.mov (.c (.bool true)))]
def k0e : IC := (.seq qbcs (.seq (.seq qbap (.cond (.t 26) (.seq q9v .ret) .skip)) (.seq (.seq q5p (.block 0 (.loop qbb3))) (.seq q4p .ret))))
@[go_sem] def s0e : List (RV × Co) := [(.t 4, .id)]
theorem c0e : cFun Try.prog 39 = some (46, k0e, s0e) := by kernel_rfl

def qba8 : IC := zr [zv 2 (.mov (.c .nils))]
def qban : IC := zr [zm 6 0, zv 7 (.bin .eql .ptr (.t 6) (.c .nilp))]
def q9q : IC := zr [zv 2 (.mov (.c .nils))]
def q8i : IC := zr [zm 8 0, zv 9 (.nck (.t 8)), zv 10 (.fad (.t 9) 0), zv 11 (.ld false 1 (.t 10)), zv 12 (.len false (.t 11)), zi 13 (.mks 4 (.agg [(.int .i64 0), (.str []), (.int .i64 0), .nils]) 56 (.t 12) (.t 12)), zm 3 13]
def q9y : IC := zr [zm 14 0, zv 15 (.nck (.t 14)), zv 16 (.fad (.t 15) 0), zv 17 (.ld false 1 (.t 16)), zv 18 (.len false (.t 17)), zv 19 (.mov (zc 0))]
def qbbj : IC := zr [zv 20 (.bin .lss .no (.t 19) (.t 18))]
def q5l : IC := zr [zm 21 19, zv 22 (.iad 4 (.t 17) (.t 19)), zv 23 (.ld true 4 (.t 22)), zi 5 (.alo [(.int .i64 0), (.str []), (.int .i64 0), .nils]), zm 4 21, zn (.st 4 (.agg [.id, .id, .id, (.sl 3)]) (.t 5) (.t 23))]
def q7c : IC := .drw [zp (zm 24 3), zp (zm 25 4), zp (zv 26 (.fad (.t 5) 0)), zp (zv 27 (.ld false 1 (.t 26))), zp (zv 28 (.fad (.t 5) 1)), zp (zv 29 (.ld true 3 (.t 28))), (zi 30 (.call (.c (.fn 83 [] [])) [((.t 29), (.agg [.id, .id, (.sl 3)]))]), [3]), (zv 31 (.bld [(.int .i64 0), (.str []), (.int .i64 0), .nils] [(0, 1, (.t 27)), (1, 3, (.t 30))]), []), zp (zv 32 (.iad 4 (.t 24) (.t 25))), (zn (.st 4 (.agg [.id, .id, .id, (.sl 3)]) (.t 32) (.t 31)), [])]
def qbbp : IC := zr [zv 33 (.bin .add .no (.t 19) (zc 1)), zm 19 33]
def q8l : IC := (.seq qbbj (.seq (.cond (.t 20) .skip (.exit 0)) (.seq (.block 1 (.seq q5l q7c)) qbbp)))
def q1u : IC := zr [zm 34 3, zm 2 34]
def k0z : IC := (.seq qba8 (.seq (.seq qban (.cond (.t 7) (.seq q9q .ret) .skip)) (.seq q8i (.seq (.seq q9y (.block 0 (.loop q8l))) (.seq q1u .ret)))))
@[go_sem] def s0z : List (RV × Co) := [(.t 2, (.sl 4))]
theorem c0z : cFun Try.prog 41 = some (35, k0z, s0z) := by kernel_rfl

def q6t : IC := zr [zv 4 (.mov (.c .nilp))]
def q7y : IC := zr [zi 8 (.call (.c (.fn 33 [] [])) [((.c .nils), (.sl 4))]), zm 5 8]
def q9k : IC := zr [zm 9 0, zi 10 (.call (.c (.fn 41 [] [])) [((.t 9), .id)]), zv 11 (.len false (.t 10)), zv 12 (.mov (zc 0))]
def qbbe : IC := zr [zv 13 (.bin .lss .no (.t 12) (.t 11))]
def q9h : IC := zr [zv 14 (.iad 4 (.t 10) (.t 12)), zv 15 (.ld true 4 (.t 14)), zi 7 (.alo [(.int .i64 0), (.str []), (.int .i64 0), .nils]), zn (.st 4 (.agg [.id, .id, .id, (.sl 3)]) (.t 7) (.t 15))]
def qbau : IC := zr [zm 16 1, zv 17 (.fad (.t 7) 0), zv 18 (.ld false 1 (.t 17)), zi 19 (.call (.c (.fn 66 [] [])) [((.t 16), (.sl 1)), ((.t 18), .id)])]
def qbaf : IC := zr [zm 20 5, zv 21 (.fad (.t 7) 0), zv 22 (.ld false 1 (.t 21)), zv 23 (.fad (.t 7) 1), zv 24 (.ld true 3 (.t 23)), zi 25 (.call (.c (.fn 45 [] [])) [((.t 20), .id), ((.t 22), .id), ((.t 24), (.agg [.id, .id, (.sl 3)]))])]
def q9i : IC := zr [zv 26 (.bin .add .no (.t 12) (zc 1)), zm 12 26]
def qbcg : IC := (.seq qbbe (.seq (.cond (.t 13) .skip (.exit 0)) (.seq (.block 1 (.seq q9h (.seq qbau (.cond (.t 19) qbaf .skip)))) q9i)))
def q2m : IC := zr [zm 27 5, zm 4 27]
def k0y : IC := (.seq q6t (.seq q7y (.seq (.seq q9k (.block 0 (.loop qbcg))) (.seq q2m .ret))))
@[go_sem] def s0y : List (RV × Co) := [(.t 4, .id)]
theorem c0y : cFun Try.prog 42 = some (28, k0y, s0y) := by kernel_rfl

def q2w : IC := zr [zi 5 (.box (.t 2)), zv 6 (.mov (zc 0))]
def qzg : IC := zr [zm 9 0, zv 10 (.bin .eql .ptr (.t 9) (.c .nilp)), zm 11 10, zw 11 false 12 (.ld true 3 (.t 5)), ⟨some (11, false), some 13, .call (.c (.fn 48 [] [])) [((.t 12), (.agg [.id, .id, (.sl 3)]))]⟩, zw 11 false 14 (.un .not (.t 13)), zv 15 (.pick (.t 11) (.c (.bool true)) (.t 14))]
def q4h : IC := zr [zv 6 (.mov (zc 1))]
def qx1 : IC := zr [zm 17 0, zm 18 1, zi 19 (.call (.c (.fn 82 [] [])) [((.t 17), .id), ((.t 18), .id)]), zm 16 19, zv 20 (.ext (.t 16) 0), zv 21 (.ext (.t 16) 1), zm 7 20, zm 8 21]
def q1e : IC := zr [zm 22 8]
def q1s : IC := zr [zv 6 (.mov (zc 6))]
def q14 : IC := .drw [zp (zm 23 0), zp (zm 24 0), zp (zv 25 (.nck (.t 24))), zp (zv 26 (.fad (.t 25) 0)), zp (zv 27 (.ld false 1 (.t 26))), zp (zm 28 7), zp (zm 29 1), zp (zv 30 (.ld true 3 (.t 5))), (zi 31 (.call (.c (.fn 83 [] [])) [((.t 30), (.agg [.id, .id, (.sl 3)]))]), [4]), (zv 32 (.bld [(.int .i64 0), (.str []), (.int .i64 0), .nils] [(0, 1, (.t 29)), (1, 3, (.t 31))]), []), (zv 33 (.bsl 4 [((.t 32), (.agg [.id, .id, .id, (.sl 3)]))]), []), (zi 34 (.call (.c (.fn 85 [] [])) [((.t 27), (.sl 4)), ((.t 28), .id), ((.t 33), (.sl 4))]), []), zp (zv 35 (.nck (.t 23))), zp (zv 36 (.fad (.t 35) 0)), (zn (.st 1 (.sl 4) (.t 36) (.t 34)), [])]
def q4m : IC := zr [zv 6 (.mov (zc 0))]
def k0bd : IC := (.seq q2w (.seq (.seq qzg (.cond (.t 15) (.seq q4h .ret) .skip)) (.seq qx1 (.seq (.seq q1e (.cond (.t 22) (.seq q1s .ret) .skip)) (.seq q14 (.seq q4m .ret))))))
@[go_sem] def s0bd : List (RV × Co) := [(.t 6, .id)]
theorem c0bd : cFun Try.prog 45 = some (37, k0bd, s0bd) := by kernel_rfl

def qbbf : IC := zr [zv 4 (.mov (.c .nilp)), zv 5 (.mov (zc 0))]
def qbam : IC := zr [zi 13 (.call (.c (.fn 33 [] [])) [((.c .nils), (.sl 4))]), zm 6 13]
def q5n : IC := zr [zm 14 0, zi 15 (.call (.c (.fn 41 [] [])) [((.t 14), .id)]), zv 16 (.len false (.t 15)), zv 17 (.mov (zc 0))]
def q98 : IC := zr [zv 18 (.bin .lss .no (.t 17) (.t 16))]
def q83 : IC := zr [zv 19 (.iad 4 (.t 15) (.t 17)), zv 20 (.ld true 4 (.t 19)), zi 8 (.alo [(.int .i64 0), (.str []), (.int .i64 0), .nils]), zn (.st 4 (.agg [.id, .id, .id, (.sl 3)]) (.t 8) (.t 20))]
def q5o : IC := zr [zm 22 1, zv 23 (.fad (.t 8) 1), zv 24 (.ld true 3 (.t 23)), zi 25 (.call (.c (.fn 35 [] [])) [((.t 22), .id), ((.t 24), (.agg [.id, .id, (.sl 3)]))]), zm 21 25, zv 26 (.ext (.t 21) 0), zv 27 (.ext (.t 21) 1), zi 9 (.alo [(.str []), (.int .i64 0), .nils]), zn (.st 3 (.agg [.id, .id, (.sl 3)]) (.t 9) (.t 26)), zm 10 27]
def q88 : IC := zr [zm 28 10, zv 29 (.bin .neq .no (.t 28) (zc 0))]
def qbav : IC := zr [zm 30 10, zv 4 (.mov (.c .nilp)), zm 5 30]
def q6m : IC := zr [zm 31 6, zv 32 (.fad (.t 8) 0), zv 33 (.ld false 1 (.t 32)), zv 34 (.ld true 3 (.t 9)), zi 35 (.call (.c (.fn 45 [] [])) [((.t 31), .id), ((.t 33), .id), ((.t 34), (.agg [.id, .id, (.sl 3)]))])]
def q4y : IC := zr [zv 36 (.bin .add .no (.t 17) (zc 1)), zm 17 36]
def q69 : IC := (.seq q98 (.seq (.cond (.t 18) .skip (.exit 0)) (.seq (.block 1 (.seq q83 (.seq q5o (.seq (.seq q88 (.cond (.t 29) (.seq qbav .ret) .skip)) q6m)))) q4y)))
def qy8 : IC := zr [zm 37 1, zi 38 (.call (.c (.fn 41 [] [])) [((.t 37), .id)]), zv 39 (.len false (.t 38)), zv 40 (.mov (zc 0))]
def q3h : IC := zr [zv 41 (.bin .lss .no (.t 40) (.t 39))]
def q1l : IC := zr [zv 42 (.iad 4 (.t 38) (.t 40)), zv 43 (.ld true 4 (.t 42)), zi 12 (.alo [(.int .i64 0), (.str []), (.int .i64 0), .nils]), zn (.st 4 (.agg [.id, .id, .id, (.sl 3)]) (.t 12) (.t 43))]
def qzc : IC := zr [zm 44 6, zv 45 (.fad (.t 12) 0), zv 46 (.ld false 1 (.t 45)), zv 47 (.fad (.t 12) 1), zv 48 (.ld true 3 (.t 47)), zi 49 (.call (.c (.fn 45 [] [])) [((.t 44), .id), ((.t 46), .id), ((.t 48), (.agg [.id, .id, (.sl 3)]))])]
def q13 : IC := zr [zv 50 (.bin .add .no (.t 40) (zc 1)), zm 40 50]
def q2i : IC := (.seq q3h (.seq (.cond (.t 41) .skip (.exit 2)) (.seq (.block 3 (.seq q1l qzc)) q13)))
def q3q : IC := zr [zm 51 6, zm 4 51, zv 5 (.mov (zc 0))]
def k0x : IC := (.seq qbbf (.seq qbam (.seq (.seq q5n (.block 0 (.loop q69))) (.seq (.seq qy8 (.block 2 (.loop q2i))) (.seq q3q .ret)))))
@[go_sem] def s0x : List (RV × Co) := [(.t 4, .id), (.t 5, .id)]
theorem c0x : cFun Try.prog 46 = some (52, k0x, s0x) := by kernel_rfl

def q4w : IC := zr [zi 1 (.box (.t 0)), zv 2 zf]
def q4s : IC := zr [zi 3 (.alo [(.int .i64 0)]), zn (.st 1 .id (.t 3) (zc 0))]
def qyc : IC := zr [zv 4 (.ld true 3 (.t 1)), zv 5 (.mfn 87 [] [(.t 3)]), zi 6 (.call (.c (.fn 86 [] [])) [((.t 4), (.agg [.id, .id, (.sl 3)])), ((zc 1), .id), ((.t 5), .id)]), zm 2 6]
def k0bq : IC := (.seq q4w (.seq q4s (.seq qyc .ret)))
@[go_sem] def s0bq : List (RV × Co) := [(.t 2, .id)]
theorem c0bq : cFun Try.prog 48 = some (7, k0bq, s0bq) := by kernel_rfl

def q7f : IC := zr [zv 4 zf]
def qbb5 : IC := zr [zm 5 0, zm 6 1, zi 7 (.call (.c (.fn 100 [] [])) [((.t 5), (.sl 1)), ((.t 6), .id)]), zv 8 (.bin .geq .no (.t 7) (zc 0)), zm 4 8]
def k0b : IC := (.seq q7f (.seq qbb5 .ret))
@[go_sem] def s0b : List (RV × Co) := [(.t 4, .id)]
theorem c0b : cFun Try.prog 66 = some (9, k0b, s0b) := by kernel_rfl

def qbcc : IC := zr [zv 2 zf]
def q7p : IC := zr [zm 3 0, zv 4 (.bin .neq .no (.t 3) (.c (.str []))), zm 5 4, zw 5 true 6 (.mov (.t 0)), zw 5 true 7 (.idx (.t 6) (zc 0)), ⟨some (5, true), some 8, .call (.c (.fn 106 [] [])) [((.t 7), .id)]⟩, zv 9 (.pick (.t 5) (.t 8) (.c (.bool false))), zm 10 9, zw 10 true 11 (.mov (.t 0)), ⟨some (10, true), some 12, .call (.c (.fn 107 [] [])) [((.t 11), .id)]⟩, zv 13 (.pick (.t 10) (.t 12) (.c (.bool false))), zm 2 13]
def k0p : IC := (.seq qbcc (.seq q7p .ret))
@[go_sem] def s0p : List (RV × Co) := [(.t 2, .id)]
theorem c0p : cFun Try.prog 72 = some (14, k0p, s0p) := by kernel_rfl

def qzn : IC := zr [zi 1 (.box (.t 0)), zv 2 (.mov (.c (.str [])))]
def q0d : IC := zr [zv 3 (.ld true 3 (.t 1)), zi 4 (.call (.c (.fn 48 [] [])) [((.t 3), (.agg [.id, .id, (.sl 3)]))]), zv 5 (.un .not (.t 4))]
def qx0 : IC := zr [zv 2 (.mov (.c (.str [])))]
def q2p : IC := zr [zv 6 (.ld true 3 (.t 1)), zi 7 (.call (.c (.fn 109 [] [])) [((.t 6), (.agg [.id, .id, (.sl 3)]))]), zm 2 7]
def k0bm : IC := (.seq qzn (.seq (.seq q0d (.cond (.t 5) (.seq qx0 .ret) .skip)) (.seq q2p .ret)))
@[go_sem] def s0bm : List (RV × Co) := [(.t 2, .id)]
theorem c0bm : cFun Try.prog 75 = some (8, k0bm, s0bm) := by kernel_rfl

def q82 : IC := zr [zi 2 (.box (.t 0)), zi 3 (.box (.t 1)), zv 4 zf]
def q9a : IC := .drw [zp (zv 6 (.ld true 3 (.t 2))), (zi 7 (.call (.c (.fn 88 [] [])) [((.t 6), (.agg [.id, .id, (.sl 3)]))]), []), (zv 8 (.ld true 3 (.t 3)), [1]), (zi 9 (.call (.c (.fn 88 [] [])) [((.t 8), (.agg [.id, .id, (.sl 3)]))]), []), (zv 10 (.bin .neq (.cells [.str, (.int .i64), (.int .i64)]) (.t 7) (.t 9)), [])]
def q67 : IC := zr [zv 4 zf]
def q77 : IC := zr [zv 11 (.fad (.t 2) 2), zv 12 (.ld false 1 (.t 11)), zv 13 (.len false (.t 12)), zv 14 (.mov (zc 0))]
def q5t : IC := zr [zv 15 (.bin .lss .no (.t 14) (.t 13))]
def qbbn : IC := zr [zm 16 14, zm 5 16]
def qbcw : IC := .drw [zp (zv 17 (.fad (.t 2) 2)), zp (zv 18 (.ld false 1 (.t 17))), zp (zm 19 5), zp (zv 20 (.iad 3 (.t 18) (.t 19))), zp (zv 21 (.ld true 3 (.t 20))), zp (zv 22 (.fad (.t 3) 2)), zp (zv 23 (.ld false 1 (.t 22))), zp (zm 24 5), zp (zv 25 (.iad 3 (.t 23) (.t 24))), zp (zv 26 (.ld true 3 (.t 25))), (zi 27 (.call (.c (.fn 76 [] [])) [((.t 21), (.agg [.id, .id, (.sl 3)])), ((.t 26), (.agg [.id, .id, (.sl 3)]))]), []), zp (zv 28 (.un .not (.t 27)))]
def q7r : IC := zr [zv 4 zf]
def q52 : IC := zr [zv 29 (.bin .add .no (.t 14) (zc 1)), zm 14 29]
def q5z : IC := (.seq q5t (.seq (.cond (.t 15) .skip (.exit 0)) (.seq (.block 1 (.seq qbbn (.seq qbcw (.cond (.t 28) (.seq q7r .ret) .skip)))) q52)))
def q3g : IC := zr [zv 4 (.mov (.c (.bool true)))]
def k0d : IC := (.seq q82 (.seq (.seq q9a (.cond (.t 10) (.seq q67 .ret) .skip)) (.seq (.seq q77 (.block 0 (.loop q5z))) (.seq q3g .ret))))
@[go_sem] def s0d : List (RV × Co) := [(.t 4, .id)]
theorem c0d : cFun Try.prog 76 = some (30, k0d, s0d) := by kernel_rfl

def q04 : IC := zr [zi 3 (.box (.t 0)), zv 6 (.mov (zc 0))]
def q4c : IC := zr [zm 8 1, zv 9 (.bin .sub .no (.t 8) (zc 1)), zm 1 9]
def q08 : IC := zr [zm 10 2, zv 11 (.bin .lss .no (.t 10) (zc 1))]
def q37 : IC := zr [zv 6 (.mov (zc (-1)))]
def qz3 : IC := zr [zv 7 (.mov (zc 0))]
def q46 : IC := zr [zm 12 7, zv 13 (.fad (.t 3) 2), zv 14 (.ld false 1 (.t 13)), zv 15 (.len false (.t 14)), zv 16 (.bin .lss .no (.t 12) (.t 15)), zm 17 16, zw 17 true 18 (.mov (.t 1)), zw 17 true 19 (.bin .geq .no (.t 18) (zc 0)), zv 20 (.pick (.t 17) (.t 19) (.c (.bool false)))]
def q05 : IC := zr [zv 23 (.fad (.t 3) 2), zv 24 (.ld false 1 (.t 23)), zm 25 7, zv 26 (.iad 3 (.t 24) (.t 25)), zv 27 (.ld true 3 (.t 26)), zm 28 1, zm 29 2, zv 30 (.bin .sub .no (.t 29) (zc 1)), zi 31 (.call (.c (.fn 77 [] [])) [((.t 27), (.agg [.id, .id, (.sl 3)])), ((.t 28), .id), ((.t 30), .id)]), zm 1 31]
def q01 : IC := zr [zm 21 7, zv 22 (.bin .add .no (.t 21) (zc 1)), zm 7 22]
def q0b : IC := (.seq (.seq q46 (.cond (.t 20) .skip (.exit 0))) (.seq (.block 1 q05) q01))
def qw3 : IC := zr [zm 32 1, zm 6 32]
def k0bt : IC := (.seq q04 (.seq q4c (.seq (.seq q08 (.cond (.t 11) (.seq q37 .ret) .skip)) (.seq (.seq qz3 (.block 0 (.loop q0b))) (.seq qw3 .ret)))))
@[go_sem] def s0bt : List (RV × Co) := [(.t 6, .id)]
theorem c0bt : cFun Try.prog 77 = some (33, k0bt, s0bt) := by kernel_rfl

def q4l : IC := zr [zi 4 (.box (.t 1)), zi 6 (.alo [(.str []), (.int .i64 0), .nils])]
def qya : IC := zr [zv 11 (.fad (.t 4) 0), zv 12 (.ld false 1 (.t 11)), zv 13 (.bin .eql .no (.t 12) (.c (.str [])))]
def q2y : IC := .drw [zp (zm 15 0), zp (zv 16 (.nck (.t 15))), zp (zv 17 (.fad (.t 16) 0)), zp (zv 18 (.ld false 1 (.t 17))), zp (zv 19 (.fad (.t 4) 1)), zp (zv 20 (.ld false 1 (.t 19))), (zi 21 (.call (.c (.fn 37 [] [])) [((.t 18), .id), ((.t 20), .id)]), []), zp (zm 14 21), zp (zv 22 (.ext (.t 14) 0)), zp (zv 23 (.ext (.t 14) 1)), (zi 7 (.alo [(.str []), (.int .i64 0), .nils]), [3, 5, 6]), (zn (.st 3 (.agg [.id, .id, (.sl 3)]) (.t 7) (.t 22)), []), zp (zm 8 23)]
def qyz : IC := zr [zm 24 8]
def q3n : IC := .drw [zp (zm 25 0), zp (zv 26 (.nck (.t 25))), zp (zv 27 (.fad (.t 26) 1)), zp (zv 28 (.ld false 1 (.t 27))), zp (zv 29 (.ld true 3 (.t 7))), (zi 30 (.call (.c (.fn 110 [] [])) [((.t 29), (.agg [.id, .id, (.sl 3)]))]), [3]), zp (zv 31 (.bin .sub .no (.t 28) (.t 30))), zp (zv 32 (.nck (.t 25))), zp (zv 33 (.fad (.t 32) 1)), (zn (.st 1 .id (.t 33) (.t 31)), [])]
def qzk : IC := zr [zm 34 2, zv 35 (.ld true 3 (.t 7)), zi 36 (.call (.c (.fn 111 [] [])) [((.t 35), (.agg [.id, .id, (.sl 3)]))]), zv 37 (.bin .add .no (.t 34) (.t 36)), zv 38 (.bin .gtr .no (.t 37) (zc 101))]
def q0h : IC := zr [zm 39 0, zv 40 (.nck (.t 39)), zv 41 (.fad (.t 40) 1), zn (.st 1 .id (.t 41) (zc (-1)))]
def q17 : IC := zr [zv 42 (.ld true 3 (.t 7)), zi 43 (.call (.c (.fn 83 [] [])) [((.t 42), (.agg [.id, .id, (.sl 3)]))]), zn (.st 3 (.agg [.id, .id, (.sl 3)]) (.t 6) (.t 43))]
def qys : IC := zr [zm 44 0, zv 45 (.nck (.t 44)), zv 46 (.fad (.t 45) 1), zv 47 (.ld false 1 (.t 46)), zv 48 (.bin .sub .no (.t 47) (zc 1)), zv 49 (.nck (.t 44)), zv 50 (.fad (.t 49) 1), zn (.st 1 .id (.t 50) (.t 48))]
def q35 : IC := zr [zv 51 (.fad (.t 4) 2), zv 52 (.ld false 1 (.t 51)), zv 53 (.len false (.t 52)), zi 54 (.mks 3 (.agg [(.str []), (.int .i64 0), .nils]) 48 (.t 53) (.t 53)), zm 9 54]
def qw7 : IC := zr [zv 55 (.fad (.t 4) 2), zv 56 (.ld false 1 (.t 55)), zv 57 (.len false (.t 56)), zv 58 (.mov (zc 0))]
def qwa : IC := zr [zv 59 (.bin .lss .no (.t 58) (.t 57))]
def qw1 : IC := zr [zm 60 58, zm 10 60]
def qwo : IC := zr [zm 61 0, zv 62 (.nck (.t 61)), zv 63 (.fad (.t 62) 1), zv 64 (.ld false 1 (.t 63)), zv 65 (.bin .lss .no (.t 64) (zc 0))]
def qu8 : IC := zr [zv 66 (.ld true 3 (.t 4)), zn (.st 3 (.agg [.id, .id, (.sl 3)]) (.t 6) (.t 66))]
def qvu : IC := zr [zm 67 9, zm 68 10, zm 69 0, zv 70 (.fad (.t 4) 2), zv 71 (.ld false 1 (.t 70)), zm 72 10, zv 73 (.iad 3 (.t 71) (.t 72)), zv 74 (.ld true 3 (.t 73)), zm 75 2, zv 76 (.bin .add .no (.t 75) (zc 1)), zi 77 (.call (.c (.fn 78 [] [])) [((.t 69), .id), ((.t 74), (.agg [.id, .id, (.sl 3)])), ((.t 76), .id)]), zv 78 (.iad 3 (.t 67) (.t 68)), zn (.st 3 (.agg [.id, .id, (.sl 3)]) (.t 78) (.t 77))]
def qwl : IC := zr [zv 79 (.bin .add .no (.t 58) (zc 1)), zm 58 79]
def qvz : IC := (.seq qwa (.seq (.cond (.t 59) .skip (.exit 0)) (.seq (.block 1 (.seq qw1 (.seq (.seq qwo (.cond (.t 65) (.seq qu8 .ret) .skip)) qvu))) qwl)))
def qwi : IC := zr [zm 80 9, zv 81 (.fad (.t 4) 2), zn (.st 1 (.sl 3) (.t 81) (.t 80))]
def qwc : IC := zr [zv 82 (.ld true 3 (.t 4)), zn (.st 3 (.agg [.id, .id, (.sl 3)]) (.t 6) (.t 82))]
def k0bc : IC := (.seq q4l (.seq (.seq qya (.cond (.t 13) (.seq q2y (.seq qyz (.cond (.t 24) (.seq q3n (.seq (.seq qzk (.cond (.t 38) q0h .skip)) (.seq q17 .ret))) .skip))) .skip)) (.seq qys (.seq q35 (.seq (.seq qw7 (.block 0 (.loop qvz))) (.seq qwi (.seq qwc .ret)))))))
@[go_sem] def s0bc : List (RV × Co) := [(.c true 3 6, (.agg [.id, .id, (.sl 3)]))]
theorem c0bc : cFun Try.prog 78 = some (83, k0bc, s0bc) := by kernel_rfl

def qx4 : IC := zr [zv 4 (.mov (zc 0)), zv 5 zf]
def qx3 : IC := zr [zm 6 0, zv 7 (.nck (.t 6)), zv 8 (.fad (.t 7) 0), zv 9 (.ld false 1 (.t 8)), zm 10 1, zi 11 (.call (.c (.fn 115 [] [])) [((.t 9), (.sl 4)), ((.t 10), .id), ((.c (.fn 116 [] [])), .id)]), zv 12 (.ext (.t 11) 0), zv 13 (.ext (.t 11) 1), zm 4 12, zm 5 13]
def k0bg : IC := (.seq qx4 (.seq qx3 .ret))
@[go_sem] def s0bg : List (RV × Co) := [(.t 4, .id), (.t 5, .id)]
theorem c0bg : cFun Try.prog 82 = some (14, k0bg, s0bg) := by kernel_rfl

def qzd : IC := zr [zi 1 (.box (.t 0)), zi 2 (.alo [(.str []), (.int .i64 0), .nils])]
def q30 : IC := zr [zv 6 (.fad (.t 1) 2), zv 7 (.ld false 1 (.t 6)), zv 8 (.len false (.t 7)), zi 9 (.mks 3 (.agg [(.str []), (.int .i64 0), .nils]) 48 (.t 8) (.t 8)), zm 3 9]
def q1g : IC := zr [zv 10 (.fad (.t 1) 2), zv 11 (.ld false 1 (.t 10)), zv 12 (.len false (.t 11)), zv 13 (.mov (zc 0))]
def q3x : IC := zr [zv 14 (.bin .lss .no (.t 13) (.t 12))]
def q1q : IC := zr [zm 15 13, zv 16 (.iad 3 (.t 11) (.t 13)), zv 17 (.ld true 3 (.t 16)), zi 5 (.alo [(.str []), (.int .i64 0), .nils]), zm 4 15, zn (.st 3 (.agg [.id, .id, (.sl 3)]) (.t 5) (.t 17))]
def qyb : IC := zr [zm 18 3, zm 19 4, zv 20 (.ld true 3 (.t 5)), zi 21 (.call (.c (.fn 83 [] [])) [((.t 20), (.agg [.id, .id, (.sl 3)]))]), zv 22 (.iad 3 (.t 18) (.t 19)), zn (.st 3 (.agg [.id, .id, (.sl 3)]) (.t 22) (.t 21))]
def q24 : IC := zr [zv 23 (.bin .add .no (.t 13) (zc 1)), zm 13 23]
def q23 : IC := (.seq q3x (.seq (.cond (.t 14) .skip (.exit 0)) (.seq (.block 1 (.seq q1q qyb)) q24)))
def q1m : IC := zr [zm 24 3, zv 25 (.fad (.t 1) 2), zn (.st 1 (.sl 3) (.t 25) (.t 24))]
def qvw : IC := zr [zv 26 (.ld true 3 (.t 1)), zn (.st 3 (.agg [.id, .id, (.sl 3)]) (.t 2) (.t 26))]
def k0bi : IC := (.seq qzd (.seq q30 (.seq (.seq q1g (.block 0 (.loop q23))) (.seq q1m (.seq qvw .ret)))))
@[go_sem] def s0bi : List (RV × Co) := [(.c true 3 2, (.agg [.id, .id, (.sl 3)]))]
theorem c0bi : cFun Try.prog 83 = some (27, k0bi, s0bi) := by kernel_rfl

def q6v : IC := zr [zi 3 (.box (.t 0)), zv 6 zf]
def qbch : IC := zr [zm 9 2, zv 10 (.ld true 3 (.t 3)), zm 11 1, zi 12 (.call (.t 9) [((.t 10), (.agg [.id, .id, (.sl 3)])), ((.t 11), .id)]), zv 13 (.un .not (.t 12))]
def qbah : IC := zr [zv 6 zf]
def q5y : IC := zr [zv 14 (.fad (.t 3) 2), zv 15 (.ld false 1 (.t 14)), zv 16 (.len false (.t 15)), zv 17 (.mov (zc 0))]
def q5w : IC := zr [zv 18 (.bin .lss .no (.t 17) (.t 16))]
def q65 : IC := zr [zv 19 (.iad 3 (.t 15) (.t 17)), zv 20 (.ld true 3 (.t 19)), zi 8 (.alo [(.str []), (.int .i64 0), .nils]), zn (.st 3 (.agg [.id, .id, (.sl 3)]) (.t 8) (.t 20))]
def qbb9 : IC := zr [zv 21 (.ld true 3 (.t 8)), zm 22 1, zv 23 (.bin .add .no (.t 22) (zc 1)), zm 24 2, zi 25 (.call (.c (.fn 86 [] [])) [((.t 21), (.agg [.id, .id, (.sl 3)])), ((.t 23), .id), ((.t 24), .id)]), zv 26 (.un .not (.t 25))]
def qbax : IC := zr [zv 6 zf]
def qbbc : IC := zr [zv 27 (.bin .add .no (.t 17) (zc 1)), zm 17 27]
def q7x : IC := (.seq q5w (.seq (.cond (.t 18) .skip (.exit 0)) (.seq (.block 1 (.seq q65 (.seq qbb9 (.cond (.t 26) (.seq qbax .ret) .skip)))) qbbc)))
def qzt : IC := zr [zv 6 (.mov (.c (.bool true)))]
def k0h : IC := (.seq q6v (.seq (.seq qbch (.cond (.t 13) (.seq qbah .ret) .skip)) (.seq (.seq q5y (.block 0 (.loop q7x))) (.seq qzt .ret))))
@[go_sem] def s0h : List (RV × Co) := [(.t 6, .id)]
theorem c0h : cFun Try.prog 86 = some (28, k0h, s0h) := by kernel_rfl

def qy9 : IC := zr [zi 3 (.box (.t 0)), zv 5 zf]
def q27 : IC := zr [zv 6 (.ld false 1 (.t 2)), zv 7 (.bin .add .no (.t 6) (zc 1)), zn (.st 1 .id (.t 2) (.t 7))]
def q0c : IC := zr [zv 8 (.ld false 1 (.t 2)), zv 9 (.bin .leq .no (.t 8) (zc 4096)), zm 10 9, zw 10 true 11 (.mov (.t 1)), zw 10 true 12 (.bin .leq .no (.t 11) (zc 100)), zv 13 (.pick (.t 10) (.t 12) (.c (.bool false))), zm 14 13, zw 14 true 15 (.ld true 3 (.t 3)), ⟨some (14, true), some 16, .call (.c (.fn 88 [] [])) [((.t 15), (.agg [.id, .id, (.sl 3)]))]⟩, ⟨some (14, true), some 17, .call (.c (.fn 89 [] [])) [((.t 16), .id)]⟩, zv 18 (.pick (.t 14) (.t 17) (.c (.bool false))), zm 5 18]
def k0bn : IC := (.seq qy9 (.seq q27 (.seq q0c .ret)))
@[go_sem] def s0bn : List (RV × Co) := [(.t 5, .id)]
theorem c0bn : cFun Try.prog 87 = some (19, k0bn, s0bn) := by kernel_rfl

def q5b : IC := zr [zi 1 (.box (.t 0)), zi 2 (.alo [(.str []), (.int .i64 0), (.int .i64 0)])]
def q9f : IC := zr [zv 3 (.fad (.t 1) 0), zv 4 (.ld false 1 (.t 3)), zv 5 (.fad (.t 1) 1), zv 6 (.ld false 1 (.t 5)), zv 7 (.fad (.t 1) 2), zv 8 (.ld false 1 (.t 7)), zv 9 (.len false (.t 8)), zv 10 (.bld [(.str []), (.int .i64 0), (.int .i64 0)] [(0, 1, (.t 4)), (1, 1, (.t 6)), (2, 1, (.t 9))]), zn (.st 3 .id (.t 2) (.t 10))]
def k0c : IC := (.seq q5b (.seq q9f .ret))
@[go_sem] def s0c : List (RV × Co) := [(.c true 3 2, .id)]
theorem c0c : cFun Try.prog 88 = some (11, k0c, s0c) := by kernel_rfl

def qbaq : IC := zr [zi 1 (.box (.t 0)), zv 2 zf]
def q8g : IC := zr [zv 4 (.fad (.t 1) 0), zv 5 (.ld false 1 (.t 4)), zv 6 (.bin .eql .no (.t 5) (.c (.str []))), zm 3 6]
def q7j : IC := zr [zv 7 (.fad (.t 1) 2), zv 8 (.ld false 1 (.t 7)), zv 9 (.bin .eql .no (.t 8) (zc 0)), zm 2 9]
def q66 : IC := zr [zv 11 (.fad (.t 1) 0), zv 12 (.ld false 1 (.t 11)), zv 13 (.bin .eql .no (.t 12) (.c (.str [45, 62]))), zm 10 13]
def q58 : IC := zr [zv 14 (.ld true 3 (.t 1)), zv 15 (.bld [(.str []), (.int .i64 0), (.int .i64 0)] [(0, 1, (.c (.str [45, 62]))), (1, 1, (zc 0)), (2, 1, (zc 2))]), zv 16 (.bin .eql (.cells [.str, (.int .i64), (.int .i64)]) (.t 14) (.t 15)), zm 2 16]
def q8w : IC := zr [zv 18 (.fad (.t 1) 0), zv 19 (.ld false 1 (.t 18)), zi 20 (.call (.c (.fn 119 [] [])) [((.t 19), .id)]), zm 17 20]
def qbao : IC := zr [zv 21 (.ld true 3 (.t 1)), zv 22 (.fad (.t 1) 0), zv 23 (.ld false 1 (.t 22)), zv 24 (.bld [(.str []), (.int .i64 0), (.int .i64 0)] [(0, 1, (.t 23))]), zv 25 (.bin .eql (.cells [.str, (.int .i64), (.int .i64)]) (.t 21) (.t 24)), zm 2 25]
def qbcz : IC := zr [zv 26 (.fad (.t 1) 1), zv 27 (.ld false 1 (.t 26)), zv 28 (.bin .eql .no (.t 27) (zc 0)), zm 29 28, zw 29 true 30 (.fad (.t 1) 0), zw 29 true 31 (.ld false 1 (.t 30)), ⟨some (29, true), some 32, .call (.c (.fn 72 [] [])) [((.t 31), .id)]⟩, zv 33 (.pick (.t 29) (.t 32) (.c (.bool false))), zm 2 33]
def k0g : IC := (.seq qbaq (.seq (.block 0 (.seq q8g (.cond (.t 3) (.seq q7j .ret) (.seq q66 (.cond (.t 10) (.seq q58 .ret) (.seq q8w (.cond (.t 17) (.seq qbao .ret) .skip))))))) (.seq qbcz .ret)))
@[go_sem] def s0g : List (RV × Co) := [(.t 2, .id)]
theorem c0g : cFun Try.prog 89 = some (34, k0g, s0g) := by kernel_rfl

def q81 : IC := zr [zv 4 (.mov (zc 0))]
def q5d : IC := zr [zm 6 0, zv 7 (.len false (.t 6)), zv 8 (.mov (zc 0))]
def q97 : IC := zr [zv 9 (.bin .lss .no (.t 8) (.t 7))]
def q9c : IC := zr [zm 10 8, zm 5 10]
def q8c : IC := zr [zm 11 1, zm 12 0, zm 13 5, zv 14 (.iad 1 (.t 12) (.t 13)), zv 15 (.ld false 1 (.t 14)), zv 16 (.bin .eql .no (.t 11) (.t 15))]
def qbcb : IC := zr [zm 17 5, zm 4 17]
def q8z : IC := zr [zv 18 (.bin .add .no (.t 8) (zc 1)), zm 8 18]
def q86 : IC := (.seq q97 (.seq (.cond (.t 9) .skip (.exit 0)) (.seq (.block 1 (.seq q9c (.seq q8c (.cond (.t 16) (.seq qbcb .ret) .skip)))) q8z)))
def q91 : IC := zr [zv 4 (.mov (zc (-1)))]
def k0a : IC := (.seq q81 (.seq (.seq q5d (.block 0 (.loop q86))) (.seq q91 .ret)))
@[go_sem] def s0a : List (RV × Co) := [(.t 4, .id)]
theorem c0a : cFun Try.prog 100 = some (19, k0a, s0a) := by kernel_rfl

def q8f : IC := zr [zv 2 zf]
def q9w : IC := zr [zm 3 0, zv 4 (.bin .geq .no (.t 3) (.c (.int .u8 65))), zm 5 4, zw 5 true 6 (.mov (.t 0)), zw 5 true 7 (.bin .leq .no (.t 6) (.c (.int .u8 90))), zv 8 (.pick (.t 5) (.t 7) (.c (.bool false))), zm 2 8]
def k0n : IC := (.seq q8f (.seq q9w .ret))
@[go_sem] def s0n : List (RV × Co) := [(.t 2, .id)]
theorem c0n : cFun Try.prog 106 = some (9, k0n, s0n) := by kernel_rfl

def q8a : IC := zr [zv 2 zf]
def qbba : IC := zr [zm 5 0, zv 6 (.len true (.t 5)), zv 7 (.mov (zc 0))]
def q51 : IC := zr [zv 8 (.bin .lss .no (.t 7) (.t 6))]
def q6x : IC := zr [zm 9 7, zm 3 9]
def q87 : IC := zr [zm 10 0, zm 11 3, zv 12 (.idx (.t 10) (.t 11)), zm 4 12]
def q6g : IC := zr [zm 13 4, zi 14 (.call (.c (.fn 128 [] [])) [((.t 13), .id)]), zv 15 (.un .not (.t 14)), zm 16 15, zw 16 true 17 (.mov (.t 4)), ⟨some (16, true), some 18, .call (.c (.fn 106 [] [])) [((.t 17), .id)]⟩, zw 16 true 19 (.un .not (.t 18)), zv 20 (.pick (.t 16) (.t 19) (.c (.bool false))), zm 21 20, zw 21 true 22 (.mov (.t 4)), zw 21 true 23 (.bin .lss .no (.t 22) (.c (.int .u8 48))), zw 21 true 24 (.mov (.t 23)), zw 24 false 25 (.mov (.t 4)), zw 24 false 26 (.bin .gtr .no (.t 25) (.c (.int .u8 57))), zw 21 true 27 (.pick (.t 24) (.c (.bool true)) (.t 26)), zv 28 (.pick (.t 21) (.t 27) (.c (.bool false))), zm 29 28, zw 29 true 30 (.mov (.t 4)), zw 29 true 31 (.bin .neq .no (.t 30) (.c (.int .u8 39))), zv 32 (.pick (.t 29) (.t 31) (.c (.bool false)))]
def qbar : IC := zr [zv 2 zf]
def q9z : IC := zr [zv 33 (.bin .add .no (.t 7) (zc 1)), zm 7 33]
def q9u : IC := (.seq q51 (.seq (.cond (.t 8) .skip (.exit 0)) (.seq (.block 1 (.seq q6x (.seq q87 (.seq q6g (.cond (.t 32) (.seq qbar .ret) .skip))))) q9z)))
def qyj : IC := zr [zv 2 (.mov (.c (.bool true)))]
def k0o : IC := (.seq q8a (.seq (.seq qbba (.block 0 (.loop q9u))) (.seq qyj .ret)))
@[go_sem] def s0o : List (RV × Co) := [(.t 2, .id)]
theorem c0o : cFun Try.prog 107 = some (34, k0o, s0o) := by kernel_rfl

def qzs : IC := zr [zi 1 (.box (.t 0)), zv 2 (.mov (.c (.str [])))]
def q1y : IC := zr [zv 6 (.fad (.t 1) 0), zv 7 (.ld false 1 (.t 6)), zv 8 (.bin .eql .no (.t 7) (.c (.str [45, 62])))]
def q09 : IC := .drw [zp (zv 9 (.fad (.t 1) 2)), zp (zv 10 (.ld false 1 (.t 9))), zp (zv 11 (.iad 3 (.t 10) (zc 0))), zp (zv 12 (.ld true 3 (.t 11))), zp (zv 13 (.fad (.t 1) 2)), zp (zv 14 (.ld false 1 (.t 13))), zp (zv 15 (.iad 3 (.t 14) (zc 0))), zp (zv 16 (.fad (.t 15) 0)), zp (zv 17 (.ld false 1 (.t 16))), (zv 18 (.bin .eql .no (.t 17) (.c (.str [45, 62]))), []), (zi 19 (.call (.c (.fn 129 [] [])) [((.t 12), (.agg [.id, .id, (.sl 3)])), ((.t 18), .id)]), []), (zv 20 (.bin .add .no (.t 19) (.c (.str [32, 45, 62, 32]))), []), zp (zv 21 (.fad (.t 1) 2)), (zv 22 (.ld false 1 (.t 21)), [10]), zp (zv 23 (.iad 3 (.t 22) (zc 1))), (zv 24 (.ld true 3 (.t 23)), [10]), (zi 25 (.call (.c (.fn 109 [] [])) [((.t 24), (.agg [.id, .id, (.sl 3)]))]), []), zp (zv 26 (.bin .add .no (.t 20) (.t 25))), zp (zm 2 26)]
def q2g : IC := zr [zi 3 (.bld 125 5)]
def qyo : IC := zr [zv 27 (.ld true 3 (.t 1)), zi 28 (.call (.c (.fn 88 [] [])) [((.t 27), (.agg [.id, .id, (.sl 3)]))]), zi 29 (.call (.c (.fn 130 [] [])) [((.t 28), .id)]), zi 30 (.call (.c (.fn 102 [] [])) [((.t 3), (.agg [.id, (.sl 1)])), ((.t 29), .id)])]
def qye : IC := zr [zv 31 (.fad (.t 1) 2), zv 32 (.ld false 1 (.t 31)), zv 33 (.len false (.t 32)), zv 34 (.mov (zc 0))]
def qy7 : IC := zr [zv 35 (.bin .lss .no (.t 34) (.t 33))]
def q3s : IC := zr [zv 36 (.iad 3 (.t 32) (.t 34)), zv 37 (.ld true 3 (.t 36)), zi 5 (.alo [(.str []), (.int .i64 0), .nils]), zn (.st 3 (.agg [.id, .id, (.sl 3)]) (.t 5) (.t 37))]
def q0u : IC := zr [zv 38 (.ld true 3 (.t 5)), zv 39 (.fad (.t 5) 2), zv 40 (.ld false 1 (.t 39)), zv 41 (.len false (.t 40)), zv 42 (.bin .gtr .no (.t 41) (zc 0)), zi 43 (.call (.c (.fn 129 [] [])) [((.t 38), (.agg [.id, .id, (.sl 3)])), ((.t 42), .id)]), zv 44 (.bin .add .no (.c (.str [32])) (.t 43)), zi 45 (.call (.c (.fn 102 [] [])) [((.t 3), (.agg [.id, (.sl 1)])), ((.t 44), .id)])]
def qu0 : IC := zr [zv 46 (.bin .add .no (.t 34) (zc 1)), zm 34 46]
def q0e : IC := (.seq qy7 (.seq (.cond (.t 35) .skip (.exit 0)) (.seq (.block 1 (.seq q3s q0u)) qu0)))
def quv : IC := zr [zi 47 (.call (.c (.fn 103 [] [])) [((.t 3), (.agg [.id, (.sl 1)]))]), zm 2 47]
def k0bl : IC := (.seq qzs (.seq (.seq q1y (.cond (.t 8) (.seq q09 .ret) .skip)) (.seq q2g (.seq qyo (.seq (.seq qye (.block 0 (.loop q0e))) (.seq quv .ret))))))
@[go_sem] def s0bl : List (RV × Co) := [(.t 2, .id)]
theorem c0bl : cFun Try.prog 109 = some (48, k0bl, s0bl) := by kernel_rfl

def qyh : IC := zr [zi 1 (.box (.t 0)), zv 2 (.mov (zc 0))]
def q4v : IC := zr [zi 3 (.alo [(.int .i64 0)]), zn (.st 1 .id (.t 3) (zc 0))]
def qyp : IC := zr [zv 4 (.ld true 3 (.t 1)), zv 5 (.mfn 131 [] [(.t 3)]), zi 6 (.call (.c (.fn 86 [] [])) [((.t 4), (.agg [.id, .id, (.sl 3)])), ((zc 1), .id), ((.t 5), .id)])]
def qzr : IC := zr [zv 7 (.ld false 1 (.t 3)), zm 2 7]
def k0br : IC := (.seq qyh (.seq q4v (.seq qyp (.seq qzr .ret))))
@[go_sem] def s0br : List (RV × Co) := [(.t 2, .id)]
theorem c0br : cFun Try.prog 110 = some (8, k0br, s0br) := by kernel_rfl

def qyu : IC := zr [zi 1 (.box (.t 0)), zv 2 (.mov (zc 0))]
def q1n : IC := zr [zi 3 (.alo [(.int .i64 0)]), zn (.st 1 .id (.t 3) (zc 0))]
def q4b : IC := zr [zv 4 (.ld true 3 (.t 1)), zv 5 (.mfn 132 [] [(.t 3)]), zi 6 (.call (.c (.fn 86 [] [])) [((.t 4), (.agg [.id, .id, (.sl 3)])), ((zc 1), .id), ((.t 5), .id)])]
def qzh : IC := zr [zv 7 (.ld false 1 (.t 3)), zm 2 7]
def k0bs : IC := (.seq qyu (.seq q1n (.seq q4b (.seq qzh .ret))))
@[go_sem] def s0bs : List (RV × Co) := [(.t 2, .id)]
theorem c0bs : cFun Try.prog 111 = some (8, k0bs, s0bs) := by kernel_rfl

def q2j : IC := zr [zv 6 (.mov (zc 0)), zv 7 zf]
def q2h : IC := zr [zm 12 0, zv 13 (.len false (.t 12)), zm 8 13]
def qx9 : IC := zr [zm 14 8, zv 9 (.mov (zc 0)), zm 10 14]
def q4n : IC := zr [zm 15 9, zm 16 10, zv 17 (.bin .lss .no (.t 15) (.t 16))]
def q0p : IC := zr [zm 18 9, zm 19 10, zv 20 (.bin .add .no (.t 18) (.t 19)), zv 21 (.cvi .u64 (.t 20)), zv 22 (.bin .shr .no (.t 21) (.c (.int .u64 1))), zv 23 (.cvi .i64 (.t 22)), zm 11 23]
def q1j : IC := zr [zm 24 2, zm 25 0, zm 26 11, zv 27 (.iad 4 (.t 25) (.t 26)), zv 28 (.ld true 4 (.t 27)), zm 29 1, zi 30 (.call (.t 24) [((.t 28), (.agg [.id, .id, .id, (.sl 3)])), ((.t 29), .id)]), zv 31 (.bin .lss .no (.t 30) (zc 0))]
def qx7 : IC := zr [zm 32 11, zv 33 (.bin .add .no (.t 32) (zc 1)), zm 9 33]
def q2f : IC := zr [zm 34 11, zm 10 34]
def qx8 : IC := (.seq (.seq q4n (.cond (.t 17) .skip (.exit 0))) (.block 1 (.seq q0p (.seq q1j (.cond (.t 31) qx7 q2f)))))
def qva : IC := zr [zm 35 9, zm 36 9, zm 37 8, zv 38 (.bin .lss .no (.t 36) (.t 37)), zm 39 38, zw 39 true 40 (.mov (.t 2)), zw 39 true 41 (.mov (.t 0)), zw 39 true 42 (.mov (.t 9)), zw 39 true 43 (.iad 4 (.t 41) (.t 42)), zw 39 true 44 (.ld true 4 (.t 43)), zw 39 true 45 (.mov (.t 1)), ⟨some (39, true), some 46, .call (.t 40) [((.t 44), (.agg [.id, .id, .id, (.sl 3)])), ((.t 45), .id)]⟩, zw 39 true 47 (.bin .eql .no (.t 46) (zc 0)), zv 48 (.pick (.t 39) (.t 47) (.c (.bool false))), zm 6 35, zm 7 48]
def k0bf : IC := (.seq q2j (.seq q2h (.seq qx9 (.seq (.block 0 (.loop qx8)) (.seq qva .ret)))))
@[go_sem] def s0bf : List (RV × Co) := [(.t 6, .id), (.t 7, .id)]
theorem c0bf : cFun Try.prog 115 = some (49, k0bf, s0bf) := by kernel_rfl

def qxz : IC := zr [zi 2 (.box (.t 0)), zv 4 (.mov (zc 0))]
def q2z : IC := zr [zv 6 (.fad (.t 2) 0), zv 7 (.ld false 1 (.t 6)), zm 8 1, zv 9 (.bin .lss .no (.t 7) (.t 8)), zm 5 9]
def q2k : IC := zr [zv 4 (.mov (zc (-1)))]
def q03 : IC := zr [zv 11 (.fad (.t 2) 0), zv 12 (.ld false 1 (.t 11)), zm 13 1, zv 14 (.bin .gtr .no (.t 12) (.t 13)), zm 10 14]
def q45 : IC := zr [zv 4 (.mov (zc 1))]
def q28 : IC := zr [zv 4 (.mov (zc 0))]
def k0bh : IC := (.seq qxz (.seq (.block 0 (.seq q2z (.cond (.t 5) (.seq q2k .ret) (.seq q03 (.cond (.t 10) (.seq q45 .ret) .skip))))) (.seq q28 .ret)))
@[go_sem] def s0bh : List (RV × Co) := [(.t 4, .id)]
theorem c0bh : cFun Try.prog 116 = some (15, k0bh, s0bh) := by kernel_rfl

def q74 : IC := zr [zv 2 zf]
def qbco : IC := zr [zm 5 0, zi 6 (.call (.c (.fn 135 [] [])) [((.t 5), .id), ((.c (.str [33])), .id)]), zv 7 (.un .not (.t 6))]
def qbbu : IC := zr [zv 2 zf]
def q53 : IC := zr [zm 9 0, zv 10 (.sls (.t 9) (some (zc 1)) none), zi 11 (.call (.c (.fn 136 [] [])) [((.t 10), .id)]), zm 8 11, zv 12 (.ext (.t 8) 0), zv 13 (.ext (.t 8) 1), zm 3 12, zm 4 13]
def qbck : IC := .drw [zp (zm 14 4), zp (zv 15 (.bin .eql .no (.t 14) (zc 0))), zp (zm 16 15), zp (zw 16 true 17 (.mov (.t 3))), (⟨some (16, true), some 18, .call (.c (.fn 137 [] [])) [((.t 17), .id)]⟩, []), zp (zw 16 true 19 (.mov (.t 0))), zp (zw 16 true 20 (.sls (.t 19) (some (zc 1)) none)), zp (zw 16 true 21 (.bin .eql .no (.t 18) (.t 20))), zp (zv 22 (.pick (.t 16) (.t 21) (.c (.bool false)))), zp (zm 2 22)]
def k0f : IC := (.seq q74 (.seq (.seq qbco (.cond (.t 7) (.seq qbbu .ret) .skip)) (.seq q53 (.seq qbck .ret))))
@[go_sem] def s0f : List (RV × Co) := [(.t 2, .id)]
theorem c0f : cFun Try.prog 119 = some (23, k0f, s0f) := by kernel_rfl

def qbbw : IC := zr [zv 2 (.mov (.c (.str [])))]
def q9m : IC := zr [zm 5 0, zi 6 (.call (.c (.fn 143 [] [])) [((.t 5), .id)]), zm 3 6]
def qbcr : IC := zr [zv 4 (.mov (.c (.str [])))]
def q96 : IC := zr [zm 7 3, zv 8 (.bin .gtr .no (.t 7) (.c (.int .u64 9)))]
def qbb7 : IC := zr [zm 9 3, zv 10 (.bin .rem .no (.t 9) (.c (.int .u64 10))), zv 11 (.bin .add .no (.c (.int .u64 48)) (.t 10)), zv 12 (.cvi .u8 (.t 11)), zv 13 (.bsl 1 [((.t 12), .id)]), zv 14 (.cbs (.t 13)), zm 15 4, zv 16 (.bin .add .no (.t 14) (.t 15)), zm 4 16]
def q6s : IC := zr [zm 17 3, zv 18 (.bin .quo .no (.t 17) (.c (.int .u64 10))), zm 3 18]
def q9l : IC := (.seq (.seq q96 (.cond (.t 8) .skip (.exit 0))) (.block 1 (.seq qbb7 q6s)))
def q9n : IC := zr [zm 19 3, zv 20 (.bin .add .no (.c (.int .u64 48)) (.t 19)), zv 21 (.cvi .u8 (.t 20)), zv 22 (.bsl 1 [((.t 21), .id)]), zv 23 (.cbs (.t 22)), zm 24 4, zv 25 (.bin .add .no (.t 23) (.t 24)), zm 4 25]
def q7g : IC := zr [zm 26 0, zv 27 (.bin .lss .no (.t 26) (zc 0))]
def q4x : IC := zr [zm 28 4, zv 29 (.bin .add .no (.c (.str [45])) (.t 28)), zm 2 29]
def q0r : IC := zr [zm 30 4, zm 2 30]
def k0r : IC := (.seq qbbw (.seq q9m (.seq qbcr (.seq (.block 0 (.loop q9l)) (.seq q9n (.seq (.seq q7g (.cond (.t 27) (.seq q4x .ret) .skip)) (.seq q0r .ret)))))))
@[go_sem] def s0r : List (RV × Co) := [(.t 2, .id)]
theorem c0r : cFun Try.prog 127 = some (31, k0r, s0r) := by kernel_rfl

def q8m : IC := zr [zv 2 zf]
def q63 : IC := zr [zm 3 0, zv 4 (.bin .geq .no (.t 3) (.c (.int .u8 97))), zm 5 4, zw 5 true 6 (.mov (.t 0)), zw 5 true 7 (.bin .leq .no (.t 6) (.c (.int .u8 122))), zv 8 (.pick (.t 5) (.t 7) (.c (.bool false))), zm 9 8, zw 9 false 10 (.mov (.t 0)), zw 9 false 11 (.bin .eql .no (.t 10) (.c (.int .u8 95))), zv 12 (.pick (.t 9) (.c (.bool true)) (.t 11)), zm 2 12]
def k0m : IC := (.seq q8m (.seq q63 .ret))
@[go_sem] def s0m : List (RV × Co) := [(.t 2, .id)]
theorem c0m : cFun Try.prog 128 = some (13, k0m, s0m) := by kernel_rfl

def q2s : IC := zr [zi 2 (.box (.t 0)), zv 4 (.mov (.c (.str [])))]
def q1o : IC := zr [zm 5 1]
def q3a : IC := zr [zv 6 (.ld true 3 (.t 2)), zi 7 (.call (.c (.fn 109 [] [])) [((.t 6), (.agg [.id, .id, (.sl 3)]))]), zv 8 (.bin .add .no (.c (.str [40])) (.t 7)), zv 9 (.bin .add .no (.t 8) (.c (.str [41]))), zm 4 9]
def q19 : IC := zr [zv 10 (.ld true 3 (.t 2)), zi 11 (.call (.c (.fn 109 [] [])) [((.t 10), (.agg [.id, .id, (.sl 3)]))]), zm 4 11]
def k0bk : IC := (.seq q2s (.seq (.seq q1o (.cond (.t 5) (.seq q3a .ret) .skip)) (.seq q19 .ret)))
@[go_sem] def s0bk : List (RV × Co) := [(.t 4, .id)]
theorem c0bk : cFun Try.prog 129 = some (12, k0bk, s0bk) := by kernel_rfl

def qzo : IC := zr [zi 1 (.box (.t 0)), zv 2 (.mov (.c (.str [])))]
def q4u : IC := zr [zv 4 (.fad (.t 1) 0), zv 5 (.ld false 1 (.t 4)), zv 6 (.bin .neq .no (.t 5) (.c (.str []))), zm 3 6]
def q20 : IC := zr [zv 7 (.fad (.t 1) 0), zv 8 (.ld false 1 (.t 7)), zm 2 8]
def q22 : IC := zr [zv 10 (.fad (.t 1) 1), zv 11 (.ld false 1 (.t 10)), zv 12 (.bin .geq .no (.t 11) (zc 0)), zm 9 12]
def qz4 : IC := zr [zv 13 (.fad (.t 1) 1), zv 14 (.ld false 1 (.t 13)), zi 15 (.call (.c (.fn 144 [] [])) [((.t 14), .id)]), zm 2 15]
def q1i : IC := zr [zv 16 (.fad (.t 1) 1), zv 17 (.ld false 1 (.t 16)), zv 18 (.bin .sub .no (zc (-1)) (.t 17)), zi 19 (.call (.c (.fn 137 [] [])) [((.t 18), .id)]), zv 20 (.bin .add .no (.c (.str [63])) (.t 19)), zm 2 20]
def k0bj : IC := (.seq qzo (.seq (.block 0 (.seq q4u (.cond (.t 3) (.seq q20 .ret) (.seq q22 (.cond (.t 9) (.seq qz4 .ret) .skip))))) (.seq q1i .ret)))
@[go_sem] def s0bj : List (RV × Co) := [(.t 2, .id)]
theorem c0bj : cFun Try.prog 130 = some (21, k0bj, s0bj) := by kernel_rfl

def qzi : IC := zr [zi 3 (.box (.t 0)), zv 5 zf]
def q3v : IC := zr [zv 6 (.ld false 1 (.t 2)), zv 7 (.bin .add .no (.t 6) (zc 1)), zn (.st 1 .id (.t 2) (.t 7))]
def q10 : IC := zr [zv 5 (.mov (.c (.bool true)))]
def k0bo : IC := (.seq qzi (.seq q3v (.seq q10 .ret)))
@[go_sem] def s0bo : List (RV × Co) := [(.t 5, .id)]
theorem c0bo : cFun Try.prog 131 = some (8, k0bo, s0bo) := by kernel_rfl

def qz5 : IC := zr [zi 3 (.box (.t 0)), zv 5 zf]
def qy5 : IC := zr [zv 6 (.ld false 1 (.t 2)), zm 7 1, zv 8 (.mm true (.t 6) (.t 7)), zn (.st 1 .id (.t 2) (.t 8))]
def q0z : IC := zr [zv 5 (.mov (.c (.bool true)))]
def k0bp : IC := (.seq qz5 (.seq qy5 (.seq q0z .ret)))
@[go_sem] def s0bp : List (RV × Co) := [(.t 5, .id)]
theorem c0bp : cFun Try.prog 132 = some (9, k0bp, s0bp) := by kernel_rfl

def q8n : IC := zr [zv 4 zf]
def qbbk : IC := zr [zm 5 0, zm 6 1, zi 7 (.call (.c (.fn 147 [] [])) [((.t 5), .id), ((.t 6), .id)]), zm 4 7]
def k0j : IC := (.seq q8n (.seq qbbk .ret))
@[go_sem] def s0j : List (RV × Co) := [(.t 4, .id)]
theorem c0j : cFun Try.prog 135 = some (8, k0j, s0j) := by kernel_rfl

def qba1 : IC := zr [zv 2 (.mov (zc 0)), zv 3 (.mov (zc 0))]
def q90 : IC := zr [zm 8 0, zv 9 (.len true (.t 8)), zv 10 (.mov (zc 0))]
def q5e : IC := zr [zv 11 (.bin .lss .no (.t 10) (.t 9))]
def qbai : IC := zr [zm 12 10, zm 4 12]
def q9j : IC := zr [zm 13 0, zm 14 4, zv 15 (.idx (.t 13) (.t 14)), zv 16 (.bin .lss .no (.t 15) (.c (.int .u8 48))), zm 17 16, zw 17 false 18 (.mov (.t 0)), zw 17 false 19 (.mov (.t 4)), zw 17 false 20 (.idx (.t 18) (.t 19)), zw 17 false 21 (.bin .gtr .no (.t 20) (.c (.int .u8 57))), zv 22 (.pick (.t 17) (.c (.bool true)) (.t 21))]
def q95 : IC := zr [zv 2 (.mov (zc 0)), zv 3 (.mov (zc 5))]
def q64 : IC := zr [zv 23 (.bin .add .no (.t 10) (zc 1)), zm 10 23]
def q8r : IC := (.seq q5e (.seq (.cond (.t 11) .skip (.exit 0)) (.seq (.block 1 (.seq qbai (.seq q9j (.cond (.t 22) (.seq q95 .ret) .skip)))) q64)))
def qbat : IC := zr [zm 24 0, zv 25 (.bin .eql .no (.t 24) (.c (.str [])))]
def q2o : IC := zr [zv 2 (.mov (zc 0)), zv 3 (.mov (zc 5))]
def qz7 : IC := zr [zv 5 (.mov (zc 0)), zv 6 (.mov (zc 0))]
def q1z : IC := zr [zm 26 0, zm 27 6, zv 28 (.idx (.t 26) (.t 27)), zv 29 (.bin .sub .no (.t 28) (.c (.int .u8 48))), zv 30 (.cvi .i64 (.t 29)), zm 7 30]
def q1w : IC := zr [zm 31 5, zm 32 7, zv 33 (.bin .sub .no (zc 9223372036854775807) (.t 32)), zv 34 (.bin .quo .no (.t 33) (zc 10)), zv 35 (.bin .gtr .no (.t 31) (.t 34))]
def qzf : IC := zr [zv 2 (.mov (zc 0)), zv 3 (.mov (zc 4))]
def qy6 : IC := zr [zm 36 5, zv 37 (.bin .mul .no (zc 10) (.t 36)), zm 38 7, zv 39 (.bin .add .no (.t 37) (.t 38)), zm 5 39]
def q4o : IC := zr [zm 40 6, zv 41 (.bin .add .no (.t 40) (zc 1)), zm 6 41]
def q21 : IC := zr [zm 42 6, zm 43 0, zv 44 (.len true (.t 43)), zv 45 (.bin .lss .no (.t 42) (.t 44))]
def qz9 : IC := zr [zm 46 5, zm 2 46, zv 3 (.mov (zc 0))]
def k0l : IC := (.seq qba1 (.scope (.seq (.seq q90 (.block 0 (.loop q8r))) (.seq (.seq qbat (.cond (.t 25) (.seq q2o .ret) .skip)) (.seq qz7 (.seq (.label 0) (.seq q1z (.seq (.seq q1w (.cond (.t 35) (.seq qzf .ret) .skip)) (.seq qy6 (.seq (.seq q4o (.seq q21 (.cond (.t 45) (.goto 0) .skip))) (.seq qz9 .ret)))))))))))
@[go_sem] def s0l : List (RV × Co) := [(.t 2, .id), (.t 3, .id)]
theorem c0l : cFun Try.prog 136 = some (47, k0l, s0l) := by kernel_rfl

def qba9 : IC := zr [zv 2 (.mov (.c (.str [])))]
def qbay : IC := zr [zm 6 0, zv 7 (.cvi .u64 (.t 6)), zm 3 7]
def q59 : IC := zr [zm 8 0, zv 9 (.bin .lss .no (.t 8) (zc 0))]
def q6k : IC := zr [zm 10 3, zv 11 (.un .neg (.t 10)), zm 3 11]
def q57 : IC := zr [zi 4 (.alo [(.int .u8 0), (.int .u8 0), (.int .u8 0), (.int .u8 0), (.int .u8 0), (.int .u8 0), (.int .u8 0), (.int .u8 0), (.int .u8 0), (.int .u8 0), (.int .u8 0), (.int .u8 0), (.int .u8 0), (.int .u8 0), (.int .u8 0), (.int .u8 0), (.int .u8 0), (.int .u8 0), (.int .u8 0), (.int .u8 0)])]
def q7h : IC := zr [zv 5 (.mov (zc 20))]
def q8e : IC := zr [zm 12 5, zv 13 (.bin .sub .no (.t 12) (zc 1)), zm 5 13]
def qbcv : IC := zr [zm 14 5, zm 15 3, zv 16 (.bin .rem .no (.t 15) (.c (.int .u64 10))), zv 17 (.bin .add .no (.c (.int .u64 48)) (.t 16)), zv 18 (.cvi .u8 (.t 17)), zv 19 (.aad 1 20 (.t 4) (.t 14)), zn (.st 1 .id (.t 19) (.t 18))]
def q61 : IC := zr [zm 20 3, zv 21 (.bin .quo .no (.t 20) (.c (.int .u64 10))), zm 3 21]
def qze : IC := zr [zm 22 3, zv 23 (.bin .eql .no (.t 22) (.c (.int .u64 0)))]
def q85 : IC := (.block 1 (.seq q8e (.seq qbcv (.seq q61 (.seq qze (.cond (.t 23) (.exit 0) .skip))))))
def q3t : IC := zr [zm 24 0, zv 25 (.bin .lss .no (.t 24) (zc 0))]
def qzx : IC := zr [zm 26 5, zv 27 (.sla 20 (.t 4) (.t 26)), zv 28 (.cbs (.t 27)), zv 29 (.bin .add .no (.c (.str [45])) (.t 28)), zm 2 29]
def q3m : IC := zr [zm 30 5, zv 31 (.sla 20 (.t 4) (.t 30)), zv 32 (.cbs (.t 31)), zm 2 32]
def k0s : IC := (.seq qba9 (.seq qbay (.seq (.seq q59 (.cond (.t 9) q6k .skip)) (.seq q57 (.seq q7h (.seq (.block 0 (.loop q85)) (.seq (.seq q3t (.cond (.t 25) (.seq qzx .ret) .skip)) (.seq q3m .ret))))))))
@[go_sem] def s0s : List (RV × Co) := [(.t 2, .id)]
theorem c0s : cFun Try.prog 137 = some (33, k0s, s0s) := by kernel_rfl

def q76 : IC := zr [zv 2 (.mov (.c (.int .u64 0)))]
def qbbz : IC := zr [zm 3 0, zv 4 (.bin .lss .no (.t 3) (zc 0))]
def qbab : IC := zr [zm 5 0, zv 6 (.cvi .u64 (.t 5)), zv 7 (.un .neg (.t 6)), zm 2 7]
def qbbt : IC := zr [zm 8 0, zv 9 (.cvi .u64 (.t 8)), zm 2 9]
def k0q : IC := (.seq q76 (.seq (.seq qbbz (.cond (.t 4) (.seq qbab .ret) .skip)) (.seq qbbt .ret)))
@[go_sem] def s0q : List (RV × Co) := [(.t 2, .id)]
theorem c0q : cFun Try.prog 143 = some (10, k0q, s0q) := by kernel_rfl

def q62 : IC := zr [zv 2 (.mov (.c (.str [])))]
def q6l : IC := zr [zm 4 0, zv 5 (.bin .lss .no (.t 4) (zc 0))]
def qbct : IC := zr [zv 2 (.mov (.c (.str [])))]
def q78 : IC := zr [zm 6 0, zv 7 (.bin .rem .no (.t 6) (zc 26)), zv 8 (.bin .add .no (zc 97) (.t 7)), zv 9 (.cvi .u8 (.t 8)), zv 10 (.bsl 1 [((.t 9), .id)]), zv 11 (.cbs (.t 10)), zm 3 11]
def q7a : IC := zr [zm 12 0, zv 13 (.bin .lss .no (.t 12) (zc 26))]
def qbci : IC := zr [zm 14 3, zm 2 14]
def q92 : IC := zr [zm 15 3, zm 16 0, zv 17 (.bin .quo .no (.t 16) (zc 26)), zi 18 (.call (.c (.fn 137 [] [])) [((.t 17), .id)]), zv 19 (.bin .add .no (.t 15) (.t 18)), zm 2 19]
def k0t : IC := (.seq q62 (.seq (.seq q6l (.cond (.t 5) (.seq qbct .ret) .skip)) (.seq q78 (.seq (.seq q7a (.cond (.t 13) (.seq qbci .ret) .skip)) (.seq q92 .ret)))))
@[go_sem] def s0t : List (RV × Co) := [(.t 2, .id)]
theorem c0t : cFun Try.prog 144 = some (20, k0t, s0t) := by kernel_rfl

def qbcq : IC := zr [zv 2 (.mov (zc 0)), zv 3 (.mov (zc 0))]
def qbbx : IC := zr [zm 8 0, zv 9 (.bin .eql .no (.t 8) (.c (.str [])))]
def q5j : IC := zr [zv 2 (.mov (zc 0)), zv 3 (.mov (zc 5))]
def q70 : IC := zr [zv 4 (.mov (zc 0))]
def q7u : IC := zr [zm 10 4, zm 11 0, zv 12 (.len true (.t 11)), zv 13 (.bin .lss .no (.t 10) (.t 12))]
def q5r : IC := zr [zm 16 0, zm 17 4, zv 18 (.idx (.t 16) (.t 17)), zv 19 (.bin .lss .no (.t 18) (.c (.int .u8 48))), zm 20 19, zw 20 false 21 (.mov (.t 0)), zw 20 false 22 (.mov (.t 4)), zw 20 false 23 (.idx (.t 21) (.t 22)), zw 20 false 24 (.bin .gtr .no (.t 23) (.c (.int .u8 57))), zv 25 (.pick (.t 20) (.c (.bool true)) (.t 24))]
def qbbv : IC := zr [zv 2 (.mov (zc 0)), zv 3 (.mov (zc 5))]
def qbbq : IC := zr [zm 14 4, zv 15 (.bin .add .no (.t 14) (zc 1)), zm 4 15]
def qbal : IC := (.seq (.seq q7u (.cond (.t 13) .skip (.exit 0))) (.seq (.block 1 (.seq q5r (.cond (.t 25) (.seq qbbv .ret) .skip))) qbbq))
def qyi : IC := zr [zv 5 (.mov (zc 0))]
def qx6 : IC := zr [zv 6 (.mov (zc 0))]
def qy4 : IC := zr [zm 26 6, zm 27 0, zv 28 (.len true (.t 27)), zv 29 (.bin .lss .no (.t 26) (.t 28))]
def q43 : IC := zr [zm 32 0, zm 33 6, zv 34 (.idx (.t 32) (.t 33)), zv 35 (.bin .sub .no (.t 34) (.c (.int .u8 48))), zv 36 (.cvi .i64 (.t 35)), zm 7 36]
def q02 : IC := zr [zm 37 5, zm 38 7, zv 39 (.bin .sub .no (zc 9223372036854775807) (.t 38)), zv 40 (.bin .quo .no (.t 39) (zc 10)), zv 41 (.bin .gtr .no (.t 37) (.t 40))]
def qzq : IC := zr [zv 2 (.mov (zc 0)), zv 3 (.mov (zc 4))]
def q38 : IC := zr [zm 42 5, zv 43 (.bin .mul .no (zc 10) (.t 42)), zm 44 7, zv 45 (.bin .add .no (.t 43) (.t 44)), zm 5 45]
def qy1 : IC := zr [zm 30 6, zv 31 (.bin .add .no (.t 30) (zc 1)), zm 6 31]
def qx5 : IC := (.seq (.seq qy4 (.cond (.t 29) .skip (.exit 2))) (.seq (.block 3 (.seq q43 (.seq (.seq q02 (.cond (.t 41) (.seq qzq .ret) .skip)) q38))) qy1))
def q1b : IC := zr [zm 46 5, zm 2 46, zv 3 (.mov (zc 0))]
def k0k : IC := (.seq qbcq (.seq (.seq qbbx (.cond (.t 9) (.seq q5j .ret) .skip)) (.seq (.seq q70 (.block 0 (.loop qbal))) (.seq qyi (.seq (.seq qx6 (.block 2 (.loop qx5))) (.seq q1b .ret))))))
@[go_sem] def s0k : List (RV × Co) := [(.t 2, .id), (.t 3, .id)]
theorem c0k : cFun Try.prog 145 = some (47, k0k, s0k) := by kernel_rfl

def q5m : IC := zr [zv 4 zf]
def q9b : IC := zr [zm 5 0, zv 6 (.len true (.t 5)), zm 7 1, zv 8 (.len true (.t 7)), zv 9 (.bin .geq .no (.t 6) (.t 8)), zm 10 9, zw 10 true 11 (.mov (.t 0)), zw 10 true 12 (.mov (.t 1)), zw 10 true 13 (.len true (.t 12)), zw 10 true 14 (.sls (.t 11) none (some (.t 13))), zw 10 true 15 (.mov (.t 1)), zw 10 true 16 (.bin .eql .no (.t 14) (.t 15)), zv 17 (.pick (.t 10) (.t 16) (.c (.bool false))), zm 4 17]
def k0i : IC := (.seq q5m (.seq q9b .ret))
@[go_sem] def s0i : List (RV × Co) := [(.t 4, .id)]
theorem c0i : cFun Try.prog 147 = some (18, k0i, s0i) := by kernel_rfl

end Go.Proofs.Ytfpobiheiloamaa
