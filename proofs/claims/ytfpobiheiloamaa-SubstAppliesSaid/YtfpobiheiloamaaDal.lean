/- A text of this proof. -/
import Derived.Test.YtfpobiheiloamaaDaf
import Derived.Test.YtfpobiheiloamaaProg
/- The compiled code of the functions. -/
namespace Go.Proofs.Ytfpobiheiloamaa
open Go Go.V
@[reducible] def zm (d s : Nat) : GI := ⟨none, some d, .v (.mov (.t s))⟩
@[reducible] def zv (d : Nat) (x : IV) : GI := ⟨none, some d, .v x⟩
@[reducible] def zi (d : Nat) (i : I) : GI := ⟨none, some d, i⟩
@[reducible] def zn (i : I) : GI := ⟨none, none, i⟩
@[reducible] def zw (j : Nat) (b : Bool) (d : Nat) (x : IV) : GI := ⟨some (j, b), some d, .v x⟩
@[reducible] def zp (g : GI) : GI × List Nat := (g, [])
@[reducible] def zN : Co := .agg [.id, .id, .id, .id, (.sl 5)]
@[reducible] def zC : Co := .agg [(.sl 4), .id, .id, .id, .id, .id, .id, .id]
@[reducible] def zaN : I := .alo [(.int .i64 0), (.int .i64 0), (.int .i64 0), (.str []), .nils]
@[reducible] def zaC : I := .alo [.nils, (.int .i64 0), (.int .i64 0), (.int .i64 0), (.str []), (.int .i64 0), (.int .i64 0), (.int .i64 0)]
@[reducible] def zaT : I := .alo [(.int .i64 0), (.int .i64 0), (.int .i64 0), (.str [])]
@[reducible] def zZ : AV := .agg [(.int .i64 0), (.int .i64 0), (.int .i64 0), (.str []), .nils]
@[reducible] def zc (n : Int) : Opd := .c (.int .i64 n)
@[reducible] def zf : IV := .mov (.c (.bool false))
@[reducible] def zr (l : List GI) : IC := .reg false l
def q0j : IC := zr [zi 4 (.box (.t 1)), zv 6 zf]
def q8p : IC := zr [zm 18 0, zi 19 (.call (.c (.fn 30 [] [])) [((.t 18), (.sl 4))]), zv 20 (.bin .eql .no (.t 19) (zc 0)), zm 21 20, zw 21 false 22 (.ld true 3 (.t 4)), zw 21 false 23 (.bsl 3 [((.t 22), (.agg [.id, .id, (.sl 3)]))]), ⟨some (21, false), some 24, .call (.c (.fn 31 [] [])) [((.t 23), (.sl 3))]⟩, zw 21 false 25 (.bin .eql .no (.t 24) (zc 0)), zv 26 (.pick (.t 21) (.c (.bool true)) (.t 25)), zm 27 26, zw 27 false 28 (.mov (.t 2)), zw 27 false 29 (.len false (.t 28)), zw 27 false 30 (.bin .gtr .no (.t 29) (zc 50)), zv 31 (.pick (.t 27) (.c (.bool true)) (.t 30))]
def q82 : IC := zr [zi 32 (.call (.c (.fn 32 [] [])) []), zm 6 32]
def qbar : IC := zr [zm 33 0, zi 34 (.call (.c (.fn 33 [] [])) [((.t 33), (.sl 4))]), zm 35 0, zi 36 (.call (.c (.fn 34 [] [])) [((.t 35), (.sl 4))]), zm 7 34, zm 8 36]
def q3q : IC := zr [zm 38 7, zv 39 (.ld true 3 (.t 4)), zi 40 (.call (.c (.fn 35 [] [])) [((.t 38), .id), ((.t 39), (.agg [.id, .id, (.sl 3)]))]), zm 37 40, zv 41 (.ext (.t 37) 0), zv 42 (.ext (.t 37) 1), zi 9 (.alo [(.str []), (.int .i64 0), .nils]), zn (.st 3 (.agg [.id, .id, (.sl 3)]) (.t 9) (.t 41)), zm 10 42]
def q3s : IC := zr [zm 44 8, zv 45 (.ld true 3 (.t 4)), zi 46 (.call (.c (.fn 36 [] [])) [((.t 44), (.sl 4)), ((.t 45), (.agg [.id, .id, (.sl 3)]))]), zm 43 46, zv 47 (.ext (.t 43) 0), zv 48 (.ext (.t 43) 1), zi 11 (.alo [(.str []), (.int .i64 0), .nils]), zn (.st 3 (.agg [.id, .id, (.sl 3)]) (.t 11) (.t 47)), zm 12 48]
def q69 : IC := zr [zv 13 (.mov (zc 0))]
def q7k : IC := zr [zm 49 13, zm 50 2, zv 51 (.len false (.t 50)), zv 52 (.bin .lss .no (.t 49) (.t 51))]
def qbbq : IC := zr [zm 56 7, zm 57 2, zm 58 13, zv 59 (.iad 1 (.t 57) (.t 58)), zv 60 (.ld false 1 (.t 59)), zi 61 (.call (.c (.fn 37 [] [])) [((.t 56), .id), ((.t 60), .id)]), zm 55 61, zv 62 (.ext (.t 55) 0), zv 63 (.ext (.t 55) 1), zi 14 (.alo [(.str []), (.int .i64 0), .nils]), zn (.st 3 (.agg [.id, .id, (.sl 3)]) (.t 14) (.t 62)), zm 15 63]
def qzc : IC := zr [zm 65 8, zm 66 2, zm 67 13, zv 68 (.iad 1 (.t 66) (.t 67)), zv 69 (.ld false 1 (.t 68)), zi 70 (.call (.c (.fn 38 [] [])) [((.t 65), (.sl 4)), ((.t 69), .id)]), zm 64 70, zv 71 (.ext (.t 64) 0), zv 72 (.ext (.t 64) 1), zi 16 (.alo [(.str []), (.int .i64 0), .nils]), zn (.st 3 (.agg [.id, .id, (.sl 3)]) (.t 16) (.t 71)), zm 17 72]
def qyk : IC := zr [zv 73 (.ld true 3 (.t 14)), zv 74 (.ld true 3 (.t 16)), zi 75 (.call (.c (.fn 39 [] [])) [((.t 73), (.agg [.id, .id, (.sl 3)])), ((.t 74), (.agg [.id, .id, (.sl 3)]))]), zv 76 (.un .not (.t 75)), zm 77 76, zw 77 false 78 (.mov (.t 15)), zw 77 false 79 (.mov (.t 17)), zw 77 false 80 (.bin .neq .bool (.t 78) (.t 79)), zv 81 (.pick (.t 77) (.c (.bool true)) (.t 80))]
def qy1 : IC := zr [zv 6 zf]
def qy8 : IC := zr [zm 53 13, zv 54 (.bin .add .no (.t 53) (zc 1)), zm 13 54]
def q11 : IC := (.seq (.seq q7k (.cond (.t 52) .skip (.exit 0))) (.seq (.block 1 (.seq qbbq (.seq qzc (.seq qyk (.cond (.t 81) (.seq qy1 .ret) .skip))))) qy8))
def qwm : IC := zr [zm 82 7, zi 83 (.call (.c (.fn 41 [] [])) [((.t 82), .id)]), zm 84 8, zi 85 (.call (.c (.fn 40 [] [])) [((.t 83), (.sl 4)), ((.t 84), (.sl 4))]), zm 86 85, zw 86 true 87 (.ld true 3 (.t 9)), zw 86 true 88 (.ld true 3 (.t 11)), ⟨some (86, true), some 89, .call (.c (.fn 39 [] [])) [((.t 87), (.agg [.id, .id, (.sl 3)])), ((.t 88), (.agg [.id, .id, (.sl 3)]))]⟩, zv 90 (.pick (.t 86) (.t 89) (.c (.bool false))), zm 91 90, zw 91 true 92 (.mov (.t 10)), zw 91 true 93 (.mov (.t 12)), zw 91 true 94 (.bin .eql .no (.t 92) (.t 93)), zv 95 (.pick (.t 91) (.t 94) (.c (.bool false))), zm 96 95, zw 96 true 97 (.mov (.t 7)), zw 96 true 98 (.mov (.t 2)), ⟨some (96, true), some 99, .call (.c (.fn 42 [] [])) [((.t 97), .id), ((.t 98), (.sl 1))]⟩, ⟨some (96, true), some 100, .call (.c (.fn 41 [] [])) [((.t 99), .id)]⟩, zw 96 true 101 (.mov (.t 8)), zw 96 true 102 (.mov (.t 2)), ⟨some (96, true), some 103, .call (.c (.fn 43 [] [])) [((.t 101), (.sl 4)), ((.t 102), (.sl 1))]⟩, ⟨some (96, true), some 104, .call (.c (.fn 40 [] [])) [((.t 100), (.sl 4)), ((.t 103), (.sl 4))]⟩, zv 105 (.pick (.t 96) (.t 104) (.c (.bool false))), zm 106 105, ⟨some (106, true), some 107, .call (.c (.fn 32 [] [])) []⟩, zv 108 (.pick (.t 106) (.t 107) (.c (.bool false))), zm 6 108]
def k0bc : IC := (.seq q0j (.seq (.seq q8p (.cond (.t 31) (.seq q82 .ret) .skip)) (.seq qbar (.seq q3q (.seq q3s (.seq (.seq q69 (.block 0 (.loop q11))) (.seq qwm .ret)))))))
@[go_sem] def s0bc : List (RV × Co) := [(.t 6, .id)]
theorem c0bc : cFun Try.prog 6 = some (109, k0bc, s0bc) := by kernel_rfl

def q1w : IC := zr [zv 2 (.mov (zc 0))]
def q46 : IC := zr [zm 5 0, zv 6 (.len false (.t 5)), zv 7 (.bin .gtr .no (.t 6) (zc 30))]
def q4a : IC := zr [zv 2 (.mov (zc 0))]
def qbb9 : IC := zr [zv 3 (.mov (.c .nils))]
def q3c : IC := zr [zv 4 (.mov (zc 0))]
def q29 : IC := zr [zm 8 4, zm 9 0, zv 10 (.len false (.t 9)), zv 11 (.bin .lss .no (.t 8) (.t 10))]
def q51 : IC := zr [zm 14 3, zm 15 0, zm 16 4, zv 17 (.iad 4 (.t 15) (.t 16)), zv 18 (.fad (.t 17) 1), zv 19 (.ld true 3 (.t 18)), zv 20 (.bsl 3 [((.t 19), (.agg [.id, .id, (.sl 3)]))]), zi 21 (.app 3 (.agg [(.str []), (.int .i64 0), .nils]) 48 (.sl 3) (.t 14) (.t 20)), zm 3 21]
def q0d : IC := zr [zm 12 4, zv 13 (.bin .add .no (.t 12) (zc 1)), zm 4 13]
def q3e : IC := (.seq (.seq q29 (.cond (.t 11) .skip (.exit 0))) (.seq (.block 1 q51) q0d))
def qyr : IC := zr [zm 22 3, zi 23 (.call (.c (.fn 31 [] [])) [((.t 22), (.sl 3))]), zm 2 23]
def k0be : IC := (.seq q1w (.seq (.seq q46 (.cond (.t 7) (.seq q4a .ret) .skip)) (.seq qbb9 (.seq (.seq q3c (.block 0 (.loop q3e))) (.seq qyr .ret)))))
@[go_sem] def s0be : List (RV × Co) := [(.t 2, .id)]
theorem c0be : cFun Try.prog 30 = some (24, k0be, s0be) := by kernel_rfl

def q5d : IC := zr [zv 2 (.mov (zc 0))]
def q56 : IC := zr [zv 3 (.mov (zc 20000))]
def q0p : IC := zr [zv 4 (.mov (zc 0))]
def q63 : IC := zr [zm 5 4, zm 6 0, zv 7 (.len false (.t 6)), zv 8 (.bin .lss .no (.t 5) (.t 7))]
def q3d : IC := zr [zm 11 0, zm 12 4, zv 13 (.iad 3 (.t 11) (.t 12)), zv 14 (.ld true 3 (.t 13)), zm 15 3, zi 16 (.call (.c (.fn 77 [] [])) [((.t 14), (.agg [.id, .id, (.sl 3)])), ((.t 15), .id), ((zc 300), .id)]), zm 3 16]
def q8w : IC := zr [zm 9 4, zv 10 (.bin .add .no (.t 9) (zc 1)), zm 4 10]
def q1l : IC := (.seq (.seq q63 (.cond (.t 8) .skip (.exit 0))) (.seq (.block 1 q3d) q8w))
def q0h : IC := zr [zm 17 3, zv 18 (.bin .lss .no (.t 17) (zc 0))]
def q8j : IC := zr [zv 2 (.mov (zc 0))]
def qvt : IC := zr [zv 2 (.mov (zc 1))]
def k0ch : IC := (.seq q5d (.seq q56 (.seq (.seq q0p (.block 0 (.loop q1l))) (.seq (.seq q0h (.cond (.t 18) (.seq q8j .ret) .skip)) (.seq qvt .ret)))))
@[go_sem] def s0ch : List (RV × Co) := [(.t 2, .id)]
theorem c0ch : cFun Try.prog 31 = some (19, k0ch, s0ch) := by kernel_rfl

def q0w : IC := zr [zv 0 zf]
def qbbb : IC := zr [zv 11 (.bld [(.str []), (.int .i64 0), .nils] [(0, 1, (.c (.str [84])))]), zi 1 (.alo [(.str []), (.int .i64 0), .nils]), zn (.st 3 (.agg [.id, .id, (.sl 3)]) (.t 1) (.t 11))]
def q0y : IC := zr [zv 12 (.ld true 3 (.t 1)), zv 13 (.bld [(.int .i64 0), (.str []), (.int .i64 0), .nils] [(1, 3, (.t 12))]), zv 14 (.bld [(.str []), (.int .i64 0), .nils] [(0, 1, (.c (.str [85])))]), zv 15 (.bld [(.int .i64 0), (.str []), (.int .i64 0), .nils] [(1, 3, (.t 14))]), zv 16 (.bsl 4 [((.t 13), (.agg [.id, .id, .id, (.sl 3)])), ((.t 15), (.agg [.id, .id, .id, (.sl 3)]))]), zi 17 (.call (.c (.fn 33 [] [])) [((.t 16), (.sl 4))]), zm 2 17]
def q0t : IC := zr [zm 18 2, zv 19 (.bin .eql .ptr (.t 18) (.c .nilp))]
def q9s : IC := zr [zv 0 zf]
def q41 : IC := zr [zm 21 2, zv 22 (.bld [(.str []), (.int .i64 0), .nils] []), zv 23 (.bld [(.str []), (.int .i64 0), .nils] [(1, 1, (zc 1))]), zv 24 (.bsl 3 [((.t 22), (.agg [.id, .id, (.sl 3)])), ((.t 23), (.agg [.id, .id, (.sl 3)]))]), zv 25 (.bld [(.str []), (.int .i64 0), .nils] [(0, 1, (.c (.str [45, 62]))), (2, 1, (.t 24))]), zi 26 (.call (.c (.fn 35 [] [])) [((.t 21), .id), ((.t 25), (.agg [.id, .id, (.sl 3)]))]), zm 20 26, zv 27 (.ext (.t 20) 0), zv 28 (.ext (.t 20) 1), zi 3 (.alo [(.str []), (.int .i64 0), .nils]), zn (.st 3 (.agg [.id, .id, (.sl 3)]) (.t 3) (.t 27)), zm 4 28]
def q06 : IC := zr [zm 29 2, zv 30 (.ld true 3 (.t 1)), zi 31 (.call (.c (.fn 45 [] [])) [((.t 29), .id), ((zc 0), .id), ((.t 30), (.agg [.id, .id, (.sl 3)]))]), zm 32 2, zv 33 (.bld [(.str []), (.int .i64 0), .nils] []), zi 34 (.call (.c (.fn 45 [] [])) [((.t 32), .id), ((zc 1), .id), ((.t 33), (.agg [.id, .id, (.sl 3)]))]), zm 5 31, zm 6 34]
def qbbd : IC := zr [zm 36 2, zv 37 (.bld [(.str []), (.int .i64 0), .nils] [(0, 1, (.c (.str [86])))]), zv 38 (.bld [(.int .i64 0), (.str []), (.int .i64 0), .nils] [(1, 3, (.t 37))]), zv 39 (.bsl 4 [((.t 38), (.agg [.id, .id, .id, (.sl 3)]))]), zi 40 (.call (.c (.fn 33 [] [])) [((.t 39), (.sl 4))]), zi 41 (.call (.c (.fn 46 [] [])) [((.t 36), .id), ((.t 40), .id)]), zm 35 41, zv 42 (.ext (.t 35) 0), zv 43 (.ext (.t 35) 1), zm 7 42, zm 8 43]
def q47 : IC := zr [zm 45 7, zi 46 (.call (.c (.fn 37 [] [])) [((.t 45), .id), ((zc 1), .id)]), zm 44 46, zv 47 (.ext (.t 44) 0), zv 48 (.ext (.t 44) 1), zi 9 (.alo [(.str []), (.int .i64 0), .nils]), zn (.st 3 (.agg [.id, .id, (.sl 3)]) (.t 9) (.t 47)), zm 10 48]
def q9q : IC := zr [zv 49 (.ld true 3 (.t 3)), zi 50 (.call (.c (.fn 75 [] [])) [((.t 49), (.agg [.id, .id, (.sl 3)]))]), zv 51 (.bin .eql .no (.t 50) (.c (.str [84, 32, 45, 62, 32, 98]))), zm 52 51, zw 52 true 53 (.mov (.t 4)), zw 52 true 54 (.bin .eql .no (.t 53) (zc 0)), zv 55 (.pick (.t 52) (.t 54) (.c (.bool false))), zm 56 55, zw 56 true 57 (.mov (.t 5)), zw 56 true 58 (.bin .eql .no (.t 57) (zc 6)), zv 59 (.pick (.t 56) (.t 58) (.c (.bool false))), zm 60 59, zw 60 true 61 (.mov (.t 6)), zw 60 true 62 (.bin .eql .no (.t 61) (zc 0)), zv 63 (.pick (.t 60) (.t 62) (.c (.bool false))), zm 64 63, zw 64 true 65 (.mov (.t 8)), zw 64 true 66 (.bin .eql .no (.t 65) (zc 0)), zv 67 (.pick (.t 64) (.t 66) (.c (.bool false))), zm 68 67, zw 68 true 69 (.fad (.t 9) 0), zw 68 true 70 (.ld false 1 (.t 69)), zw 68 true 71 (.bin .eql .no (.t 70) (.c (.str [86]))), zv 72 (.pick (.t 68) (.t 71) (.c (.bool false))), zm 73 72, zw 73 true 74 (.mov (.t 10)), zv 75 (.pick (.t 73) (.t 74) (.c (.bool false))), zm 76 75, zw 76 true 77 (.mov (.t 2)), ⟨some (76, true), some 78, .call (.c (.fn 41 [] [])) [((.t 77), .id)]⟩, zw 76 true 79 (.len false (.t 78)), zw 76 true 80 (.bin .eql .no (.t 79) (zc 2)), zv 81 (.pick (.t 76) (.t 80) (.c (.bool false))), zm 82 81, zw 82 true 83 (.mov (.t 2)), zw 82 true 84 (.bsl 1 [((zc 1), .id)]), ⟨some (82, true), some 85, .call (.c (.fn 42 [] [])) [((.t 83), .id), ((.t 84), (.sl 1))]⟩, ⟨some (82, true), some 86, .call (.c (.fn 41 [] [])) [((.t 85), .id)]⟩, zw 82 true 87 (.len false (.t 86)), zw 82 true 88 (.bin .eql .no (.t 87) (zc 1)), zv 89 (.pick (.t 82) (.t 88) (.c (.bool false))), zm 0 89]
def k0bd : IC := (.seq q0w (.seq qbbb (.seq q0y (.seq (.seq q0t (.cond (.t 19) (.seq q9s .ret) .skip)) (.seq q41 (.seq q06 (.seq qbbd (.seq q47 (.seq q9q .ret)))))))))
@[go_sem] def s0bd : List (RV × Co) := [(.t 0, .id)]
theorem c0bd : cFun Try.prog 32 = some (90, k0bd, s0bd) := by kernel_rfl

def q8s : IC := zr [zv 2 (.mov (.c .nilp))]
def q6n : IC := zr [zv 6 (.bld [.nils] []), zi 7 (.box (.t 6)), zm 3 7]
def q1o : IC := zr [zm 8 0, zv 9 (.len false (.t 8)), zv 10 (.mov (zc 0))]
def qbaf : IC := zr [zv 11 (.bin .lss .no (.t 10) (.t 9))]
def q5t : IC := zr [zv 12 (.iad 4 (.t 8) (.t 10)), zv 13 (.ld true 4 (.t 12)), zi 5 (.alo [(.int .i64 0), (.str []), (.int .i64 0), .nils]), zn (.st 4 (.agg [.id, .id, .id, (.sl 3)]) (.t 5) (.t 13))]
def q3y : IC := zr [zm 14 3, zv 15 (.fad (.t 5) 0), zv 16 (.ld false 1 (.t 15)), zv 17 (.fad (.t 5) 1), zv 18 (.ld true 3 (.t 17)), zi 19 (.call (.c (.fn 45 [] [])) [((.t 14), .id), ((.t 16), .id), ((.t 18), (.agg [.id, .id, (.sl 3)]))])]
def q3u : IC := zr [zv 20 (.bin .add .no (.t 10) (zc 1)), zm 10 20]
def q45 : IC := (.seq qbaf (.seq (.cond (.t 11) .skip (.exit 0)) (.seq (.block 1 (.seq q5t q3y)) q3u)))
def q93 : IC := zr [zm 21 3, zm 2 21]
def k0bj : IC := (.seq q8s (.seq q6n (.seq (.seq q1o (.block 0 (.loop q45))) (.seq q93 .ret))))
@[go_sem] def s0bj : List (RV × Co) := [(.t 2, .id)]
theorem c0bj : cFun Try.prog 33 = some (22, k0bj, s0bj) := by kernel_rfl

def q67 : IC := zr [zv 2 (.mov (.c .nils))]
def q0o : IC := zr [zv 3 (.mov (.c .nils))]
def q28 : IC := zr [zv 4 (.mov (zc 0))]
def q8h : IC := zr [zm 7 4, zm 8 0, zv 9 (.len false (.t 8)), zv 10 (.bin .lss .no (.t 7) (.t 9))]
def q00 : IC := .drw [zp (zm 14 3), zp (zm 15 0), zp (zm 16 4), zp (zv 17 (.iad 4 (.t 15) (.t 16))), zp (zv 18 (.fad (.t 17) 0)), zp (zv 19 (.ld false 1 (.t 18))), zp (zm 20 0), zp (zm 21 4), zp (zv 22 (.iad 4 (.t 20) (.t 21))), zp (zv 23 (.fad (.t 22) 1)), zp (zv 24 (.ld true 3 (.t 23))), (zi 25 (.call (.c (.fn 44 [] [])) [((.t 14), (.sl 4)), ((.t 19), .id), ((.t 24), (.agg [.id, .id, (.sl 3)]))]), []), zp (zm 13 25), zp (zv 26 (.ext (.t 13) 0)), zp (zv 27 (.ext (.t 13) 1)), zp (zm 5 26), zp (zm 6 27)]
def q53 : IC := zr [zm 28 5, zm 3 28]
def q5b : IC := zr [zm 11 4, zv 12 (.bin .add .no (.t 11) (zc 1)), zm 4 12]
def q5a : IC := (.seq (.seq q8h (.cond (.t 10) .skip (.exit 0))) (.seq (.block 1 (.seq q00 q53)) q5b))
def q9n : IC := zr [zm 29 3, zm 2 29]
def k0cm : IC := (.seq q67 (.seq q0o (.seq (.seq q28 (.block 0 (.loop q5a))) (.seq q9n .ret))))
@[go_sem] def s0cm : List (RV × Co) := [(.t 2, (.sl 4))]
theorem c0cm : cFun Try.prog 34 = some (30, k0cm, s0cm) := by kernel_rfl

def qbbn : IC := zr [zi 3 (.box (.t 1)), zi 4 (.alo [(.str []), (.int .i64 0), .nils]), zv 5 (.mov (zc 0))]
def q7v : IC := zr [zv 8 (.ld true 3 (.t 3)), zi 9 (.call (.c (.fn 48 [] [])) [((.t 8), (.agg [.id, .id, (.sl 3)]))]), zv 10 (.un .not (.t 9))]
def q2y : IC := zr [zv 11 (.bld [(.str []), (.int .i64 0), .nils] []), zn (.st 3 (.agg [.id, .id, (.sl 3)]) (.t 4) (.t 11)), zv 5 (.mov (zc 1))]
def q85 : IC := zr [zm 12 0, zv 13 (.bld [.nilp, (.int .i64 0)] [(0, 1, (.t 12)), (1, 1, (zc 4096))]), zi 14 (.box (.t 13)), zm 6 14]
def q6g : IC := zr [zm 15 6, zv 16 (.ld true 3 (.t 3)), zi 17 (.call (.c (.fn 78 [] [])) [((.t 15), .id), ((.t 16), (.agg [.id, .id, (.sl 3)])), ((zc 1), .id)]), zi 7 (.alo [(.str []), (.int .i64 0), .nils]), zn (.st 3 (.agg [.id, .id, (.sl 3)]) (.t 7) (.t 17))]
def qbaq : IC := zr [zm 18 6, zv 19 (.nck (.t 18)), zv 20 (.fad (.t 19) 1), zv 21 (.ld false 1 (.t 20)), zv 22 (.bin .lss .no (.t 21) (zc 0))]
def q5m : IC := zr [zv 23 (.bld [(.str []), (.int .i64 0), .nils] []), zn (.st 3 (.agg [.id, .id, (.sl 3)]) (.t 4) (.t 23)), zv 5 (.mov (zc 2))]
def q19 : IC := zr [zv 24 (.ld true 3 (.t 7)), zn (.st 3 (.agg [.id, .id, (.sl 3)]) (.t 4) (.t 24)), zv 5 (.mov (zc 0))]
def k0bi : IC := (.seq qbbn (.seq (.seq q7v (.cond (.t 10) (.seq q2y .ret) .skip)) (.seq q85 (.seq q6g (.seq (.seq qbaq (.cond (.t 22) (.seq q5m .ret) .skip)) (.seq q19 .ret))))))
@[go_sem] def s0bi : List (RV × Co) := [(.c true 3 4, (.agg [.id, .id, (.sl 3)])), (.t 5, .id)]
theorem c0bi : cFun Try.prog 35 = some (25, k0bi, s0bi) := by kernel_rfl

def q36 : IC := zr [zi 3 (.box (.t 1)), zi 4 (.alo [(.str []), (.int .i64 0), .nils]), zv 5 (.mov (zc 0))]
def q5p : IC := zr [zv 7 (.ld true 3 (.t 3)), zi 8 (.call (.c (.fn 79 [] [])) [((.t 7), (.agg [.id, .id, (.sl 3)]))]), zv 9 (.un .not (.t 8))]
def q21 : IC := zr [zv 10 (.bld [(.str []), (.int .i64 0), .nils] []), zn (.st 3 (.agg [.id, .id, (.sl 3)]) (.t 4) (.t 10)), zv 5 (.mov (zc 1))]
def q8i : IC := zr [zm 11 0, zv 12 (.ld true 3 (.t 3)), zi 13 (.call (.c (.fn 80 [] [])) [((.t 11), (.sl 4)), ((.t 12), (.agg [.id, .id, (.sl 3)]))]), zv 14 (.bin .gtr .no (.t 13) (zc 4096))]
def q6j : IC := zr [zv 15 (.bld [(.str []), (.int .i64 0), .nils] []), zn (.st 3 (.agg [.id, .id, (.sl 3)]) (.t 4) (.t 15)), zv 5 (.mov (zc 2))]
def q4g : IC := zr [zm 16 0, zv 17 (.ld true 3 (.t 3)), zi 18 (.call (.c (.fn 81 [] [])) [((.t 16), (.sl 4)), ((.t 17), (.agg [.id, .id, (.sl 3)]))]), zi 6 (.alo [(.str []), (.int .i64 0), .nils]), zn (.st 3 (.agg [.id, .id, (.sl 3)]) (.t 6) (.t 18))]
def q1m : IC := zr [zv 19 (.ld true 3 (.t 6)), zi 20 (.call (.c (.fn 79 [] [])) [((.t 19), (.agg [.id, .id, (.sl 3)]))]), zv 21 (.un .not (.t 20))]
def q22 : IC := zr [zv 22 (.bld [(.str []), (.int .i64 0), .nils] []), zn (.st 3 (.agg [.id, .id, (.sl 3)]) (.t 4) (.t 22)), zv 5 (.mov (zc 2))]
def q7p : IC := zr [zv 23 (.ld true 3 (.t 6)), zn (.st 3 (.agg [.id, .id, (.sl 3)]) (.t 4) (.t 23)), zv 5 (.mov (zc 0))]
def k0cj : IC := (.seq q36 (.seq (.seq q5p (.cond (.t 9) (.seq q21 .ret) .skip)) (.seq (.seq q8i (.cond (.t 14) (.seq q6j .ret) .skip)) (.seq q4g (.seq (.seq q1m (.cond (.t 21) (.seq q22 .ret) .skip)) (.seq q7p .ret))))))
@[go_sem] def s0cj : List (RV × Co) := [(.c true 3 4, (.agg [.id, .id, (.sl 3)])), (.t 5, .id)]
theorem c0cj : cFun Try.prog 36 = some (24, k0cj, s0cj) := by kernel_rfl

def q3r : IC := zr [zi 4 (.alo [(.str []), (.int .i64 0), .nils]), zv 5 zf]
def q5w : IC := zr [zm 8 0, zv 9 (.bin .eql .ptr (.t 8) (.c .nilp))]
def q1f : IC := zr [zv 10 (.bld [(.str []), (.int .i64 0), .nils] []), zn (.st 3 (.agg [.id, .id, (.sl 3)]) (.t 4) (.t 10)), zv 5 zf]
def q0n : IC := zr [zm 12 0, zm 13 1, zi 14 (.call (.c (.fn 82 [] [])) [((.t 12), .id), ((.t 13), .id)]), zm 11 14, zv 15 (.ext (.t 11) 0), zv 16 (.ext (.t 11) 1), zm 6 15, zm 7 16]
def q1x : IC := zr [zm 17 7, zv 18 (.un .not (.t 17))]
def qbbe : IC := zr [zv 19 (.bld [(.str []), (.int .i64 0), .nils] []), zn (.st 3 (.agg [.id, .id, (.sl 3)]) (.t 4) (.t 19)), zv 5 zf]
def q7x : IC := zr [zm 20 0, zv 21 (.nck (.t 20)), zv 22 (.fad (.t 21) 0), zv 23 (.ld false 1 (.t 22)), zm 24 6, zv 25 (.iad 4 (.t 23) (.t 24)), zv 26 (.fad (.t 25) 1), zv 27 (.ld true 3 (.t 26)), zn (.st 3 (.agg [.id, .id, (.sl 3)]) (.t 4) (.t 27)), zv 5 (.mov (.c (.bool true)))]
def k0bm : IC := (.seq q3r (.seq (.seq q5w (.cond (.t 9) (.seq q1f .ret) .skip)) (.seq q0n (.seq (.seq q1x (.cond (.t 18) (.seq qbbe .ret) .skip)) (.seq q7x .ret)))))
@[go_sem] def s0bm : List (RV × Co) := [(.c true 3 4, (.agg [.id, .id, (.sl 3)])), (.t 5, .id)]
theorem c0bm : cFun Try.prog 37 = some (28, k0bm, s0bm) := by kernel_rfl

def q71 : IC := zr [zi 4 (.alo [(.str []), (.int .i64 0), .nils]), zv 5 zf]
def qba6 : IC := zr [zv 6 (.mov (zc 0))]
def qbbx : IC := zr [zm 7 6, zm 8 0, zv 9 (.len false (.t 8)), zv 10 (.bin .lss .no (.t 7) (.t 9))]
def qba8 : IC := zr [zm 13 0, zm 14 6, zv 15 (.iad 4 (.t 13) (.t 14)), zv 16 (.fad (.t 15) 0), zv 17 (.ld false 1 (.t 16)), zm 18 1, zv 19 (.bin .eql .no (.t 17) (.t 18))]
def q9r : IC := zr [zm 20 0, zm 21 6, zv 22 (.iad 4 (.t 20) (.t 21)), zv 23 (.fad (.t 22) 1), zv 24 (.ld true 3 (.t 23)), zn (.st 3 (.agg [.id, .id, (.sl 3)]) (.t 4) (.t 24)), zv 5 (.mov (.c (.bool true)))]
def q9w : IC := zr [zm 11 6, zv 12 (.bin .add .no (.t 11) (zc 1)), zm 6 12]
def qbbl : IC := (.seq (.seq qbbx (.cond (.t 10) .skip (.exit 0))) (.seq (.block 1 (.seq qba8 (.cond (.t 19) (.seq q9r .ret) .skip))) q9w))
def q2p : IC := zr [zv 25 (.bld [(.str []), (.int .i64 0), .nils] []), zn (.st 3 (.agg [.id, .id, (.sl 3)]) (.t 4) (.t 25)), zv 5 zf]
def k0br : IC := (.seq q71 (.seq (.seq qba6 (.block 0 (.loop qbbl))) (.seq q2p .ret)))
@[go_sem] def s0br : List (RV × Co) := [(.c true 3 4, (.agg [.id, .id, (.sl 3)])), (.t 5, .id)]
theorem c0br : cFun Try.prog 38 = some (26, k0br, s0br) := by kernel_rfl

def qbdk : IC := zr [zi 2 (.box (.t 0)), zi 3 (.box (.t 1)), zv 4 zf]
def qber : IC := zr [zv 6 (.fad (.t 2) 0), zv 7 (.ld false 1 (.t 6)), zv 8 (.fad (.t 3) 0), zv 9 (.ld false 1 (.t 8)), zv 10 (.bin .neq .no (.t 7) (.t 9)), zm 11 10, zw 11 false 12 (.fad (.t 2) 1), zw 11 false 13 (.ld false 1 (.t 12)), zw 11 false 14 (.fad (.t 3) 1), zw 11 false 15 (.ld false 1 (.t 14)), zw 11 false 16 (.bin .neq .no (.t 13) (.t 15)), zv 17 (.pick (.t 11) (.c (.bool true)) (.t 16)), zm 18 17, zw 18 false 19 (.fad (.t 2) 2), zw 18 false 20 (.ld false 1 (.t 19)), zw 18 false 21 (.len false (.t 20)), zw 18 false 22 (.fad (.t 3) 2), zw 18 false 23 (.ld false 1 (.t 22)), zw 18 false 24 (.len false (.t 23)), zw 18 false 25 (.bin .neq .no (.t 21) (.t 24)), zv 26 (.pick (.t 18) (.c (.bool true)) (.t 25))]
def qbdx : IC := zr [zv 4 zf]
def qbf6 : IC := zr [zv 5 (.mov (zc 0))]
def qbhp : IC := zr [zm 27 5, zv 28 (.fad (.t 2) 2), zv 29 (.ld false 1 (.t 28)), zv 30 (.len false (.t 29)), zv 31 (.bin .lss .no (.t 27) (.t 30))]
def qbe4 : IC := .drw [zp (zv 34 (.fad (.t 2) 2)), zp (zv 35 (.ld false 1 (.t 34))), zp (zm 36 5), zp (zv 37 (.iad 3 (.t 35) (.t 36))), zp (zv 38 (.ld true 3 (.t 37))), zp (zv 39 (.fad (.t 3) 2)), zp (zv 40 (.ld false 1 (.t 39))), zp (zm 41 5), zp (zv 42 (.iad 3 (.t 40) (.t 41))), zp (zv 43 (.ld true 3 (.t 42))), (zi 44 (.call (.c (.fn 39 [] [])) [((.t 38), (.agg [.id, .id, (.sl 3)])), ((.t 43), (.agg [.id, .id, (.sl 3)]))]), []), zp (zv 45 (.un .not (.t 44)))]
def qbfc : IC := zr [zv 4 zf]
def qbil : IC := zr [zm 32 5, zv 33 (.bin .add .no (.t 32) (zc 1)), zm 5 33]
def qbib : IC := (.seq (.seq qbhp (.cond (.t 31) .skip (.exit 0))) (.seq (.block 1 (.seq qbe4 (.cond (.t 45) (.seq qbfc .ret) .skip))) qbil))
def q43 : IC := zr [zv 4 (.mov (.c (.bool true)))]
def k0f : IC := (.seq qbdk (.seq (.seq qber (.cond (.t 26) (.seq qbdx .ret) .skip)) (.seq (.seq qbf6 (.block 0 (.loop qbib))) (.seq q43 .ret))))
@[go_sem] def s0f : List (RV × Co) := [(.t 4, .id)]
theorem c0f : cFun Try.prog 39 = some (46, k0f, s0f) := by kernel_rfl

def qbb2 : IC := zr [zv 4 zf]
def qbau : IC := zr [zm 6 0, zv 7 (.len false (.t 6)), zm 8 1, zv 9 (.len false (.t 8)), zv 10 (.bin .neq .no (.t 7) (.t 9))]
def q08 : IC := zr [zv 4 zf]
def q96 : IC := zr [zv 5 (.mov (zc 0))]
def q5i : IC := zr [zm 11 5, zm 12 0, zv 13 (.len false (.t 12)), zv 14 (.bin .lss .no (.t 11) (.t 13))]
def q72 : IC := .drw [zp (zm 17 0), zp (zm 18 5), zp (zv 19 (.iad 4 (.t 17) (.t 18))), zp (zv 20 (.fad (.t 19) 0)), zp (zv 21 (.ld false 1 (.t 20))), zp (zm 22 1), zp (zm 23 5), zp (zv 24 (.iad 4 (.t 22) (.t 23))), zp (zv 25 (.fad (.t 24) 0)), zp (zv 26 (.ld false 1 (.t 25))), zp (zv 27 (.bin .neq .no (.t 21) (.t 26))), zp (zm 28 27), zp (zw 28 false 29 (.mov (.t 0))), zp (zw 28 false 30 (.mov (.t 5))), zp (zw 28 false 31 (.iad 4 (.t 29) (.t 30))), zp (zw 28 false 32 (.fad (.t 31) 1)), zp (zw 28 false 33 (.ld true 3 (.t 32))), zp (zw 28 false 34 (.mov (.t 1))), zp (zw 28 false 35 (.mov (.t 5))), zp (zw 28 false 36 (.iad 4 (.t 34) (.t 35))), zp (zw 28 false 37 (.fad (.t 36) 1)), zp (zw 28 false 38 (.ld true 3 (.t 37))), (⟨some (28, false), some 39, .call (.c (.fn 39 [] [])) [((.t 33), (.agg [.id, .id, (.sl 3)])), ((.t 38), (.agg [.id, .id, (.sl 3)]))]⟩, []), zp (zw 28 false 40 (.un .not (.t 39))), zp (zv 41 (.pick (.t 28) (.c (.bool true)) (.t 40)))]
def q8m : IC := zr [zv 4 zf]
def q1q : IC := zr [zm 15 5, zv 16 (.bin .add .no (.t 15) (zc 1)), zm 5 16]
def q70 : IC := (.seq (.seq q5i (.cond (.t 14) .skip (.exit 0))) (.seq (.block 1 (.seq q72 (.cond (.t 41) (.seq q8m .ret) .skip))) q1q))
def qyc : IC := zr [zv 4 (.mov (.c (.bool true)))]
def k0ck : IC := (.seq qbb2 (.seq (.seq qbau (.cond (.t 10) (.seq q08 .ret) .skip)) (.seq (.seq q96 (.block 0 (.loop q70))) (.seq qyc .ret))))
@[go_sem] def s0ck : List (RV × Co) := [(.t 4, .id)]
theorem c0ck : cFun Try.prog 40 = some (42, k0ck, s0ck) := by kernel_rfl

def q4h : IC := zr [zv 2 (.mov (.c .nils))]
def q7f : IC := zr [zm 6 0, zv 7 (.bin .eql .ptr (.t 6) (.c .nilp))]
def q4y : IC := zr [zv 2 (.mov (.c .nils))]
def qba5 : IC := zr [zm 8 0, zv 9 (.nck (.t 8)), zv 10 (.fad (.t 9) 0), zv 11 (.ld false 1 (.t 10)), zv 12 (.len false (.t 11)), zi 13 (.mks 4 (.agg [(.int .i64 0), (.str []), (.int .i64 0), .nils]) 56 (.t 12) (.t 12)), zm 3 13]
def qbbk : IC := zr [zm 14 0, zv 15 (.nck (.t 14)), zv 16 (.fad (.t 15) 0), zv 17 (.ld false 1 (.t 16)), zv 18 (.len false (.t 17)), zv 19 (.mov (zc 0))]
def qbaw : IC := zr [zv 20 (.bin .lss .no (.t 19) (.t 18))]
def q9c : IC := zr [zm 21 19, zv 22 (.iad 4 (.t 17) (.t 19)), zv 23 (.ld true 4 (.t 22)), zi 5 (.alo [(.int .i64 0), (.str []), (.int .i64 0), .nils]), zm 4 21, zn (.st 4 (.agg [.id, .id, .id, (.sl 3)]) (.t 5) (.t 23))]
def q61 : IC := .drw [zp (zm 24 3), zp (zm 25 4), zp (zv 26 (.fad (.t 5) 0)), zp (zv 27 (.ld false 1 (.t 26))), zp (zv 28 (.fad (.t 5) 1)), zp (zv 29 (.ld true 3 (.t 28))), (zi 30 (.call (.c (.fn 83 [] [])) [((.t 29), (.agg [.id, .id, (.sl 3)]))]), [3]), (zv 31 (.bld [(.int .i64 0), (.str []), (.int .i64 0), .nils] [(0, 1, (.t 27)), (1, 3, (.t 30))]), []), zp (zv 32 (.iad 4 (.t 24) (.t 25))), (zn (.st 4 (.agg [.id, .id, .id, (.sl 3)]) (.t 32) (.t 31)), [])]
def q6c : IC := zr [zv 33 (.bin .add .no (.t 19) (zc 1)), zm 19 33]
def q2x : IC := (.seq qbaw (.seq (.cond (.t 20) .skip (.exit 0)) (.seq (.block 1 (.seq q9c q61)) q6c)))
def qxs : IC := zr [zm 34 3, zm 2 34]
def k0bh : IC := (.seq q4h (.seq (.seq q7f (.cond (.t 7) (.seq q4y .ret) .skip)) (.seq qba5 (.seq (.seq qbbk (.block 0 (.loop q2x))) (.seq qxs .ret)))))
@[go_sem] def s0bh : List (RV × Co) := [(.t 2, (.sl 4))]
theorem c0bh : cFun Try.prog 41 = some (35, k0bh, s0bh) := by kernel_rfl

def q5x : IC := zr [zv 4 (.mov (.c .nilp))]
def q5r : IC := zr [zi 8 (.call (.c (.fn 33 [] [])) [((.c .nils), (.sl 4))]), zm 5 8]
def q9f : IC := zr [zm 9 0, zi 10 (.call (.c (.fn 41 [] [])) [((.t 9), .id)]), zv 11 (.len false (.t 10)), zv 12 (.mov (zc 0))]
def q3j : IC := zr [zv 13 (.bin .lss .no (.t 12) (.t 11))]
def q0k : IC := zr [zv 14 (.iad 4 (.t 10) (.t 12)), zv 15 (.ld true 4 (.t 14)), zi 7 (.alo [(.int .i64 0), (.str []), (.int .i64 0), .nils]), zn (.st 4 (.agg [.id, .id, .id, (.sl 3)]) (.t 7) (.t 15))]
def q8c : IC := zr [zm 16 1, zv 17 (.fad (.t 7) 0), zv 18 (.ld false 1 (.t 17)), zi 19 (.call (.c (.fn 66 [] [])) [((.t 16), (.sl 1)), ((.t 18), .id)])]
def q8l : IC := zr [zm 20 5, zv 21 (.fad (.t 7) 0), zv 22 (.ld false 1 (.t 21)), zv 23 (.fad (.t 7) 1), zv 24 (.ld true 3 (.t 23)), zi 25 (.call (.c (.fn 45 [] [])) [((.t 20), .id), ((.t 22), .id), ((.t 24), (.agg [.id, .id, (.sl 3)]))])]
def q6m : IC := zr [zv 26 (.bin .add .no (.t 12) (zc 1)), zm 12 26]
def q68 : IC := (.seq q3j (.seq (.cond (.t 13) .skip (.exit 0)) (.seq (.block 1 (.seq q0k (.seq q8c (.cond (.t 19) q8l .skip)))) q6m)))
def qzd : IC := zr [zm 27 5, zm 4 27]
def k0bg : IC := (.seq q5x (.seq q5r (.seq (.seq q9f (.block 0 (.loop q68))) (.seq qzd .ret))))
@[go_sem] def s0bg : List (RV × Co) := [(.t 4, .id)]
theorem c0bg : cFun Try.prog 42 = some (28, k0bg, s0bg) := by kernel_rfl

def q6x : IC := zr [zv 4 (.mov (.c .nils))]
def q2m : IC := zr [zv 5 (.mov (.c .nils))]
def q38 : IC := zr [zv 6 (.mov (zc 0))]
def qbb1 : IC := zr [zm 7 6, zm 8 0, zv 9 (.len false (.t 8)), zv 10 (.bin .lss .no (.t 7) (.t 9))]
def q0v : IC := zr [zm 13 1, zm 14 0, zm 15 6, zv 16 (.iad 4 (.t 14) (.t 15)), zv 17 (.fad (.t 16) 0), zv 18 (.ld false 1 (.t 17)), zi 19 (.call (.c (.fn 84 [] [])) [((.t 13), (.sl 1)), ((.t 18), .id)])]
def q5l : IC := zr [zm 20 5, zm 21 0, zm 22 6, zv 23 (.iad 4 (.t 21) (.t 22)), zv 24 (.ld true 4 (.t 23)), zv 25 (.bsl 4 [((.t 24), (.agg [.id, .id, .id, (.sl 3)]))]), zi 26 (.app 4 (.agg [(.int .i64 0), (.str []), (.int .i64 0), .nils]) 56 (.sl 4) (.t 20) (.t 25)), zm 5 26]
def q2k : IC := zr [zm 11 6, zv 12 (.bin .add .no (.t 11) (zc 1)), zm 6 12]
def q15 : IC := (.seq (.seq qbb1 (.cond (.t 10) .skip (.exit 0))) (.seq (.block 1 (.seq q0v (.cond (.t 19) q5l .skip))) q2k))
def q92 : IC := zr [zm 27 5, zm 4 27]
def k0cl : IC := (.seq q6x (.seq q2m (.seq (.seq q38 (.block 0 (.loop q15))) (.seq q92 .ret))))
@[go_sem] def s0cl : List (RV × Co) := [(.t 4, (.sl 4))]
theorem c0cl : cFun Try.prog 43 = some (28, k0cl, s0cl) := by kernel_rfl

def qbaa : IC := zr [zi 5 (.box (.t 2)), zv 6 (.mov (.c .nils)), zv 7 (.mov (zc 0))]
def q1a : IC := zr [zv 11 (.ld true 3 (.t 5)), zi 12 (.call (.c (.fn 79 [] [])) [((.t 11), (.agg [.id, .id, (.sl 3)]))]), zv 13 (.un .not (.t 12))]
def q09 : IC := zr [zm 14 0, zm 6 14, zv 7 (.mov (zc 1))]
def qba0 : IC := zr [zm 16 0, zm 17 1, zi 18 (.call (.c (.fn 38 [] [])) [((.t 16), (.sl 4)), ((.t 17), .id)]), zm 15 18, zv 19 (.ext (.t 15) 0), zv 20 (.ext (.t 15) 1), zi 8 (.alo [(.str []), (.int .i64 0), .nils]), zn (.st 3 (.agg [.id, .id, (.sl 3)]) (.t 8) (.t 19)), zm 9 20]
def q9o : IC := zr [zm 21 9]
def q4z : IC := zr [zm 22 0, zm 6 22, zv 7 (.mov (zc 6))]
def q3o : IC := zr [zv 10 (.mov (zc 0))]
def q23 : IC := zr [zm 23 10, zm 24 0, zv 25 (.len false (.t 24)), zv 26 (.bin .lss .no (.t 23) (.t 25)), zm 27 26, zw 27 true 28 (.mov (.t 0)), zw 27 true 29 (.mov (.t 10)), zw 27 true 30 (.iad 4 (.t 28) (.t 29)), zw 27 true 31 (.fad (.t 30) 0), zw 27 true 32 (.ld false 1 (.t 31)), zw 27 true 33 (.mov (.t 1)), zw 27 true 34 (.bin .lss .no (.t 32) (.t 33)), zv 35 (.pick (.t 27) (.t 34) (.c (.bool false)))]
def q5n : IC := zr [zm 36 10, zv 37 (.bin .add .no (.t 36) (zc 1)), zm 10 37]
def q4w : IC := (.seq (.seq q23 (.cond (.t 35) .skip (.exit 0))) (.block 1 q5n))
def qx9 : IC := .drw [zp (zm 38 0), zp (zm 39 10), zp (zv 40 (.slv 4 (.t 38) none (some (.t 39)) none)), (zi 41 (.app 4 (.agg [(.int .i64 0), (.str []), (.int .i64 0), .nils]) 56 (.sl 4) (.c .nils) (.t 40)), []), zp (zm 42 1), (zv 43 (.ld true 3 (.t 5)), [3]), (zv 44 (.bld [(.int .i64 0), (.str []), (.int .i64 0), .nils] [(0, 1, (.t 42)), (1, 3, (.t 43))]), []), (zv 45 (.bsl 4 [((.t 44), (.agg [.id, .id, .id, (.sl 3)]))]), [3]), (zi 46 (.app 4 (.agg [(.int .i64 0), (.str []), (.int .i64 0), .nils]) 56 (.sl 4) (.t 41) (.t 45)), []), zp (zm 47 0), zp (zm 48 10), (zv 49 (.slv 4 (.t 47) (some (.t 48)) none none), [3, 8]), (zi 50 (.app 4 (.agg [(.int .i64 0), (.str []), (.int .i64 0), .nils]) 56 (.sl 4) (.t 46) (.t 49)), []), zp (zm 6 50), zp (zv 7 (.mov (zc 0)))]
def k0bs : IC := (.seq qbaa (.seq (.seq q1a (.cond (.t 13) (.seq q09 .ret) .skip)) (.seq (.seq qba0 (.seq q9o (.cond (.t 21) (.seq q4z .ret) .skip))) (.seq q3o (.seq (.block 0 (.loop q4w)) (.seq qx9 .ret))))))
@[go_sem] def s0bs : List (RV × Co) := [(.t 6, (.sl 4)), (.t 7, .id)]
theorem c0bs : cFun Try.prog 44 = some (51, k0bs, s0bs) := by kernel_rfl

def q48 : IC := zr [zi 5 (.box (.t 2)), zv 6 (.mov (zc 0))]
def q4s : IC := zr [zm 9 0, zv 10 (.bin .eql .ptr (.t 9) (.c .nilp)), zm 11 10, zw 11 false 12 (.ld true 3 (.t 5)), ⟨some (11, false), some 13, .call (.c (.fn 48 [] [])) [((.t 12), (.agg [.id, .id, (.sl 3)]))]⟩, zw 11 false 14 (.un .not (.t 13)), zv 15 (.pick (.t 11) (.c (.bool true)) (.t 14))]
def q95 : IC := zr [zv 6 (.mov (zc 1))]
def q7u : IC := zr [zm 17 0, zm 18 1, zi 19 (.call (.c (.fn 82 [] [])) [((.t 17), .id), ((.t 18), .id)]), zm 16 19, zv 20 (.ext (.t 16) 0), zv 21 (.ext (.t 16) 1), zm 7 20, zm 8 21]
def qbb6 : IC := zr [zm 22 8]
def q7w : IC := zr [zv 6 (.mov (zc 6))]
def q4c : IC := .drw [zp (zm 23 0), zp (zm 24 0), zp (zv 25 (.nck (.t 24))), zp (zv 26 (.fad (.t 25) 0)), zp (zv 27 (.ld false 1 (.t 26))), zp (zm 28 7), zp (zm 29 1), zp (zv 30 (.ld true 3 (.t 5))), (zi 31 (.call (.c (.fn 83 [] [])) [((.t 30), (.agg [.id, .id, (.sl 3)]))]), [4]), (zv 32 (.bld [(.int .i64 0), (.str []), (.int .i64 0), .nils] [(0, 1, (.t 29)), (1, 3, (.t 31))]), []), (zv 33 (.bsl 4 [((.t 32), (.agg [.id, .id, .id, (.sl 3)]))]), []), (zi 34 (.call (.c (.fn 85 [] [])) [((.t 27), (.sl 4)), ((.t 28), .id), ((.t 33), (.sl 4))]), []), zp (zv 35 (.nck (.t 23))), zp (zv 36 (.fad (.t 35) 0)), (zn (.st 1 (.sl 4) (.t 36) (.t 34)), [])]
def q50 : IC := zr [zv 6 (.mov (zc 0))]
def k0bl : IC := (.seq q48 (.seq (.seq q4s (.cond (.t 15) (.seq q95 .ret) .skip)) (.seq q7u (.seq (.seq qbb6 (.cond (.t 22) (.seq q7w .ret) .skip)) (.seq q4c (.seq q50 .ret))))))
@[go_sem] def s0bl : List (RV × Co) := [(.t 6, .id)]
theorem c0bl : cFun Try.prog 45 = some (37, k0bl, s0bl) := by kernel_rfl

def q04 : IC := zr [zv 4 (.mov (.c .nilp)), zv 5 (.mov (zc 0))]
def q88 : IC := zr [zi 13 (.call (.c (.fn 33 [] [])) [((.c .nils), (.sl 4))]), zm 6 13]
def q5z : IC := zr [zm 14 0, zi 15 (.call (.c (.fn 41 [] [])) [((.t 14), .id)]), zv 16 (.len false (.t 15)), zv 17 (.mov (zc 0))]
def q7o : IC := zr [zv 18 (.bin .lss .no (.t 17) (.t 16))]
def q4b : IC := zr [zv 19 (.iad 4 (.t 15) (.t 17)), zv 20 (.ld true 4 (.t 19)), zi 8 (.alo [(.int .i64 0), (.str []), (.int .i64 0), .nils]), zn (.st 4 (.agg [.id, .id, .id, (.sl 3)]) (.t 8) (.t 20))]
def q3p : IC := zr [zm 22 1, zv 23 (.fad (.t 8) 1), zv 24 (.ld true 3 (.t 23)), zi 25 (.call (.c (.fn 35 [] [])) [((.t 22), .id), ((.t 24), (.agg [.id, .id, (.sl 3)]))]), zm 21 25, zv 26 (.ext (.t 21) 0), zv 27 (.ext (.t 21) 1), zi 9 (.alo [(.str []), (.int .i64 0), .nils]), zn (.st 3 (.agg [.id, .id, (.sl 3)]) (.t 9) (.t 26)), zm 10 27]
def q2w : IC := zr [zm 28 10, zv 29 (.bin .neq .no (.t 28) (zc 0))]
def qbb3 : IC := zr [zm 30 10, zv 4 (.mov (.c .nilp)), zm 5 30]
def q2t : IC := zr [zm 31 6, zv 32 (.fad (.t 8) 0), zv 33 (.ld false 1 (.t 32)), zv 34 (.ld true 3 (.t 9)), zi 35 (.call (.c (.fn 45 [] [])) [((.t 31), .id), ((.t 33), .id), ((.t 34), (.agg [.id, .id, (.sl 3)]))])]
def qwd : IC := zr [zv 36 (.bin .add .no (.t 17) (zc 1)), zm 17 36]
def qbb0 : IC := (.seq q7o (.seq (.cond (.t 18) .skip (.exit 0)) (.seq (.block 1 (.seq q4b (.seq q3p (.seq (.seq q2w (.cond (.t 29) (.seq qbb3 .ret) .skip)) q2t)))) qwd)))
def qvo : IC := zr [zm 37 1, zi 38 (.call (.c (.fn 41 [] [])) [((.t 37), .id)]), zv 39 (.len false (.t 38)), zv 40 (.mov (zc 0))]
def qx8 : IC := zr [zv 41 (.bin .lss .no (.t 40) (.t 39))]
def qy2 : IC := zr [zv 42 (.iad 4 (.t 38) (.t 40)), zv 43 (.ld true 4 (.t 42)), zi 12 (.alo [(.int .i64 0), (.str []), (.int .i64 0), .nils]), zn (.st 4 (.agg [.id, .id, .id, (.sl 3)]) (.t 12) (.t 43))]
def qwn : IC := zr [zm 44 6, zv 45 (.fad (.t 12) 0), zv 46 (.ld false 1 (.t 45)), zv 47 (.fad (.t 12) 1), zv 48 (.ld true 3 (.t 47)), zi 49 (.call (.c (.fn 45 [] [])) [((.t 44), .id), ((.t 46), .id), ((.t 48), (.agg [.id, .id, (.sl 3)]))])]
def qzl : IC := zr [zv 50 (.bin .add .no (.t 40) (zc 1)), zm 40 50]
def qwl : IC := (.seq qx8 (.seq (.cond (.t 41) .skip (.exit 2)) (.seq (.block 3 (.seq qy2 qwn)) qzl)))
def qvk : IC := zr [zm 51 6, zm 4 51, zv 5 (.mov (zc 0))]
def k0bf : IC := (.seq q04 (.seq q88 (.seq (.seq q5z (.block 0 (.loop qbb0))) (.seq (.seq qvo (.block 2 (.loop qwl))) (.seq qvk .ret)))))
@[go_sem] def s0bf : List (RV × Co) := [(.t 4, .id), (.t 5, .id)]
theorem c0bf : cFun Try.prog 46 = some (52, k0bf, s0bf) := by kernel_rfl

def q6p : IC := zr [zi 1 (.box (.t 0)), zv 2 zf]
def q4l : IC := zr [zi 3 (.alo [(.int .i64 0)]), zn (.st 1 .id (.t 3) (zc 0))]
def qbag : IC := zr [zv 4 (.ld true 3 (.t 1)), zv 5 (.mfn 87 [] [(.t 3)]), zi 6 (.call (.c (.fn 86 [] [])) [((.t 4), (.agg [.id, .id, (.sl 3)])), ((zc 1), .id), ((.t 5), .id)]), zm 2 6]
def k0ca : IC := (.seq q6p (.seq q4l (.seq qbag .ret)))
@[go_sem] def s0ca : List (RV × Co) := [(.t 2, .id)]
theorem c0ca : cFun Try.prog 48 = some (7, k0ca, s0ca) := by kernel_rfl

def qbdf : IC := zr [zv 4 zf]
def qbc8 : IC := zr [zm 5 0, zm 6 1, zi 7 (.call (.c (.fn 100 [] [])) [((.t 5), (.sl 1)), ((.t 6), .id)]), zv 8 (.bin .geq .no (.t 7) (zc 0)), zm 4 8]
def k0b : IC := (.seq qbdf (.seq qbc8 .ret))
@[go_sem] def s0b : List (RV × Co) := [(.t 4, .id)]
theorem c0b : cFun Try.prog 66 = some (9, k0b, s0b) := by kernel_rfl

def qbgg : IC := zr [zv 2 zf]
def qbea : IC := zr [zm 3 0, zv 4 (.bin .neq .no (.t 3) (.c (.str []))), zm 5 4, zw 5 true 6 (.mov (.t 0)), zw 5 true 7 (.idx (.t 6) (zc 0)), ⟨some (5, true), some 8, .call (.c (.fn 106 [] [])) [((.t 7), .id)]⟩, zv 9 (.pick (.t 5) (.t 8) (.c (.bool false))), zm 10 9, zw 10 true 11 (.mov (.t 0)), ⟨some (10, true), some 12, .call (.c (.fn 107 [] [])) [((.t 11), .id)]⟩, zv 13 (.pick (.t 10) (.t 12) (.c (.bool false))), zm 2 13]
def k0w : IC := (.seq qbgg (.seq qbea .ret))
@[go_sem] def s0w : List (RV × Co) := [(.t 2, .id)]
theorem c0w : cFun Try.prog 72 = some (14, k0w, s0w) := by kernel_rfl

def q8u : IC := zr [zi 1 (.box (.t 0)), zv 2 (.mov (.c (.str [])))]
def q7z : IC := zr [zv 3 (.ld true 3 (.t 1)), zi 4 (.call (.c (.fn 48 [] [])) [((.t 3), (.agg [.id, .id, (.sl 3)]))]), zv 5 (.un .not (.t 4))]
def qbaz : IC := zr [zv 2 (.mov (.c (.str [])))]
def qbbo : IC := zr [zv 6 (.ld true 3 (.t 1)), zi 7 (.call (.c (.fn 109 [] [])) [((.t 6), (.agg [.id, .id, (.sl 3)]))]), zm 2 7]
def k0bw : IC := (.seq q8u (.seq (.seq q7z (.cond (.t 5) (.seq qbaz .ret) .skip)) (.seq qbbo .ret)))
@[go_sem] def s0bw : List (RV × Co) := [(.t 2, .id)]
theorem c0bw : cFun Try.prog 75 = some (8, k0bw, s0bw) := by kernel_rfl

def qbc6 : IC := zr [zi 2 (.box (.t 0)), zi 3 (.box (.t 1)), zv 4 zf]
def qbgh : IC := .drw [zp (zv 6 (.ld true 3 (.t 2))), (zi 7 (.call (.c (.fn 88 [] [])) [((.t 6), (.agg [.id, .id, (.sl 3)]))]), []), (zv 8 (.ld true 3 (.t 3)), [1]), (zi 9 (.call (.c (.fn 88 [] [])) [((.t 8), (.agg [.id, .id, (.sl 3)]))]), []), (zv 10 (.bin .neq (.cells [.str, (.int .i64), (.int .i64)]) (.t 7) (.t 9)), [])]
def qbe1 : IC := zr [zv 4 zf]
def qbic : IC := zr [zv 11 (.fad (.t 2) 2), zv 12 (.ld false 1 (.t 11)), zv 13 (.len false (.t 12)), zv 14 (.mov (zc 0))]
def qbgp : IC := zr [zv 15 (.bin .lss .no (.t 14) (.t 13))]
def qbhs : IC := zr [zm 16 14, zm 5 16]
def qbd8 : IC := .drw [zp (zv 17 (.fad (.t 2) 2)), zp (zv 18 (.ld false 1 (.t 17))), zp (zm 19 5), zp (zv 20 (.iad 3 (.t 18) (.t 19))), zp (zv 21 (.ld true 3 (.t 20))), zp (zv 22 (.fad (.t 3) 2)), zp (zv 23 (.ld false 1 (.t 22))), zp (zm 24 5), zp (zv 25 (.iad 3 (.t 23) (.t 24))), zp (zv 26 (.ld true 3 (.t 25))), (zi 27 (.call (.c (.fn 76 [] [])) [((.t 21), (.agg [.id, .id, (.sl 3)])), ((.t 26), (.agg [.id, .id, (.sl 3)]))]), []), zp (zv 28 (.un .not (.t 27)))]
def qbd7 : IC := zr [zv 4 zf]
def qbgo : IC := zr [zv 29 (.bin .add .no (.t 14) (zc 1)), zm 14 29]
def qbeg : IC := (.seq qbgp (.seq (.cond (.t 15) .skip (.exit 0)) (.seq (.block 1 (.seq qbhs (.seq qbd8 (.cond (.t 28) (.seq qbd7 .ret) .skip)))) qbgo)))
def q7i : IC := zr [zv 4 (.mov (.c (.bool true)))]
def k0e : IC := (.seq qbc6 (.seq (.seq qbgh (.cond (.t 10) (.seq qbe1 .ret) .skip)) (.seq (.seq qbic (.block 0 (.loop qbeg))) (.seq q7i .ret))))
@[go_sem] def s0e : List (RV × Co) := [(.t 4, .id)]
theorem c0e : cFun Try.prog 76 = some (30, k0e, s0e) := by kernel_rfl

def q6q : IC := zr [zi 3 (.box (.t 0)), zv 6 (.mov (zc 0))]
def qbac : IC := zr [zm 8 1, zv 9 (.bin .sub .no (.t 8) (zc 1)), zm 1 9]
def q39 : IC := zr [zm 10 2, zv 11 (.bin .lss .no (.t 10) (zc 1))]
def q37 : IC := zr [zv 6 (.mov (zc (-1)))]
def q4f : IC := zr [zv 7 (.mov (zc 0))]
def q18 : IC := zr [zm 12 7, zv 13 (.fad (.t 3) 2), zv 14 (.ld false 1 (.t 13)), zv 15 (.len false (.t 14)), zv 16 (.bin .lss .no (.t 12) (.t 15)), zm 17 16, zw 17 true 18 (.mov (.t 1)), zw 17 true 19 (.bin .geq .no (.t 18) (zc 0)), zv 20 (.pick (.t 17) (.t 19) (.c (.bool false)))]
def q5h : IC := zr [zv 23 (.fad (.t 3) 2), zv 24 (.ld false 1 (.t 23)), zm 25 7, zv 26 (.iad 3 (.t 24) (.t 25)), zv 27 (.ld true 3 (.t 26)), zm 28 1, zm 29 2, zv 30 (.bin .sub .no (.t 29) (zc 1)), zi 31 (.call (.c (.fn 77 [] [])) [((.t 27), (.agg [.id, .id, (.sl 3)])), ((.t 28), .id), ((.t 30), .id)]), zm 1 31]
def q4v : IC := zr [zm 21 7, zv 22 (.bin .add .no (.t 21) (zc 1)), zm 7 22]
def q3f : IC := (.seq (.seq q18 (.cond (.t 20) .skip (.exit 0))) (.seq (.block 1 q5h) q4v))
def qw8 : IC := zr [zm 32 1, zm 6 32]
def k0cg : IC := (.seq q6q (.seq qbac (.seq (.seq q39 (.cond (.t 11) (.seq q37 .ret) .skip)) (.seq (.seq q4f (.block 0 (.loop q3f))) (.seq qw8 .ret)))))
@[go_sem] def s0cg : List (RV × Co) := [(.t 6, .id)]
theorem c0cg : cFun Try.prog 77 = some (33, k0cg, s0cg) := by kernel_rfl

def q7a : IC := zr [zi 4 (.box (.t 1)), zi 6 (.alo [(.str []), (.int .i64 0), .nils])]
def qbap : IC := zr [zv 11 (.fad (.t 4) 0), zv 12 (.ld false 1 (.t 11)), zv 13 (.bin .eql .no (.t 12) (.c (.str [])))]
def q4o : IC := .drw [zp (zm 15 0), zp (zv 16 (.nck (.t 15))), zp (zv 17 (.fad (.t 16) 0)), zp (zv 18 (.ld false 1 (.t 17))), zp (zv 19 (.fad (.t 4) 1)), zp (zv 20 (.ld false 1 (.t 19))), (zi 21 (.call (.c (.fn 37 [] [])) [((.t 18), .id), ((.t 20), .id)]), []), zp (zm 14 21), zp (zv 22 (.ext (.t 14) 0)), zp (zv 23 (.ext (.t 14) 1)), (zi 7 (.alo [(.str []), (.int .i64 0), .nils]), [3, 5, 6]), (zn (.st 3 (.agg [.id, .id, (.sl 3)]) (.t 7) (.t 22)), []), zp (zm 8 23)]
def q7j : IC := zr [zm 24 8]
def q6h : IC := .drw [zp (zm 25 0), zp (zv 26 (.nck (.t 25))), zp (zv 27 (.fad (.t 26) 1)), zp (zv 28 (.ld false 1 (.t 27))), zp (zv 29 (.ld true 3 (.t 7))), (zi 30 (.call (.c (.fn 110 [] [])) [((.t 29), (.agg [.id, .id, (.sl 3)]))]), [3]), zp (zv 31 (.bin .sub .no (.t 28) (.t 30))), zp (zv 32 (.nck (.t 25))), zp (zv 33 (.fad (.t 32) 1)), (zn (.st 1 .id (.t 33) (.t 31)), [])]
def q0e : IC := zr [zm 34 2, zv 35 (.ld true 3 (.t 7)), zi 36 (.call (.c (.fn 111 [] [])) [((.t 35), (.agg [.id, .id, (.sl 3)]))]), zv 37 (.bin .add .no (.t 34) (.t 36)), zv 38 (.bin .gtr .no (.t 37) (zc 101))]
def q3k : IC := zr [zm 39 0, zv 40 (.nck (.t 39)), zv 41 (.fad (.t 40) 1), zn (.st 1 .id (.t 41) (zc (-1)))]
def q01 : IC := zr [zv 42 (.ld true 3 (.t 7)), zi 43 (.call (.c (.fn 83 [] [])) [((.t 42), (.agg [.id, .id, (.sl 3)]))]), zn (.st 3 (.agg [.id, .id, (.sl 3)]) (.t 6) (.t 43))]
def q75 : IC := zr [zm 44 0, zv 45 (.nck (.t 44)), zv 46 (.fad (.t 45) 1), zv 47 (.ld false 1 (.t 46)), zv 48 (.bin .sub .no (.t 47) (zc 1)), zv 49 (.nck (.t 44)), zv 50 (.fad (.t 49) 1), zn (.st 1 .id (.t 50) (.t 48))]
def q9p : IC := zr [zv 51 (.fad (.t 4) 2), zv 52 (.ld false 1 (.t 51)), zv 53 (.len false (.t 52)), zi 54 (.mks 3 (.agg [(.str []), (.int .i64 0), .nils]) 48 (.t 53) (.t 53)), zm 9 54]
def qy4 : IC := zr [zv 55 (.fad (.t 4) 2), zv 56 (.ld false 1 (.t 55)), zv 57 (.len false (.t 56)), zv 58 (.mov (zc 0))]
def qwa : IC := zr [zv 59 (.bin .lss .no (.t 58) (.t 57))]
def qy6 : IC := zr [zm 60 58, zm 10 60]
def qzo : IC := zr [zm 61 0, zv 62 (.nck (.t 61)), zv 63 (.fad (.t 62) 1), zv 64 (.ld false 1 (.t 63)), zv 65 (.bin .lss .no (.t 64) (zc 0))]
def qyh : IC := zr [zv 66 (.ld true 3 (.t 4)), zn (.st 3 (.agg [.id, .id, (.sl 3)]) (.t 6) (.t 66))]
def qxk : IC := zr [zm 67 9, zm 68 10, zm 69 0, zv 70 (.fad (.t 4) 2), zv 71 (.ld false 1 (.t 70)), zm 72 10, zv 73 (.iad 3 (.t 71) (.t 72)), zv 74 (.ld true 3 (.t 73)), zm 75 2, zv 76 (.bin .add .no (.t 75) (zc 1)), zi 77 (.call (.c (.fn 78 [] [])) [((.t 69), .id), ((.t 74), (.agg [.id, .id, (.sl 3)])), ((.t 76), .id)]), zv 78 (.iad 3 (.t 67) (.t 68)), zn (.st 3 (.agg [.id, .id, (.sl 3)]) (.t 78) (.t 77))]
def qzh : IC := zr [zv 79 (.bin .add .no (.t 58) (zc 1)), zm 58 79]
def qw3 : IC := (.seq qwa (.seq (.cond (.t 59) .skip (.exit 0)) (.seq (.block 1 (.seq qy6 (.seq (.seq qzo (.cond (.t 65) (.seq qyh .ret) .skip)) qxk))) qzh)))
def qzn : IC := zr [zm 80 9, zv 81 (.fad (.t 4) 2), zn (.st 1 (.sl 3) (.t 81) (.t 80))]
def qxt : IC := zr [zv 82 (.ld true 3 (.t 4)), zn (.st 3 (.agg [.id, .id, (.sl 3)]) (.t 6) (.t 82))]
def k0bk : IC := (.seq q7a (.seq (.seq qbap (.cond (.t 13) (.seq q4o (.seq q7j (.cond (.t 24) (.seq q6h (.seq (.seq q0e (.cond (.t 38) q3k .skip)) (.seq q01 .ret))) .skip))) .skip)) (.seq q75 (.seq q9p (.seq (.seq qy4 (.block 0 (.loop qw3))) (.seq qzn (.seq qxt .ret)))))))
@[go_sem] def s0bk : List (RV × Co) := [(.c true 3 6, (.agg [.id, .id, (.sl 3)]))]
theorem c0bk : cFun Try.prog 78 = some (83, k0bk, s0bk) := by kernel_rfl

def q87 : IC := zr [zi 1 (.box (.t 0)), zv 2 zf]
def qbbt : IC := zr [zv 3 (.ld true 3 (.t 1)), zi 4 (.call (.c (.fn 112 [] [])) [((.t 3), (.agg [.id, .id, (.sl 3)]))]), zv 5 (.bin .leq .no (.t 4) (zc 4096)), zm 6 5, zw 6 true 7 (.ld true 3 (.t 1)), ⟨some (6, true), some 8, .call (.c (.fn 113 [] [])) [((.t 7), (.agg [.id, .id, (.sl 3)]))]⟩, zw 6 true 9 (.bin .leq .no (.t 8) (zc 100)), zv 10 (.pick (.t 6) (.t 9) (.c (.bool false))), zm 11 10, zw 11 true 12 (.ld true 3 (.t 1)), ⟨some (11, true), some 13, .call (.c (.fn 114 [] [])) [((.t 12), (.agg [.id, .id, (.sl 3)]))]⟩, zv 14 (.pick (.t 11) (.t 13) (.c (.bool false))), zm 2 14]
def k0ci : IC := (.seq q87 (.seq qbbt .ret))
@[go_sem] def s0ci : List (RV × Co) := [(.t 2, .id)]
theorem c0ci : cFun Try.prog 79 = some (15, k0ci, s0ci) := by kernel_rfl

def q2i : IC := zr [zi 3 (.box (.t 1)), zv 4 (.mov (zc 0))]
def q1r : IC := zr [zv 9 (.fad (.t 3) 0), zv 10 (.ld false 1 (.t 9)), zv 11 (.bin .eql .no (.t 10) (.c (.str [])))]
def qbai : IC := zr [zm 13 0, zv 14 (.fad (.t 3) 1), zv 15 (.ld false 1 (.t 14)), zi 16 (.call (.c (.fn 38 [] [])) [((.t 13), (.sl 4)), ((.t 15), .id)]), zm 12 16, zv 17 (.ext (.t 12) 0), zv 18 (.ext (.t 12) 1), zi 5 (.alo [(.str []), (.int .i64 0), .nils]), zn (.st 3 (.agg [.id, .id, (.sl 3)]) (.t 5) (.t 17)), zm 6 18]
def q2g : IC := zr [zm 19 6]
def qba2 : IC := zr [zv 20 (.ld true 3 (.t 5)), zi 21 (.call (.c (.fn 112 [] [])) [((.t 20), (.agg [.id, .id, (.sl 3)]))]), zm 4 21]
def qbba : IC := zr [zv 4 (.mov (zc 1))]
def q33 : IC := zr [zv 7 (.mov (zc 1))]
def q74 : IC := zr [zv 8 (.mov (zc 0))]
def q4d : IC := zr [zm 22 8, zv 23 (.fad (.t 3) 2), zv 24 (.ld false 1 (.t 23)), zv 25 (.len false (.t 24)), zv 26 (.bin .lss .no (.t 22) (.t 25))]
def qv7 : IC := zr [zm 29 7, zm 30 0, zv 31 (.fad (.t 3) 2), zv 32 (.ld false 1 (.t 31)), zm 33 8, zv 34 (.iad 3 (.t 32) (.t 33)), zv 35 (.ld true 3 (.t 34)), zi 36 (.call (.c (.fn 80 [] [])) [((.t 30), (.sl 4)), ((.t 35), (.agg [.id, .id, (.sl 3)]))]), zv 37 (.bin .add .no (.t 29) (.t 36)), zm 7 37]
def qyq : IC := zr [zm 27 8, zv 28 (.bin .add .no (.t 27) (zc 1)), zm 8 28]
def qbak : IC := (.seq (.seq q4d (.cond (.t 26) .skip (.exit 0))) (.seq (.block 1 qv7) qyq))
def qze : IC := zr [zm 38 7, zm 4 38]
def k0cn : IC := (.seq q2i (.seq (.seq q1r (.cond (.t 11) (.seq qbai (.seq (.seq q2g (.cond (.t 19) (.seq qba2 .ret) .skip)) (.seq qbba .ret))) .skip)) (.seq q33 (.seq (.seq q74 (.block 0 (.loop qbak))) (.seq qze .ret)))))
@[go_sem] def s0cn : List (RV × Co) := [(.t 4, .id)]
theorem c0cn : cFun Try.prog 80 = some (39, k0cn, s0cn) := by kernel_rfl

def qbat : IC := zr [zi 3 (.box (.t 1)), zi 4 (.alo [(.str []), (.int .i64 0), .nils])]
def q6f : IC := zr [zv 9 (.fad (.t 3) 0), zv 10 (.ld false 1 (.t 9)), zv 11 (.bin .eql .no (.t 10) (.c (.str [])))]
def qba1 : IC := zr [zm 13 0, zv 14 (.fad (.t 3) 1), zv 15 (.ld false 1 (.t 14)), zi 16 (.call (.c (.fn 38 [] [])) [((.t 13), (.sl 4)), ((.t 15), .id)]), zm 12 16, zv 17 (.ext (.t 12) 0), zv 18 (.ext (.t 12) 1), zi 5 (.alo [(.str []), (.int .i64 0), .nils]), zn (.st 3 (.agg [.id, .id, (.sl 3)]) (.t 5) (.t 17)), zm 6 18]
def q9j : IC := zr [zm 19 6]
def q9d : IC := zr [zv 20 (.ld true 3 (.t 5)), zn (.st 3 (.agg [.id, .id, (.sl 3)]) (.t 4) (.t 20))]
def qbbh : IC := zr [zv 21 (.ld true 3 (.t 3)), zn (.st 3 (.agg [.id, .id, (.sl 3)]) (.t 4) (.t 21))]
def q5q : IC := zr [zv 7 (.mov (.c .nils))]
def q4e : IC := zr [zv 8 (.mov (zc 0))]
def q8n : IC := zr [zm 22 8, zv 23 (.fad (.t 3) 2), zv 24 (.ld false 1 (.t 23)), zv 25 (.len false (.t 24)), zv 26 (.bin .lss .no (.t 22) (.t 25))]
def qx1 : IC := zr [zm 29 7, zm 30 0, zv 31 (.fad (.t 3) 2), zv 32 (.ld false 1 (.t 31)), zm 33 8, zv 34 (.iad 3 (.t 32) (.t 33)), zv 35 (.ld true 3 (.t 34)), zi 36 (.call (.c (.fn 81 [] [])) [((.t 30), (.sl 4)), ((.t 35), (.agg [.id, .id, (.sl 3)]))]), zv 37 (.bsl 3 [((.t 36), (.agg [.id, .id, (.sl 3)]))]), zi 38 (.app 3 (.agg [(.str []), (.int .i64 0), .nils]) 48 (.sl 3) (.t 29) (.t 37)), zm 7 38]
def qw9 : IC := zr [zm 27 8, zv 28 (.bin .add .no (.t 27) (zc 1)), zm 8 28]
def q7g : IC := (.seq (.seq q8n (.cond (.t 26) .skip (.exit 0))) (.seq (.block 1 qx1) qw9))
def qzr : IC := zr [zm 39 7, zv 40 (.fad (.t 3) 2), zn (.st 1 (.sl 3) (.t 40) (.t 39))]
def qwt : IC := zr [zv 41 (.ld true 3 (.t 3)), zn (.st 3 (.agg [.id, .id, (.sl 3)]) (.t 4) (.t 41))]
def k0co : IC := (.seq qbat (.seq (.seq q6f (.cond (.t 11) (.seq qba1 (.seq (.seq q9j (.cond (.t 19) (.seq q9d .ret) .skip)) (.seq qbbh .ret))) .skip)) (.seq q5q (.seq (.seq q4e (.block 0 (.loop q7g))) (.seq qzr (.seq qwt .ret))))))
@[go_sem] def s0co : List (RV × Co) := [(.c true 3 4, (.agg [.id, .id, (.sl 3)]))]
theorem c0co : cFun Try.prog 81 = some (42, k0co, s0co) := by kernel_rfl

def q0i : IC := zr [zv 4 (.mov (zc 0)), zv 5 zf]
def q2q : IC := zr [zm 6 0, zv 7 (.nck (.t 6)), zv 8 (.fad (.t 7) 0), zv 9 (.ld false 1 (.t 8)), zm 10 1, zi 11 (.call (.c (.fn 115 [] [])) [((.t 9), (.sl 4)), ((.t 10), .id), ((.c (.fn 116 [] [])), .id)]), zv 12 (.ext (.t 11) 0), zv 13 (.ext (.t 11) 1), zm 4 12, zm 5 13]
def k0bo : IC := (.seq q0i (.seq q2q .ret))
@[go_sem] def s0bo : List (RV × Co) := [(.t 4, .id), (.t 5, .id)]
theorem c0bo : cFun Try.prog 82 = some (14, k0bo, s0bo) := by kernel_rfl

def qbbs : IC := zr [zi 1 (.box (.t 0)), zi 2 (.alo [(.str []), (.int .i64 0), .nils])]
def q57 : IC := zr [zv 6 (.fad (.t 1) 2), zv 7 (.ld false 1 (.t 6)), zv 8 (.len false (.t 7)), zi 9 (.mks 3 (.agg [(.str []), (.int .i64 0), .nils]) 48 (.t 8) (.t 8)), zm 3 9]
def q34 : IC := zr [zv 10 (.fad (.t 1) 2), zv 11 (.ld false 1 (.t 10)), zv 12 (.len false (.t 11)), zv 13 (.mov (zc 0))]
def q1c : IC := zr [zv 14 (.bin .lss .no (.t 13) (.t 12))]
def q66 : IC := zr [zm 15 13, zv 16 (.iad 3 (.t 11) (.t 13)), zv 17 (.ld true 3 (.t 16)), zi 5 (.alo [(.str []), (.int .i64 0), .nils]), zm 4 15, zn (.st 3 (.agg [.id, .id, (.sl 3)]) (.t 5) (.t 17))]
def q6z : IC := zr [zm 18 3, zm 19 4, zv 20 (.ld true 3 (.t 5)), zi 21 (.call (.c (.fn 83 [] [])) [((.t 20), (.agg [.id, .id, (.sl 3)]))]), zv 22 (.iad 3 (.t 18) (.t 19)), zn (.st 3 (.agg [.id, .id, (.sl 3)]) (.t 22) (.t 21))]
def q9b : IC := zr [zv 23 (.bin .add .no (.t 13) (zc 1)), zm 13 23]
def q0g : IC := (.seq q1c (.seq (.cond (.t 14) .skip (.exit 0)) (.seq (.block 1 (.seq q66 q6z)) q9b)))
def q4q : IC := zr [zm 24 3, zv 25 (.fad (.t 1) 2), zn (.st 1 (.sl 3) (.t 25) (.t 24))]
def qx2 : IC := zr [zv 26 (.ld true 3 (.t 1)), zn (.st 3 (.agg [.id, .id, (.sl 3)]) (.t 2) (.t 26))]
def k0bq : IC := (.seq qbbs (.seq q57 (.seq (.seq q34 (.block 0 (.loop q0g))) (.seq q4q (.seq qx2 .ret)))))
@[go_sem] def s0bq : List (RV × Co) := [(.c true 3 2, (.agg [.id, .id, (.sl 3)]))]
theorem c0bq : cFun Try.prog 83 = some (27, k0bq, s0bq) := by kernel_rfl

def qbe8 : IC := zr [zv 4 zf]
def qbie : IC := zr [zv 5 (.mov (zc 0))]
def qbgy : IC := zr [zm 6 5, zm 7 0, zv 8 (.len false (.t 7)), zv 9 (.bin .lss .no (.t 6) (.t 8))]
def qbhu : IC := zr [zm 12 0, zm 13 5, zv 14 (.iad 1 (.t 12) (.t 13)), zv 15 (.ld false 1 (.t 14)), zm 16 1, zv 17 (.bin .eql .no (.t 15) (.t 16))]
def qbhz : IC := zr [zv 4 (.mov (.c (.bool true)))]
def qbh4 : IC := zr [zm 10 5, zv 11 (.bin .add .no (.t 10) (zc 1)), zm 5 11]
def qbch : IC := (.seq (.seq qbgy (.cond (.t 9) .skip (.exit 0))) (.seq (.block 1 (.seq qbhu (.cond (.t 17) (.seq qbhz .ret) .skip))) qbh4))
def qbc1 : IC := zr [zv 4 zf]
def k0c : IC := (.seq qbe8 (.seq (.seq qbie (.block 0 (.loop qbch))) (.seq qbc1 .ret)))
@[go_sem] def s0c : List (RV × Co) := [(.t 4, .id)]
theorem c0c : cFun Try.prog 84 = some (18, k0c, s0c) := by kernel_rfl

def qbh6 : IC := zr [zi 3 (.box (.t 0)), zv 6 zf]
def qbet : IC := zr [zm 9 2, zv 10 (.ld true 3 (.t 3)), zm 11 1, zi 12 (.call (.t 9) [((.t 10), (.agg [.id, .id, (.sl 3)])), ((.t 11), .id)]), zv 13 (.un .not (.t 12))]
def qbii : IC := zr [zv 6 zf]
def qbgt : IC := zr [zv 14 (.fad (.t 3) 2), zv 15 (.ld false 1 (.t 14)), zv 16 (.len false (.t 15)), zv 17 (.mov (zc 0))]
def qbdz : IC := zr [zv 18 (.bin .lss .no (.t 17) (.t 16))]
def qbcx : IC := zr [zv 19 (.iad 3 (.t 15) (.t 17)), zv 20 (.ld true 3 (.t 19)), zi 8 (.alo [(.str []), (.int .i64 0), .nils]), zn (.st 3 (.agg [.id, .id, (.sl 3)]) (.t 8) (.t 20))]
def qbdm : IC := zr [zv 21 (.ld true 3 (.t 8)), zm 22 1, zv 23 (.bin .add .no (.t 22) (zc 1)), zm 24 2, zi 25 (.call (.c (.fn 86 [] [])) [((.t 21), (.agg [.id, .id, (.sl 3)])), ((.t 23), .id), ((.t 24), .id)]), zv 26 (.un .not (.t 25))]
def qbhm : IC := zr [zv 6 zf]
def qbgj : IC := zr [zv 27 (.bin .add .no (.t 17) (zc 1)), zm 17 27]
def qbfg : IC := (.seq qbdz (.seq (.cond (.t 18) .skip (.exit 0)) (.seq (.block 1 (.seq qbcx (.seq qbdm (.cond (.t 26) (.seq qbhm .ret) .skip)))) qbgj)))
def q03 : IC := zr [zv 6 (.mov (.c (.bool true)))]
def k0j : IC := (.seq qbh6 (.seq (.seq qbet (.cond (.t 13) (.seq qbii .ret) .skip)) (.seq (.seq qbgt (.block 0 (.loop qbfg))) (.seq q03 .ret))))
@[go_sem] def s0j : List (RV × Co) := [(.t 6, .id)]
theorem c0j : cFun Try.prog 86 = some (28, k0j, s0j) := by kernel_rfl

def q10 : IC := zr [zi 3 (.box (.t 0)), zv 5 zf]
def q2a : IC := zr [zv 6 (.ld false 1 (.t 2)), zv 7 (.bin .add .no (.t 6) (zc 1)), zn (.st 1 .id (.t 2) (.t 7))]
def q8k : IC := zr [zv 8 (.ld false 1 (.t 2)), zv 9 (.bin .leq .no (.t 8) (zc 4096)), zm 10 9, zw 10 true 11 (.mov (.t 1)), zw 10 true 12 (.bin .leq .no (.t 11) (zc 100)), zv 13 (.pick (.t 10) (.t 12) (.c (.bool false))), zm 14 13, zw 14 true 15 (.ld true 3 (.t 3)), ⟨some (14, true), some 16, .call (.c (.fn 88 [] [])) [((.t 15), (.agg [.id, .id, (.sl 3)]))]⟩, ⟨some (14, true), some 17, .call (.c (.fn 89 [] [])) [((.t 16), .id)]⟩, zv 18 (.pick (.t 14) (.t 17) (.c (.bool false))), zm 5 18]
def k0bx : IC := (.seq q10 (.seq q2a (.seq q8k .ret)))
@[go_sem] def s0bx : List (RV × Co) := [(.t 5, .id)]
theorem c0bx : cFun Try.prog 87 = some (19, k0bx, s0bx) := by kernel_rfl

def qbe5 : IC := zr [zi 1 (.box (.t 0)), zi 2 (.alo [(.str []), (.int .i64 0), (.int .i64 0)])]
def qbge : IC := zr [zv 3 (.fad (.t 1) 0), zv 4 (.ld false 1 (.t 3)), zv 5 (.fad (.t 1) 1), zv 6 (.ld false 1 (.t 5)), zv 7 (.fad (.t 1) 2), zv 8 (.ld false 1 (.t 7)), zv 9 (.len false (.t 8)), zv 10 (.bld [(.str []), (.int .i64 0), (.int .i64 0)] [(0, 1, (.t 4)), (1, 1, (.t 6)), (2, 1, (.t 9))]), zn (.st 3 .id (.t 2) (.t 10))]
def k0d : IC := (.seq qbe5 (.seq qbge .ret))
@[go_sem] def s0d : List (RV × Co) := [(.c true 3 2, .id)]
theorem c0d : cFun Try.prog 88 = some (11, k0d, s0d) := by kernel_rfl

def qbg7 : IC := zr [zi 1 (.box (.t 0)), zv 2 zf]
def qbeh : IC := zr [zv 4 (.fad (.t 1) 0), zv 5 (.ld false 1 (.t 4)), zv 6 (.bin .eql .no (.t 5) (.c (.str []))), zm 3 6]
def qbia : IC := zr [zv 7 (.fad (.t 1) 2), zv 8 (.ld false 1 (.t 7)), zv 9 (.bin .eql .no (.t 8) (zc 0)), zm 2 9]
def qbhl : IC := zr [zv 11 (.fad (.t 1) 0), zv 12 (.ld false 1 (.t 11)), zv 13 (.bin .eql .no (.t 12) (.c (.str [45, 62]))), zm 10 13]
def qbem : IC := zr [zv 14 (.ld true 3 (.t 1)), zv 15 (.bld [(.str []), (.int .i64 0), (.int .i64 0)] [(0, 1, (.c (.str [45, 62]))), (1, 1, (zc 0)), (2, 1, (zc 2))]), zv 16 (.bin .eql (.cells [.str, (.int .i64), (.int .i64)]) (.t 14) (.t 15)), zm 2 16]
def qbhc : IC := zr [zv 18 (.fad (.t 1) 0), zv 19 (.ld false 1 (.t 18)), zi 20 (.call (.c (.fn 119 [] [])) [((.t 19), .id)]), zm 17 20]
def qbcl : IC := zr [zv 21 (.ld true 3 (.t 1)), zv 22 (.fad (.t 1) 0), zv 23 (.ld false 1 (.t 22)), zv 24 (.bld [(.str []), (.int .i64 0), (.int .i64 0)] [(0, 1, (.t 23))]), zv 25 (.bin .eql (.cells [.str, (.int .i64), (.int .i64)]) (.t 21) (.t 24)), zm 2 25]
def qbh3 : IC := zr [zv 26 (.fad (.t 1) 1), zv 27 (.ld false 1 (.t 26)), zv 28 (.bin .eql .no (.t 27) (zc 0)), zm 29 28, zw 29 true 30 (.fad (.t 1) 0), zw 29 true 31 (.ld false 1 (.t 30)), ⟨some (29, true), some 32, .call (.c (.fn 72 [] [])) [((.t 31), .id)]⟩, zv 33 (.pick (.t 29) (.t 32) (.c (.bool false))), zm 2 33]
def k0i : IC := (.seq qbg7 (.seq (.block 0 (.seq qbeh (.cond (.t 3) (.seq qbia .ret) (.seq qbhl (.cond (.t 10) (.seq qbem .ret) (.seq qbhc (.cond (.t 17) (.seq qbcl .ret) .skip))))))) (.seq qbh3 .ret)))
@[go_sem] def s0i : List (RV × Co) := [(.t 2, .id)]
theorem c0i : cFun Try.prog 89 = some (34, k0i, s0i) := by kernel_rfl

def qbid : IC := zr [zv 4 (.mov (zc 0))]
def qbfk : IC := zr [zm 6 0, zv 7 (.len false (.t 6)), zv 8 (.mov (zc 0))]
def qbed : IC := zr [zv 9 (.bin .lss .no (.t 8) (.t 7))]
def qbhq : IC := zr [zm 10 8, zm 5 10]
def qbgf : IC := zr [zm 11 1, zm 12 0, zm 13 5, zv 14 (.iad 1 (.t 12) (.t 13)), zv 15 (.ld false 1 (.t 14)), zv 16 (.bin .eql .no (.t 11) (.t 15))]
def qbha : IC := zr [zm 17 5, zm 4 17]
def qbfn : IC := zr [zv 18 (.bin .add .no (.t 8) (zc 1)), zm 8 18]
def qbd2 : IC := (.seq qbed (.seq (.cond (.t 9) .skip (.exit 0)) (.seq (.block 1 (.seq qbhq (.seq qbgf (.cond (.t 16) (.seq qbha .ret) .skip)))) qbfn)))
def qbhk : IC := zr [zv 4 (.mov (zc (-1)))]
def k0a : IC := (.seq qbid (.seq (.seq qbfk (.block 0 (.loop qbd2))) (.seq qbhk .ret)))
@[go_sem] def s0a : List (RV × Co) := [(.t 4, .id)]
theorem c0a : cFun Try.prog 100 = some (19, k0a, s0a) := by kernel_rfl

def qbev : IC := zr [zv 2 zf]
def qbd9 : IC := zr [zm 3 0, zv 4 (.bin .geq .no (.t 3) (.c (.int .u8 65))), zm 5 4, zw 5 true 6 (.mov (.t 0)), zw 5 true 7 (.bin .leq .no (.t 6) (.c (.int .u8 90))), zv 8 (.pick (.t 5) (.t 7) (.c (.bool false))), zm 2 8]
def k0q : IC := (.seq qbev (.seq qbd9 .ret))
@[go_sem] def s0q : List (RV × Co) := [(.t 2, .id)]
theorem c0q : cFun Try.prog 106 = some (9, k0q, s0q) := by kernel_rfl

def qbe3 : IC := zr [zv 2 zf]
def qbci : IC := zr [zm 5 0, zv 6 (.len true (.t 5)), zv 7 (.mov (zc 0))]
def qbis : IC := zr [zv 8 (.bin .lss .no (.t 7) (.t 6))]
def qbir : IC := zr [zm 9 7, zm 3 9]
def qbfd : IC := zr [zm 10 0, zm 11 3, zv 12 (.idx (.t 10) (.t 11)), zm 4 12]
def qbcz : IC := zr [zm 13 4, zi 14 (.call (.c (.fn 128 [] [])) [((.t 13), .id)]), zv 15 (.un .not (.t 14)), zm 16 15, zw 16 true 17 (.mov (.t 4)), ⟨some (16, true), some 18, .call (.c (.fn 106 [] [])) [((.t 17), .id)]⟩, zw 16 true 19 (.un .not (.t 18)), zv 20 (.pick (.t 16) (.t 19) (.c (.bool false))), zm 21 20, zw 21 true 22 (.mov (.t 4)), zw 21 true 23 (.bin .lss .no (.t 22) (.c (.int .u8 48))), zw 21 true 24 (.mov (.t 23)), zw 24 false 25 (.mov (.t 4)), zw 24 false 26 (.bin .gtr .no (.t 25) (.c (.int .u8 57))), zw 21 true 27 (.pick (.t 24) (.c (.bool true)) (.t 26)), zv 28 (.pick (.t 21) (.t 27) (.c (.bool false))), zm 29 28, zw 29 true 30 (.mov (.t 4)), zw 29 true 31 (.bin .neq .no (.t 30) (.c (.int .u8 39))), zv 32 (.pick (.t 29) (.t 31) (.c (.bool false)))]
def qbc4 : IC := zr [zv 2 zf]
def qbe9 : IC := zr [zv 33 (.bin .add .no (.t 7) (zc 1)), zm 7 33]
def qbit : IC := (.seq qbis (.seq (.cond (.t 8) .skip (.exit 0)) (.seq (.block 1 (.seq qbir (.seq qbfd (.seq qbcz (.cond (.t 32) (.seq qbc4 .ret) .skip))))) qbe9)))
def q6k : IC := zr [zv 2 (.mov (.c (.bool true)))]
def k0u : IC := (.seq qbe3 (.seq (.seq qbci (.block 0 (.loop qbit))) (.seq q6k .ret)))
@[go_sem] def s0u : List (RV × Co) := [(.t 2, .id)]
theorem c0u : cFun Try.prog 107 = some (34, k0u, s0u) := by kernel_rfl

def qbb8 : IC := zr [zi 1 (.box (.t 0)), zv 2 (.mov (.c (.str [])))]
def q9v : IC := zr [zv 6 (.fad (.t 1) 0), zv 7 (.ld false 1 (.t 6)), zv 8 (.bin .eql .no (.t 7) (.c (.str [45, 62])))]
def q6a : IC := .drw [zp (zv 9 (.fad (.t 1) 2)), zp (zv 10 (.ld false 1 (.t 9))), zp (zv 11 (.iad 3 (.t 10) (zc 0))), zp (zv 12 (.ld true 3 (.t 11))), zp (zv 13 (.fad (.t 1) 2)), zp (zv 14 (.ld false 1 (.t 13))), zp (zv 15 (.iad 3 (.t 14) (zc 0))), zp (zv 16 (.fad (.t 15) 0)), zp (zv 17 (.ld false 1 (.t 16))), (zv 18 (.bin .eql .no (.t 17) (.c (.str [45, 62]))), []), (zi 19 (.call (.c (.fn 129 [] [])) [((.t 12), (.agg [.id, .id, (.sl 3)])), ((.t 18), .id)]), []), (zv 20 (.bin .add .no (.t 19) (.c (.str [32, 45, 62, 32]))), []), zp (zv 21 (.fad (.t 1) 2)), (zv 22 (.ld false 1 (.t 21)), [10]), zp (zv 23 (.iad 3 (.t 22) (zc 1))), (zv 24 (.ld true 3 (.t 23)), [10]), (zi 25 (.call (.c (.fn 109 [] [])) [((.t 24), (.agg [.id, .id, (.sl 3)]))]), []), zp (zv 26 (.bin .add .no (.t 20) (.t 25))), zp (zm 2 26)]
def q2e : IC := zr [zi 3 (.bld 125 5)]
def qba7 : IC := zr [zv 27 (.ld true 3 (.t 1)), zi 28 (.call (.c (.fn 88 [] [])) [((.t 27), (.agg [.id, .id, (.sl 3)]))]), zi 29 (.call (.c (.fn 130 [] [])) [((.t 28), .id)]), zi 30 (.call (.c (.fn 102 [] [])) [((.t 3), (.agg [.id, (.sl 1)])), ((.t 29), .id)])]
def qbbi : IC := zr [zv 31 (.fad (.t 1) 2), zv 32 (.ld false 1 (.t 31)), zv 33 (.len false (.t 32)), zv 34 (.mov (zc 0))]
def q1y : IC := zr [zv 35 (.bin .lss .no (.t 34) (.t 33))]
def q0m : IC := zr [zv 36 (.iad 3 (.t 32) (.t 34)), zv 37 (.ld true 3 (.t 36)), zi 5 (.alo [(.str []), (.int .i64 0), .nils]), zn (.st 3 (.agg [.id, .id, (.sl 3)]) (.t 5) (.t 37))]
def q1z : IC := zr [zv 38 (.ld true 3 (.t 5)), zv 39 (.fad (.t 5) 2), zv 40 (.ld false 1 (.t 39)), zv 41 (.len false (.t 40)), zv 42 (.bin .gtr .no (.t 41) (zc 0)), zi 43 (.call (.c (.fn 129 [] [])) [((.t 38), (.agg [.id, .id, (.sl 3)])), ((.t 42), .id)]), zv 44 (.bin .add .no (.c (.str [32])) (.t 43)), zi 45 (.call (.c (.fn 102 [] [])) [((.t 3), (.agg [.id, (.sl 1)])), ((.t 44), .id)])]
def qyl : IC := zr [zv 46 (.bin .add .no (.t 34) (zc 1)), zm 34 46]
def q7r : IC := (.seq q1y (.seq (.cond (.t 35) .skip (.exit 0)) (.seq (.block 1 (.seq q0m q1z)) qyl)))
def qwq : IC := zr [zi 47 (.call (.c (.fn 103 [] [])) [((.t 3), (.agg [.id, (.sl 1)]))]), zm 2 47]
def k0bv : IC := (.seq qbb8 (.seq (.seq q9v (.cond (.t 8) (.seq q6a .ret) .skip)) (.seq q2e (.seq qba7 (.seq (.seq qbbi (.block 0 (.loop q7r))) (.seq qwq .ret))))))
@[go_sem] def s0bv : List (RV × Co) := [(.t 2, .id)]
theorem c0bv : cFun Try.prog 109 = some (48, k0bv, s0bv) := by kernel_rfl

def q5j : IC := zr [zi 1 (.box (.t 0)), zv 2 (.mov (zc 0))]
def q40 : IC := zr [zi 3 (.alo [(.int .i64 0)]), zn (.st 1 .id (.t 3) (zc 0))]
def q7d : IC := zr [zv 4 (.ld true 3 (.t 1)), zv 5 (.mfn 131 [] [(.t 3)]), zi 6 (.call (.c (.fn 86 [] [])) [((.t 4), (.agg [.id, .id, (.sl 3)])), ((zc 1), .id), ((.t 5), .id)])]
def q9y : IC := zr [zv 7 (.ld false 1 (.t 3)), zm 2 7]
def k0cb : IC := (.seq q5j (.seq q40 (.seq q7d (.seq q9y .ret))))
@[go_sem] def s0cb : List (RV × Co) := [(.t 2, .id)]
theorem c0cb : cFun Try.prog 110 = some (8, k0cb, s0cb) := by kernel_rfl

def q6d : IC := zr [zi 1 (.box (.t 0)), zv 2 (.mov (zc 0))]
def q17 : IC := zr [zi 3 (.alo [(.int .i64 0)]), zn (.st 1 .id (.t 3) (zc 0))]
def q7e : IC := zr [zv 4 (.ld true 3 (.t 1)), zv 5 (.mfn 132 [] [(.t 3)]), zi 6 (.call (.c (.fn 86 [] [])) [((.t 4), (.agg [.id, .id, (.sl 3)])), ((zc 1), .id), ((.t 5), .id)])]
def qbb7 : IC := zr [zv 7 (.ld false 1 (.t 3)), zm 2 7]
def k0cc : IC := (.seq q6d (.seq q17 (.seq q7e (.seq qbb7 .ret))))
@[go_sem] def s0cc : List (RV × Co) := [(.t 2, .id)]
theorem c0cc : cFun Try.prog 111 = some (8, k0cc, s0cc) := by kernel_rfl

def q26 : IC := zr [zi 1 (.box (.t 0)), zv 2 (.mov (zc 0))]
def q64 : IC := zr [zv 3 (.mov (zc 1))]
def q86 : IC := zr [zv 4 (.mov (zc 0))]
def q4j : IC := zr [zm 5 4, zv 6 (.fad (.t 1) 2), zv 7 (.ld false 1 (.t 6)), zv 8 (.len false (.t 7)), zv 9 (.bin .lss .no (.t 5) (.t 8))]
def q8y : IC := zr [zm 12 3, zv 13 (.fad (.t 1) 2), zv 14 (.ld false 1 (.t 13)), zm 15 4, zv 16 (.iad 3 (.t 14) (.t 15)), zv 17 (.ld true 3 (.t 16)), zi 18 (.call (.c (.fn 112 [] [])) [((.t 17), (.agg [.id, .id, (.sl 3)]))]), zv 19 (.bin .add .no (.t 12) (.t 18)), zm 3 19]
def q8r : IC := zr [zm 10 4, zv 11 (.bin .add .no (.t 10) (zc 1)), zm 4 11]
def q8e : IC := (.seq (.seq q4j (.cond (.t 9) .skip (.exit 0))) (.seq (.block 1 q8y) q8r))
def q2c : IC := zr [zm 20 3, zm 2 20]
def k0cd : IC := (.seq q26 (.seq q64 (.seq (.seq q86 (.block 0 (.loop q8e))) (.seq q2c .ret))))
@[go_sem] def s0cd : List (RV × Co) := [(.t 2, .id)]
theorem c0cd : cFun Try.prog 112 = some (21, k0cd, s0cd) := by kernel_rfl

def q6w : IC := zr [zi 1 (.box (.t 0)), zv 2 (.mov (zc 0))]
def q5e : IC := zr [zv 3 (.mov (zc 0))]
def qbca : IC := zr [zv 4 (.mov (zc 0))]
def q5v : IC := zr [zm 5 4, zv 6 (.fad (.t 1) 2), zv 7 (.ld false 1 (.t 6)), zv 8 (.len false (.t 7)), zv 9 (.bin .lss .no (.t 5) (.t 8))]
def qbal : IC := zr [zm 12 3, zv 13 (.fad (.t 1) 2), zv 14 (.ld false 1 (.t 13)), zm 15 4, zv 16 (.iad 3 (.t 14) (.t 15)), zv 17 (.ld true 3 (.t 16)), zi 18 (.call (.c (.fn 113 [] [])) [((.t 17), (.agg [.id, .id, (.sl 3)]))]), zv 19 (.mm true (.t 12) (.t 18)), zm 3 19]
def q84 : IC := zr [zm 10 4, zv 11 (.bin .add .no (.t 10) (zc 1)), zm 4 11]
def q02 : IC := (.seq (.seq q5v (.cond (.t 9) .skip (.exit 0))) (.seq (.block 1 qbal) q84))
def q6e : IC := zr [zm 20 3, zv 21 (.bin .add .no (.t 20) (zc 1)), zm 2 21]
def k0ce : IC := (.seq q6w (.seq q5e (.seq (.seq qbca (.block 0 (.loop q02))) (.seq q6e .ret))))
@[go_sem] def s0ce : List (RV × Co) := [(.t 2, .id)]
theorem c0ce : cFun Try.prog 113 = some (22, k0ce, s0ce) := by kernel_rfl

def q2u : IC := zr [zi 1 (.box (.t 0)), zv 2 zf]
def q0c : IC := zr [zv 3 (.mov (zc 0))]
def q7q : IC := zr [zm 5 3, zv 6 (.fad (.t 1) 2), zv 7 (.ld false 1 (.t 6)), zv 8 (.len false (.t 7)), zv 9 (.bin .lss .no (.t 5) (.t 8))]
def qbbu : IC := zr [zv 12 (.fad (.t 1) 2), zv 13 (.ld false 1 (.t 12)), zm 14 3, zv 15 (.iad 3 (.t 13) (.t 14)), zv 16 (.ld true 3 (.t 15)), zi 17 (.call (.c (.fn 114 [] [])) [((.t 16), (.agg [.id, .id, (.sl 3)]))]), zv 18 (.un .not (.t 17))]
def q0z : IC := zr [zv 2 zf]
def q0x : IC := zr [zm 10 3, zv 11 (.bin .add .no (.t 10) (zc 1)), zm 3 11]
def q3b : IC := (.seq (.seq q7q (.cond (.t 9) .skip (.exit 0))) (.seq (.block 1 (.seq qbbu (.cond (.t 18) (.seq q0z .ret) .skip))) q0x))
def q7y : IC := zr [zv 19 (.fad (.t 1) 2), zv 20 (.ld false 1 (.t 19)), zv 21 (.len false (.t 20)), zm 4 21]
def q42 : IC := zr [zv 23 (.fad (.t 1) 0), zv 24 (.ld false 1 (.t 23)), zv 25 (.bin .eql .no (.t 24) (.c (.str []))), zm 22 25]
def qyi : IC := zr [zm 26 4, zv 27 (.bin .eql .no (.t 26) (zc 0)), zm 2 27]
def qxa : IC := zr [zv 29 (.fad (.t 1) 0), zv 30 (.ld false 1 (.t 29)), zv 31 (.bin .eql .no (.t 30) (.c (.str [45, 62]))), zm 28 31]
def qzf : IC := zr [zm 32 4, zv 33 (.bin .eql .no (.t 32) (zc 2)), zm 34 33, zw 34 true 35 (.fad (.t 1) 1), zw 34 true 36 (.ld false 1 (.t 35)), zw 34 true 37 (.bin .eql .no (.t 36) (zc 0)), zv 38 (.pick (.t 34) (.t 37) (.c (.bool false))), zm 2 38]
def qv4 : IC := zr [zv 40 (.fad (.t 1) 0), zv 41 (.ld false 1 (.t 40)), zi 42 (.call (.c (.fn 133 [] [])) [((.t 41), .id)]), zm 39 42]
def qwh : IC := zr [zm 43 4, zv 44 (.bin .eql .no (.t 43) (zc 0)), zm 45 44, zw 45 true 46 (.fad (.t 1) 1), zw 45 true 47 (.ld false 1 (.t 46)), zw 45 true 48 (.bin .eql .no (.t 47) (zc 0)), zv 49 (.pick (.t 45) (.t 48) (.c (.bool false))), zm 2 49]
def qw1 : IC := zr [zv 50 (.fad (.t 1) 0), zv 51 (.ld false 1 (.t 50)), zi 52 (.call (.c (.fn 125 [] [])) [((.t 51), .id)]), zm 53 52, zw 53 true 54 (.fad (.t 1) 1), zw 53 true 55 (.ld false 1 (.t 54)), zw 53 true 56 (.bin .eql .no (.t 55) (zc 0)), zv 57 (.pick (.t 53) (.t 56) (.c (.bool false))), zm 2 57]
def k0cf : IC := (.seq q2u (.seq (.seq q0c (.block 0 (.loop q3b))) (.seq q7y (.seq (.block 2 (.seq q42 (.cond (.t 22) (.seq qyi .ret) (.seq qxa (.cond (.t 28) (.seq qzf .ret) (.seq qv4 (.cond (.t 39) (.seq qwh .ret) .skip))))))) (.seq qw1 .ret)))))
@[go_sem] def s0cf : List (RV × Co) := [(.t 2, .id)]
theorem c0cf : cFun Try.prog 114 = some (58, k0cf, s0cf) := by kernel_rfl

def q5c : IC := zr [zv 6 (.mov (zc 0)), zv 7 zf]
def q2z : IC := zr [zm 12 0, zv 13 (.len false (.t 12)), zm 8 13]
def q12 : IC := zr [zm 14 8, zv 9 (.mov (zc 0)), zm 10 14]
def q1h : IC := zr [zm 15 9, zm 16 10, zv 17 (.bin .lss .no (.t 15) (.t 16))]
def qbax : IC := zr [zm 18 9, zm 19 10, zv 20 (.bin .add .no (.t 18) (.t 19)), zv 21 (.cvi .u64 (.t 20)), zv 22 (.bin .shr .no (.t 21) (.c (.int .u64 1))), zv 23 (.cvi .i64 (.t 22)), zm 11 23]
def q1v : IC := zr [zm 24 2, zm 25 0, zm 26 11, zv 27 (.iad 4 (.t 25) (.t 26)), zv 28 (.ld true 4 (.t 27)), zm 29 1, zi 30 (.call (.t 24) [((.t 28), (.agg [.id, .id, .id, (.sl 3)])), ((.t 29), .id)]), zv 31 (.bin .lss .no (.t 30) (zc 0))]
def qbbm : IC := zr [zm 32 11, zv 33 (.bin .add .no (.t 32) (zc 1)), zm 9 33]
def qbab : IC := zr [zm 34 11, zm 10 34]
def q8v : IC := (.seq (.seq q1h (.cond (.t 17) .skip (.exit 0))) (.block 1 (.seq qbax (.seq q1v (.cond (.t 31) qbbm qbab)))))
def qwf : IC := zr [zm 35 9, zm 36 9, zm 37 8, zv 38 (.bin .lss .no (.t 36) (.t 37)), zm 39 38, zw 39 true 40 (.mov (.t 2)), zw 39 true 41 (.mov (.t 0)), zw 39 true 42 (.mov (.t 9)), zw 39 true 43 (.iad 4 (.t 41) (.t 42)), zw 39 true 44 (.ld true 4 (.t 43)), zw 39 true 45 (.mov (.t 1)), ⟨some (39, true), some 46, .call (.t 40) [((.t 44), (.agg [.id, .id, .id, (.sl 3)])), ((.t 45), .id)]⟩, zw 39 true 47 (.bin .eql .no (.t 46) (zc 0)), zv 48 (.pick (.t 39) (.t 47) (.c (.bool false))), zm 6 35, zm 7 48]
def k0bn : IC := (.seq q5c (.seq q2z (.seq q12 (.seq (.block 0 (.loop q8v)) (.seq qwf .ret)))))
@[go_sem] def s0bn : List (RV × Co) := [(.t 6, .id), (.t 7, .id)]
theorem c0bn : cFun Try.prog 115 = some (49, k0bn, s0bn) := by kernel_rfl

def q9t : IC := zr [zi 2 (.box (.t 0)), zv 4 (.mov (zc 0))]
def q3m : IC := zr [zv 6 (.fad (.t 2) 0), zv 7 (.ld false 1 (.t 6)), zm 8 1, zv 9 (.bin .lss .no (.t 7) (.t 8)), zm 5 9]
def q4k : IC := zr [zv 4 (.mov (zc (-1)))]
def q98 : IC := zr [zv 11 (.fad (.t 2) 0), zv 12 (.ld false 1 (.t 11)), zm 13 1, zv 14 (.bin .gtr .no (.t 12) (.t 13)), zm 10 14]
def qban : IC := zr [zv 4 (.mov (zc 1))]
def q1j : IC := zr [zv 4 (.mov (zc 0))]
def k0bp : IC := (.seq q9t (.seq (.block 0 (.seq q3m (.cond (.t 5) (.seq q4k .ret) (.seq q98 (.cond (.t 10) (.seq qban .ret) .skip))))) (.seq q1j .ret)))
@[go_sem] def s0bp : List (RV × Co) := [(.t 4, .id)]
theorem c0bp : cFun Try.prog 116 = some (15, k0bp, s0bp) := by kernel_rfl

def qbdl : IC := zr [zv 2 zf]
def qbcg : IC := zr [zm 5 0, zi 6 (.call (.c (.fn 135 [] [])) [((.t 5), .id), ((.c (.str [33])), .id)]), zv 7 (.un .not (.t 6))]
def qbh7 : IC := zr [zv 2 zf]
def qbg5 : IC := zr [zm 9 0, zv 10 (.sls (.t 9) (some (zc 1)) none), zi 11 (.call (.c (.fn 136 [] [])) [((.t 10), .id)]), zm 8 11, zv 12 (.ext (.t 8) 0), zv 13 (.ext (.t 8) 1), zm 3 12, zm 4 13]
def qbep : IC := .drw [zp (zm 14 4), zp (zv 15 (.bin .eql .no (.t 14) (zc 0))), zp (zm 16 15), zp (zw 16 true 17 (.mov (.t 3))), (⟨some (16, true), some 18, .call (.c (.fn 137 [] [])) [((.t 17), .id)]⟩, []), zp (zw 16 true 19 (.mov (.t 0))), zp (zw 16 true 20 (.sls (.t 19) (some (zc 1)) none)), zp (zw 16 true 21 (.bin .eql .no (.t 18) (.t 20))), zp (zv 22 (.pick (.t 16) (.t 21) (.c (.bool false)))), zp (zm 2 22)]
def k0g : IC := (.seq qbdl (.seq (.seq qbcg (.cond (.t 7) (.seq qbh7 .ret) .skip)) (.seq qbg5 (.seq qbep .ret))))
@[go_sem] def s0g : List (RV × Co) := [(.t 2, .id)]
theorem c0g : cFun Try.prog 119 = some (23, k0g, s0g) := by kernel_rfl

def qbcy : IC := zr [zv 2 zf]
def qbhy : IC := zr [zm 3 0, zv 4 (.bin .neq .no (.t 3) (.c (.str []))), zm 5 4, zw 5 true 6 (.mov (.t 0)), zw 5 true 7 (.idx (.t 6) (zc 0)), ⟨some (5, true), some 8, .call (.c (.fn 141 [] [])) [((.t 7), .id)]⟩, zv 9 (.pick (.t 5) (.t 8) (.c (.bool false))), zm 10 9, zw 10 true 11 (.mov (.t 0)), ⟨some (10, true), some 12, .call (.c (.fn 142 [] [])) [((.t 11), .id)]⟩, zv 13 (.pick (.t 10) (.t 12) (.c (.bool false))), zm 2 13]
def k0x : IC := (.seq qbcy (.seq qbhy .ret))
@[go_sem] def s0x : List (RV × Co) := [(.t 2, .id)]
theorem c0x : cFun Try.prog 125 = some (14, k0x, s0x) := by kernel_rfl

def qbiq : IC := zr [zv 2 (.mov (.c (.str [])))]
def qbfa : IC := zr [zm 5 0, zi 6 (.call (.c (.fn 143 [] [])) [((.t 5), .id)]), zm 3 6]
def qbeo : IC := zr [zv 4 (.mov (.c (.str [])))]
def qbeq : IC := zr [zm 7 3, zv 8 (.bin .gtr .no (.t 7) (.c (.int .u64 9)))]
def qbgm : IC := zr [zm 9 3, zv 10 (.bin .rem .no (.t 9) (.c (.int .u64 10))), zv 11 (.bin .add .no (.c (.int .u64 48)) (.t 10)), zv 12 (.cvi .u8 (.t 11)), zv 13 (.bsl 1 [((.t 12), .id)]), zv 14 (.cbs (.t 13)), zm 15 4, zv 16 (.bin .add .no (.t 14) (.t 15)), zm 4 16]
def qbfz : IC := zr [zm 17 3, zv 18 (.bin .quo .no (.t 17) (.c (.int .u64 10))), zm 3 18]
def qbf2 : IC := (.seq (.seq qbeq (.cond (.t 8) .skip (.exit 0))) (.block 1 (.seq qbgm qbfz)))
def qbfr : IC := zr [zm 19 3, zv 20 (.bin .add .no (.c (.int .u64 48)) (.t 19)), zv 21 (.cvi .u8 (.t 20)), zv 22 (.bsl 1 [((.t 21), .id)]), zv 23 (.cbs (.t 22)), zm 24 4, zv 25 (.bin .add .no (.t 23) (.t 24)), zm 4 25]
def qbgb : IC := zr [zm 26 0, zv 27 (.bin .lss .no (.t 26) (zc 0))]
def q52 : IC := zr [zm 28 4, zv 29 (.bin .add .no (.c (.str [45])) (.t 28)), zm 2 29]
def q9m : IC := zr [zm 30 4, zm 2 30]
def k0z : IC := (.seq qbiq (.seq qbfa (.seq qbeo (.seq (.block 0 (.loop qbf2)) (.seq qbfr (.seq (.seq qbgb (.cond (.t 27) (.seq q52 .ret) .skip)) (.seq q9m .ret)))))))
@[go_sem] def s0z : List (RV × Co) := [(.t 2, .id)]
theorem c0z : cFun Try.prog 127 = some (31, k0z, s0z) := by kernel_rfl

def qbf4 : IC := zr [zv 2 zf]
def qbda : IC := zr [zm 3 0, zv 4 (.bin .geq .no (.t 3) (.c (.int .u8 97))), zm 5 4, zw 5 true 6 (.mov (.t 0)), zw 5 true 7 (.bin .leq .no (.t 6) (.c (.int .u8 122))), zv 8 (.pick (.t 5) (.t 7) (.c (.bool false))), zm 9 8, zw 9 false 10 (.mov (.t 0)), zw 9 false 11 (.bin .eql .no (.t 10) (.c (.int .u8 95))), zv 12 (.pick (.t 9) (.c (.bool true)) (.t 11)), zm 2 12]
def k0o : IC := (.seq qbf4 (.seq qbda .ret))
@[go_sem] def s0o : List (RV × Co) := [(.t 2, .id)]
theorem c0o : cFun Try.prog 128 = some (13, k0o, s0o) := by kernel_rfl

def q59 : IC := zr [zi 2 (.box (.t 0)), zv 4 (.mov (.c (.str [])))]
def q78 : IC := zr [zm 5 1]
def q2l : IC := zr [zv 6 (.ld true 3 (.t 2)), zi 7 (.call (.c (.fn 109 [] [])) [((.t 6), (.agg [.id, .id, (.sl 3)]))]), zv 8 (.bin .add .no (.c (.str [40])) (.t 7)), zv 9 (.bin .add .no (.t 8) (.c (.str [41]))), zm 4 9]
def q1d : IC := zr [zv 10 (.ld true 3 (.t 2)), zi 11 (.call (.c (.fn 109 [] [])) [((.t 10), (.agg [.id, .id, (.sl 3)]))]), zm 4 11]
def k0bu : IC := (.seq q59 (.seq (.seq q78 (.cond (.t 5) (.seq q2l .ret) .skip)) (.seq q1d .ret)))
@[go_sem] def s0bu : List (RV × Co) := [(.t 4, .id)]
theorem c0bu : cFun Try.prog 129 = some (12, k0bu, s0bu) := by kernel_rfl

def q1n : IC := zr [zi 1 (.box (.t 0)), zv 2 (.mov (.c (.str [])))]
def q7m : IC := zr [zv 4 (.fad (.t 1) 0), zv 5 (.ld false 1 (.t 4)), zv 6 (.bin .neq .no (.t 5) (.c (.str []))), zm 3 6]
def q7t : IC := zr [zv 7 (.fad (.t 1) 0), zv 8 (.ld false 1 (.t 7)), zm 2 8]
def q9z : IC := zr [zv 10 (.fad (.t 1) 1), zv 11 (.ld false 1 (.t 10)), zv 12 (.bin .geq .no (.t 11) (zc 0)), zm 9 12]
def q27 : IC := zr [zv 13 (.fad (.t 1) 1), zv 14 (.ld false 1 (.t 13)), zi 15 (.call (.c (.fn 144 [] [])) [((.t 14), .id)]), zm 2 15]
def qbb4 : IC := zr [zv 16 (.fad (.t 1) 1), zv 17 (.ld false 1 (.t 16)), zv 18 (.bin .sub .no (zc (-1)) (.t 17)), zi 19 (.call (.c (.fn 137 [] [])) [((.t 18), .id)]), zv 20 (.bin .add .no (.c (.str [63])) (.t 19)), zm 2 20]
def k0bt : IC := (.seq q1n (.seq (.block 0 (.seq q7m (.cond (.t 3) (.seq q7t .ret) (.seq q9z (.cond (.t 9) (.seq q27 .ret) .skip))))) (.seq qbb4 .ret)))
@[go_sem] def s0bt : List (RV × Co) := [(.t 2, .id)]
theorem c0bt : cFun Try.prog 130 = some (21, k0bt, s0bt) := by kernel_rfl

def q3l : IC := zr [zi 3 (.box (.t 0)), zv 5 zf]
def q7l : IC := zr [zv 6 (.ld false 1 (.t 2)), zv 7 (.bin .add .no (.t 6) (zc 1)), zn (.st 1 .id (.t 2) (.t 7))]
def q49 : IC := zr [zv 5 (.mov (.c (.bool true)))]
def k0by : IC := (.seq q3l (.seq q7l (.seq q49 .ret)))
@[go_sem] def s0by : List (RV × Co) := [(.t 5, .id)]
theorem c0by : cFun Try.prog 131 = some (8, k0by, s0by) := by kernel_rfl

def qbbf : IC := zr [zi 3 (.box (.t 0)), zv 5 zf]
def q0u : IC := zr [zv 6 (.ld false 1 (.t 2)), zm 7 1, zv 8 (.mm true (.t 6) (.t 7)), zn (.st 1 .id (.t 2) (.t 8))]
def q0s : IC := zr [zv 5 (.mov (.c (.bool true)))]
def k0bz : IC := (.seq qbbf (.seq q0u (.seq q0s .ret)))
@[go_sem] def s0bz : List (RV × Co) := [(.t 5, .id)]
theorem c0bz : cFun Try.prog 132 = some (9, k0bz, s0bz) := by kernel_rfl

def qbey : IC := zr [zv 2 zf]
def qbh2 : IC := zr [zm 5 0, zv 6 (.bin .eql .no (.t 5) (.c (.str []))), zm 7 6, zw 7 false 8 (.mov (.t 0)), zw 7 false 9 (.idx (.t 8) (zc 0)), zw 7 false 10 (.bin .neq .no (.t 9) (.c (.int .u8 33))), zv 11 (.pick (.t 7) (.c (.bool true)) (.t 10))]
def qbg9 : IC := zr [zv 2 zf]
def qbhf : IC := zr [zm 13 0, zv 14 (.sls (.t 13) (some (zc 1)) none), zi 15 (.call (.c (.fn 145 [] [])) [((.t 14), .id)]), zm 12 15, zv 16 (.ext (.t 12) 0), zv 17 (.ext (.t 12) 1), zm 3 16, zm 4 17]
def qbgq : IC := .drw [zp (zm 18 4), zp (zv 19 (.bin .eql .no (.t 18) (zc 0))), zp (zm 20 19), zp (zw 20 true 21 (.mov (.t 3))), (⟨some (20, true), some 22, .call (.c (.fn 127 [] [])) [((.t 21), .id)]⟩, []), zp (zw 20 true 23 (.mov (.t 0))), zp (zw 20 true 24 (.sls (.t 23) (some (zc 1)) none)), zp (zw 20 true 25 (.bin .eql .no (.t 22) (.t 24))), zp (zv 26 (.pick (.t 20) (.t 25) (.c (.bool false)))), zp (zm 2 26)]
def k0h : IC := (.seq qbey (.seq (.seq qbh2 (.cond (.t 11) (.seq qbg9 .ret) .skip)) (.seq qbhf (.seq qbgq .ret))))
@[go_sem] def s0h : List (RV × Co) := [(.t 2, .id)]
theorem c0h : cFun Try.prog 133 = some (27, k0h, s0h) := by kernel_rfl

def qbgv : IC := zr [zv 4 zf]
def qbfj : IC := zr [zm 5 0, zm 6 1, zi 7 (.call (.c (.fn 147 [] [])) [((.t 5), .id), ((.t 6), .id)]), zm 4 7]
def k0l : IC := (.seq qbgv (.seq qbfj .ret))
@[go_sem] def s0l : List (RV × Co) := [(.t 4, .id)]
theorem c0l : cFun Try.prog 135 = some (8, k0l, s0l) := by kernel_rfl

def qbes : IC := zr [zv 2 (.mov (zc 0)), zv 3 (.mov (zc 0))]
def qbcv : IC := zr [zm 8 0, zv 9 (.len true (.t 8)), zv 10 (.mov (zc 0))]
def qbcj : IC := zr [zv 11 (.bin .lss .no (.t 10) (.t 9))]
def qbio : IC := zr [zm 12 10, zm 4 12]
def qbgx : IC := zr [zm 13 0, zm 14 4, zv 15 (.idx (.t 13) (.t 14)), zv 16 (.bin .lss .no (.t 15) (.c (.int .u8 48))), zm 17 16, zw 17 false 18 (.mov (.t 0)), zw 17 false 19 (.mov (.t 4)), zw 17 false 20 (.idx (.t 18) (.t 19)), zw 17 false 21 (.bin .gtr .no (.t 20) (.c (.int .u8 57))), zv 22 (.pick (.t 17) (.c (.bool true)) (.t 21))]
def qbg0 : IC := zr [zv 2 (.mov (zc 0)), zv 3 (.mov (zc 5))]
def qbc0 : IC := zr [zv 23 (.bin .add .no (.t 10) (zc 1)), zm 10 23]
def qbhh : IC := (.seq qbcj (.seq (.cond (.t 11) .skip (.exit 0)) (.seq (.block 1 (.seq qbio (.seq qbgx (.cond (.t 22) (.seq qbg0 .ret) .skip)))) qbc0)))
def qbh9 : IC := zr [zm 24 0, zv 25 (.bin .eql .no (.t 24) (.c (.str [])))]
def q30 : IC := zr [zv 2 (.mov (zc 0)), zv 3 (.mov (zc 5))]
def q14 : IC := zr [zv 5 (.mov (zc 0)), zv 6 (.mov (zc 0))]
def q5u : IC := zr [zm 26 0, zm 27 6, zv 28 (.idx (.t 26) (.t 27)), zv 29 (.bin .sub .no (.t 28) (.c (.int .u8 48))), zv 30 (.cvi .i64 (.t 29)), zm 7 30]
def q6u : IC := zr [zm 31 5, zm 32 7, zv 33 (.bin .sub .no (zc 9223372036854775807) (.t 32)), zv 34 (.bin .quo .no (.t 33) (zc 10)), zv 35 (.bin .gtr .no (.t 31) (.t 34))]
def q5f : IC := zr [zv 2 (.mov (zc 0)), zv 3 (.mov (zc 4))]
def qbbj : IC := zr [zm 36 5, zv 37 (.bin .mul .no (zc 10) (.t 36)), zm 38 7, zv 39 (.bin .add .no (.t 37) (.t 38)), zm 5 39]
def q8f : IC := zr [zm 40 6, zv 41 (.bin .add .no (.t 40) (zc 1)), zm 6 41]
def q5o : IC := zr [zm 42 6, zm 43 0, zv 44 (.len true (.t 43)), zv 45 (.bin .lss .no (.t 42) (.t 44))]
def q5s : IC := zr [zm 46 5, zm 2 46, zv 3 (.mov (zc 0))]
def k0n : IC := (.seq qbes (.scope (.seq (.seq qbcv (.block 0 (.loop qbhh))) (.seq (.seq qbh9 (.cond (.t 25) (.seq q30 .ret) .skip)) (.seq q14 (.seq (.label 0) (.seq q5u (.seq (.seq q6u (.cond (.t 35) (.seq q5f .ret) .skip)) (.seq qbbj (.seq (.seq q8f (.seq q5o (.cond (.t 45) (.goto 0) .skip))) (.seq q5s .ret)))))))))))
@[go_sem] def s0n : List (RV × Co) := [(.t 2, .id), (.t 3, .id)]
theorem c0n : cFun Try.prog 136 = some (47, k0n, s0n) := by kernel_rfl

def q0r : IC := zr [zv 2 (.mov (.c (.str [])))]
def q4t : IC := zr [zm 6 0, zv 7 (.cvi .u64 (.t 6)), zm 3 7]
def q7b : IC := zr [zm 8 0, zv 9 (.bin .lss .no (.t 8) (zc 0))]
def q7h : IC := zr [zm 10 3, zv 11 (.un .neg (.t 10)), zm 3 11]
def q4i : IC := zr [zi 4 (.alo [(.int .u8 0), (.int .u8 0), (.int .u8 0), (.int .u8 0), (.int .u8 0), (.int .u8 0), (.int .u8 0), (.int .u8 0), (.int .u8 0), (.int .u8 0), (.int .u8 0), (.int .u8 0), (.int .u8 0), (.int .u8 0), (.int .u8 0), (.int .u8 0), (.int .u8 0), (.int .u8 0), (.int .u8 0), (.int .u8 0)])]
def qbah : IC := zr [zv 5 (.mov (zc 20))]
def q5y : IC := zr [zm 12 5, zv 13 (.bin .sub .no (.t 12) (zc 1)), zm 5 13]
def q8d : IC := zr [zm 14 5, zm 15 3, zv 16 (.bin .rem .no (.t 15) (.c (.int .u64 10))), zv 17 (.bin .add .no (.c (.int .u64 48)) (.t 16)), zv 18 (.cvi .u8 (.t 17)), zv 19 (.aad 1 20 (.t 4) (.t 14)), zn (.st 1 .id (.t 19) (.t 18))]
def q2s : IC := zr [zm 20 3, zv 21 (.bin .quo .no (.t 20) (.c (.int .u64 10))), zm 3 21]
def qv5 : IC := zr [zm 22 3, zv 23 (.bin .eql .no (.t 22) (.c (.int .u64 0)))]
def q20 : IC := (.block 1 (.seq q5y (.seq q8d (.seq q2s (.seq qv5 (.cond (.t 23) (.exit 0) .skip))))))
def qv2 : IC := zr [zm 24 0, zv 25 (.bin .lss .no (.t 24) (zc 0))]
def qvz : IC := zr [zm 26 5, zv 27 (.sla 20 (.t 4) (.t 26)), zv 28 (.cbs (.t 27)), zv 29 (.bin .add .no (.c (.str [45])) (.t 28)), zm 2 29]
def qyu : IC := zr [zm 30 5, zv 31 (.sla 20 (.t 4) (.t 30)), zv 32 (.cbs (.t 31)), zm 2 32]
def k0ba : IC := (.seq q0r (.seq q4t (.seq (.seq q7b (.cond (.t 9) q7h .skip)) (.seq q4i (.seq qbah (.seq (.block 0 (.loop q20)) (.seq (.seq qv2 (.cond (.t 25) (.seq qvz .ret) .skip)) (.seq qyu .ret))))))))
@[go_sem] def s0ba : List (RV × Co) := [(.t 2, .id)]
theorem c0ba : cFun Try.prog 137 = some (33, k0ba, s0ba) := by kernel_rfl

def qbfh : IC := zr [zv 2 zf]
def qbfp : IC := zr [zm 3 0, zv 4 (.bin .geq .no (.t 3) (.c (.int .u8 65))), zm 5 4, zw 5 true 6 (.mov (.t 0)), zw 5 true 7 (.bin .leq .no (.t 6) (.c (.int .u8 90))), zv 8 (.pick (.t 5) (.t 7) (.c (.bool false))), zm 2 8]
def k0r : IC := (.seq qbfh (.seq qbfp .ret))
@[go_sem] def s0r : List (RV × Co) := [(.t 2, .id)]
theorem c0r : cFun Try.prog 141 = some (9, k0r, s0r) := by kernel_rfl

def qbf3 : IC := zr [zv 2 zf]
def qbh5 : IC := zr [zv 3 (.mov (zc 1))]
def qbhw : IC := zr [zm 4 3, zm 5 0, zv 6 (.len true (.t 5)), zv 7 (.bin .lss .no (.t 4) (.t 6))]
def qbh0 : IC := zr [zm 10 0, zm 11 3, zv 12 (.idx (.t 10) (.t 11)), zi 13 (.call (.c (.fn 152 [] [])) [((.t 12), .id)]), zv 14 (.un .not (.t 13))]
def qbim : IC := zr [zv 2 zf]
def qbgw : IC := zr [zm 8 3, zv 9 (.bin .add .no (.t 8) (zc 1)), zm 3 9]
def qbg6 : IC := (.seq (.seq qbhw (.cond (.t 7) .skip (.exit 0))) (.seq (.block 1 (.seq qbh0 (.cond (.t 14) (.seq qbim .ret) .skip))) qbgw))
def qbd0 : IC := zr [zv 2 (.mov (.c (.bool true)))]
def k0v : IC := (.seq qbf3 (.seq (.seq qbh5 (.block 0 (.loop qbg6))) (.seq qbd0 .ret)))
@[go_sem] def s0v : List (RV × Co) := [(.t 2, .id)]
theorem c0v : cFun Try.prog 142 = some (15, k0v, s0v) := by kernel_rfl

def qbce : IC := zr [zv 2 (.mov (.c (.int .u64 0)))]
def qbgn : IC := zr [zm 3 0, zv 4 (.bin .lss .no (.t 3) (zc 0))]
def qbc7 : IC := zr [zm 5 0, zv 6 (.cvi .u64 (.t 5)), zv 7 (.un .neg (.t 6)), zm 2 7]
def qbdd : IC := zr [zm 8 0, zv 9 (.cvi .u64 (.t 8)), zm 2 9]
def k0y : IC := (.seq qbce (.seq (.seq qbgn (.cond (.t 4) (.seq qbc7 .ret) .skip)) (.seq qbdd .ret)))
@[go_sem] def s0y : List (RV × Co) := [(.t 2, .id)]
theorem c0y : cFun Try.prog 143 = some (10, k0y, s0y) := by kernel_rfl

def qbae : IC := zr [zv 2 (.mov (.c (.str [])))]
def q91 : IC := zr [zm 4 0, zv 5 (.bin .lss .no (.t 4) (zc 0))]
def q62 : IC := zr [zv 2 (.mov (.c (.str [])))]
def q90 : IC := zr [zm 6 0, zv 7 (.bin .rem .no (.t 6) (zc 26)), zv 8 (.bin .add .no (zc 97) (.t 7)), zv 9 (.cvi .u8 (.t 8)), zv 10 (.bsl 1 [((.t 9), .id)]), zv 11 (.cbs (.t 10)), zm 3 11]
def q2f : IC := zr [zm 12 0, zv 13 (.bin .lss .no (.t 12) (zc 26))]
def q6v : IC := zr [zm 14 3, zm 2 14]
def q79 : IC := zr [zm 15 3, zm 16 0, zv 17 (.bin .quo .no (.t 16) (zc 26)), zi 18 (.call (.c (.fn 137 [] [])) [((.t 17), .id)]), zv 19 (.bin .add .no (.t 15) (.t 18)), zm 2 19]
def k0bb : IC := (.seq qbae (.seq (.seq q91 (.cond (.t 5) (.seq q62 .ret) .skip)) (.seq q90 (.seq (.seq q2f (.cond (.t 13) (.seq q6v .ret) .skip)) (.seq q79 .ret)))))
@[go_sem] def s0bb : List (RV × Co) := [(.t 2, .id)]
theorem c0bb : cFun Try.prog 144 = some (20, k0bb, s0bb) := by kernel_rfl

def qbcr : IC := zr [zv 2 (.mov (zc 0)), zv 3 (.mov (zc 0))]
def qbds : IC := zr [zm 8 0, zv 9 (.bin .eql .no (.t 8) (.c (.str [])))]
def qbhr : IC := zr [zv 2 (.mov (zc 0)), zv 3 (.mov (zc 5))]
def qbec : IC := zr [zv 4 (.mov (zc 0))]
def qbhb : IC := zr [zm 10 4, zm 11 0, zv 12 (.len true (.t 11)), zv 13 (.bin .lss .no (.t 10) (.t 12))]
def qbe7 : IC := zr [zm 16 0, zm 17 4, zv 18 (.idx (.t 16) (.t 17)), zv 19 (.bin .lss .no (.t 18) (.c (.int .u8 48))), zm 20 19, zw 20 false 21 (.mov (.t 0)), zw 20 false 22 (.mov (.t 4)), zw 20 false 23 (.idx (.t 21) (.t 22)), zw 20 false 24 (.bin .gtr .no (.t 23) (.c (.int .u8 57))), zv 25 (.pick (.t 20) (.c (.bool true)) (.t 24))]
def qbf0 : IC := zr [zv 2 (.mov (zc 0)), zv 3 (.mov (zc 5))]
def qbcq : IC := zr [zm 14 4, zv 15 (.bin .add .no (.t 14) (zc 1)), zm 4 15]
def qbcw : IC := (.seq (.seq qbhb (.cond (.t 13) .skip (.exit 0))) (.seq (.block 1 (.seq qbe7 (.cond (.t 25) (.seq qbf0 .ret) .skip))) qbcq))
def q6o : IC := zr [zv 5 (.mov (zc 0))]
def q1u : IC := zr [zv 6 (.mov (zc 0))]
def q8a : IC := zr [zm 26 6, zm 27 0, zv 28 (.len true (.t 27)), zv 29 (.bin .lss .no (.t 26) (.t 28))]
def q8g : IC := zr [zm 32 0, zm 33 6, zv 34 (.idx (.t 32) (.t 33)), zv 35 (.bin .sub .no (.t 34) (.c (.int .u8 48))), zv 36 (.cvi .i64 (.t 35)), zm 7 36]
def qbav : IC := zr [zm 37 5, zm 38 7, zv 39 (.bin .sub .no (zc 9223372036854775807) (.t 38)), zv 40 (.bin .quo .no (.t 39) (zc 10)), zv 41 (.bin .gtr .no (.t 37) (.t 40))]
def q8o : IC := zr [zv 2 (.mov (zc 0)), zv 3 (.mov (zc 4))]
def q80 : IC := zr [zm 42 5, zv 43 (.bin .mul .no (zc 10) (.t 42)), zm 44 7, zv 45 (.bin .add .no (.t 43) (.t 44)), zm 5 45]
def q9e : IC := zr [zm 30 6, zv 31 (.bin .add .no (.t 30) (zc 1)), zm 6 31]
def q35 : IC := (.seq (.seq q8a (.cond (.t 29) .skip (.exit 2))) (.seq (.block 3 (.seq q8g (.seq (.seq qbav (.cond (.t 41) (.seq q8o .ret) .skip)) q80))) q9e))
def q0f : IC := zr [zm 46 5, zm 2 46, zv 3 (.mov (zc 0))]
def k0m : IC := (.seq qbcr (.seq (.seq qbds (.cond (.t 9) (.seq qbhr .ret) .skip)) (.seq (.seq qbec (.block 0 (.loop qbcw))) (.seq q6o (.seq (.seq q1u (.block 2 (.loop q35))) (.seq q0f .ret))))))
@[go_sem] def s0m : List (RV × Co) := [(.t 2, .id), (.t 3, .id)]
theorem c0m : cFun Try.prog 145 = some (47, k0m, s0m) := by kernel_rfl

def qbhj : IC := zr [zv 4 zf]
def qbft : IC := zr [zm 5 0, zv 6 (.len true (.t 5)), zm 7 1, zv 8 (.len true (.t 7)), zv 9 (.bin .geq .no (.t 6) (.t 8)), zm 10 9, zw 10 true 11 (.mov (.t 0)), zw 10 true 12 (.mov (.t 1)), zw 10 true 13 (.len true (.t 12)), zw 10 true 14 (.sls (.t 11) none (some (.t 13))), zw 10 true 15 (.mov (.t 1)), zw 10 true 16 (.bin .eql .no (.t 14) (.t 15)), zv 17 (.pick (.t 10) (.t 16) (.c (.bool false))), zm 4 17]
def k0k : IC := (.seq qbhj (.seq qbft .ret))
@[go_sem] def s0k : List (RV × Co) := [(.t 4, .id)]
theorem c0k : cFun Try.prog 147 = some (18, k0k, s0k) := by kernel_rfl

def qbhx : IC := zr [zv 2 zf]
def qbel : IC := zr [zm 3 0, zi 4 (.call (.c (.fn 155 [] [])) [((.t 3), .id)]), zm 5 4, zw 5 false 6 (.mov (.t 0)), ⟨some (5, false), some 7, .call (.c (.fn 141 [] [])) [((.t 6), .id)]⟩, zv 8 (.pick (.t 5) (.c (.bool true)) (.t 7)), zm 9 8, zw 9 false 10 (.mov (.t 0)), ⟨some (9, false), some 11, .call (.c (.fn 156 [] [])) [((.t 10), .id)]⟩, zv 12 (.pick (.t 9) (.c (.bool true)) (.t 11)), zm 13 12, zw 13 false 14 (.mov (.t 0)), zw 13 false 15 (.bin .eql .no (.t 14) (.c (.int .u8 39))), zv 16 (.pick (.t 13) (.c (.bool true)) (.t 15)), zm 2 16]
def k0t : IC := (.seq qbhx (.seq qbel .ret))
@[go_sem] def s0t : List (RV × Co) := [(.t 2, .id)]
theorem c0t : cFun Try.prog 152 = some (17, k0t, s0t) := by kernel_rfl

def qbcs : IC := zr [zv 2 zf]
def qbdi : IC := zr [zm 3 0, zv 4 (.bin .geq .no (.t 3) (.c (.int .u8 97))), zm 5 4, zw 5 true 6 (.mov (.t 0)), zw 5 true 7 (.bin .leq .no (.t 6) (.c (.int .u8 122))), zv 8 (.pick (.t 5) (.t 7) (.c (.bool false))), zm 9 8, zw 9 false 10 (.mov (.t 0)), zw 9 false 11 (.bin .eql .no (.t 10) (.c (.int .u8 95))), zv 12 (.pick (.t 9) (.c (.bool true)) (.t 11)), zm 2 12]
def k0p : IC := (.seq qbcs (.seq qbdi .ret))
@[go_sem] def s0p : List (RV × Co) := [(.t 2, .id)]
theorem c0p : cFun Try.prog 155 = some (13, k0p, s0p) := by kernel_rfl

def qbgc : IC := zr [zv 2 zf]
def qbdr : IC := zr [zm 3 0, zv 4 (.bin .geq .no (.t 3) (.c (.int .u8 48))), zm 5 4, zw 5 true 6 (.mov (.t 0)), zw 5 true 7 (.bin .leq .no (.t 6) (.c (.int .u8 57))), zv 8 (.pick (.t 5) (.t 7) (.c (.bool false))), zm 2 8]
def k0s : IC := (.seq qbgc (.seq qbdr .ret))
@[go_sem] def s0s : List (RV × Co) := [(.t 2, .id)]
theorem c0s : cFun Try.prog 156 = some (9, k0s, s0s) := by kernel_rfl

end Go.Proofs.Ytfpobiheiloamaa
