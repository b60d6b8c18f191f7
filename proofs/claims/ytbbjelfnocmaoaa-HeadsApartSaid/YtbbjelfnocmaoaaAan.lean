/- A text of this proof. -/
import Derived.Test.YtbbjelfnocmaoaaAaf
import Derived.Test.YtbbjelfnocmaoaaProg
/- The compiled code of the functions. -/
namespace Go.Proofs.Ytbbjelfnocmaoaa
open Go Go.V
@[reducible] def zm (d s : Nat) : GI := ⟨none, some d, .v (.mov (.t s))⟩
@[reducible] def zv (d : Nat) (x : IV) : GI := ⟨none, some d, .v x⟩
@[reducible] def zi (d : Nat) (i : I) : GI := ⟨none, some d, i⟩
@[reducible] def zn (i : I) : GI := ⟨none, none, i⟩
@[reducible] def zw (j : Nat) (b : Bool) (d : Nat) (x : IV) : GI := ⟨some (j, b), some d, .v x⟩
@[reducible] def zp (g : GI) : GI × List Nat := (g, [])
@[reducible] def zN : Co := .agg [.id, .id, .id, .id, (.sl 5)]
@[reducible] def zC : Co := .agg [(.sl 4), .id, .id, .id, .id, .id, .id, .id]
@[reducible] def zaN : I := .alo [(.int .i64 0), (.int .i64 0), (.int .i64 0), (.str []), .nils]
@[reducible] def zaC : I := .alo [.nils, (.int .i64 0), (.int .i64 0), (.int .i64 0), (.str []), (.int .i64 0), (.int .i64 0), (.int .i64 0)]
@[reducible] def zaT : I := .alo [(.int .i64 0), (.int .i64 0), (.int .i64 0), (.str [])]
@[reducible] def zZ : AV := .agg [(.int .i64 0), (.int .i64 0), (.int .i64 0), (.str []), .nils]
@[reducible] def zc (n : Int) : Opd := .c (.int .i64 n)
@[reducible] def zf : IV := .mov (.c (.bool false))
@[reducible] def zr (l : List GI) : IC := .reg false l
def qbbe : IC := zr [zi 4 (.box (.t 1)), zv 6 zf]
def qbgl : IC := zr [zm 15 0, zi 16 (.call (.c (.fn 4 [] [])) [((.t 15), (.sl 4))]), zv 17 (.bin .eql .no (.t 16) (zc 0)), zm 18 17, zw 18 false 19 (.ld true 4 (.t 4)), zw 18 false 20 (.bsl 4 [((.t 19), (.agg [.id, .id, .id, (.sl 3)]))]), ⟨some (18, false), some 21, .call (.c (.fn 5 [] [])) [((.t 20), (.sl 4))]⟩, zw 18 false 22 (.bin .eql .no (.t 21) (zc 0)), zv 23 (.pick (.t 18) (.c (.bool true)) (.t 22)), zm 24 23, zw 24 false 25 (.fad (.t 4) 1), zw 24 false 26 (.ld true 3 (.t 25)), zw 24 false 27 (.bsl 3 [((.t 26), (.agg [.id, .id, (.sl 3)]))]), ⟨some (24, false), some 28, .call (.c (.fn 6 [] [])) [((.t 27), (.sl 3))]⟩, zw 24 false 29 (.bin .eql .no (.t 28) (zc 0)), zv 30 (.pick (.t 24) (.c (.bool true)) (.t 29))]
def qbgy : IC := zr [zi 31 (.call (.c (.fn 7 [] [])) []), zm 6 31]
def qbhc : IC := zr [zm 33 0, zv 34 (.ld true 4 (.t 4)), zi 35 (.call (.c (.fn 8 [] [])) [((.t 33), (.sl 4)), ((.t 34), (.agg [.id, .id, .id, (.sl 3)]))]), zm 32 35, zv 36 (.ext (.t 32) 0), zv 37 (.ext (.t 32) 1), zv 38 (.ext (.t 32) 2), zm 7 36, zm 8 37, zm 9 38]
def qbeq : IC := zr [zm 40 0, zv 41 (.fad (.t 4) 0), zv 42 (.ld false 1 (.t 41)), zv 43 (.fad (.t 4) 1), zv 44 (.fad (.t 43) 0), zv 45 (.ld false 1 (.t 44)), zi 46 (.call (.c (.fn 9 [] [])) [((.t 40), (.sl 4)), ((.t 42), .id), ((.t 45), .id)]), zm 39 46, zv 47 (.ext (.t 39) 0), zv 48 (.ext (.t 39) 1), zm 10 47, zm 11 48]
def qbdz : IC := zr [zm 50 0, zv 51 (.fad (.t 4) 0), zv 52 (.ld false 1 (.t 51)), zm 53 2, zv 54 (.bld [(.str []), (.int .i64 0), .nils] [(1, 1, (.t 53))]), zv 55 (.bld [(.str []), (.str []), (.int .i64 0), .nils] [(0, 1, (.t 52)), (1, 3, (.t 54))]), zi 56 (.call (.c (.fn 8 [] [])) [((.t 50), (.sl 4)), ((.t 55), (.agg [.id, .id, .id, (.sl 3)]))]), zm 49 56, zv 57 (.ext (.t 49) 0), zv 58 (.ext (.t 49) 1), zv 59 (.ext (.t 49) 2), zm 12 57, zm 13 58, zm 14 59]
def q9z : IC := zr [zm 60 9, zv 61 (.un .not (.t 60)), zm 62 61, zw 62 false 63 (.mov (.t 11)), zw 62 false 64 (.mov (.t 63)), zw 64 true 65 (.mov (.t 7)), zw 64 true 66 (.mov (.t 10)), zw 64 true 67 (.bin .eql .no (.t 65) (.t 66)), zw 62 false 68 (.pick (.t 64) (.t 67) (.c (.bool false))), zv 69 (.pick (.t 62) (.c (.bool true)) (.t 68)), zm 70 69, zw 70 true 71 (.mov (.t 14)), zw 70 true 72 (.un .not (.t 71)), zv 73 (.pick (.t 70) (.t 72) (.c (.bool false))), zm 74 73, ⟨some (74, true), some 75, .call (.c (.fn 7 [] [])) []⟩, zv 76 (.pick (.t 74) (.t 75) (.c (.bool false))), zm 6 76]
def k0a : IC := (.seq qbbe (.seq (.seq qbgl (.cond (.t 30) (.seq qbgy .ret) .skip)) (.seq qbhc (.seq qbeq (.seq qbdz (.seq q9z .ret))))))
@[go_sem] def s0a : List (RV × Co) := [(.t 6, .id)]
theorem c0a : cFun Try.prog 3 = some (77, k0a, s0a) := by kernel_rfl

def qber : IC := zr [zv 2 (.mov (zc 0))]
def qbf2 : IC := zr [zm 4 0, zv 5 (.len false (.t 4)), zv 6 (.bin .gtr .no (.t 5) (zc 12))]
def qbgf : IC := zr [zv 2 (.mov (zc 0))]
def qbf1 : IC := zr [zv 3 (.mov (zc 0))]
def qbgj : IC := zr [zm 7 3, zm 8 0, zv 9 (.len false (.t 8)), zv 10 (.bin .lss .no (.t 7) (.t 9))]
def q9h : IC := zr [zm 13 0, zm 14 3, zv 15 (.iad 4 (.t 13) (.t 14)), zv 16 (.fad (.t 15) 3), zv 17 (.ld false 1 (.t 16)), zi 18 (.call (.c (.fn 5 [] [])) [((.t 17), (.sl 4))]), zv 19 (.bin .eql .no (.t 18) (zc 0)), zm 20 19, zw 20 false 21 (.mov (.t 0)), zw 20 false 22 (.mov (.t 3)), zw 20 false 23 (.iad 4 (.t 21) (.t 22)), zw 20 false 24 (.fad (.t 23) 2), zw 20 false 25 (.ld false 1 (.t 24)), zw 20 false 26 (.bin .gtr .no (.t 25) (zc 200)), zv 27 (.pick (.t 20) (.c (.bool true)) (.t 26))]
def qbbu : IC := zr [zv 2 (.mov (zc 0))]
def qbb8 : IC := zr [zm 11 3, zv 12 (.bin .add .no (.t 11) (zc 1)), zm 3 12]
def q9f : IC := (.seq (.seq qbgj (.cond (.t 10) .skip (.exit 0))) (.seq (.block 1 (.seq q9h (.cond (.t 27) (.seq qbbu .ret) .skip))) qbb8))
def q3u : IC := zr [zv 2 (.mov (zc 1))]
def k0b : IC := (.seq qber (.seq (.seq qbf2 (.cond (.t 6) (.seq qbgf .ret) .skip)) (.seq (.seq qbf1 (.block 0 (.loop q9f))) (.seq q3u .ret))))
@[go_sem] def s0b : List (RV × Co) := [(.t 2, .id)]
theorem c0b : cFun Try.prog 4 = some (28, k0b, s0b) := by kernel_rfl

def q5w : IC := zr [zv 2 (.mov (zc 0))]
def q4u : IC := zr [zm 5 0, zv 6 (.len false (.t 5)), zv 7 (.bin .gtr .no (.t 6) (zc 30))]
def q3r : IC := zr [zv 2 (.mov (zc 0))]
def q79 : IC := zr [zv 3 (.mov (.c .nils))]
def q48 : IC := zr [zv 4 (.mov (zc 0))]
def q14 : IC := zr [zm 8 4, zm 9 0, zv 10 (.len false (.t 9)), zv 11 (.bin .lss .no (.t 8) (.t 10))]
def q4y : IC := zr [zm 14 3, zm 15 0, zm 16 4, zv 17 (.iad 4 (.t 15) (.t 16)), zv 18 (.fad (.t 17) 1), zv 19 (.ld true 3 (.t 18)), zv 20 (.bsl 3 [((.t 19), (.agg [.id, .id, (.sl 3)]))]), zi 21 (.app 3 (.agg [(.str []), (.int .i64 0), .nils]) 48 (.sl 3) (.t 14) (.t 20)), zm 3 21]
def q50 : IC := zr [zm 12 4, zv 13 (.bin .add .no (.t 12) (zc 1)), zm 4 13]
def q1k : IC := (.seq (.seq q14 (.cond (.t 11) .skip (.exit 0))) (.seq (.block 1 q4y) q50))
def qw0 : IC := zr [zm 22 3, zi 23 (.call (.c (.fn 6 [] [])) [((.t 22), (.sl 3))]), zm 2 23]
def k0bt : IC := (.seq q5w (.seq (.seq q4u (.cond (.t 7) (.seq q3r .ret) .skip)) (.seq q79 (.seq (.seq q48 (.block 0 (.loop q1k))) (.seq qw0 .ret)))))
@[go_sem] def s0bt : List (RV × Co) := [(.t 2, .id)]
theorem c0bt : cFun Try.prog 5 = some (24, k0bt, s0bt) := by kernel_rfl

def q7j : IC := zr [zv 2 (.mov (zc 0))]
def q1f : IC := zr [zv 3 (.mov (zc 20000))]
def q1h : IC := zr [zv 4 (.mov (zc 0))]
def q55 : IC := zr [zm 5 4, zm 6 0, zv 7 (.len false (.t 6)), zv 8 (.bin .lss .no (.t 5) (.t 7))]
def q1e : IC := zr [zm 11 0, zm 12 4, zv 13 (.iad 3 (.t 11) (.t 12)), zv 14 (.ld true 3 (.t 13)), zm 15 3, zi 16 (.call (.c (.fn 10 [] [])) [((.t 14), (.agg [.id, .id, (.sl 3)])), ((.t 15), .id), ((zc 300), .id)]), zm 3 16]
def q34 : IC := zr [zm 9 4, zv 10 (.bin .add .no (.t 9) (zc 1)), zm 4 10]
def q4w : IC := (.seq (.seq q55 (.cond (.t 8) .skip (.exit 0))) (.seq (.block 1 q1e) q34))
def q6i : IC := zr [zm 17 3, zv 18 (.bin .lss .no (.t 17) (zc 0))]
def q7d : IC := zr [zv 2 (.mov (zc 0))]
def qwh : IC := zr [zv 2 (.mov (zc 1))]
def k0be : IC := (.seq q7j (.seq q1f (.seq (.seq q1h (.block 0 (.loop q4w))) (.seq (.seq q6i (.cond (.t 18) (.seq q7d .ret) .skip)) (.seq qwh .ret)))))
@[go_sem] def s0be : List (RV × Co) := [(.t 2, .id)]
theorem c0be : cFun Try.prog 6 = some (19, k0be, s0be) := by kernel_rfl

def qbgh : IC := zr [zv 0 zf]
def qbgt : IC := zr [zv 12 (.bld [(.str []), (.str []), (.int .i64 0), .nils] [(0, 1, (.c (.str [67])))]), zv 13 (.bsl 4 [((.t 12), (.agg [.id, .id, .id, (.sl 3)]))]), zv 14 (.bld [(.str []), (.str []), (.int .i64 0), .nils] [(0, 1, (.c (.str [68]))), (1, 1, (.c (.str [84]))), (2, 1, (zc 1)), (3, 1, (.t 13))]), zi 1 (.alo [(.str []), (.str []), (.int .i64 0), .nils]), zn (.st 4 (.agg [.id, .id, .id, (.sl 4)]) (.t 1) (.t 14))]
def qbbd : IC := zr [zi 16 (.call (.c (.fn 11 [] [])) [((.c (.str [84, 32, 73, 110, 116])), .id)]), zm 15 16, zv 17 (.ext (.t 15) 0), zv 18 (.ext (.t 15) 1), zi 2 (.alo [(.str []), (.int .i64 0), .nils]), zn (.st 3 (.agg [.id, .id, (.sl 3)]) (.t 2) (.t 17)), zm 3 18]
def qbam : IC := zr [zv 20 (.ld true 4 (.t 1)), zv 21 (.bsl 4 [((.t 20), (.agg [.id, .id, .id, (.sl 4)]))]), zv 22 (.ld true 3 (.t 2)), zv 23 (.bld [(.str []), (.str []), (.int .i64 0), .nils] [(0, 1, (.c (.str [68]))), (1, 3, (.t 22))]), zi 24 (.call (.c (.fn 8 [] [])) [((.t 21), (.sl 4)), ((.t 23), (.agg [.id, .id, .id, (.sl 3)]))]), zm 19 24, zv 25 (.ext (.t 19) 0), zv 26 (.ext (.t 19) 1), zv 27 (.ext (.t 19) 2), zm 4 25, zm 5 26, zm 6 27]
def qban : IC := zr [zv 29 (.ld true 4 (.t 1)), zv 30 (.bld [(.str []), (.str []), (.int .i64 0), .nils] [(0, 1, (.c (.str [67]))), (1, 1, (.c (.str [84])))]), zv 31 (.ld true 4 (.t 1)), zv 32 (.bsl 4 [((.t 29), (.agg [.id, .id, .id, (.sl 4)])), ((.t 30), (.agg [.id, .id, .id, (.sl 4)])), ((.t 31), (.agg [.id, .id, .id, (.sl 4)]))]), zi 33 (.call (.c (.fn 12 [] [])) [((.t 32), (.sl 4))]), zm 28 33, zv 34 (.ext (.t 28) 0), zv 35 (.ext (.t 28) 1), zv 36 (.ext (.t 28) 2), zm 7 34, zm 8 35, zm 9 36]
def qbcj : IC := zr [zv 38 (.ld true 4 (.t 1)), zv 39 (.bsl 4 [((.t 38), (.agg [.id, .id, .id, (.sl 4)]))]), zi 40 (.call (.c (.fn 9 [] [])) [((.t 39), (.sl 4)), ((.c (.str [68])), .id), ((.c (.str [84])), .id)]), zm 37 40, zv 41 (.ext (.t 37) 0), zv 42 (.ext (.t 37) 1), zm 10 41, zm 11 42]
def qbcy : IC := zr [zm 43 4, zv 44 (.bin .eql .no (.t 43) (zc 0)), zm 45 44, zw 45 true 46 (.mov (.t 5)), zw 45 true 47 (.len false (.t 46)), zw 45 true 48 (.bin .eql .no (.t 47) (zc 1)), zv 49 (.pick (.t 45) (.t 48) (.c (.bool false))), zm 50 49, zw 50 true 51 (.mov (.t 5)), zw 50 true 52 (.iad 4 (.t 51) (zc 0)), zw 50 true 53 (.fad (.t 52) 0), zw 50 true 54 (.ld false 1 (.t 53)), zw 50 true 55 (.bin .eql .no (.t 54) (.c (.str [67]))), zv 56 (.pick (.t 50) (.t 55) (.c (.bool false))), zm 57 56, zw 57 true 58 (.mov (.t 5)), zw 57 true 59 (.iad 4 (.t 58) (zc 0)), zw 57 true 60 (.fad (.t 59) 1), zw 57 true 61 (.fad (.t 60) 0), zw 57 true 62 (.ld false 1 (.t 61)), zw 57 true 63 (.bin .eql .no (.t 62) (.c (.str [73, 110, 116]))), zv 64 (.pick (.t 57) (.t 63) (.c (.bool false))), zm 65 64, zw 65 true 66 (.mov (.t 6)), zv 67 (.pick (.t 65) (.t 66) (.c (.bool false))), zm 68 67, zw 68 true 69 (.mov (.t 7)), zw 68 true 70 (.bin .eql .no (.t 69) (zc 0)), zv 71 (.pick (.t 68) (.t 70) (.c (.bool false))), zm 72 71, zw 72 true 73 (.mov (.t 8)), zw 72 true 74 (.bin .eql .no (.t 73) (zc 2)), zv 75 (.pick (.t 72) (.t 74) (.c (.bool false))), zm 76 75, zw 76 true 77 (.mov (.t 9)), zv 78 (.pick (.t 76) (.t 77) (.c (.bool false))), zm 79 78, zw 79 true 80 (.mov (.t 10)), zw 79 true 81 (.bin .eql .no (.t 80) (zc 0)), zv 82 (.pick (.t 79) (.t 81) (.c (.bool false))), zm 83 82, zw 83 true 84 (.mov (.t 11)), zv 85 (.pick (.t 83) (.t 84) (.c (.bool false))), zm 86 85, zw 86 true 87 (.ld true 4 (.t 1)), ⟨some (86, true), some 88, .call (.c (.fn 13 [] [])) [((.t 87), (.agg [.id, .id, .id, (.sl 4)]))]⟩, zw 86 true 89 (.bin .eql .no (.t 88) (zc 0)), zv 90 (.pick (.t 86) (.t 89) (.c (.bool false))), zm 91 90, zw 91 true 92 (.bld [(.str []), (.str []), (.int .i64 0), .nils] []), ⟨some (91, true), some 93, .call (.c (.fn 13 [] [])) [((.t 92), (.agg [.id, .id, .id, (.sl 4)]))]⟩, zw 91 true 94 (.bin .eql .no (.t 93) (zc 10)), zv 95 (.pick (.t 91) (.t 94) (.c (.bool false))), zm 96 95, zw 96 true 97 (.ld true 4 (.t 1)), ⟨some (96, true), some 98, .call (.c (.fn 14 [] [])) [((.t 97), (.agg [.id, .id, .id, (.sl 4)]))]⟩, zw 96 true 99 (.bin .eql .no (.t 98) (.c (.str [105, 110, 115, 116, 97, 110, 99, 101, 32, 67, 32, 97, 32, 61, 62, 32, 68, 32, 40, 84, 32, 97, 41]))), zv 100 (.pick (.t 96) (.t 99) (.c (.bool false))), zm 0 100]
def k0c : IC := (.seq qbgh (.seq qbgt (.seq qbbd (.seq qbam (.seq qban (.seq qbcj (.seq qbcy .ret)))))))
@[go_sem] def s0c : List (RV × Co) := [(.t 0, .id)]
theorem c0c : cFun Try.prog 7 = some (101, k0c, s0c) := by kernel_rfl

def qbbx : IC := zr [zi 3 (.box (.t 1)), zv 4 (.mov (zc 0)), zv 5 (.mov (.c .nils)), zv 6 zf]
def qbet : IC := zr [zm 15 0, zv 16 (.fad (.t 3) 0), zv 17 (.ld false 1 (.t 16)), zv 18 (.fad (.t 3) 1), zv 19 (.fad (.t 18) 0), zv 20 (.ld false 1 (.t 19)), zi 21 (.call (.c (.fn 9 [] [])) [((.t 15), (.sl 4)), ((.t 17), .id), ((.t 20), .id)]), zm 14 21, zv 22 (.ext (.t 14) 0), zv 23 (.ext (.t 14) 1), zm 7 22, zm 8 23]
def qbcv : IC := .drw [zp (zm 24 8), zp (zv 25 (.un .not (.t 24))), zp (zm 26 25), zp (zw 26 false 27 (.fad (.t 3) 1)), zp (zw 26 false 28 (.fad (.t 27) 0)), zp (zw 26 false 29 (.ld false 1 (.t 28))), (zw 26 false 30 (.bin .eql .no (.t 29) (.c (.str []))), []), zp (zv 31 (.pick (.t 26) (.c (.bool true)) (.t 30))), zp (zm 32 31), zp (zw 32 false 33 (.mov (.t 0))), zp (zw 32 false 34 (.mov (.t 7))), zp (zw 32 false 35 (.iad 4 (.t 33) (.t 34))), zp (zw 32 false 36 (.fad (.t 35) 2)), zp (zw 32 false 37 (.ld false 1 (.t 36))), zp (zw 32 false 38 (.fad (.t 3) 1)), zp (zw 32 false 39 (.fad (.t 38) 2)), zp (zw 32 false 40 (.ld false 1 (.t 39))), zp (zw 32 false 41 (.len false (.t 40))), zp (zw 32 false 42 (.bin .neq .no (.t 37) (.t 41))), zp (zv 43 (.pick (.t 32) (.c (.bool true)) (.t 42)))]
def qbgw : IC := zr [zv 4 (.mov (zc 0)), zv 5 (.mov (.c .nils)), zv 6 zf]
def qbg6 : IC := zr [zi 44 (.call (.c (.fn 15 [] [])) [((.c .nils), (.sl 4))]), zm 9 44]
def qba4 : IC := zr [zv 45 (.fad (.t 3) 1), zv 46 (.fad (.t 45) 2), zv 47 (.ld false 1 (.t 46)), zv 48 (.len false (.t 47)), zv 49 (.mov (zc 0))]
def qbhe : IC := zr [zv 50 (.bin .lss .no (.t 49) (.t 48))]
def qbbk : IC := zr [zm 51 49, zv 52 (.iad 3 (.t 47) (.t 49)), zv 53 (.ld true 3 (.t 52)), zi 11 (.alo [(.str []), (.int .i64 0), .nils]), zm 10 51, zn (.st 3 (.agg [.id, .id, (.sl 3)]) (.t 11) (.t 53))]
def qbep : IC := zr [zm 54 9, zm 55 10, zv 56 (.ld true 3 (.t 11)), zi 57 (.call (.c (.fn 16 [] [])) [((.t 54), .id), ((.t 55), .id), ((.t 56), (.agg [.id, .id, (.sl 3)]))])]
def q3l : IC := zr [zv 58 (.bin .add .no (.t 49) (zc 1)), zm 49 58]
def q9x : IC := (.seq qbhe (.seq (.cond (.t 50) .skip (.exit 0)) (.seq (.block 1 (.seq qbbk qbep)) q3l)))
def q2v : IC := zr [zm 60 9, zm 61 0, zm 62 7, zv 63 (.iad 4 (.t 61) (.t 62)), zv 64 (.fad (.t 63) 3), zv 65 (.ld false 1 (.t 64)), zi 66 (.call (.c (.fn 17 [] [])) [((.t 60), .id), ((.t 65), (.sl 4))]), zm 59 66, zv 67 (.ext (.t 59) 0), zv 68 (.ext (.t 59) 1), zm 12 67, zm 13 68]
def q2u : IC := zr [zm 69 7, zm 70 12, zm 4 69, zm 5 70, zv 6 (.mov (.c (.bool true)))]
def k0i : IC := (.seq qbbx (.seq qbet (.seq (.seq qbcv (.cond (.t 43) (.seq qbgw .ret) .skip)) (.seq qbg6 (.seq (.seq qba4 (.block 0 (.loop q9x))) (.seq q2v (.seq q2u .ret)))))))
@[go_sem] def s0i : List (RV × Co) := [(.t 4, .id), (.t 5, (.sl 4)), (.t 6, .id)]
theorem c0i : cFun Try.prog 8 = some (71, k0i, s0i) := by kernel_rfl

def q9q : IC := zr [zv 6 (.mov (zc 0)), zv 7 zf]
def qbgp : IC := zr [zm 10 0, zv 11 (.len false (.t 10)), zv 12 (.mov (zc 0))]
def qbed : IC := zr [zv 13 (.bin .lss .no (.t 12) (.t 11))]
def qba8 : IC := zr [zm 14 12, zv 15 (.iad 4 (.t 10) (.t 12)), zv 16 (.ld true 4 (.t 15)), zi 9 (.alo [(.str []), (.str []), (.int .i64 0), .nils]), zm 8 14, zn (.st 4 (.agg [.id, .id, .id, (.sl 4)]) (.t 9) (.t 16))]
def qbc9 : IC := zr [zv 17 (.fad (.t 9) 0), zv 18 (.ld false 1 (.t 17)), zm 19 1, zv 20 (.bin .eql .no (.t 18) (.t 19)), zm 21 20, zw 21 true 22 (.fad (.t 9) 1), zw 21 true 23 (.ld false 1 (.t 22)), zw 21 true 24 (.mov (.t 2)), zw 21 true 25 (.bin .eql .no (.t 23) (.t 24)), zv 26 (.pick (.t 21) (.t 25) (.c (.bool false)))]
def qbfr : IC := zr [zm 27 8, zm 6 27, zv 7 (.mov (.c (.bool true)))]
def qbb5 : IC := zr [zv 28 (.bin .add .no (.t 12) (zc 1)), zm 12 28]
def qbci : IC := (.seq qbed (.seq (.cond (.t 13) .skip (.exit 0)) (.seq (.block 1 (.seq qba8 (.seq qbc9 (.cond (.t 26) (.seq qbfr .ret) .skip)))) qbb5)))
def qbbz : IC := zr [zv 6 (.mov (zc 0)), zv 7 zf]
def k0h : IC := (.seq q9q (.seq (.seq qbgp (.block 0 (.loop qbci))) (.seq qbbz .ret)))
@[go_sem] def s0h : List (RV × Co) := [(.t 6, .id), (.t 7, .id)]
theorem c0h : cFun Try.prog 9 = some (29, k0h, s0h) := by kernel_rfl

def q83 : IC := zr [zi 3 (.box (.t 0)), zv 6 (.mov (zc 0))]
def q5r : IC := zr [zm 8 1, zv 9 (.bin .sub .no (.t 8) (zc 1)), zm 1 9]
def q0w : IC := zr [zm 10 2, zv 11 (.bin .lss .no (.t 10) (zc 1))]
def q7w : IC := zr [zv 6 (.mov (zc (-1)))]
def q4x : IC := zr [zv 7 (.mov (zc 0))]
def q84 : IC := zr [zm 12 7, zv 13 (.fad (.t 3) 2), zv 14 (.ld false 1 (.t 13)), zv 15 (.len false (.t 14)), zv 16 (.bin .lss .no (.t 12) (.t 15)), zm 17 16, zw 17 true 18 (.mov (.t 1)), zw 17 true 19 (.bin .geq .no (.t 18) (zc 0)), zv 20 (.pick (.t 17) (.t 19) (.c (.bool false)))]
def q6w : IC := zr [zv 23 (.fad (.t 3) 2), zv 24 (.ld false 1 (.t 23)), zm 25 7, zv 26 (.iad 3 (.t 24) (.t 25)), zv 27 (.ld true 3 (.t 26)), zm 28 1, zm 29 2, zv 30 (.bin .sub .no (.t 29) (zc 1)), zi 31 (.call (.c (.fn 10 [] [])) [((.t 27), (.agg [.id, .id, (.sl 3)])), ((.t 28), .id), ((.t 30), .id)]), zm 1 31]
def q2f : IC := zr [zm 21 7, zv 22 (.bin .add .no (.t 21) (zc 1)), zm 7 22]
def q47 : IC := (.seq (.seq q84 (.cond (.t 20) .skip (.exit 0))) (.seq (.block 1 q6w) q2f))
def qzd : IC := zr [zm 32 1, zm 6 32]
def k0bd : IC := (.seq q83 (.seq q5r (.seq (.seq q0w (.cond (.t 11) (.seq q7w .ret) .skip)) (.seq (.seq q4x (.block 0 (.loop q47))) (.seq qzd .ret)))))
@[go_sem] def s0bd : List (RV × Co) := [(.t 6, .id)]
theorem c0bd : cFun Try.prog 10 = some (33, k0bd, s0bd) := by kernel_rfl

def q1l : IC := zr [zi 2 (.alo [(.str []), (.int .i64 0), .nils]), zv 3 (.mov (zc 0))]
def q26 : IC := zr [zm 6 0, zv 7 (.bld [(.str []), (.int .i64 0), (.bool false)] [(0, 1, (.t 6))]), zi 8 (.box (.t 7)), zm 4 8]
def q5c : IC := zr [zm 9 4, zi 10 (.call (.c (.fn 18 [] [])) [((.t 9), .id)]), zi 5 (.alo [(.str []), (.int .i64 0), .nils]), zn (.st 3 (.agg [.id, .id, (.sl 3)]) (.t 5) (.t 10))]
def q49 : IC := zr [zm 11 4, zv 12 (.nck (.t 11)), zv 13 (.fad (.t 12) 2), zv 14 (.ld false 1 (.t 13)), zm 15 14, zw 15 false 16 (.mov (.t 4)), zw 15 false 17 (.nck (.t 16)), zw 15 false 18 (.fad (.t 17) 0), zw 15 false 19 (.ld false 1 (.t 18)), zw 15 false 20 (.bin .neq .no (.t 19) (.c (.str []))), zv 21 (.pick (.t 15) (.c (.bool true)) (.t 20)), zm 22 21, zw 22 false 23 (.ld true 3 (.t 5)), ⟨some (22, false), some 24, .call (.c (.fn 19 [] [])) [((.t 23), (.agg [.id, .id, (.sl 3)]))]⟩, zw 22 false 25 (.mov (.t 0)), zw 22 false 26 (.bin .neq .no (.t 24) (.t 25)), zv 27 (.pick (.t 22) (.c (.bool true)) (.t 26))]
def q7x : IC := zr [zv 28 (.bld [(.str []), (.int .i64 0), .nils] []), zn (.st 3 (.agg [.id, .id, (.sl 3)]) (.t 2) (.t 28)), zv 3 (.mov (zc 5))]
def q0k : IC := zr [zv 29 (.ld true 3 (.t 5)), zn (.st 3 (.agg [.id, .id, (.sl 3)]) (.t 2) (.t 29)), zv 3 (.mov (zc 0))]
def k0bx : IC := (.seq q1l (.seq q26 (.seq q5c (.seq (.seq q49 (.cond (.t 27) (.seq q7x .ret) .skip)) (.seq q0k .ret)))))
@[go_sem] def s0bx : List (RV × Co) := [(.c true 3 2, (.agg [.id, .id, (.sl 3)])), (.t 3, .id)]
theorem c0bx : cFun Try.prog 11 = some (30, k0bx, s0bx) := by kernel_rfl

def qbe0 : IC := zr [zv 2 (.mov (zc 0)), zv 3 (.mov (zc 0)), zv 4 zf]
def q94 : IC := zr [zv 5 (.mov (zc 0)), zv 6 (.mov (zc 0)), zv 7 zf]
def qbde : IC := zr [zm 12 0, zv 13 (.len false (.t 12)), zv 14 (.mov (zc 0))]
def qbbc : IC := zr [zv 15 (.bin .lss .no (.t 14) (.t 13))]
def qbe3 : IC := zr [zm 16 14, zv 17 (.iad 4 (.t 12) (.t 14)), zv 18 (.ld true 4 (.t 17)), zi 9 (.alo [(.str []), (.str []), (.int .i64 0), .nils]), zm 8 16, zn (.st 4 (.agg [.id, .id, .id, (.sl 4)]) (.t 9) (.t 18))]
def qbcp : IC := zr [zm 19 0, zm 20 8, zv 21 (.slv 4 (.t 19) none (some (.t 20)) none), zv 22 (.len false (.t 21)), zv 23 (.mov (zc 0))]
def qbdt : IC := zr [zv 24 (.bin .lss .no (.t 23) (.t 22))]
def qbeu : IC := zr [zm 25 23, zv 26 (.iad 4 (.t 21) (.t 23)), zv 27 (.ld true 4 (.t 26)), zi 11 (.alo [(.str []), (.str []), (.int .i64 0), .nils]), zm 10 25, zn (.st 4 (.agg [.id, .id, .id, (.sl 4)]) (.t 11) (.t 27))]
def q19 : IC := zr [zv 28 (.fad (.t 9) 0), zv 29 (.ld false 1 (.t 28)), zv 30 (.fad (.t 11) 0), zv 31 (.ld false 1 (.t 30)), zv 32 (.bin .eql .no (.t 29) (.t 31)), zm 33 32, zw 33 true 34 (.fad (.t 9) 1), zw 33 true 35 (.ld false 1 (.t 34)), zw 33 true 36 (.fad (.t 11) 1), zw 33 true 37 (.ld false 1 (.t 36)), zw 33 true 38 (.bin .eql .no (.t 35) (.t 37)), zv 39 (.pick (.t 33) (.t 38) (.c (.bool false)))]
def q7z : IC := zr [zm 40 10, zm 41 8, zm 5 40, zm 6 41, zv 7 (.mov (.c (.bool true)))]
def q85 : IC := zr [zv 42 (.bin .add .no (.t 23) (zc 1)), zm 23 42]
def qbe4 : IC := (.seq qbdt (.seq (.cond (.t 24) .skip (.exit 2)) (.seq (.block 3 (.seq qbeu (.seq q19 (.cond (.t 39) (.seq q7z (.exit 0)) .skip)))) q85)))
def q1y : IC := zr [zv 43 (.bin .add .no (.t 14) (zc 1)), zm 14 43]
def qbar : IC := (.seq qbbc (.seq (.cond (.t 15) .skip (.exit 0)) (.seq (.block 1 (.seq qbe3 (.seq qbcp (.block 2 (.loop qbe4))))) q1y)))
def q5m : IC := zr [zm 44 5, zm 45 6, zm 46 7, zm 2 44, zm 3 45, zm 4 46]
def k0e : IC := (.seq qbe0 (.scope (.seq q94 (.seq (.label 0) (.seq (.seq qbde (.block 0 (.loop qbar))) (.seq q5m .ret))))))
@[go_sem] def s0e : List (RV × Co) := [(.t 2, .id), (.t 3, .id), (.t 4, .id)]
theorem c0e : cFun Try.prog 12 = some (47, k0e, s0e) := by kernel_rfl

def qbgm : IC := zr [zi 1 (.box (.t 0)), zv 2 (.mov (zc 0))]
def qbee : IC := zr [zv 6 (.fad (.t 1) 0), zv 7 (.ld false 1 (.t 6)), zi 8 (.call (.c (.fn 20 [] [])) [((.t 7), .id)]), zm 9 8, zw 9 true 10 (.fad (.t 1) 1), zw 9 true 11 (.ld false 1 (.t 10)), ⟨some (9, true), some 12, .call (.c (.fn 20 [] [])) [((.t 11), .id)]⟩, zw 9 true 13 (.mov (.t 12)), zw 13 false 14 (.fad (.t 1) 1), zw 13 false 15 (.ld false 1 (.t 14)), zw 13 false 16 (.bin .eql .no (.t 15) (.c (.str [45, 62]))), zw 13 false 17 (.mov (.t 16)), zw 17 true 18 (.fad (.t 1) 2), zw 17 true 19 (.ld false 1 (.t 18)), zw 17 true 20 (.bin .eql .no (.t 19) (zc 2)), zw 13 false 21 (.pick (.t 17) (.t 20) (.c (.bool false))), zw 9 true 22 (.pick (.t 13) (.c (.bool true)) (.t 21)), zv 23 (.pick (.t 9) (.t 22) (.c (.bool false))), zm 24 23, zw 24 true 25 (.fad (.t 1) 2), zw 24 true 26 (.ld false 1 (.t 25)), zw 24 true 27 (.bin .geq .no (.t 26) (zc 0)), zv 28 (.pick (.t 24) (.t 27) (.c (.bool false))), zm 29 28, zw 29 true 30 (.fad (.t 1) 2), zw 29 true 31 (.ld false 1 (.t 30)), zw 29 true 32 (.bin .leq .no (.t 31) (zc 100)), zv 33 (.pick (.t 29) (.t 32) (.c (.bool false))), zm 3 33]
def qbg0 : IC := zr [zv 34 (.fad (.t 1) 3), zv 35 (.ld false 1 (.t 34)), zv 36 (.len false (.t 35)), zv 37 (.mov (zc 0))]
def qbfw : IC := zr [zv 38 (.bin .lss .no (.t 37) (.t 36))]
def qbdq : IC := zr [zv 39 (.iad 4 (.t 35) (.t 37)), zv 40 (.ld true 4 (.t 39)), zi 5 (.alo [(.str []), (.str []), (.int .i64 0), .nils]), zn (.st 4 (.agg [.id, .id, .id, (.sl 3)]) (.t 5) (.t 40))]
def qbap : IC := zr [zm 41 3, zm 42 41, zw 42 true 43 (.ld true 4 (.t 5)), zw 42 true 44 (.fad (.t 1) 2), zw 42 true 45 (.ld false 1 (.t 44)), ⟨some (42, true), some 46, .call (.c (.fn 21 [] [])) [((.t 43), (.agg [.id, .id, .id, (.sl 3)])), ((.t 45), .id)]⟩, zv 47 (.pick (.t 42) (.t 46) (.c (.bool false))), zm 3 47]
def qbfb : IC := zr [zv 48 (.bin .add .no (.t 37) (zc 1)), zm 37 48]
def qbd2 : IC := (.seq qbfw (.seq (.cond (.t 38) .skip (.exit 0)) (.seq (.block 1 (.seq qbdq qbap)) qbfb)))
def qbc2 : IC := zr [zm 49 3, zv 50 (.un .not (.t 49))]
def q0g : IC := zr [zv 2 (.mov (zc 10))]
def q16 : IC := zr [zv 2 (.mov (zc 0))]
def k0d : IC := (.seq qbgm (.seq qbee (.seq (.seq qbg0 (.block 0 (.loop qbd2))) (.seq (.seq qbc2 (.cond (.t 50) (.seq q0g .ret) .skip)) (.seq q16 .ret)))))
@[go_sem] def s0d : List (RV × Co) := [(.t 2, .id)]
theorem c0d : cFun Try.prog 13 = some (51, k0d, s0d) := by kernel_rfl

def qbdp : IC := zr [zi 1 (.box (.t 0)), zv 2 (.mov (.c (.str [])))]
def qbhd : IC := zr [zv 6 (.ld true 4 (.t 1)), zi 7 (.call (.c (.fn 13 [] [])) [((.t 6), (.agg [.id, .id, .id, (.sl 4)]))]), zv 8 (.bin .neq .no (.t 7) (zc 0))]
def qbfa : IC := zr [zv 2 (.mov (.c (.str [])))]
def qbc7 : IC := zr [zv 9 (.fad (.t 1) 1), zv 10 (.ld false 1 (.t 9)), zv 11 (.bld [(.str []), (.int .i64 0), .nils] [(0, 1, (.t 10))]), zi 3 (.alo [(.str []), (.int .i64 0), .nils]), zn (.st 3 (.agg [.id, .id, (.sl 3)]) (.t 3) (.t 11))]
def qbg5 : IC := zr [zv 12 (.fad (.t 1) 2), zv 13 (.ld false 1 (.t 12)), zv 14 (.mov (zc 0))]
def qbb2 : IC := zr [zv 15 (.bin .lss .no (.t 14) (.t 13))]
def qbaw : IC := zr [zm 16 14, zm 4 16]
def qbft : IC := zr [zv 17 (.fad (.t 3) 2), zv 18 (.ld false 1 (.t 17)), zm 19 4, zv 20 (.bld [(.str []), (.int .i64 0), .nils] [(1, 1, (.t 19))]), zv 21 (.bsl 3 [((.t 20), (.agg [.id, .id, (.sl 3)]))]), zi 22 (.app 3 (.agg [(.str []), (.int .i64 0), .nils]) 48 (.sl 3) (.t 18) (.t 21)), zv 23 (.fad (.t 3) 2), zn (.st 1 (.sl 3) (.t 23) (.t 22))]
def qbcx : IC := zr [zv 24 (.bin .add .no (.t 14) (zc 1)), zm 14 24]
def q92 : IC := (.seq qbb2 (.seq (.cond (.t 15) .skip (.exit 0)) (.seq (.block 1 (.seq qbaw qbft)) qbcx)))
def q73 : IC := zr [zv 25 (.ld true 3 (.t 3)), zi 26 (.call (.c (.fn 19 [] [])) [((.t 25), (.agg [.id, .id, (.sl 3)]))]), zm 5 26]
def q1t : IC := zr [zv 27 (.fad (.t 1) 2), zv 28 (.ld false 1 (.t 27)), zv 29 (.bin .gtr .no (.t 28) (zc 0))]
def q2g : IC := zr [zm 30 5, zv 31 (.bin .add .no (.c (.str [40])) (.t 30)), zv 32 (.bin .add .no (.t 31) (.c (.str [41]))), zm 5 32]
def q6r : IC := zr [zv 33 (.fad (.t 1) 0), zv 34 (.ld false 1 (.t 33)), zv 35 (.bin .add .no (.t 34) (.c (.str [32]))), zm 36 5, zv 37 (.bin .add .no (.t 35) (.t 36)), zm 5 37]
def q7s : IC := zr [zv 38 (.fad (.t 1) 3), zv 39 (.ld false 1 (.t 38)), zv 40 (.len false (.t 39)), zv 41 (.bin .gtr .no (.t 40) (zc 0))]
def q74 : IC := zr [zv 42 (.fad (.t 1) 3), zv 43 (.ld false 1 (.t 42)), zi 44 (.call (.c (.fn 22 [] [])) [((.t 43), (.sl 4))]), zv 45 (.bin .add .no (.t 44) (.c (.str [32, 61, 62, 32]))), zm 46 5, zv 47 (.bin .add .no (.t 45) (.t 46)), zm 5 47]
def q8h : IC := zr [zm 48 5, zv 49 (.bin .add .no (.c (.str [105, 110, 115, 116, 97, 110, 99, 101, 32])) (.t 48)), zm 2 49]
def k0f : IC := (.seq qbdp (.seq (.seq qbhd (.cond (.t 8) (.seq qbfa .ret) .skip)) (.seq qbc7 (.seq (.seq qbg5 (.block 0 (.loop q92))) (.seq q73 (.seq (.seq q1t (.cond (.t 29) q2g .skip)) (.seq q6r (.seq (.seq q7s (.cond (.t 41) q74 .skip)) (.seq q8h .ret)))))))))
@[go_sem] def s0f : List (RV × Co) := [(.t 2, .id)]
theorem c0f : cFun Try.prog 14 = some (50, k0f, s0f) := by kernel_rfl

def qbe6 : IC := zr [zv 2 (.mov (.c .nilp))]
def qbfz : IC := zr [zv 6 (.bld [.nils] []), zi 7 (.box (.t 6)), zm 3 7]
def qbbw : IC := zr [zm 8 0, zv 9 (.len false (.t 8)), zv 10 (.mov (zc 0))]
def qbem : IC := zr [zv 11 (.bin .lss .no (.t 10) (.t 9))]
def qbb1 : IC := zr [zv 12 (.iad 4 (.t 8) (.t 10)), zv 13 (.ld true 4 (.t 12)), zi 5 (.alo [(.int .i64 0), (.str []), (.int .i64 0), .nils]), zn (.st 4 (.agg [.id, .id, .id, (.sl 3)]) (.t 5) (.t 13))]
def qbdm : IC := zr [zm 14 3, zv 15 (.fad (.t 5) 0), zv 16 (.ld false 1 (.t 15)), zv 17 (.fad (.t 5) 1), zv 18 (.ld true 3 (.t 17)), zi 19 (.call (.c (.fn 16 [] [])) [((.t 14), .id), ((.t 16), .id), ((.t 18), (.agg [.id, .id, (.sl 3)]))])]
def qbfd : IC := zr [zv 20 (.bin .add .no (.t 10) (zc 1)), zm 10 20]
def qbgu : IC := (.seq qbem (.seq (.cond (.t 11) .skip (.exit 0)) (.seq (.block 1 (.seq qbb1 qbdm)) qbfd)))
def qbe2 : IC := zr [zm 21 3, zm 2 21]
def k0l : IC := (.seq qbe6 (.seq qbfz (.seq (.seq qbbw (.block 0 (.loop qbgu))) (.seq qbe2 .ret))))
@[go_sem] def s0l : List (RV × Co) := [(.t 2, .id)]
theorem c0l : cFun Try.prog 15 = some (22, k0l, s0l) := by kernel_rfl

def qbbq : IC := zr [zi 5 (.box (.t 2)), zv 6 (.mov (zc 0))]
def qbau : IC := zr [zm 9 0, zv 10 (.bin .eql .ptr (.t 9) (.c .nilp)), zm 11 10, zw 11 false 12 (.ld true 3 (.t 5)), ⟨some (11, false), some 13, .call (.c (.fn 23 [] [])) [((.t 12), (.agg [.id, .id, (.sl 3)]))]⟩, zw 11 false 14 (.un .not (.t 13)), zv 15 (.pick (.t 11) (.c (.bool true)) (.t 14))]
def qbd7 : IC := zr [zv 6 (.mov (zc 1))]
def qbbh : IC := zr [zm 17 0, zm 18 1, zi 19 (.call (.c (.fn 24 [] [])) [((.t 17), .id), ((.t 18), .id)]), zm 16 19, zv 20 (.ext (.t 16) 0), zv 21 (.ext (.t 16) 1), zm 7 20, zm 8 21]
def qbcw : IC := zr [zm 22 8]
def qbcg : IC := zr [zv 6 (.mov (zc 6))]
def qbdb : IC := .drw [zp (zm 23 0), zp (zm 24 0), zp (zv 25 (.nck (.t 24))), zp (zv 26 (.fad (.t 25) 0)), zp (zv 27 (.ld false 1 (.t 26))), zp (zm 28 7), zp (zm 29 1), zp (zv 30 (.ld true 3 (.t 5))), (zi 31 (.call (.c (.fn 26 [] [])) [((.t 30), (.agg [.id, .id, (.sl 3)]))]), [4]), (zv 32 (.bld [(.int .i64 0), (.str []), (.int .i64 0), .nils] [(0, 1, (.t 29)), (1, 3, (.t 31))]), []), (zv 33 (.bsl 4 [((.t 32), (.agg [.id, .id, .id, (.sl 3)]))]), []), (zi 34 (.call (.c (.fn 25 [] [])) [((.t 27), (.sl 4)), ((.t 28), .id), ((.t 33), (.sl 4))]), []), zp (zv 35 (.nck (.t 23))), zp (zv 36 (.fad (.t 35) 0)), (zn (.st 1 (.sl 4) (.t 36) (.t 34)), [])]
def q9j : IC := zr [zv 6 (.mov (zc 0))]
def k0n : IC := (.seq qbbq (.seq (.seq qbau (.cond (.t 15) (.seq qbd7 .ret) .skip)) (.seq qbbh (.seq (.seq qbcw (.cond (.t 22) (.seq qbcg .ret) .skip)) (.seq qbdb (.seq q9j .ret))))))
@[go_sem] def s0n : List (RV × Co) := [(.t 6, .id)]
theorem c0n : cFun Try.prog 16 = some (37, k0n, s0n) := by kernel_rfl

def qbgn : IC := zr [zv 4 (.mov (.c .nils)), zv 5 (.mov (zc 0))]
def q9t : IC := zr [zv 6 (.mov (.c .nils))]
def qba5 : IC := zr [zm 11 1, zv 12 (.len false (.t 11)), zv 13 (.mov (zc 0))]
def qbf4 : IC := zr [zv 14 (.bin .lss .no (.t 13) (.t 12))]
def qbbi : IC := zr [zv 15 (.iad 4 (.t 11) (.t 13)), zv 16 (.ld true 4 (.t 15)), zi 8 (.alo [(.str []), (.str []), (.int .i64 0), .nils]), zn (.st 4 (.agg [.id, .id, .id, (.sl 3)]) (.t 8) (.t 16))]
def qbfe : IC := zr [zm 18 0, zv 19 (.fad (.t 8) 1), zv 20 (.ld true 3 (.t 19)), zi 21 (.call (.c (.fn 27 [] [])) [((.t 18), .id), ((.t 20), (.agg [.id, .id, (.sl 3)]))]), zm 17 21, zv 22 (.ext (.t 17) 0), zv 23 (.ext (.t 17) 1), zi 9 (.alo [(.str []), (.int .i64 0), .nils]), zn (.st 3 (.agg [.id, .id, (.sl 3)]) (.t 9) (.t 22)), zm 10 23]
def qbaa : IC := zr [zm 24 10, zv 25 (.bin .neq .no (.t 24) (zc 0))]
def qbga : IC := zr [zm 26 10, zv 4 (.mov (.c .nils)), zm 5 26]
def qbfu : IC := zr [zm 27 6, zv 28 (.fad (.t 8) 0), zv 29 (.ld false 1 (.t 28)), zv 30 (.ld true 3 (.t 9)), zv 31 (.bld [(.str []), (.str []), (.int .i64 0), .nils] [(0, 1, (.t 29)), (1, 3, (.t 30))]), zv 32 (.bsl 4 [((.t 31), (.agg [.id, .id, .id, (.sl 3)]))]), zi 33 (.app 4 (.agg [(.str []), (.str []), (.int .i64 0), .nils]) 64 (.sl 4) (.t 27) (.t 32)), zm 6 33]
def q2a : IC := zr [zv 34 (.bin .add .no (.t 13) (zc 1)), zm 13 34]
def qbcu : IC := (.seq qbf4 (.seq (.cond (.t 14) .skip (.exit 0)) (.seq (.block 1 (.seq qbbi (.seq qbfe (.seq (.seq qbaa (.cond (.t 25) (.seq qbga .ret) .skip)) qbfu)))) q2a)))
def q7n : IC := zr [zm 35 6, zm 4 35, zv 5 (.mov (zc 0))]
def k0j : IC := (.seq qbgn (.seq q9t (.seq (.seq qba5 (.block 0 (.loop qbcu))) (.seq q7n .ret))))
@[go_sem] def s0j : List (RV × Co) := [(.t 4, (.sl 4)), (.t 5, .id)]
theorem c0j : cFun Try.prog 17 = some (36, k0j, s0j) := by kernel_rfl

def q88 : IC := zr [zi 1 (.box (.t 0)), zi 2 (.alo [(.str []), (.int .i64 0), .nils])]
def q4f : IC := zr [zv 4 (.ld false 1 (.t 1)), zv 5 (.nck (.t 4)), zv 6 (.fad (.t 5) 1), zv 7 (.ld false 1 (.t 6)), zv 8 (.bin .add .no (.t 7) (zc 1)), zv 9 (.nck (.t 4)), zv 10 (.fad (.t 9) 1), zn (.st 1 .id (.t 10) (.t 8))]
def q43 : IC := zr [zv 11 (.ld false 1 (.t 1)), zv 12 (.nck (.t 11)), zv 13 (.fad (.t 12) 1), zv 14 (.ld false 1 (.t 13)), zv 15 (.bin .gtr .no (.t 14) (zc 200))]
def q3a : IC := zr [zv 16 (.ld false 1 (.t 1)), zv 17 (.nck (.t 16)), zv 18 (.fad (.t 17) 2), zn (.st 1 .id (.t 18) (.c (.bool true)))]
def q7p : IC := .dfr [zv 19 (.mfn 28 [] [(.t 1)])] (.t 19)
def q32 : IC := zr [zv 20 (.ld false 1 (.t 1)), zv 21 (.nck (.t 20)), zv 22 (.fad (.t 21) 2), zv 23 (.ld false 1 (.t 22))]
def q7o : IC := zr [zv 24 (.bld [(.str []), (.int .i64 0), .nils] []), zn (.st 3 (.agg [.id, .id, (.sl 3)]) (.t 2) (.t 24))]
def q6v : IC := zr [zv 25 (.ld false 1 (.t 1)), zi 26 (.call (.c (.fn 29 [] [])) [((.t 25), .id)]), zi 3 (.alo [(.str []), (.int .i64 0), .nils]), zn (.st 3 (.agg [.id, .id, (.sl 3)]) (.t 3) (.t 26))]
def q3e : IC := zr [zv 27 (.ld false 1 (.t 1)), zv 28 (.nck (.t 27)), zv 29 (.fad (.t 28) 2), zv 30 (.ld false 1 (.t 29)), zv 31 (.un .not (.t 30)), zm 32 31, zw 32 true 33 (.ld false 1 (.t 1)), zw 32 true 34 (.nck (.t 33)), zw 32 true 35 (.fad (.t 34) 0), zw 32 true 36 (.ld false 1 (.t 35)), ⟨some (32, true), some 37, .call (.c (.fn 30 [] [])) [((.t 36), .id), ((.c (.str [32, 45, 62, 32])), .id)]⟩, zw 32 true 38 (.un .not (.t 37)), zv 39 (.pick (.t 32) (.t 38) (.c (.bool false))), zm 40 39, zw 40 true 41 (.ld false 1 (.t 1)), ⟨some (40, true), some 42, .call (.c (.fn 31 [] [])) [((.t 41), .id), ((.c (.str [32])), .id)]⟩, zv 43 (.pick (.t 40) (.t 42) (.c (.bool false)))]
def qv5 : IC := .drw [zp (zv 44 (.fad (.t 3) 2)), zp (zv 45 (.ld false 1 (.t 44))), (zi 46 (.call (.c (.fn 32 [] [])) [((.t 45), (.sl 3))]), []), (zv 47 (.ld false 1 (.t 1)), [2]), (zi 48 (.call (.c (.fn 29 [] [])) [((.t 47), .id)]), []), (zv 49 (.bsl 3 [((.t 48), (.agg [.id, .id, (.sl 3)]))]), []), (zi 50 (.app 3 (.agg [(.str []), (.int .i64 0), .nils]) 48 (.sl 3) (.t 46) (.t 49)), []), zp (zv 51 (.fad (.t 3) 2)), (zn (.st 1 (.sl 3) (.t 51) (.t 50)), [])]
def qku : IC := (.seq (.seq q3e (.cond (.t 43) .skip (.exit 0))) (.block 1 qv5))
def qwl : IC := zr [zv 52 (.ld false 1 (.t 1)), zv 53 (.nck (.t 52)), zv 54 (.fad (.t 53) 2), zv 55 (.ld false 1 (.t 54)), zv 56 (.un .not (.t 55)), zm 57 56, zw 57 true 58 (.ld false 1 (.t 1)), ⟨some (57, true), some 59, .call (.c (.fn 31 [] [])) [((.t 58), .id), ((.c (.str [32, 45, 62, 32])), .id)]⟩, zv 60 (.pick (.t 57) (.t 59) (.c (.bool false)))]
def qxx : IC := .drw [zp (zv 61 (.ld true 3 (.t 3))), zp (zv 62 (.ld false 1 (.t 1))), (zi 63 (.call (.c (.fn 18 [] [])) [((.t 62), .id)]), [0]), (zv 64 (.bsl 3 [((.t 61), (.agg [.id, .id, (.sl 3)])), ((.t 63), (.agg [.id, .id, (.sl 3)]))]), []), (zv 65 (.bld [(.str []), (.int .i64 0), .nils] [(0, 1, (.c (.str [45, 62]))), (2, 1, (.t 64))]), []), (zn (.st 3 (.agg [.id, .id, (.sl 3)]) (.t 2) (.t 65)), [])]
def qyd : IC := zr [zv 66 (.ld true 3 (.t 3)), zn (.st 3 (.agg [.id, .id, (.sl 3)]) (.t 2) (.t 66))]
def k0bw : IC := (.seq q88 (.seq (.seq q4f (.seq q43 (.cond (.t 15) q3a .skip))) (.seq q7p (.seq (.seq q32 (.cond (.t 23) (.seq q7o .ret) .skip)) (.seq q6v (.seq (.block 0 (.loop qku)) (.seq (.seq qwl (.cond (.t 60) (.seq qxx .ret) .skip)) (.seq qyd .ret))))))))
@[go_sem] def s0bw : List (RV × Co) := [(.c true 3 2, (.agg [.id, .id, (.sl 3)]))]
theorem c0bw : cFun Try.prog 18 = some (67, k0bw, s0bw) := by kernel_rfl

def qbdv : IC := zr [zi 1 (.box (.t 0)), zv 2 (.mov (.c (.str [])))]
def q99 : IC := zr [zv 3 (.ld true 3 (.t 1)), zi 4 (.call (.c (.fn 23 [] [])) [((.t 3), (.agg [.id, .id, (.sl 3)]))]), zv 5 (.un .not (.t 4))]
def qbf3 : IC := zr [zv 2 (.mov (.c (.str [])))]
def qbd0 : IC := zr [zv 6 (.ld true 3 (.t 1)), zi 7 (.call (.c (.fn 33 [] [])) [((.t 6), (.agg [.id, .id, (.sl 3)]))]), zm 2 7]
def k0w : IC := (.seq qbdv (.seq (.seq q99 (.cond (.t 5) (.seq qbf3 .ret) .skip)) (.seq qbd0 .ret)))
@[go_sem] def s0w : List (RV × Co) := [(.t 2, .id)]
theorem c0w : cFun Try.prog 19 = some (8, k0w, s0w) := by kernel_rfl

def q5k : IC := zr [zv 2 zf]
def q22 : IC := zr [zm 3 0, zv 4 (.bin .neq .no (.t 3) (.c (.str []))), zm 5 4, zw 5 true 6 (.mov (.t 0)), zw 5 true 7 (.idx (.t 6) (zc 0)), ⟨some (5, true), some 8, .call (.c (.fn 34 [] [])) [((.t 7), .id)]⟩, zv 9 (.pick (.t 5) (.t 8) (.c (.bool false))), zm 10 9, zw 10 true 11 (.mov (.t 0)), ⟨some (10, true), some 12, .call (.c (.fn 35 [] [])) [((.t 11), .id)]⟩, zv 13 (.pick (.t 10) (.t 12) (.c (.bool false))), zm 2 13]
def k0bp : IC := (.seq q5k (.seq q22 .ret))
@[go_sem] def s0bp : List (RV × Co) := [(.t 2, .id)]
theorem c0bp : cFun Try.prog 20 = some (14, k0bp, s0bp) := by kernel_rfl

def qbfj : IC := zr [zi 2 (.box (.t 0)), zv 4 zf]
def qbgq : IC := zr [zv 6 (.fad (.t 2) 1), zv 7 (.ld true 3 (.t 6)), zi 5 (.alo [(.str []), (.int .i64 0), .nils]), zn (.st 3 (.agg [.id, .id, (.sl 3)]) (.t 5) (.t 7))]
def qbav : IC := zr [zv 8 (.fad (.t 2) 0), zv 9 (.ld false 1 (.t 8)), zi 10 (.call (.c (.fn 20 [] [])) [((.t 9), .id)]), zm 11 10, zw 11 true 12 (.fad (.t 5) 0), zw 11 true 13 (.ld false 1 (.t 12)), zw 11 true 14 (.bin .eql .no (.t 13) (.c (.str []))), zv 15 (.pick (.t 11) (.t 14) (.c (.bool false))), zm 16 15, zw 16 true 17 (.fad (.t 5) 2), zw 16 true 18 (.ld false 1 (.t 17)), zw 16 true 19 (.len false (.t 18)), zw 16 true 20 (.bin .eql .no (.t 19) (zc 0)), zv 21 (.pick (.t 16) (.t 20) (.c (.bool false))), zm 22 21, zw 22 true 23 (.fad (.t 5) 1), zw 22 true 24 (.ld false 1 (.t 23)), zw 22 true 25 (.bin .geq .no (.t 24) (zc 0)), zv 26 (.pick (.t 22) (.t 25) (.c (.bool false))), zm 27 26, zw 27 true 28 (.fad (.t 5) 1), zw 27 true 29 (.ld false 1 (.t 28)), zw 27 true 30 (.mov (.t 1)), zw 27 true 31 (.bin .lss .no (.t 29) (.t 30)), zv 32 (.pick (.t 27) (.t 31) (.c (.bool false))), zm 4 32]
def k0g : IC := (.seq qbfj (.seq qbgq (.seq qbav .ret)))
@[go_sem] def s0g : List (RV × Co) := [(.t 4, .id)]
theorem c0g : cFun Try.prog 21 = some (33, k0g, s0g) := by kernel_rfl

def q5s : IC := zr [zv 2 (.mov (.c (.str [])))]
def q6u : IC := zr [zv 3 (.mov (.c .nils))]
def q6n : IC := zr [zm 7 0, zv 8 (.len false (.t 7)), zv 9 (.mov (zc 0))]
def q11 : IC := zr [zv 10 (.bin .lss .no (.t 9) (.t 8))]
def q29 : IC := zr [zv 11 (.iad 4 (.t 7) (.t 9)), zv 12 (.ld true 4 (.t 11)), zi 5 (.alo [(.str []), (.str []), (.int .i64 0), .nils]), zn (.st 4 (.agg [.id, .id, .id, (.sl 3)]) (.t 5) (.t 12))]
def q3b : IC := zr [zv 13 (.ld true 4 (.t 5)), zi 14 (.call (.c (.fn 36 [] [])) [((.t 13), (.agg [.id, .id, .id, (.sl 3)]))]), zv 15 (.un .not (.t 14))]
def q1g : IC := zr [zv 2 (.mov (.c (.str [])))]
def q3z : IC := zr [zm 16 3, zv 17 (.ld true 4 (.t 5)), zi 18 (.call (.c (.fn 37 [] [])) [((.t 17), (.agg [.id, .id, .id, (.sl 3)]))]), zv 19 (.bsl 1 [((.t 18), .id)]), zi 20 (.app 1 (.str []) 16 (.sl 1) (.t 16) (.t 19)), zm 3 20]
def q5o : IC := zr [zv 21 (.bin .add .no (.t 9) (zc 1)), zm 9 21]
def q7m : IC := (.seq q11 (.seq (.cond (.t 10) .skip (.exit 0)) (.seq (.block 1 (.seq q29 (.seq (.seq q3b (.cond (.t 15) (.seq q1g .ret) .skip)) q3z))) q5o)))
def qw3 : IC := zr [zm 22 3, zi 23 (.call (.c (.fn 38 [] [])) [((.t 22), (.sl 1)), ((.c (.str [44, 32])), .id)]), zm 6 23]
def qyc : IC := zr [zm 24 0, zv 25 (.len false (.t 24)), zv 26 (.bin .gtr .no (.t 25) (zc 1))]
def qwi : IC := zr [zm 27 6, zv 28 (.bin .add .no (.c (.str [40])) (.t 27)), zv 29 (.bin .add .no (.t 28) (.c (.str [41]))), zm 2 29]
def qzq : IC := zr [zm 30 6, zm 2 30]
def k0bv : IC := (.seq q5s (.seq q6u (.seq (.seq q6n (.block 0 (.loop q7m))) (.seq qw3 (.seq (.seq qyc (.cond (.t 26) (.seq qwi .ret) .skip)) (.seq qzq .ret))))))
@[go_sem] def s0bv : List (RV × Co) := [(.t 2, .id)]
theorem c0bv : cFun Try.prog 22 = some (31, k0bv, s0bv) := by kernel_rfl

def q8r : IC := zr [zi 1 (.box (.t 0)), zv 2 zf]
def q2z : IC := zr [zi 3 (.alo [(.int .i64 0)]), zn (.st 1 .id (.t 3) (zc 0))]
def q81 : IC := zr [zv 4 (.ld true 3 (.t 1)), zv 5 (.mfn 40 [] [(.t 3)]), zi 6 (.call (.c (.fn 39 [] [])) [((.t 4), (.agg [.id, .id, (.sl 3)])), ((zc 1), .id), ((.t 5), .id)]), zm 2 6]
def k0ba : IC := (.seq q8r (.seq q2z (.seq q81 .ret)))
@[go_sem] def s0ba : List (RV × Co) := [(.t 2, .id)]
theorem c0ba : cFun Try.prog 23 = some (7, k0ba, s0ba) := by kernel_rfl

def qbbj : IC := zr [zv 4 (.mov (zc 0)), zv 5 zf]
def qbfc : IC := zr [zm 6 0, zv 7 (.nck (.t 6)), zv 8 (.fad (.t 7) 0), zv 9 (.ld false 1 (.t 8)), zm 10 1, zi 11 (.call (.c (.fn 43 [] [])) [((.t 9), (.sl 4)), ((.t 10), .id), ((.c (.fn 44 [] [])), .id)]), zv 12 (.ext (.t 11) 0), zv 13 (.ext (.t 11) 1), zm 4 12, zm 5 13]
def k0q : IC := (.seq qbbj (.seq qbfc .ret))
@[go_sem] def s0q : List (RV × Co) := [(.t 4, .id), (.t 5, .id)]
theorem c0q : cFun Try.prog 24 = some (14, k0q, s0q) := by kernel_rfl

def qbf8 : IC := zr [zi 1 (.box (.t 0)), zi 2 (.alo [(.str []), (.int .i64 0), .nils])]
def qbdl : IC := zr [zv 6 (.fad (.t 1) 2), zv 7 (.ld false 1 (.t 6)), zv 8 (.len false (.t 7)), zi 9 (.mks 3 (.agg [(.str []), (.int .i64 0), .nils]) 48 (.t 8) (.t 8)), zm 3 9]
def qbcl : IC := zr [zv 10 (.fad (.t 1) 2), zv 11 (.ld false 1 (.t 10)), zv 12 (.len false (.t 11)), zv 13 (.mov (zc 0))]
def qbez : IC := zr [zv 14 (.bin .lss .no (.t 13) (.t 12))]
def qbes : IC := zr [zm 15 13, zv 16 (.iad 3 (.t 11) (.t 13)), zv 17 (.ld true 3 (.t 16)), zi 5 (.alo [(.str []), (.int .i64 0), .nils]), zm 4 15, zn (.st 3 (.agg [.id, .id, (.sl 3)]) (.t 5) (.t 17))]
def qbg9 : IC := zr [zm 18 3, zm 19 4, zv 20 (.ld true 3 (.t 5)), zi 21 (.call (.c (.fn 26 [] [])) [((.t 20), (.agg [.id, .id, (.sl 3)]))]), zv 22 (.iad 3 (.t 18) (.t 19)), zn (.st 3 (.agg [.id, .id, (.sl 3)]) (.t 22) (.t 21))]
def qbdr : IC := zr [zv 23 (.bin .add .no (.t 13) (zc 1)), zm 13 23]
def qbff : IC := (.seq qbez (.seq (.cond (.t 14) .skip (.exit 0)) (.seq (.block 1 (.seq qbes qbg9)) qbdr)))
def qba7 : IC := zr [zm 24 3, zv 25 (.fad (.t 1) 2), zn (.st 1 (.sl 3) (.t 25) (.t 24))]
def q7t : IC := zr [zv 26 (.ld true 3 (.t 1)), zn (.st 3 (.agg [.id, .id, (.sl 3)]) (.t 2) (.t 26))]
def k0s : IC := (.seq qbf8 (.seq qbdl (.seq (.seq qbcl (.block 0 (.loop qbff))) (.seq qba7 (.seq q7t .ret)))))
@[go_sem] def s0s : List (RV × Co) := [(.c true 3 2, (.agg [.id, .id, (.sl 3)]))]
theorem c0s : cFun Try.prog 26 = some (27, k0s, s0s) := by kernel_rfl

def qbex : IC := zr [zi 3 (.box (.t 1)), zi 4 (.alo [(.str []), (.int .i64 0), .nils]), zv 5 (.mov (zc 0))]
def qbby : IC := zr [zv 8 (.ld true 3 (.t 3)), zi 9 (.call (.c (.fn 23 [] [])) [((.t 8), (.agg [.id, .id, (.sl 3)]))]), zv 10 (.un .not (.t 9))]
def q96 : IC := zr [zv 11 (.bld [(.str []), (.int .i64 0), .nils] []), zn (.st 3 (.agg [.id, .id, (.sl 3)]) (.t 4) (.t 11)), zv 5 (.mov (zc 1))]
def qben : IC := zr [zm 12 0, zv 13 (.bld [.nilp, (.int .i64 0)] [(0, 1, (.t 12)), (1, 1, (zc 4096))]), zi 14 (.box (.t 13)), zm 6 14]
def qbbg : IC := zr [zm 15 6, zv 16 (.ld true 3 (.t 3)), zi 17 (.call (.c (.fn 47 [] [])) [((.t 15), .id), ((.t 16), (.agg [.id, .id, (.sl 3)])), ((zc 1), .id)]), zi 7 (.alo [(.str []), (.int .i64 0), .nils]), zn (.st 3 (.agg [.id, .id, (.sl 3)]) (.t 7) (.t 17))]
def qbdc : IC := zr [zm 18 6, zv 19 (.nck (.t 18)), zv 20 (.fad (.t 19) 1), zv 21 (.ld false 1 (.t 20)), zv 22 (.bin .lss .no (.t 21) (zc 0))]
def q91 : IC := zr [zv 23 (.bld [(.str []), (.int .i64 0), .nils] []), zn (.st 3 (.agg [.id, .id, (.sl 3)]) (.t 4) (.t 23)), zv 5 (.mov (zc 2))]
def qbb6 : IC := zr [zv 24 (.ld true 3 (.t 7)), zn (.st 3 (.agg [.id, .id, (.sl 3)]) (.t 4) (.t 24)), zv 5 (.mov (zc 0))]
def k0k : IC := (.seq qbex (.seq (.seq qbby (.cond (.t 10) (.seq q96 .ret) .skip)) (.seq qben (.seq qbbg (.seq (.seq qbdc (.cond (.t 22) (.seq q91 .ret) .skip)) (.seq qbb6 .ret))))))
@[go_sem] def s0k : List (RV × Co) := [(.c true 3 4, (.agg [.id, .id, (.sl 3)])), (.t 5, .id)]
theorem c0k : cFun Try.prog 27 = some (25, k0k, s0k) := by kernel_rfl

def q70 : IC := zr [zv 1 (.ld false 1 (.t 0)), zv 2 (.nck (.t 1)), zv 3 (.fad (.t 2) 1), zv 4 (.ld false 1 (.t 3)), zv 5 (.bin .sub .no (.t 4) (zc 1)), zv 6 (.nck (.t 1)), zv 7 (.fad (.t 6) 1), zn (.st 1 .id (.t 7) (.t 5))]
def k0by : IC := q70
@[go_sem] def s0by : List (RV × Co) := []
theorem c0by : cFun Try.prog 28 = some (8, k0by, s0by) := by kernel_rfl

def q2p : IC := zr [zi 2 (.alo [(.str []), (.int .i64 0), .nils])]
def q4s : IC := zr [zm 6 0, zi 7 (.call (.c (.fn 31 [] [])) [((.t 6), .id), ((.c (.str [40])), .id)])]
def q0n : IC := zr [zm 8 0, zi 9 (.call (.c (.fn 18 [] [])) [((.t 8), .id)]), zi 3 (.alo [(.str []), (.int .i64 0), .nils]), zn (.st 3 (.agg [.id, .id, (.sl 3)]) (.t 3) (.t 9))]
def q2y : IC := zr [zm 10 0, zm 11 0, zv 12 (.nck (.t 11)), zv 13 (.fad (.t 12) 2), zv 14 (.ld false 1 (.t 13)), zm 15 14, zw 15 false 16 (.mov (.t 0)), ⟨some (15, false), some 17, .call (.c (.fn 31 [] [])) [((.t 16), .id), ((.c (.str [41])), .id)]⟩, zw 15 false 18 (.un .not (.t 17)), zv 19 (.pick (.t 15) (.c (.bool true)) (.t 18)), zv 20 (.nck (.t 10)), zv 21 (.fad (.t 20) 2), zn (.st 1 .id (.t 21) (.t 19))]
def q05 : IC := zr [zv 22 (.ld true 3 (.t 3)), zn (.st 3 (.agg [.id, .id, (.sl 3)]) (.t 2) (.t 22))]
def q1p : IC := zr [zm 23 0, zv 24 (.nck (.t 23)), zv 25 (.fad (.t 24) 0), zv 26 (.ld false 1 (.t 25)), zi 27 (.call (.c (.fn 48 [] [])) [((.t 26), .id), ((.c (.str [32, 40, 41])), .id)]), zm 4 27]
def q3w : IC := zr [zm 28 4, zv 29 (.bin .lss .no (.t 28) (zc 0))]
def q4a : IC := zr [zm 30 0, zv 31 (.nck (.t 30)), zv 32 (.fad (.t 31) 0), zv 33 (.ld false 1 (.t 32)), zv 34 (.len true (.t 33)), zm 4 34]
def q8i : IC := zr [zm 35 0, zv 36 (.nck (.t 35)), zv 37 (.fad (.t 36) 0), zv 38 (.ld false 1 (.t 37)), zm 39 4, zv 40 (.sls (.t 38) none (some (.t 39))), zi 41 (.call (.c (.fn 49 [] [])) [((.t 40), .id)]), zi 5 (.alo [(.str []), (.int .i64 0), .nils]), zn (.st 3 (.agg [.id, .id, (.sl 3)]) (.t 5) (.t 41))]
def q20 : IC := .drw [zp (zm 42 0), zp (zm 43 0), zp (zm 44 0), zp (zv 45 (.nck (.t 44))), zp (zv 46 (.fad (.t 45) 0)), zp (zv 47 (.ld false 1 (.t 46))), zp (zm 48 4), zp (zv 49 (.sls (.t 47) (some (.t 48)) none)), zp (zm 50 0), zp (zv 51 (.nck (.t 50))), zp (zv 52 (.fad (.t 51) 2)), zp (zv 53 (.ld false 1 (.t 52))), zp (zm 54 53), zp (zw 54 false 55 (.mov (.t 4))), zp (zw 54 false 56 (.bin .eql .no (.t 55) (zc 0))), zp (zv 57 (.pick (.t 54) (.c (.bool true)) (.t 56))), zp (zv 58 (.nck (.t 42))), zp (zv 59 (.fad (.t 58) 0)), (zn (.st 1 .id (.t 59) (.t 49)), []), zp (zv 60 (.nck (.t 43))), zp (zv 61 (.fad (.t 60) 2)), (zn (.st 1 .id (.t 61) (.t 57)), [])]
def qy2 : IC := zr [zv 62 (.ld true 3 (.t 5)), zn (.st 3 (.agg [.id, .id, (.sl 3)]) (.t 2) (.t 62))]
def k0bz : IC := (.seq q2p (.seq (.seq q4s (.cond (.t 7) (.seq q0n (.seq q2y (.seq q05 .ret))) .skip)) (.seq q1p (.seq (.seq q3w (.cond (.t 29) q4a .skip)) (.seq q8i (.seq q20 (.seq qy2 .ret)))))))
@[go_sem] def s0bz : List (RV × Co) := [(.c true 3 2, (.agg [.id, .id, (.sl 3)]))]
theorem c0bz : cFun Try.prog 29 = some (63, k0bz, s0bz) := by kernel_rfl

def q6m : IC := zr [zv 4 zf]
def q3m : IC := zr [zm 5 0, zm 6 1, zi 7 (.call (.c (.fn 50 [] [])) [((.t 5), .id), ((.t 6), .id)]), zm 4 7]
def k0bk : IC := (.seq q6m (.seq q3m .ret))
@[go_sem] def s0bk : List (RV × Co) := [(.t 4, .id)]
theorem c0bk : cFun Try.prog 30 = some (8, k0bk, s0bk) := by kernel_rfl

def q13 : IC := zr [zv 4 zf]
def q5g : IC := zr [zm 6 0, zv 7 (.nck (.t 6)), zv 8 (.fad (.t 7) 0), zv 9 (.ld false 1 (.t 8)), zm 10 1, zi 11 (.call (.c (.fn 30 [] [])) [((.t 9), .id), ((.t 10), .id)]), zm 5 11]
def q01 : IC := zr [zm 12 5]
def q7r : IC := zr [zm 13 0, zm 14 0, zv 15 (.nck (.t 14)), zv 16 (.fad (.t 15) 0), zv 17 (.ld false 1 (.t 16)), zm 18 1, zv 19 (.len true (.t 18)), zv 20 (.sls (.t 17) (some (.t 19)) none), zv 21 (.nck (.t 13)), zv 22 (.fad (.t 21) 0), zn (.st 1 .id (.t 22) (.t 20))]
def q6o : IC := zr [zm 23 5, zm 4 23]
def k0cc : IC := (.seq q13 (.seq q5g (.seq (.seq q01 (.cond (.t 12) q7r .skip)) (.seq q6o .ret))))
@[go_sem] def s0cc : List (RV × Co) := [(.t 4, .id)]
theorem c0cc : cFun Try.prog 31 = some (24, k0cc, s0cc) := by kernel_rfl

def q5l : IC := zr [zv 2 (.mov (.c .nils))]
def q45 : IC := zr [zm 3 0, zv 4 (.bin .eql .slice (.t 3) (.c .nils))]
def q1r : IC := zr [zv 2 (.mov (.c .nils))]
def q8s : IC := zr [zv 5 (.bsl 3 []), zm 6 0, zi 7 (.app 3 (.agg [(.str []), (.int .i64 0), .nils]) 48 (.sl 3) (.t 5) (.t 6)), zm 2 7]
def k0cb : IC := (.seq q5l (.seq (.seq q45 (.cond (.t 4) (.seq q1r .ret) .skip)) (.seq q8s .ret)))
@[go_sem] def s0cb : List (RV × Co) := [(.t 2, (.sl 3))]
theorem c0cb : cFun Try.prog 32 = some (8, k0cb, s0cb) := by kernel_rfl

def q98 : IC := zr [zi 1 (.box (.t 0)), zv 2 (.mov (.c (.str [])))]
def qba1 : IC := zr [zv 6 (.fad (.t 1) 0), zv 7 (.ld false 1 (.t 6)), zv 8 (.bin .eql .no (.t 7) (.c (.str [45, 62])))]
def q9k : IC := .drw [zp (zv 9 (.fad (.t 1) 2)), zp (zv 10 (.ld false 1 (.t 9))), zp (zv 11 (.iad 3 (.t 10) (zc 0))), zp (zv 12 (.ld true 3 (.t 11))), zp (zv 13 (.fad (.t 1) 2)), zp (zv 14 (.ld false 1 (.t 13))), zp (zv 15 (.iad 3 (.t 14) (zc 0))), zp (zv 16 (.fad (.t 15) 0)), zp (zv 17 (.ld false 1 (.t 16))), (zv 18 (.bin .eql .no (.t 17) (.c (.str [45, 62]))), []), (zi 19 (.call (.c (.fn 51 [] [])) [((.t 12), (.agg [.id, .id, (.sl 3)])), ((.t 18), .id)]), []), (zv 20 (.bin .add .no (.t 19) (.c (.str [32, 45, 62, 32]))), []), zp (zv 21 (.fad (.t 1) 2)), (zv 22 (.ld false 1 (.t 21)), [10]), zp (zv 23 (.iad 3 (.t 22) (zc 1))), (zv 24 (.ld true 3 (.t 23)), [10]), (zi 25 (.call (.c (.fn 33 [] [])) [((.t 24), (.agg [.id, .id, (.sl 3)]))]), []), zp (zv 26 (.bin .add .no (.t 20) (.t 25))), zp (zm 2 26)]
def qbd8 : IC := zr [zi 3 (.bld 97 5)]
def qbax : IC := zr [zv 27 (.ld true 3 (.t 1)), zi 28 (.call (.c (.fn 41 [] [])) [((.t 27), (.agg [.id, .id, (.sl 3)]))]), zi 29 (.call (.c (.fn 53 [] [])) [((.t 28), .id)]), zi 30 (.call (.c (.fn 52 [] [])) [((.t 3), (.agg [.id, (.sl 1)])), ((.t 29), .id)])]
def qbe7 : IC := zr [zv 31 (.fad (.t 1) 2), zv 32 (.ld false 1 (.t 31)), zv 33 (.len false (.t 32)), zv 34 (.mov (zc 0))]
def qbcd : IC := zr [zv 35 (.bin .lss .no (.t 34) (.t 33))]
def qbey : IC := zr [zv 36 (.iad 3 (.t 32) (.t 34)), zv 37 (.ld true 3 (.t 36)), zi 5 (.alo [(.str []), (.int .i64 0), .nils]), zn (.st 3 (.agg [.id, .id, (.sl 3)]) (.t 5) (.t 37))]
def qbfk : IC := zr [zv 38 (.ld true 3 (.t 5)), zv 39 (.fad (.t 5) 2), zv 40 (.ld false 1 (.t 39)), zv 41 (.len false (.t 40)), zv 42 (.bin .gtr .no (.t 41) (zc 0)), zi 43 (.call (.c (.fn 51 [] [])) [((.t 38), (.agg [.id, .id, (.sl 3)])), ((.t 42), .id)]), zv 44 (.bin .add .no (.c (.str [32])) (.t 43)), zi 45 (.call (.c (.fn 52 [] [])) [((.t 3), (.agg [.id, (.sl 1)])), ((.t 44), .id)])]
def q7b : IC := zr [zv 46 (.bin .add .no (.t 34) (zc 1)), zm 34 46]
def qbdu : IC := (.seq qbcd (.seq (.cond (.t 35) .skip (.exit 0)) (.seq (.block 1 (.seq qbey qbfk)) q7b)))
def q2l : IC := zr [zi 47 (.call (.c (.fn 54 [] [])) [((.t 3), (.agg [.id, (.sl 1)]))]), zm 2 47]
def k0v : IC := (.seq q98 (.seq (.seq qba1 (.cond (.t 8) (.seq q9k .ret) .skip)) (.seq qbd8 (.seq qbax (.seq (.seq qbe7 (.block 0 (.loop qbdu))) (.seq q2l .ret))))))
@[go_sem] def s0v : List (RV × Co) := [(.t 2, .id)]
theorem c0v : cFun Try.prog 33 = some (48, k0v, s0v) := by kernel_rfl

def q3g : IC := zr [zv 2 zf]
def q7l : IC := zr [zm 3 0, zv 4 (.bin .geq .no (.t 3) (.c (.int .u8 65))), zm 5 4, zw 5 true 6 (.mov (.t 0)), zw 5 true 7 (.bin .leq .no (.t 6) (.c (.int .u8 90))), zv 8 (.pick (.t 5) (.t 7) (.c (.bool false))), zm 2 8]
def k0bn : IC := (.seq q3g (.seq q7l .ret))
@[go_sem] def s0bn : List (RV × Co) := [(.t 2, .id)]
theorem c0bn : cFun Try.prog 34 = some (9, k0bn, s0bn) := by kernel_rfl

def q5n : IC := zr [zv 2 zf]
def q7c : IC := zr [zm 5 0, zv 6 (.len true (.t 5)), zv 7 (.mov (zc 0))]
def q07 : IC := zr [zv 8 (.bin .lss .no (.t 7) (.t 6))]
def q8g : IC := zr [zm 9 7, zm 3 9]
def q7a : IC := zr [zm 10 0, zm 11 3, zv 12 (.idx (.t 10) (.t 11)), zm 4 12]
def q4c : IC := zr [zm 13 4, zi 14 (.call (.c (.fn 55 [] [])) [((.t 13), .id)]), zv 15 (.un .not (.t 14)), zm 16 15, zw 16 true 17 (.mov (.t 4)), ⟨some (16, true), some 18, .call (.c (.fn 34 [] [])) [((.t 17), .id)]⟩, zw 16 true 19 (.un .not (.t 18)), zv 20 (.pick (.t 16) (.t 19) (.c (.bool false))), zm 21 20, zw 21 true 22 (.mov (.t 4)), zw 21 true 23 (.bin .lss .no (.t 22) (.c (.int .u8 48))), zw 21 true 24 (.mov (.t 23)), zw 24 false 25 (.mov (.t 4)), zw 24 false 26 (.bin .gtr .no (.t 25) (.c (.int .u8 57))), zw 21 true 27 (.pick (.t 24) (.c (.bool true)) (.t 26)), zv 28 (.pick (.t 21) (.t 27) (.c (.bool false))), zm 29 28, zw 29 true 30 (.mov (.t 4)), zw 29 true 31 (.bin .neq .no (.t 30) (.c (.int .u8 39))), zv 32 (.pick (.t 29) (.t 31) (.c (.bool false)))]
def q8y : IC := zr [zv 2 zf]
def q56 : IC := zr [zv 33 (.bin .add .no (.t 7) (zc 1)), zm 7 33]
def q4t : IC := (.seq q07 (.seq (.cond (.t 8) .skip (.exit 0)) (.seq (.block 1 (.seq q8g (.seq q7a (.seq q4c (.cond (.t 32) (.seq q8y .ret) .skip))))) q56)))
def qv6 : IC := zr [zv 2 (.mov (.c (.bool true)))]
def k0bo : IC := (.seq q5n (.seq (.seq q7c (.block 0 (.loop q4t))) (.seq qv6 .ret)))
@[go_sem] def s0bo : List (RV × Co) := [(.t 2, .id)]
theorem c0bo : cFun Try.prog 35 = some (34, k0bo, s0bo) := by kernel_rfl

def q4q : IC := zr [zi 1 (.box (.t 0)), zv 2 zf]
def q6b : IC := zr [zv 3 (.fad (.t 1) 0), zv 4 (.ld false 1 (.t 3)), zi 5 (.call (.c (.fn 20 [] [])) [((.t 4), .id)]), zm 6 5, zw 6 true 7 (.fad (.t 1) 1), zw 6 true 8 (.ld true 3 (.t 7)), ⟨some (6, true), some 9, .call (.c (.fn 23 [] [])) [((.t 8), (.agg [.id, .id, (.sl 3)]))]⟩, zv 10 (.pick (.t 6) (.t 9) (.c (.bool false))), zm 2 10]
def k0bs : IC := (.seq q4q (.seq q6b .ret))
@[go_sem] def s0bs : List (RV × Co) := [(.t 2, .id)]
theorem c0bs : cFun Try.prog 36 = some (11, k0bs, s0bs) := by kernel_rfl

def q2n : IC := zr [zi 1 (.box (.t 0)), zv 2 (.mov (.c (.str [])))]
def q2q : IC := zr [zv 4 (.fad (.t 1) 1), zv 5 (.ld true 3 (.t 4)), zi 6 (.call (.c (.fn 19 [] [])) [((.t 5), (.agg [.id, .id, (.sl 3)]))]), zm 3 6]
def q0i : IC := zr [zv 7 (.fad (.t 1) 1), zv 8 (.fad (.t 7) 2), zv 9 (.ld false 1 (.t 8)), zv 10 (.len false (.t 9)), zv 11 (.bin .gtr .no (.t 10) (zc 0))]
def q86 : IC := zr [zm 12 3, zv 13 (.bin .add .no (.c (.str [40])) (.t 12)), zv 14 (.bin .add .no (.t 13) (.c (.str [41]))), zm 3 14]
def q5j : IC := zr [zv 15 (.fad (.t 1) 0), zv 16 (.ld false 1 (.t 15)), zv 17 (.bin .add .no (.t 16) (.c (.str [32]))), zm 18 3, zv 19 (.bin .add .no (.t 17) (.t 18)), zm 2 19]
def k0bu : IC := (.seq q2n (.seq q2q (.seq (.seq q0i (.cond (.t 11) q86 .skip)) (.seq q5j .ret))))
@[go_sem] def s0bu : List (RV × Co) := [(.t 2, .id)]
theorem c0bu : cFun Try.prog 37 = some (20, k0bu, s0bu) := by kernel_rfl

def q2r : IC := zr [zi 3 (.box (.t 0)), zv 6 zf]
def q4k : IC := zr [zm 9 2, zv 10 (.ld true 3 (.t 3)), zm 11 1, zi 12 (.call (.t 9) [((.t 10), (.agg [.id, .id, (.sl 3)])), ((.t 11), .id)]), zv 13 (.un .not (.t 12))]
def q4r : IC := zr [zv 6 zf]
def q6a : IC := zr [zv 14 (.fad (.t 3) 2), zv 15 (.ld false 1 (.t 14)), zv 16 (.len false (.t 15)), zv 17 (.mov (zc 0))]
def q6y : IC := zr [zv 18 (.bin .lss .no (.t 17) (.t 16))]
def q8q : IC := zr [zv 19 (.iad 3 (.t 15) (.t 17)), zv 20 (.ld true 3 (.t 19)), zi 8 (.alo [(.str []), (.int .i64 0), .nils]), zn (.st 3 (.agg [.id, .id, (.sl 3)]) (.t 8) (.t 20))]
def q5t : IC := zr [zv 21 (.ld true 3 (.t 8)), zm 22 1, zv 23 (.bin .add .no (.t 22) (zc 1)), zm 24 2, zi 25 (.call (.c (.fn 39 [] [])) [((.t 21), (.agg [.id, .id, (.sl 3)])), ((.t 23), .id), ((.t 24), .id)]), zv 26 (.un .not (.t 25))]
def q06 : IC := zr [zv 6 zf]
def q65 : IC := zr [zv 27 (.bin .add .no (.t 17) (zc 1)), zm 17 27]
def q1c : IC := (.seq q6y (.seq (.cond (.t 18) .skip (.exit 0)) (.seq (.block 1 (.seq q8q (.seq q5t (.cond (.t 26) (.seq q06 .ret) .skip)))) q65)))
def qw6 : IC := zr [zv 6 (.mov (.c (.bool true)))]
def k0bi : IC := (.seq q2r (.seq (.seq q4k (.cond (.t 13) (.seq q4r .ret) .skip)) (.seq (.seq q6a (.block 0 (.loop q1c))) (.seq qw6 .ret))))
@[go_sem] def s0bi : List (RV × Co) := [(.t 6, .id)]
theorem c0bi : cFun Try.prog 39 = some (28, k0bi, s0bi) := by kernel_rfl

def qbcs : IC := zr [zi 3 (.box (.t 0)), zv 5 zf]
def qbc8 : IC := zr [zv 6 (.ld false 1 (.t 2)), zv 7 (.bin .add .no (.t 6) (zc 1)), zn (.st 1 .id (.t 2) (.t 7))]
def qbcm : IC := zr [zv 8 (.ld false 1 (.t 2)), zv 9 (.bin .leq .no (.t 8) (zc 4096)), zm 10 9, zw 10 true 11 (.mov (.t 1)), zw 10 true 12 (.bin .leq .no (.t 11) (zc 100)), zv 13 (.pick (.t 10) (.t 12) (.c (.bool false))), zm 14 13, zw 14 true 15 (.ld true 3 (.t 3)), ⟨some (14, true), some 16, .call (.c (.fn 41 [] [])) [((.t 15), (.agg [.id, .id, (.sl 3)]))]⟩, ⟨some (14, true), some 17, .call (.c (.fn 42 [] [])) [((.t 16), .id)]⟩, zv 18 (.pick (.t 14) (.t 17) (.c (.bool false))), zm 5 18]
def k0x : IC := (.seq qbcs (.seq qbc8 (.seq qbcm .ret)))
@[go_sem] def s0x : List (RV × Co) := [(.t 5, .id)]
theorem c0x : cFun Try.prog 40 = some (19, k0x, s0x) := by kernel_rfl

def q8d : IC := zr [zi 1 (.box (.t 0)), zi 2 (.alo [(.str []), (.int .i64 0), (.int .i64 0)])]
def q39 : IC := zr [zv 3 (.fad (.t 1) 0), zv 4 (.ld false 1 (.t 3)), zv 5 (.fad (.t 1) 1), zv 6 (.ld false 1 (.t 5)), zv 7 (.fad (.t 1) 2), zv 8 (.ld false 1 (.t 7)), zv 9 (.len false (.t 8)), zv 10 (.bld [(.str []), (.int .i64 0), (.int .i64 0)] [(0, 1, (.t 4)), (1, 1, (.t 6)), (2, 1, (.t 9))]), zn (.st 3 .id (.t 2) (.t 10))]
def k0bf : IC := (.seq q8d (.seq q39 .ret))
@[go_sem] def s0bf : List (RV × Co) := [(.c true 3 2, .id)]
theorem c0bf : cFun Try.prog 41 = some (11, k0bf, s0bf) := by kernel_rfl

def q8v : IC := zr [zi 1 (.box (.t 0)), zv 2 zf]
def q27 : IC := zr [zv 4 (.fad (.t 1) 0), zv 5 (.ld false 1 (.t 4)), zv 6 (.bin .eql .no (.t 5) (.c (.str []))), zm 3 6]
def q68 : IC := zr [zv 7 (.fad (.t 1) 2), zv 8 (.ld false 1 (.t 7)), zv 9 (.bin .eql .no (.t 8) (zc 0)), zm 2 9]
def q17 : IC := zr [zv 11 (.fad (.t 1) 0), zv 12 (.ld false 1 (.t 11)), zv 13 (.bin .eql .no (.t 12) (.c (.str [45, 62]))), zm 10 13]
def q3q : IC := zr [zv 14 (.ld true 3 (.t 1)), zv 15 (.bld [(.str []), (.int .i64 0), (.int .i64 0)] [(0, 1, (.c (.str [45, 62]))), (1, 1, (zc 0)), (2, 1, (zc 2))]), zv 16 (.bin .eql (.cells [.str, (.int .i64), (.int .i64)]) (.t 14) (.t 15)), zm 2 16]
def q24 : IC := zr [zv 18 (.fad (.t 1) 0), zv 19 (.ld false 1 (.t 18)), zi 20 (.call (.c (.fn 57 [] [])) [((.t 19), .id)]), zm 17 20]
def q9b : IC := zr [zv 21 (.ld true 3 (.t 1)), zv 22 (.fad (.t 1) 0), zv 23 (.ld false 1 (.t 22)), zv 24 (.bld [(.str []), (.int .i64 0), (.int .i64 0)] [(0, 1, (.t 23))]), zv 25 (.bin .eql (.cells [.str, (.int .i64), (.int .i64)]) (.t 21) (.t 24)), zm 2 25]
def q5d : IC := zr [zv 26 (.fad (.t 1) 1), zv 27 (.ld false 1 (.t 26)), zv 28 (.bin .eql .no (.t 27) (zc 0)), zm 29 28, zw 29 true 30 (.fad (.t 1) 0), zw 29 true 31 (.ld false 1 (.t 30)), ⟨some (29, true), some 32, .call (.c (.fn 20 [] [])) [((.t 31), .id)]⟩, zv 33 (.pick (.t 29) (.t 32) (.c (.bool false))), zm 2 33]
def k0bh : IC := (.seq q8v (.seq (.block 0 (.seq q27 (.cond (.t 3) (.seq q68 .ret) (.seq q17 (.cond (.t 10) (.seq q3q .ret) (.seq q24 (.cond (.t 17) (.seq q9b .ret) .skip))))))) (.seq q5d .ret)))
@[go_sem] def s0bh : List (RV × Co) := [(.t 2, .id)]
theorem c0bh : cFun Try.prog 42 = some (34, k0bh, s0bh) := by kernel_rfl

def qbfm : IC := zr [zv 6 (.mov (zc 0)), zv 7 zf]
def qbg3 : IC := zr [zm 12 0, zv 13 (.len false (.t 12)), zm 8 13]
def qbck : IC := zr [zm 14 8, zv 9 (.mov (zc 0)), zm 10 14]
def qbcf : IC := zr [zm 15 9, zm 16 10, zv 17 (.bin .lss .no (.t 15) (.t 16))]
def qbf7 : IC := zr [zm 18 9, zm 19 10, zv 20 (.bin .add .no (.t 18) (.t 19)), zv 21 (.cvi .u64 (.t 20)), zv 22 (.bin .shr .no (.t 21) (.c (.int .u64 1))), zv 23 (.cvi .i64 (.t 22)), zm 11 23]
def qbfq : IC := zr [zm 24 2, zm 25 0, zm 26 11, zv 27 (.iad 4 (.t 25) (.t 26)), zv 28 (.ld true 4 (.t 27)), zm 29 1, zi 30 (.call (.t 24) [((.t 28), (.agg [.id, .id, .id, (.sl 3)])), ((.t 29), .id)]), zv 31 (.bin .lss .no (.t 30) (zc 0))]
def qbg2 : IC := zr [zm 32 11, zv 33 (.bin .add .no (.t 32) (zc 1)), zm 9 33]
def qbgb : IC := zr [zm 34 11, zm 10 34]
def qbe1 : IC := (.seq (.seq qbcf (.cond (.t 17) .skip (.exit 0))) (.block 1 (.seq qbf7 (.seq qbfq (.cond (.t 31) qbg2 qbgb)))))
def q2o : IC := zr [zm 35 9, zm 36 9, zm 37 8, zv 38 (.bin .lss .no (.t 36) (.t 37)), zm 39 38, zw 39 true 40 (.mov (.t 2)), zw 39 true 41 (.mov (.t 0)), zw 39 true 42 (.mov (.t 9)), zw 39 true 43 (.iad 4 (.t 41) (.t 42)), zw 39 true 44 (.ld true 4 (.t 43)), zw 39 true 45 (.mov (.t 1)), ⟨some (39, true), some 46, .call (.t 40) [((.t 44), (.agg [.id, .id, .id, (.sl 3)])), ((.t 45), .id)]⟩, zw 39 true 47 (.bin .eql .no (.t 46) (zc 0)), zv 48 (.pick (.t 39) (.t 47) (.c (.bool false))), zm 6 35, zm 7 48]
def k0p : IC := (.seq qbfm (.seq qbg3 (.seq qbck (.seq (.block 0 (.loop qbe1)) (.seq q2o .ret)))))
@[go_sem] def s0p : List (RV × Co) := [(.t 6, .id), (.t 7, .id)]
theorem c0p : cFun Try.prog 43 = some (49, k0p, s0p) := by kernel_rfl

def qbg8 : IC := zr [zi 2 (.box (.t 0)), zv 4 (.mov (zc 0))]
def qbct : IC := zr [zv 6 (.fad (.t 2) 0), zv 7 (.ld false 1 (.t 6)), zm 8 1, zv 9 (.bin .lss .no (.t 7) (.t 8)), zm 5 9]
def qbhf : IC := zr [zv 4 (.mov (zc (-1)))]
def qbgk : IC := zr [zv 11 (.fad (.t 2) 0), zv 12 (.ld false 1 (.t 11)), zm 13 1, zv 14 (.bin .gtr .no (.t 12) (.t 13)), zm 10 14]
def qba9 : IC := zr [zv 4 (.mov (zc 1))]
def qbce : IC := zr [zv 4 (.mov (zc 0))]
def k0r : IC := (.seq qbg8 (.seq (.block 0 (.seq qbct (.cond (.t 5) (.seq qbhf .ret) (.seq qbgk (.cond (.t 10) (.seq qba9 .ret) .skip))))) (.seq qbce .ret)))
@[go_sem] def s0r : List (RV × Co) := [(.t 4, .id)]
theorem c0r : cFun Try.prog 44 = some (15, k0r, s0r) := by kernel_rfl

def qbag : IC := zr [zi 4 (.box (.t 1)), zi 6 (.alo [(.str []), (.int .i64 0), .nils])]
def qbd5 : IC := zr [zv 11 (.fad (.t 4) 0), zv 12 (.ld false 1 (.t 11)), zv 13 (.bin .eql .no (.t 12) (.c (.str [])))]
def qbay : IC := .drw [zp (zm 15 0), zp (zv 16 (.nck (.t 15))), zp (zv 17 (.fad (.t 16) 0)), zp (zv 18 (.ld false 1 (.t 17))), zp (zv 19 (.fad (.t 4) 1)), zp (zv 20 (.ld false 1 (.t 19))), (zi 21 (.call (.c (.fn 59 [] [])) [((.t 18), .id), ((.t 20), .id)]), []), zp (zm 14 21), zp (zv 22 (.ext (.t 14) 0)), zp (zv 23 (.ext (.t 14) 1)), (zi 7 (.alo [(.str []), (.int .i64 0), .nils]), [3, 5, 6]), (zn (.st 3 (.agg [.id, .id, (.sl 3)]) (.t 7) (.t 22)), []), zp (zm 8 23)]
def qbb3 : IC := zr [zm 24 8]
def qbd1 : IC := .drw [zp (zm 25 0), zp (zv 26 (.nck (.t 25))), zp (zv 27 (.fad (.t 26) 1)), zp (zv 28 (.ld false 1 (.t 27))), zp (zv 29 (.ld true 3 (.t 7))), (zi 30 (.call (.c (.fn 60 [] [])) [((.t 29), (.agg [.id, .id, (.sl 3)]))]), [3]), zp (zv 31 (.bin .sub .no (.t 28) (.t 30))), zp (zv 32 (.nck (.t 25))), zp (zv 33 (.fad (.t 32) 1)), (zn (.st 1 .id (.t 33) (.t 31)), [])]
def q9o : IC := zr [zm 34 2, zv 35 (.ld true 3 (.t 7)), zi 36 (.call (.c (.fn 61 [] [])) [((.t 35), (.agg [.id, .id, (.sl 3)]))]), zv 37 (.bin .add .no (.t 34) (.t 36)), zv 38 (.bin .gtr .no (.t 37) (zc 101))]
def qbfn : IC := zr [zm 39 0, zv 40 (.nck (.t 39)), zv 41 (.fad (.t 40) 1), zn (.st 1 .id (.t 41) (zc (-1)))]
def qbhg : IC := zr [zv 42 (.ld true 3 (.t 7)), zi 43 (.call (.c (.fn 26 [] [])) [((.t 42), (.agg [.id, .id, (.sl 3)]))]), zn (.st 3 (.agg [.id, .id, (.sl 3)]) (.t 6) (.t 43))]
def qbfo : IC := zr [zm 44 0, zv 45 (.nck (.t 44)), zv 46 (.fad (.t 45) 1), zv 47 (.ld false 1 (.t 46)), zv 48 (.bin .sub .no (.t 47) (zc 1)), zv 49 (.nck (.t 44)), zv 50 (.fad (.t 49) 1), zn (.st 1 .id (.t 50) (.t 48))]
def qbcz : IC := zr [zv 51 (.fad (.t 4) 2), zv 52 (.ld false 1 (.t 51)), zv 53 (.len false (.t 52)), zi 54 (.mks 3 (.agg [(.str []), (.int .i64 0), .nils]) 48 (.t 53) (.t 53)), zm 9 54]
def q87 : IC := zr [zv 55 (.fad (.t 4) 2), zv 56 (.ld false 1 (.t 55)), zv 57 (.len false (.t 56)), zv 58 (.mov (zc 0))]
def q2x : IC := zr [zv 59 (.bin .lss .no (.t 58) (.t 57))]
def q3s : IC := zr [zm 60 58, zm 10 60]
def q6c : IC := zr [zm 61 0, zv 62 (.nck (.t 61)), zv 63 (.fad (.t 62) 1), zv 64 (.ld false 1 (.t 63)), zv 65 (.bin .lss .no (.t 64) (zc 0))]
def q67 : IC := zr [zv 66 (.ld true 3 (.t 4)), zn (.st 3 (.agg [.id, .id, (.sl 3)]) (.t 6) (.t 66))]
def q8u : IC := zr [zm 67 9, zm 68 10, zm 69 0, zv 70 (.fad (.t 4) 2), zv 71 (.ld false 1 (.t 70)), zm 72 10, zv 73 (.iad 3 (.t 71) (.t 72)), zv 74 (.ld true 3 (.t 73)), zm 75 2, zv 76 (.bin .add .no (.t 75) (zc 1)), zi 77 (.call (.c (.fn 47 [] [])) [((.t 69), .id), ((.t 74), (.agg [.id, .id, (.sl 3)])), ((.t 76), .id)]), zv 78 (.iad 3 (.t 67) (.t 68)), zn (.st 3 (.agg [.id, .id, (.sl 3)]) (.t 78) (.t 77))]
def q0s : IC := zr [zv 79 (.bin .add .no (.t 58) (zc 1)), zm 58 79]
def q0r : IC := (.seq q2x (.seq (.cond (.t 59) .skip (.exit 0)) (.seq (.block 1 (.seq q3s (.seq (.seq q6c (.cond (.t 65) (.seq q67 .ret) .skip)) q8u))) q0s)))
def q7e : IC := zr [zm 80 9, zv 81 (.fad (.t 4) 2), zn (.st 1 (.sl 3) (.t 81) (.t 80))]
def q6k : IC := zr [zv 82 (.ld true 3 (.t 4)), zn (.st 3 (.agg [.id, .id, (.sl 3)]) (.t 6) (.t 82))]
def k0m : IC := (.seq qbag (.seq (.seq qbd5 (.cond (.t 13) (.seq qbay (.seq qbb3 (.cond (.t 24) (.seq qbd1 (.seq (.seq q9o (.cond (.t 38) qbfn .skip)) (.seq qbhg .ret))) .skip))) .skip)) (.seq qbfo (.seq qbcz (.seq (.seq q87 (.block 0 (.loop q0r))) (.seq q7e (.seq q6k .ret)))))))
@[go_sem] def s0m : List (RV × Co) := [(.c true 3 6, (.agg [.id, .id, (.sl 3)]))]
theorem c0m : cFun Try.prog 47 = some (83, k0m, s0m) := by kernel_rfl

def q3p : IC := zr [zi 2 (.alo [(.str []), (.int .i64 0), .nils])]
def q0q : IC := zr [zm 6 0, zi 7 (.call (.c (.fn 66 [] [])) [((.t 6), .id)]), zm 3 7]
def q52 : IC := zr [zm 8 3, zv 9 (.bin .geq .no (.t 8) (zc 0))]
def q42 : IC := zr [zm 10 3, zv 11 (.bld [(.str []), (.int .i64 0), .nils] [(1, 1, (.t 10))]), zn (.st 3 (.agg [.id, .id, (.sl 3)]) (.t 2) (.t 11))]
def q31 : IC := zr [zm 12 0, zi 13 (.call (.c (.fn 30 [] [])) [((.t 12), .id), ((.c (.str [63])), .id)])]
def q1q : IC := zr [zm 15 0, zv 16 (.sls (.t 15) (some (zc 1)) none), zi 17 (.call (.c (.fn 67 [] [])) [((.t 16), .id)]), zm 14 17, zv 18 (.ext (.t 14) 0), zv 19 (.ext (.t 14) 1), zm 4 18, zm 5 19]
def q6l : IC := zr [zm 20 5, zv 21 (.bin .eql .no (.t 20) (zc 0))]
def q3v : IC := zr [zm 22 4, zv 23 (.bin .sub .no (zc (-1)) (.t 22)), zv 24 (.bld [(.str []), (.int .i64 0), .nils] [(1, 1, (.t 23))]), zn (.st 3 (.agg [.id, .id, (.sl 3)]) (.t 2) (.t 24))]
def q0u : IC := zr [zm 25 0, zv 26 (.bld [(.str []), (.int .i64 0), .nils] [(0, 1, (.t 25))]), zn (.st 3 (.agg [.id, .id, (.sl 3)]) (.t 2) (.t 26))]
def k0ca : IC := (.seq q3p (.seq (.seq q0q (.seq q52 (.cond (.t 9) (.seq q42 .ret) .skip))) (.seq (.seq q31 (.cond (.t 13) (.seq q1q (.seq q6l (.cond (.t 21) (.seq q3v .ret) .skip))) .skip)) (.seq q0u .ret))))
@[go_sem] def s0ca : List (RV × Co) := [(.c true 3 2, (.agg [.id, .id, (.sl 3)]))]
theorem c0ca : cFun Try.prog 49 = some (27, k0ca, s0ca) := by kernel_rfl

def q6q : IC := zr [zv 4 zf]
def q77 : IC := zr [zm 5 0, zv 6 (.len true (.t 5)), zm 7 1, zv 8 (.len true (.t 7)), zv 9 (.bin .geq .no (.t 6) (.t 8)), zm 10 9, zw 10 true 11 (.mov (.t 0)), zw 10 true 12 (.mov (.t 1)), zw 10 true 13 (.len true (.t 12)), zw 10 true 14 (.sls (.t 11) none (some (.t 13))), zw 10 true 15 (.mov (.t 1)), zw 10 true 16 (.bin .eql .no (.t 14) (.t 15)), zv 17 (.pick (.t 10) (.t 16) (.c (.bool false))), zm 4 17]
def k0bj : IC := (.seq q6q (.seq q77 .ret))
@[go_sem] def s0bj : List (RV × Co) := [(.t 4, .id)]
theorem c0bj : cFun Try.prog 50 = some (18, k0bj, s0bj) := by kernel_rfl

def qbc5 : IC := zr [zi 2 (.box (.t 0)), zv 4 (.mov (.c (.str [])))]
def qbel : IC := zr [zm 5 1]
def q9u : IC := zr [zv 6 (.ld true 3 (.t 2)), zi 7 (.call (.c (.fn 33 [] [])) [((.t 6), (.agg [.id, .id, (.sl 3)]))]), zv 8 (.bin .add .no (.c (.str [40])) (.t 7)), zv 9 (.bin .add .no (.t 8) (.c (.str [41]))), zm 4 9]
def qbdw : IC := zr [zv 10 (.ld true 3 (.t 2)), zi 11 (.call (.c (.fn 33 [] [])) [((.t 10), (.agg [.id, .id, (.sl 3)]))]), zm 4 11]
def k0u : IC := (.seq qbc5 (.seq (.seq qbel (.cond (.t 5) (.seq q9u .ret) .skip)) (.seq qbdw .ret)))
@[go_sem] def s0u : List (RV × Co) := [(.t 4, .id)]
theorem c0u : cFun Try.prog 51 = some (12, k0u, s0u) := by kernel_rfl

def q9g : IC := zr [zi 1 (.box (.t 0)), zv 2 (.mov (.c (.str [])))]
def qbat : IC := zr [zv 4 (.fad (.t 1) 0), zv 5 (.ld false 1 (.t 4)), zv 6 (.bin .neq .no (.t 5) (.c (.str []))), zm 3 6]
def qbac : IC := zr [zv 7 (.fad (.t 1) 0), zv 8 (.ld false 1 (.t 7)), zm 2 8]
def qbgv : IC := zr [zv 10 (.fad (.t 1) 1), zv 11 (.ld false 1 (.t 10)), zv 12 (.bin .geq .no (.t 11) (zc 0)), zm 9 12]
def qbg4 : IC := zr [zv 13 (.fad (.t 1) 1), zv 14 (.ld false 1 (.t 13)), zi 15 (.call (.c (.fn 69 [] [])) [((.t 14), .id)]), zm 2 15]
def qbfy : IC := zr [zv 16 (.fad (.t 1) 1), zv 17 (.ld false 1 (.t 16)), zv 18 (.bin .sub .no (zc (-1)) (.t 17)), zi 19 (.call (.c (.fn 70 [] [])) [((.t 18), .id)]), zv 20 (.bin .add .no (.c (.str [63])) (.t 19)), zm 2 20]
def k0t : IC := (.seq q9g (.seq (.block 0 (.seq qbat (.cond (.t 3) (.seq qbac .ret) (.seq qbgv (.cond (.t 9) (.seq qbg4 .ret) .skip))))) (.seq qbfy .ret)))
@[go_sem] def s0t : List (RV × Co) := [(.t 2, .id)]
theorem c0t : cFun Try.prog 53 = some (21, k0t, s0t) := by kernel_rfl

def q21 : IC := zr [zv 2 zf]
def q04 : IC := zr [zm 3 0, zv 4 (.bin .geq .no (.t 3) (.c (.int .u8 97))), zm 5 4, zw 5 true 6 (.mov (.t 0)), zw 5 true 7 (.bin .leq .no (.t 6) (.c (.int .u8 122))), zv 8 (.pick (.t 5) (.t 7) (.c (.bool false))), zm 9 8, zw 9 false 10 (.mov (.t 0)), zw 9 false 11 (.bin .eql .no (.t 10) (.c (.int .u8 95))), zv 12 (.pick (.t 9) (.c (.bool true)) (.t 11)), zm 2 12]
def k0bm : IC := (.seq q21 (.seq q04 .ret))
@[go_sem] def s0bm : List (RV × Co) := [(.t 2, .id)]
theorem c0bm : cFun Try.prog 55 = some (13, k0bm, s0bm) := by kernel_rfl

def q2c : IC := zr [zv 2 zf]
def q4n : IC := zr [zm 5 0, zi 6 (.call (.c (.fn 30 [] [])) [((.t 5), .id), ((.c (.str [33])), .id)]), zv 7 (.un .not (.t 6))]
def q9a : IC := zr [zv 2 zf]
def q78 : IC := zr [zm 9 0, zv 10 (.sls (.t 9) (some (zc 1)) none), zi 11 (.call (.c (.fn 67 [] [])) [((.t 10), .id)]), zm 8 11, zv 12 (.ext (.t 8) 0), zv 13 (.ext (.t 8) 1), zm 3 12, zm 4 13]
def q7v : IC := .drw [zp (zm 14 4), zp (zv 15 (.bin .eql .no (.t 14) (zc 0))), zp (zm 16 15), zp (zw 16 true 17 (.mov (.t 3))), (⟨some (16, true), some 18, .call (.c (.fn 70 [] [])) [((.t 17), .id)]⟩, []), zp (zw 16 true 19 (.mov (.t 0))), zp (zw 16 true 20 (.sls (.t 19) (some (zc 1)) none)), zp (zw 16 true 21 (.bin .eql .no (.t 18) (.t 20))), zp (zv 22 (.pick (.t 16) (.t 21) (.c (.bool false)))), zp (zm 2 22)]
def k0bg : IC := (.seq q2c (.seq (.seq q4n (.cond (.t 7) (.seq q9a .ret) .skip)) (.seq q78 (.seq q7v .ret))))
@[go_sem] def s0bg : List (RV × Co) := [(.t 2, .id)]
theorem c0bg : cFun Try.prog 57 = some (23, k0bg, s0bg) := by kernel_rfl

def qbco : IC := zr [zi 4 (.alo [(.str []), (.int .i64 0), .nils]), zv 5 zf]
def qbaq : IC := zr [zm 8 0, zv 9 (.bin .eql .ptr (.t 8) (.c .nilp))]
def qba6 : IC := zr [zv 10 (.bld [(.str []), (.int .i64 0), .nils] []), zn (.st 3 (.agg [.id, .id, (.sl 3)]) (.t 4) (.t 10)), zv 5 zf]
def qbef : IC := zr [zm 12 0, zm 13 1, zi 14 (.call (.c (.fn 24 [] [])) [((.t 12), .id), ((.t 13), .id)]), zm 11 14, zv 15 (.ext (.t 11) 0), zv 16 (.ext (.t 11) 1), zm 6 15, zm 7 16]
def qbfi : IC := zr [zm 17 7, zv 18 (.un .not (.t 17))]
def qbea : IC := zr [zv 19 (.bld [(.str []), (.int .i64 0), .nils] []), zn (.st 3 (.agg [.id, .id, (.sl 3)]) (.t 4) (.t 19)), zv 5 zf]
def qbe8 : IC := zr [zm 20 0, zv 21 (.nck (.t 20)), zv 22 (.fad (.t 21) 0), zv 23 (.ld false 1 (.t 22)), zm 24 6, zv 25 (.iad 4 (.t 23) (.t 24)), zv 26 (.fad (.t 25) 1), zv 27 (.ld true 3 (.t 26)), zn (.st 3 (.agg [.id, .id, (.sl 3)]) (.t 4) (.t 27)), zv 5 (.mov (.c (.bool true)))]
def k0o : IC := (.seq qbco (.seq (.seq qbaq (.cond (.t 9) (.seq qba6 .ret) .skip)) (.seq qbef (.seq (.seq qbfi (.cond (.t 18) (.seq qbea .ret) .skip)) (.seq qbe8 .ret)))))
@[go_sem] def s0o : List (RV × Co) := [(.c true 3 4, (.agg [.id, .id, (.sl 3)])), (.t 5, .id)]
theorem c0o : cFun Try.prog 59 = some (28, k0o, s0o) := by kernel_rfl

def q4g : IC := zr [zi 1 (.box (.t 0)), zv 2 (.mov (zc 0))]
def q66 : IC := zr [zi 3 (.alo [(.int .i64 0)]), zn (.st 1 .id (.t 3) (zc 0))]
def q33 : IC := zr [zv 4 (.ld true 3 (.t 1)), zv 5 (.mfn 73 [] [(.t 3)]), zi 6 (.call (.c (.fn 39 [] [])) [((.t 4), (.agg [.id, .id, (.sl 3)])), ((zc 1), .id), ((.t 5), .id)])]
def q4o : IC := zr [zv 7 (.ld false 1 (.t 3)), zm 2 7]
def k0bb : IC := (.seq q4g (.seq q66 (.seq q33 (.seq q4o .ret))))
@[go_sem] def s0bb : List (RV × Co) := [(.t 2, .id)]
theorem c0bb : cFun Try.prog 60 = some (8, k0bb, s0bb) := by kernel_rfl

def q10 : IC := zr [zi 1 (.box (.t 0)), zv 2 (.mov (zc 0))]
def q38 : IC := zr [zi 3 (.alo [(.int .i64 0)]), zn (.st 1 .id (.t 3) (zc 0))]
def q5f : IC := zr [zv 4 (.ld true 3 (.t 1)), zv 5 (.mfn 74 [] [(.t 3)]), zi 6 (.call (.c (.fn 39 [] [])) [((.t 4), (.agg [.id, .id, (.sl 3)])), ((zc 1), .id), ((.t 5), .id)])]
def q75 : IC := zr [zv 7 (.ld false 1 (.t 3)), zm 2 7]
def k0bc : IC := (.seq q10 (.seq q38 (.seq q5f (.seq q75 .ret))))
@[go_sem] def s0bc : List (RV × Co) := [(.t 2, .id)]
theorem c0bc : cFun Try.prog 61 = some (8, k0bc, s0bc) := by kernel_rfl

def q7g : IC := zr [zv 2 (.mov (zc 0))]
def q1w : IC := zr [zm 6 0, zv 7 (.bin .eql .no (.t 6) (.c (.str []))), zm 8 7, zw 8 false 9 (.mov (.t 0)), zw 8 false 10 (.idx (.t 9) (zc 0)), zw 8 false 11 (.bin .lss .no (.t 10) (.c (.int .u8 97))), zv 12 (.pick (.t 8) (.c (.bool true)) (.t 11)), zm 13 12, zw 13 false 14 (.mov (.t 0)), zw 13 false 15 (.idx (.t 14) (zc 0)), zw 13 false 16 (.bin .gtr .no (.t 15) (.c (.int .u8 122))), zv 17 (.pick (.t 13) (.c (.bool true)) (.t 16))]
def q00 : IC := zr [zv 2 (.mov (zc (-1)))]
def q6s : IC := zr [zm 18 0, zv 19 (.idx (.t 18) (zc 0)), zv 20 (.bin .sub .no (.t 19) (.c (.int .u8 97))), zv 21 (.cvi .i64 (.t 20)), zm 3 21]
def q09 : IC := zr [zm 22 0, zv 23 (.len true (.t 22)), zv 24 (.bin .gtr .no (.t 23) (zc 1))]
def q5y : IC := zr [zm 26 0, zv 27 (.sls (.t 26) (some (zc 1)) none), zi 28 (.call (.c (.fn 67 [] [])) [((.t 27), .id)]), zm 25 28, zv 29 (.ext (.t 25) 0), zv 30 (.ext (.t 25) 1), zm 4 29, zm 5 30]
def q0v : IC := zr [zm 31 5, zv 32 (.bin .neq .no (.t 31) (zc 0)), zm 33 32, zw 33 false 34 (.mov (.t 4)), zw 33 false 35 (.bin .gtr .no (.t 34) (zc 177372539170284150)), zv 36 (.pick (.t 33) (.c (.bool true)) (.t 35))]
def q41 : IC := zr [zv 2 (.mov (zc (-1)))]
def q5b : IC := zr [zm 37 3, zm 38 4, zv 39 (.bin .mul .no (zc 26) (.t 38)), zv 40 (.bin .add .no (.t 37) (.t 39)), zm 3 40]
def q61 : IC := zr [zm 41 3, zv 42 (.bin .gtr .no (.t 41) (zc 4611686018427387904)), zm 43 42, zw 43 false 44 (.mov (.t 3)), ⟨some (43, false), some 45, .call (.c (.fn 69 [] [])) [((.t 44), .id)]⟩, zw 43 false 46 (.mov (.t 0)), zw 43 false 47 (.bin .neq .no (.t 45) (.t 46)), zv 48 (.pick (.t 43) (.c (.bool true)) (.t 47))]
def qxb : IC := zr [zv 2 (.mov (zc (-1)))]
def qzm : IC := zr [zm 49 3, zm 2 49]
def k0cd : IC := (.seq q7g (.seq (.seq q1w (.cond (.t 17) (.seq q00 .ret) .skip)) (.seq q6s (.seq (.seq q09 (.cond (.t 24) (.seq q5y (.seq (.seq q0v (.cond (.t 36) (.seq q41 .ret) .skip)) q5b)) .skip)) (.seq (.seq q61 (.cond (.t 48) (.seq qxb .ret) .skip)) (.seq qzm .ret))))))
@[go_sem] def s0cd : List (RV × Co) := [(.t 2, .id)]
theorem c0cd : cFun Try.prog 66 = some (50, k0cd, s0cd) := by kernel_rfl

def q12 : IC := zr [zv 2 (.mov (zc 0)), zv 3 (.mov (zc 0))]
def q2i : IC := zr [zm 8 0, zv 9 (.len true (.t 8)), zv 10 (.mov (zc 0))]
def q3y : IC := zr [zv 11 (.bin .lss .no (.t 10) (.t 9))]
def q5v : IC := zr [zm 12 10, zm 4 12]
def q0h : IC := zr [zm 13 0, zm 14 4, zv 15 (.idx (.t 13) (.t 14)), zv 16 (.bin .lss .no (.t 15) (.c (.int .u8 48))), zm 17 16, zw 17 false 18 (.mov (.t 0)), zw 17 false 19 (.mov (.t 4)), zw 17 false 20 (.idx (.t 18) (.t 19)), zw 17 false 21 (.bin .gtr .no (.t 20) (.c (.int .u8 57))), zv 22 (.pick (.t 17) (.c (.bool true)) (.t 21))]
def q8x : IC := zr [zv 2 (.mov (zc 0)), zv 3 (.mov (zc 5))]
def q6t : IC := zr [zv 23 (.bin .add .no (.t 10) (zc 1)), zm 10 23]
def q3c : IC := (.seq q3y (.seq (.cond (.t 11) .skip (.exit 0)) (.seq (.block 1 (.seq q5v (.seq q0h (.cond (.t 22) (.seq q8x .ret) .skip)))) q6t)))
def q4l : IC := zr [zm 24 0, zv 25 (.bin .eql .no (.t 24) (.c (.str [])))]
def qwr : IC := zr [zv 2 (.mov (zc 0)), zv 3 (.mov (zc 5))]
def qzx : IC := zr [zv 5 (.mov (zc 0)), zv 6 (.mov (zc 0))]
def qv2 : IC := zr [zm 26 0, zm 27 6, zv 28 (.idx (.t 26) (.t 27)), zv 29 (.bin .sub .no (.t 28) (.c (.int .u8 48))), zv 30 (.cvi .i64 (.t 29)), zm 7 30]
def qw8 : IC := zr [zm 31 5, zm 32 7, zv 33 (.bin .sub .no (zc 9223372036854775807) (.t 32)), zv 34 (.bin .quo .no (.t 33) (zc 10)), zv 35 (.bin .gtr .no (.t 31) (.t 34))]
def qzt : IC := zr [zv 2 (.mov (zc 0)), zv 3 (.mov (zc 4))]
def qw1 : IC := zr [zm 36 5, zv 37 (.bin .mul .no (zc 10) (.t 36)), zm 38 7, zv 39 (.bin .add .no (.t 37) (.t 38)), zm 5 39]
def qxz : IC := zr [zm 40 6, zv 41 (.bin .add .no (.t 40) (zc 1)), zm 6 41]
def qv9 : IC := zr [zm 42 6, zm 43 0, zv 44 (.len true (.t 43)), zv 45 (.bin .lss .no (.t 42) (.t 44))]
def qzy : IC := zr [zm 46 5, zm 2 46, zv 3 (.mov (zc 0))]
def k0bl : IC := (.seq q12 (.scope (.seq (.seq q2i (.block 0 (.loop q3c))) (.seq (.seq q4l (.cond (.t 25) (.seq qwr .ret) .skip)) (.seq qzx (.seq (.label 0) (.seq qv2 (.seq (.seq qw8 (.cond (.t 35) (.seq qzt .ret) .skip)) (.seq qw1 (.seq (.seq qxz (.seq qv9 (.cond (.t 45) (.goto 0) .skip))) (.seq qzy .ret)))))))))))
@[go_sem] def s0bl : List (RV × Co) := [(.t 2, .id), (.t 3, .id)]
theorem c0bl : cFun Try.prog 67 = some (47, k0bl, s0bl) := by kernel_rfl

def q5z : IC := zr [zv 2 (.mov (.c (.str [])))]
def q51 : IC := zr [zm 4 0, zv 5 (.bin .lss .no (.t 4) (zc 0))]
def q7i : IC := zr [zv 2 (.mov (.c (.str [])))]
def q37 : IC := zr [zm 6 0, zv 7 (.bin .rem .no (.t 6) (zc 26)), zv 8 (.bin .add .no (zc 97) (.t 7)), zv 9 (.cvi .u8 (.t 8)), zv 10 (.bsl 1 [((.t 9), .id)]), zv 11 (.cbs (.t 10)), zm 3 11]
def q4j : IC := zr [zm 12 0, zv 13 (.bin .lss .no (.t 12) (zc 26))]
def q6f : IC := zr [zm 14 3, zm 2 14]
def q9d : IC := zr [zm 15 3, zm 16 0, zv 17 (.bin .quo .no (.t 16) (zc 26)), zi 18 (.call (.c (.fn 70 [] [])) [((.t 17), .id)]), zv 19 (.bin .add .no (.t 15) (.t 18)), zm 2 19]
def k0br : IC := (.seq q5z (.seq (.seq q51 (.cond (.t 5) (.seq q7i .ret) .skip)) (.seq q37 (.seq (.seq q4j (.cond (.t 13) (.seq q6f .ret) .skip)) (.seq q9d .ret)))))
@[go_sem] def s0br : List (RV × Co) := [(.t 2, .id)]
theorem c0br : cFun Try.prog 69 = some (20, k0br, s0br) := by kernel_rfl

def q2w : IC := zr [zv 2 (.mov (.c (.str [])))]
def q1u : IC := zr [zm 6 0, zv 7 (.cvi .u64 (.t 6)), zm 3 7]
def q3d : IC := zr [zm 8 0, zv 9 (.bin .lss .no (.t 8) (zc 0))]
def q8j : IC := zr [zm 10 3, zv 11 (.un .neg (.t 10)), zm 3 11]
def q0l : IC := zr [zi 4 (.alo [(.int .u8 0), (.int .u8 0), (.int .u8 0), (.int .u8 0), (.int .u8 0), (.int .u8 0), (.int .u8 0), (.int .u8 0), (.int .u8 0), (.int .u8 0), (.int .u8 0), (.int .u8 0), (.int .u8 0), (.int .u8 0), (.int .u8 0), (.int .u8 0), (.int .u8 0), (.int .u8 0), (.int .u8 0), (.int .u8 0)])]
def q3j : IC := zr [zv 5 (.mov (zc 20))]
def q5h : IC := zr [zm 12 5, zv 13 (.bin .sub .no (.t 12) (zc 1)), zm 5 13]
def q1x : IC := zr [zm 14 5, zm 15 3, zv 16 (.bin .rem .no (.t 15) (.c (.int .u64 10))), zv 17 (.bin .add .no (.c (.int .u64 48)) (.t 16)), zv 18 (.cvi .u8 (.t 17)), zv 19 (.aad 1 20 (.t 4) (.t 14)), zn (.st 1 .id (.t 19) (.t 18))]
def q1n : IC := zr [zm 20 3, zv 21 (.bin .quo .no (.t 20) (.c (.int .u64 10))), zm 3 21]
def qwb : IC := zr [zm 22 3, zv 23 (.bin .eql .no (.t 22) (.c (.int .u64 0)))]
def q8k : IC := (.block 1 (.seq q5h (.seq q1x (.seq q1n (.seq qwb (.cond (.t 23) (.exit 0) .skip))))))
def qz0 : IC := zr [zm 24 0, zv 25 (.bin .lss .no (.t 24) (zc 0))]
def qwg : IC := zr [zm 26 5, zv 27 (.sla 20 (.t 4) (.t 26)), zv 28 (.cbs (.t 27)), zv 29 (.bin .add .no (.c (.str [45])) (.t 28)), zm 2 29]
def qy6 : IC := zr [zm 30 5, zv 31 (.sla 20 (.t 4) (.t 30)), zv 32 (.cbs (.t 31)), zm 2 32]
def k0bq : IC := (.seq q2w (.seq q1u (.seq (.seq q3d (.cond (.t 9) q8j .skip)) (.seq q0l (.seq q3j (.seq (.block 0 (.loop q8k)) (.seq (.seq qz0 (.cond (.t 25) (.seq qwg .ret) .skip)) (.seq qy6 .ret))))))))
@[go_sem] def s0bq : List (RV × Co) := [(.t 2, .id)]
theorem c0bq : cFun Try.prog 70 = some (33, k0bq, s0bq) := by kernel_rfl

def qbad : IC := zr [zi 3 (.box (.t 0)), zv 5 zf]
def qbf0 : IC := zr [zv 6 (.ld false 1 (.t 2)), zv 7 (.bin .add .no (.t 6) (zc 1)), zn (.st 1 .id (.t 2) (.t 7))]
def qbd6 : IC := zr [zv 5 (.mov (.c (.bool true)))]
def k0y : IC := (.seq qbad (.seq qbf0 (.seq qbd6 .ret)))
@[go_sem] def s0y : List (RV × Co) := [(.t 5, .id)]
theorem c0y : cFun Try.prog 73 = some (8, k0y, s0y) := by kernel_rfl

def q90 : IC := zr [zi 3 (.box (.t 0)), zv 5 zf]
def q93 : IC := zr [zv 6 (.ld false 1 (.t 2)), zm 7 1, zv 8 (.mm true (.t 6) (.t 7)), zn (.st 1 .id (.t 2) (.t 8))]
def qbgg : IC := zr [zv 5 (.mov (.c (.bool true)))]
def k0z : IC := (.seq q90 (.seq q93 (.seq qbgg .ret)))
@[go_sem] def s0z : List (RV × Co) := [(.t 5, .id)]
theorem c0z : cFun Try.prog 74 = some (9, k0z, s0z) := by kernel_rfl

end Go.Proofs.Ytbbjelfnocmaoaa
