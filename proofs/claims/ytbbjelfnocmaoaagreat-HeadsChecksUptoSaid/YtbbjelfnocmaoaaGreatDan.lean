/- A text of this proof. -/
import Derived.Test.YtbbjelfnocmaoaaGreatDaf
import Derived.Test.YtbbjelfnocmaoaaGreatProg
/- The compiled code of the functions. -/
namespace Go.Proofs.YtbbjelfnocmaoaaGreat
open Go Go.V
@[reducible] def zm (d s : Nat) : GI := ⟨none, some d, .v (.mov (.t s))⟩
@[reducible] def zv (d : Nat) (x : IV) : GI := ⟨none, some d, .v x⟩
@[reducible] def zi (d : Nat) (i : I) : GI := ⟨none, some d, i⟩
@[reducible] def zn (i : I) : GI := ⟨none, none, i⟩
@[reducible] def zw (j : Nat) (b : Bool) (d : Nat) (x : IV) : GI := ⟨some (j, b), some d, .v x⟩
@[reducible] def zp (g : GI) : GI × List Nat := (g, [])
@[reducible] def zN : Co := .agg [.id, .id, .id, .id, (.sl 5)]
@[reducible] def zC : Co := .agg [(.sl 4), .id, .id, .id, .id, .id, .id, .id]
@[reducible] def zaN : I := .alo [(.int .i64 0), (.int .i64 0), (.int .i64 0), (.str []), .nils]
@[reducible] def zaC : I := .alo [.nils, (.int .i64 0), (.int .i64 0), (.int .i64 0), (.str []), (.int .i64 0), (.int .i64 0), (.int .i64 0)]
@[reducible] def zaT : I := .alo [(.int .i64 0), (.int .i64 0), (.int .i64 0), (.str [])]
@[reducible] def zZ : AV := .agg [(.int .i64 0), (.int .i64 0), (.int .i64 0), (.str []), .nils]
@[reducible] def zc (n : Int) : Opd := .c (.int .i64 n)
@[reducible] def zf : IV := .mov (.c (.bool false))
@[reducible] def zr (l : List GI) : IC := .reg false l
def q6k : IC := zr [zi 3 (.box (.t 1)), zv 4 zf]
def qbhc : IC := zr [zm 15 0, zi 16 (.call (.c (.fn 6 [] [])) [((.t 15), (.sl 4))]), zv 17 (.bin .eql .no (.t 16) (zc 0)), zm 18 17, zw 18 false 19 (.ld true 4 (.t 3)), zw 18 false 20 (.bsl 4 [((.t 19), (.agg [.id, .id, .id, (.sl 4)]))]), ⟨some (18, false), some 21, .call (.c (.fn 6 [] [])) [((.t 20), (.sl 4))]⟩, zw 18 false 22 (.bin .eql .no (.t 21) (zc 0)), zv 23 (.pick (.t 18) (.c (.bool true)) (.t 22))]
def qbd1 : IC := zr [zi 24 (.call (.c (.fn 7 [] [])) []), zm 4 24]
def q96 : IC := zr [zm 26 0, zi 27 (.call (.c (.fn 8 [] [])) [((.t 26), (.sl 4))]), zm 25 27, zv 28 (.ext (.t 25) 0), zv 29 (.ext (.t 25) 1), zv 30 (.ext (.t 25) 2), zm 5 28, zm 6 29, zm 7 30]
def qbkc : IC := zr [zm 32 0, zi 33 (.call (.c (.fn 9 [] [])) [((.t 32), (.sl 4))]), zm 31 33, zv 34 (.ext (.t 31) 0), zv 35 (.ext (.t 31) 1), zv 36 (.ext (.t 31) 2), zm 8 34, zm 9 35, zm 10 36]
def qbb7 : IC := zr [zm 38 0, zv 39 (.fad (.t 3) 0), zv 40 (.ld false 1 (.t 39)), zv 41 (.fad (.t 3) 1), zv 42 (.ld false 1 (.t 41)), zi 43 (.call (.c (.fn 10 [] [])) [((.t 38), (.sl 4)), ((.t 40), .id), ((.t 42), .id)]), zm 37 43, zv 44 (.ext (.t 37) 0), zv 45 (.ext (.t 37) 1), zm 11 44, zm 12 45]
def q6r : IC := zr [zm 47 0, zv 48 (.fad (.t 3) 0), zv 49 (.ld false 1 (.t 48)), zv 50 (.fad (.t 3) 1), zv 51 (.ld false 1 (.t 50)), zi 52 (.call (.c (.fn 11 [] [])) [((.t 47), (.sl 4)), ((.t 49), .id), ((.t 51), .id)]), zm 46 52, zv 53 (.ext (.t 46) 0), zv 54 (.ext (.t 46) 1), zm 13 53, zm 14 54]
def qbd4 : IC := .drw [zp (zv 55 (.ld true 4 (.t 3))), (zi 56 (.call (.c (.fn 12 [] [])) [((.t 55), (.agg [.id, .id, .id, (.sl 4)]))]), []), (zv 57 (.ld true 4 (.t 3)), [1]), (zi 58 (.call (.c (.fn 13 [] [])) [((.t 57), (.agg [.id, .id, .id, (.sl 4)]))]), []), zp (zv 59 (.bin .eql .no (.t 56) (.t 58))), zp (zm 60 59), zp (zw 60 true 61 (.ld true 4 (.t 3))), (⟨some (60, true), some 62, .call (.c (.fn 14 [] [])) [((.t 61), (.agg [.id, .id, .id, (.sl 4)]))]⟩, []), (zw 60 true 63 (.ld true 4 (.t 3)), [7]), (⟨some (60, true), some 64, .call (.c (.fn 15 [] [])) [((.t 63), (.agg [.id, .id, .id, (.sl 4)]))]⟩, []), zp (zw 60 true 65 (.bin .eql .no (.t 62) (.t 64))), zp (zv 66 (.pick (.t 60) (.t 65) (.c (.bool false)))), zp (zm 67 66), zp (zw 67 true 68 (.mov (.t 5))), zp (zw 67 true 69 (.mov (.t 8))), zp (zw 67 true 70 (.bin .eql .no (.t 68) (.t 69))), zp (zv 71 (.pick (.t 67) (.t 70) (.c (.bool false)))), zp (zm 72 71), zp (zw 72 true 73 (.mov (.t 6))), zp (zw 72 true 74 (.mov (.t 9))), zp (zw 72 true 75 (.bin .eql .no (.t 73) (.t 74))), zp (zv 76 (.pick (.t 72) (.t 75) (.c (.bool false)))), zp (zm 77 76), zp (zw 77 true 78 (.mov (.t 7))), zp (zw 77 true 79 (.mov (.t 10))), zp (zw 77 true 80 (.bin .eql .bool (.t 78) (.t 79))), zp (zv 81 (.pick (.t 77) (.t 80) (.c (.bool false)))), zp (zm 82 81), zp (zw 82 true 83 (.mov (.t 11))), zp (zw 82 true 84 (.mov (.t 13))), zp (zw 82 true 85 (.bin .eql .no (.t 83) (.t 84))), zp (zv 86 (.pick (.t 82) (.t 85) (.c (.bool false)))), zp (zm 87 86), zp (zw 87 true 88 (.mov (.t 12))), zp (zw 87 true 89 (.mov (.t 14))), zp (zw 87 true 90 (.bin .eql .bool (.t 88) (.t 89))), zp (zv 91 (.pick (.t 87) (.t 90) (.c (.bool false)))), zp (zm 92 91), (⟨some (92, true), some 93, .call (.c (.fn 7 [] [])) []⟩, []), zp (zv 94 (.pick (.t 92) (.t 93) (.c (.bool false)))), zp (zm 4 94)]
def k0dm : IC := (.seq q6k (.seq (.seq qbhc (.cond (.t 23) (.seq qbd1 .ret) .skip)) (.seq q96 (.seq qbkc (.seq qbb7 (.seq q6r (.seq qbd4 .ret)))))))
@[go_sem] def s0dm : List (RV × Co) := [(.t 4, .id)]
theorem c0dm : cFun Tryz.prog 3 = some (95, k0dm, s0dm) := by kernel_rfl

def qbar : IC := zr [zv 2 (.mov (zc 0))]
def q7u : IC := zr [zm 4 0, zv 5 (.len false (.t 4)), zv 6 (.bin .gtr .no (.t 5) (zc 12))]
def qbao : IC := zr [zv 2 (.mov (zc 0))]
def q7o : IC := zr [zv 3 (.mov (zc 0))]
def qbfm : IC := zr [zm 7 3, zm 8 0, zv 9 (.len false (.t 8)), zv 10 (.bin .lss .no (.t 7) (.t 9))]
def q9u : IC := zr [zm 13 0, zm 14 3, zv 15 (.iad 4 (.t 13) (.t 14)), zv 16 (.fad (.t 15) 3), zv 17 (.ld false 1 (.t 16)), zi 18 (.call (.c (.fn 16 [] [])) [((.t 17), (.sl 4))]), zv 19 (.bin .eql .no (.t 18) (zc 0)), zm 20 19, zw 20 false 21 (.mov (.t 0)), zw 20 false 22 (.mov (.t 3)), zw 20 false 23 (.iad 4 (.t 21) (.t 22)), zw 20 false 24 (.fad (.t 23) 2), zw 20 false 25 (.ld false 1 (.t 24)), zw 20 false 26 (.bin .gtr .no (.t 25) (zc 200)), zv 27 (.pick (.t 20) (.c (.bool true)) (.t 26))]
def qbgs : IC := zr [zv 2 (.mov (zc 0))]
def qbir : IC := zr [zm 11 3, zv 12 (.bin .add .no (.t 11) (zc 1)), zm 3 12]
def qbez : IC := (.seq (.seq qbfm (.cond (.t 10) .skip (.exit 0))) (.seq (.block 1 (.seq q9u (.cond (.t 27) (.seq qbgs .ret) .skip))) qbir))
def qz7 : IC := zr [zv 2 (.mov (zc 1))]
def k0cb : IC := (.seq qbar (.seq (.seq q7u (.cond (.t 6) (.seq qbao .ret) .skip)) (.seq (.seq q7o (.block 0 (.loop qbez))) (.seq qz7 .ret))))
@[go_sem] def s0cb : List (RV × Co) := [(.t 2, .id)]
theorem c0cb : cFun Tryz.prog 6 = some (28, k0cb, s0cb) := by kernel_rfl

def qbgy : IC := zr [zv 0 zf]
def q8k : IC := zr [zv 12 (.bld [(.str []), (.str []), (.int .i64 0), .nils] [(0, 1, (.c (.str [67])))]), zv 13 (.bsl 4 [((.t 12), (.agg [.id, .id, .id, (.sl 3)]))]), zv 14 (.bld [(.str []), (.str []), (.int .i64 0), .nils] [(0, 1, (.c (.str [68]))), (1, 1, (.c (.str [84]))), (2, 1, (zc 1)), (3, 1, (.t 13))]), zi 1 (.alo [(.str []), (.str []), (.int .i64 0), .nils]), zn (.st 4 (.agg [.id, .id, .id, (.sl 4)]) (.t 1) (.t 14))]
def qbkx : IC := zr [zi 16 (.call (.c (.fn 24 [] [])) [((.c (.str [84, 32, 73, 110, 116])), .id)]), zm 15 16, zv 17 (.ext (.t 15) 0), zv 18 (.ext (.t 15) 1), zi 2 (.alo [(.str []), (.int .i64 0), .nils]), zn (.st 3 (.agg [.id, .id, (.sl 3)]) (.t 2) (.t 17)), zm 3 18]
def qbcu : IC := zr [zv 20 (.ld true 4 (.t 1)), zv 21 (.bsl 4 [((.t 20), (.agg [.id, .id, .id, (.sl 4)]))]), zv 22 (.ld true 3 (.t 2)), zv 23 (.bld [(.str []), (.str []), (.int .i64 0), .nils] [(0, 1, (.c (.str [68]))), (1, 3, (.t 22))]), zi 24 (.call (.c (.fn 17 [] [])) [((.t 21), (.sl 4)), ((.t 23), (.agg [.id, .id, .id, (.sl 3)]))]), zm 19 24, zv 25 (.ext (.t 19) 0), zv 26 (.ext (.t 19) 1), zv 27 (.ext (.t 19) 2), zm 4 25, zm 5 26, zm 6 27]
def q7i : IC := zr [zv 29 (.ld true 4 (.t 1)), zv 30 (.bld [(.str []), (.str []), (.int .i64 0), .nils] [(0, 1, (.c (.str [67]))), (1, 1, (.c (.str [84])))]), zv 31 (.ld true 4 (.t 1)), zv 32 (.bsl 4 [((.t 29), (.agg [.id, .id, .id, (.sl 4)])), ((.t 30), (.agg [.id, .id, .id, (.sl 4)])), ((.t 31), (.agg [.id, .id, .id, (.sl 4)]))]), zi 33 (.call (.c (.fn 8 [] [])) [((.t 32), (.sl 4))]), zm 28 33, zv 34 (.ext (.t 28) 0), zv 35 (.ext (.t 28) 1), zv 36 (.ext (.t 28) 2), zm 7 34, zm 8 35, zm 9 36]
def qbey : IC := zr [zv 38 (.ld true 4 (.t 1)), zv 39 (.bsl 4 [((.t 38), (.agg [.id, .id, .id, (.sl 4)]))]), zi 40 (.call (.c (.fn 10 [] [])) [((.t 39), (.sl 4)), ((.c (.str [68])), .id), ((.c (.str [84])), .id)]), zm 37 40, zv 41 (.ext (.t 37) 0), zv 42 (.ext (.t 37) 1), zm 10 41, zm 11 42]
def q5e : IC := zr [zm 43 4, zv 44 (.bin .eql .no (.t 43) (zc 0)), zm 45 44, zw 45 true 46 (.mov (.t 5)), zw 45 true 47 (.len false (.t 46)), zw 45 true 48 (.bin .eql .no (.t 47) (zc 1)), zv 49 (.pick (.t 45) (.t 48) (.c (.bool false))), zm 50 49, zw 50 true 51 (.mov (.t 5)), zw 50 true 52 (.iad 4 (.t 51) (zc 0)), zw 50 true 53 (.fad (.t 52) 0), zw 50 true 54 (.ld false 1 (.t 53)), zw 50 true 55 (.bin .eql .no (.t 54) (.c (.str [67]))), zv 56 (.pick (.t 50) (.t 55) (.c (.bool false))), zm 57 56, zw 57 true 58 (.mov (.t 5)), zw 57 true 59 (.iad 4 (.t 58) (zc 0)), zw 57 true 60 (.fad (.t 59) 1), zw 57 true 61 (.fad (.t 60) 0), zw 57 true 62 (.ld false 1 (.t 61)), zw 57 true 63 (.bin .eql .no (.t 62) (.c (.str [73, 110, 116]))), zv 64 (.pick (.t 57) (.t 63) (.c (.bool false))), zm 65 64, zw 65 true 66 (.mov (.t 6)), zv 67 (.pick (.t 65) (.t 66) (.c (.bool false))), zm 68 67, zw 68 true 69 (.mov (.t 7)), zw 68 true 70 (.bin .eql .no (.t 69) (zc 0)), zv 71 (.pick (.t 68) (.t 70) (.c (.bool false))), zm 72 71, zw 72 true 73 (.mov (.t 8)), zw 72 true 74 (.bin .eql .no (.t 73) (zc 2)), zv 75 (.pick (.t 72) (.t 74) (.c (.bool false))), zm 76 75, zw 76 true 77 (.mov (.t 9)), zv 78 (.pick (.t 76) (.t 77) (.c (.bool false))), zm 79 78, zw 79 true 80 (.mov (.t 10)), zw 79 true 81 (.bin .eql .no (.t 80) (zc 0)), zv 82 (.pick (.t 79) (.t 81) (.c (.bool false))), zm 83 82, zw 83 true 84 (.mov (.t 11)), zv 85 (.pick (.t 83) (.t 84) (.c (.bool false))), zm 86 85, zw 86 true 87 (.ld true 4 (.t 1)), ⟨some (86, true), some 88, .call (.c (.fn 12 [] [])) [((.t 87), (.agg [.id, .id, .id, (.sl 4)]))]⟩, zw 86 true 89 (.bin .eql .no (.t 88) (zc 0)), zv 90 (.pick (.t 86) (.t 89) (.c (.bool false))), zm 91 90, zw 91 true 92 (.bld [(.str []), (.str []), (.int .i64 0), .nils] []), ⟨some (91, true), some 93, .call (.c (.fn 12 [] [])) [((.t 92), (.agg [.id, .id, .id, (.sl 4)]))]⟩, zw 91 true 94 (.bin .eql .no (.t 93) (zc 10)), zv 95 (.pick (.t 91) (.t 94) (.c (.bool false))), zm 96 95, zw 96 true 97 (.ld true 4 (.t 1)), ⟨some (96, true), some 98, .call (.c (.fn 14 [] [])) [((.t 97), (.agg [.id, .id, .id, (.sl 4)]))]⟩, zw 96 true 99 (.bin .eql .no (.t 98) (.c (.str [105, 110, 115, 116, 97, 110, 99, 101, 32, 67, 32, 97, 32, 61, 62, 32, 68, 32, 40, 84, 32, 97, 41]))), zv 100 (.pick (.t 96) (.t 99) (.c (.bool false))), zm 0 100]
def k0cc : IC := (.seq qbgy (.seq q8k (.seq qbkx (.seq qbcu (.seq q7i (.seq qbey (.seq q5e .ret)))))))
@[go_sem] def s0cc : List (RV × Co) := [(.t 0, .id)]
theorem c0cc : cFun Tryz.prog 7 = some (101, k0cc, s0cc) := by kernel_rfl

def qbc4 : IC := zr [zv 2 (.mov (zc 0)), zv 3 (.mov (zc 0)), zv 4 zf]
def q58 : IC := zr [zv 5 (.mov (zc 0)), zv 6 (.mov (zc 0)), zv 7 zf]
def qbfh : IC := zr [zm 12 0, zv 13 (.len false (.t 12)), zv 14 (.mov (zc 0))]
def qbig : IC := zr [zv 15 (.bin .lss .no (.t 14) (.t 13))]
def qbfk : IC := zr [zm 16 14, zv 17 (.iad 4 (.t 12) (.t 14)), zv 18 (.ld true 4 (.t 17)), zi 9 (.alo [(.str []), (.str []), (.int .i64 0), .nils]), zm 8 16, zn (.st 4 (.agg [.id, .id, .id, (.sl 4)]) (.t 9) (.t 18))]
def q73 : IC := zr [zm 19 0, zm 20 8, zv 21 (.slv 4 (.t 19) none (some (.t 20)) none), zv 22 (.len false (.t 21)), zv 23 (.mov (zc 0))]
def qbj1 : IC := zr [zv 24 (.bin .lss .no (.t 23) (.t 22))]
def q56 : IC := zr [zm 25 23, zv 26 (.iad 4 (.t 21) (.t 23)), zv 27 (.ld true 4 (.t 26)), zi 11 (.alo [(.str []), (.str []), (.int .i64 0), .nils]), zm 10 25, zn (.st 4 (.agg [.id, .id, .id, (.sl 4)]) (.t 11) (.t 27))]
def q24 : IC := zr [zv 28 (.fad (.t 9) 0), zv 29 (.ld false 1 (.t 28)), zv 30 (.fad (.t 11) 0), zv 31 (.ld false 1 (.t 30)), zv 32 (.bin .eql .no (.t 29) (.t 31)), zm 33 32, zw 33 true 34 (.fad (.t 9) 1), zw 33 true 35 (.ld false 1 (.t 34)), zw 33 true 36 (.fad (.t 11) 1), zw 33 true 37 (.ld false 1 (.t 36)), zw 33 true 38 (.bin .eql .no (.t 35) (.t 37)), zv 39 (.pick (.t 33) (.t 38) (.c (.bool false)))]
def q22 : IC := zr [zm 40 10, zm 41 8, zm 5 40, zm 6 41, zv 7 (.mov (.c (.bool true)))]
def qyw : IC := zr [zv 42 (.bin .add .no (.t 23) (zc 1)), zm 23 42]
def qbch : IC := (.seq qbj1 (.seq (.cond (.t 24) .skip (.exit 2)) (.seq (.block 3 (.seq q56 (.seq q24 (.cond (.t 39) (.seq q22 (.exit 0)) .skip)))) qyw)))
def q12 : IC := zr [zv 43 (.bin .add .no (.t 14) (zc 1)), zm 14 43]
def qbba : IC := (.seq qbig (.seq (.cond (.t 15) .skip (.exit 0)) (.seq (.block 1 (.seq qbfk (.seq q73 (.block 2 (.loop qbch))))) q12)))
def qzh : IC := zr [zm 44 5, zm 45 6, zm 46 7, zm 2 44, zm 3 45, zm 4 46]
def k0ce : IC := (.seq qbc4 (.scope (.seq q58 (.seq (.label 0) (.seq (.seq qbfh (.block 0 (.loop qbba))) (.seq qzh .ret))))))
@[go_sem] def s0ce : List (RV × Co) := [(.t 2, .id), (.t 3, .id), (.t 4, .id)]
theorem c0ce : cFun Tryz.prog 8 = some (47, k0ce, s0ce) := by kernel_rfl

def q47 : IC := zr [zv 2 (.mov (zc 0)), zv 3 (.mov (zc 0)), zv 4 zf]
def qbfz : IC := zr [zv 5 (.mov (zc 0))]
def q7v : IC := zr [zm 8 5, zm 9 0, zv 10 (.len false (.t 9)), zv 11 (.bin .lss .no (.t 8) (.t 10))]
def q7f : IC := .drw [zp (zm 15 0), zp (zm 16 0), zp (zm 17 5), zp (zv 18 (.iad 4 (.t 16) (.t 17))), zp (zv 19 (.fad (.t 18) 0)), zp (zv 20 (.ld false 1 (.t 19))), zp (zm 21 0), zp (zm 22 5), zp (zv 23 (.iad 4 (.t 21) (.t 22))), zp (zv 24 (.fad (.t 23) 1)), zp (zv 25 (.ld false 1 (.t 24))), (zi 26 (.call (.c (.fn 11 [] [])) [((.t 15), (.sl 4)), ((.t 20), .id), ((.t 25), .id)]), []), zp (zm 14 26), zp (zv 27 (.ext (.t 14) 0)), zp (zv 28 (.ext (.t 14) 1)), zp (zm 6 27), zp (zm 7 28)]
def qbjw : IC := zr [zm 29 6, zm 30 5, zv 31 (.bin .lss .no (.t 29) (.t 30))]
def qbjd : IC := zr [zm 32 6, zm 33 5, zm 2 32, zm 3 33, zv 4 (.mov (.c (.bool true)))]
def qbgw : IC := zr [zm 12 5, zv 13 (.bin .add .no (.t 12) (zc 1)), zm 5 13]
def qbc5 : IC := (.seq (.seq q7v (.cond (.t 11) .skip (.exit 0))) (.seq (.block 1 (.seq q7f (.seq qbjw (.cond (.t 31) (.seq qbjd .ret) .skip)))) qbgw))
def q42 : IC := zr [zv 2 (.mov (zc 0)), zv 3 (.mov (zc 0)), zv 4 zf]
def k0dk : IC := (.seq q47 (.seq (.seq qbfz (.block 0 (.loop qbc5))) (.seq q42 .ret)))
@[go_sem] def s0dk : List (RV × Co) := [(.t 2, .id), (.t 3, .id), (.t 4, .id)]
theorem c0dk : cFun Tryz.prog 9 = some (34, k0dk, s0dk) := by kernel_rfl

def q77 : IC := zr [zv 6 (.mov (zc 0)), zv 7 zf]
def qbge : IC := zr [zm 10 0, zv 11 (.len false (.t 10)), zv 12 (.mov (zc 0))]
def qbg6 : IC := zr [zv 13 (.bin .lss .no (.t 12) (.t 11))]
def q72 : IC := zr [zm 14 12, zv 15 (.iad 4 (.t 10) (.t 12)), zv 16 (.ld true 4 (.t 15)), zi 9 (.alo [(.str []), (.str []), (.int .i64 0), .nils]), zm 8 14, zn (.st 4 (.agg [.id, .id, .id, (.sl 4)]) (.t 9) (.t 16))]
def q6e : IC := zr [zv 17 (.fad (.t 9) 0), zv 18 (.ld false 1 (.t 17)), zm 19 1, zv 20 (.bin .eql .no (.t 18) (.t 19)), zm 21 20, zw 21 true 22 (.fad (.t 9) 1), zw 21 true 23 (.ld false 1 (.t 22)), zw 21 true 24 (.mov (.t 2)), zw 21 true 25 (.bin .eql .no (.t 23) (.t 24)), zv 26 (.pick (.t 21) (.t 25) (.c (.bool false)))]
def qbgi : IC := zr [zm 27 8, zm 6 27, zv 7 (.mov (.c (.bool true)))]
def qbd5 : IC := zr [zv 28 (.bin .add .no (.t 12) (zc 1)), zm 12 28]
def qbae : IC := (.seq qbg6 (.seq (.cond (.t 13) .skip (.exit 0)) (.seq (.block 1 (.seq q72 (.seq q6e (.cond (.t 26) (.seq qbgi .ret) .skip)))) qbd5)))
def qbhq : IC := zr [zv 6 (.mov (zc 0)), zv 7 zf]
def k0ch : IC := (.seq q77 (.seq (.seq qbge (.block 0 (.loop qbae))) (.seq qbhq .ret)))
@[go_sem] def s0ch : List (RV × Co) := [(.t 6, .id), (.t 7, .id)]
theorem c0ch : cFun Tryz.prog 10 = some (29, k0ch, s0ch) := by kernel_rfl

def q62 : IC := zr [zv 6 (.mov (zc 0)), zv 7 zf]
def qbe4 : IC := zr [zv 8 (.mov (zc 0))]
def qbi8 : IC := zr [zm 9 8, zm 10 0, zv 11 (.len false (.t 10)), zv 12 (.bin .lss .no (.t 9) (.t 11))]
def q8i : IC := zr [zm 15 0, zm 16 8, zv 17 (.iad 4 (.t 15) (.t 16)), zv 18 (.fad (.t 17) 0), zv 19 (.ld false 1 (.t 18)), zm 20 1, zv 21 (.bin .eql .no (.t 19) (.t 20)), zm 22 21, zw 22 true 23 (.mov (.t 0)), zw 22 true 24 (.mov (.t 8)), zw 22 true 25 (.iad 4 (.t 23) (.t 24)), zw 22 true 26 (.fad (.t 25) 1), zw 22 true 27 (.ld false 1 (.t 26)), zw 22 true 28 (.mov (.t 2)), zw 22 true 29 (.bin .eql .no (.t 27) (.t 28)), zv 30 (.pick (.t 22) (.t 29) (.c (.bool false)))]
def qbat : IC := zr [zm 31 8, zm 6 31, zv 7 (.mov (.c (.bool true)))]
def qbd9 : IC := zr [zm 13 8, zv 14 (.bin .add .no (.t 13) (zc 1)), zm 8 14]
def q7a : IC := (.seq (.seq qbi8 (.cond (.t 12) .skip (.exit 0))) (.seq (.block 1 (.seq q8i (.cond (.t 30) (.seq qbat .ret) .skip))) qbd9))
def qbdx : IC := zr [zv 6 (.mov (zc 0)), zv 7 zf]
def k0dh : IC := (.seq q62 (.seq (.seq qbe4 (.block 0 (.loop q7a))) (.seq qbdx .ret)))
@[go_sem] def s0dh : List (RV × Co) := [(.t 6, .id), (.t 7, .id)]
theorem c0dh : cFun Tryz.prog 11 = some (32, k0dh, s0dh) := by kernel_rfl

def qbcv : IC := zr [zi 1 (.box (.t 0)), zv 2 (.mov (zc 0))]
def q7z : IC := zr [zv 6 (.fad (.t 1) 0), zv 7 (.ld false 1 (.t 6)), zi 8 (.call (.c (.fn 25 [] [])) [((.t 7), .id)]), zm 9 8, zw 9 true 10 (.fad (.t 1) 1), zw 9 true 11 (.ld false 1 (.t 10)), ⟨some (9, true), some 12, .call (.c (.fn 25 [] [])) [((.t 11), .id)]⟩, zw 9 true 13 (.mov (.t 12)), zw 13 false 14 (.fad (.t 1) 1), zw 13 false 15 (.ld false 1 (.t 14)), zw 13 false 16 (.bin .eql .no (.t 15) (.c (.str [45, 62]))), zw 13 false 17 (.mov (.t 16)), zw 17 true 18 (.fad (.t 1) 2), zw 17 true 19 (.ld false 1 (.t 18)), zw 17 true 20 (.bin .eql .no (.t 19) (zc 2)), zw 13 false 21 (.pick (.t 17) (.t 20) (.c (.bool false))), zw 9 true 22 (.pick (.t 13) (.c (.bool true)) (.t 21)), zv 23 (.pick (.t 9) (.t 22) (.c (.bool false))), zm 24 23, zw 24 true 25 (.fad (.t 1) 2), zw 24 true 26 (.ld false 1 (.t 25)), zw 24 true 27 (.bin .geq .no (.t 26) (zc 0)), zv 28 (.pick (.t 24) (.t 27) (.c (.bool false))), zm 29 28, zw 29 true 30 (.fad (.t 1) 2), zw 29 true 31 (.ld false 1 (.t 30)), zw 29 true 32 (.bin .leq .no (.t 31) (zc 100)), zv 33 (.pick (.t 29) (.t 32) (.c (.bool false))), zm 3 33]
def q5s : IC := zr [zv 34 (.fad (.t 1) 3), zv 35 (.ld false 1 (.t 34)), zv 36 (.len false (.t 35)), zv 37 (.mov (zc 0))]
def q8m : IC := zr [zv 38 (.bin .lss .no (.t 37) (.t 36))]
def qbaf : IC := zr [zv 39 (.iad 4 (.t 35) (.t 37)), zv 40 (.ld true 4 (.t 39)), zi 5 (.alo [(.str []), (.str []), (.int .i64 0), .nils]), zn (.st 4 (.agg [.id, .id, .id, (.sl 3)]) (.t 5) (.t 40))]
def qbf1 : IC := zr [zm 41 3, zm 42 41, zw 42 true 43 (.ld true 4 (.t 5)), zw 42 true 44 (.fad (.t 1) 2), zw 42 true 45 (.ld false 1 (.t 44)), ⟨some (42, true), some 46, .call (.c (.fn 26 [] [])) [((.t 43), (.agg [.id, .id, .id, (.sl 3)])), ((.t 45), .id)]⟩, zv 47 (.pick (.t 42) (.t 46) (.c (.bool false))), zm 3 47]
def qbau : IC := zr [zv 48 (.bin .add .no (.t 37) (zc 1)), zm 37 48]
def qbkj : IC := (.seq q8m (.seq (.cond (.t 38) .skip (.exit 0)) (.seq (.block 1 (.seq qbaf qbf1)) qbau)))
def qbjf : IC := zr [zm 49 3, zv 50 (.un .not (.t 49))]
def q3e : IC := zr [zv 2 (.mov (zc 10))]
def q0z : IC := zr [zv 2 (.mov (zc 0))]
def k0cd : IC := (.seq qbcv (.seq q7z (.seq (.seq q5s (.block 0 (.loop qbkj))) (.seq (.seq qbjf (.cond (.t 50) (.seq q3e .ret) .skip)) (.seq q0z .ret)))))
@[go_sem] def s0cd : List (RV × Co) := [(.t 2, .id)]
theorem c0cd : cFun Tryz.prog 12 = some (51, k0cd, s0cd) := by kernel_rfl

def qbft : IC := zr [zi 1 (.box (.t 0)), zv 2 (.mov (zc 0))]
def qbhk : IC := zr [zv 5 (.fad (.t 1) 0), zv 6 (.ld false 1 (.t 5)), zi 7 (.call (.c (.fn 27 [] [])) [((.t 6), .id)]), zv 8 (.un .not (.t 7)), zm 9 8, zw 9 false 10 (.fad (.t 1) 1), zw 9 false 11 (.ld false 1 (.t 10)), ⟨some (9, false), some 12, .call (.c (.fn 27 [] [])) [((.t 11), .id)]⟩, zw 9 false 13 (.mov (.t 12)), zw 13 false 14 (.fad (.t 1) 1), zw 13 false 15 (.ld false 1 (.t 14)), zw 13 false 16 (.bin .eql .no (.t 15) (.c (.str [45, 62]))), zw 13 false 17 (.mov (.t 16)), zw 17 true 18 (.fad (.t 1) 2), zw 17 true 19 (.ld false 1 (.t 18)), zw 17 true 20 (.bin .eql .no (.t 19) (zc 2)), zw 13 false 21 (.pick (.t 17) (.t 20) (.c (.bool false))), zw 9 false 22 (.pick (.t 13) (.c (.bool true)) (.t 21)), zw 9 false 23 (.un .not (.t 22)), zv 24 (.pick (.t 9) (.c (.bool true)) (.t 23)), zm 25 24, zw 25 false 26 (.fad (.t 1) 2), zw 25 false 27 (.ld false 1 (.t 26)), zw 25 false 28 (.bin .lss .no (.t 27) (zc 0)), zv 29 (.pick (.t 25) (.c (.bool true)) (.t 28)), zm 30 29, zw 30 false 31 (.fad (.t 1) 2), zw 30 false 32 (.ld false 1 (.t 31)), zw 30 false 33 (.bin .gtr .no (.t 32) (zc 100)), zv 34 (.pick (.t 30) (.c (.bool true)) (.t 33))]
def q8z : IC := zr [zv 2 (.mov (zc 10))]
def q83 : IC := zr [zv 3 (.mov (zc 0))]
def qbds : IC := zr [zm 35 3, zv 36 (.fad (.t 1) 3), zv 37 (.ld false 1 (.t 36)), zv 38 (.len false (.t 37)), zv 39 (.bin .lss .no (.t 35) (.t 38))]
def q9w : IC := zr [zv 42 (.fad (.t 1) 3), zv 43 (.ld false 1 (.t 42)), zm 44 3, zv 45 (.iad 4 (.t 43) (.t 44)), zv 46 (.fad (.t 45) 1), zv 47 (.ld true 3 (.t 46)), zi 4 (.alo [(.str []), (.int .i64 0), .nils]), zn (.st 3 (.agg [.id, .id, (.sl 3)]) (.t 4) (.t 47))]
def qbbe : IC := zr [zv 48 (.fad (.t 1) 3), zv 49 (.ld false 1 (.t 48)), zm 50 3, zv 51 (.iad 4 (.t 49) (.t 50)), zv 52 (.fad (.t 51) 0), zv 53 (.ld false 1 (.t 52)), zi 54 (.call (.c (.fn 27 [] [])) [((.t 53), .id)]), zv 55 (.un .not (.t 54)), zm 56 55, zw 56 false 57 (.fad (.t 4) 0), zw 56 false 58 (.ld false 1 (.t 57)), zw 56 false 59 (.bin .neq .no (.t 58) (.c (.str []))), zv 60 (.pick (.t 56) (.c (.bool true)) (.t 59)), zm 61 60, zw 61 false 62 (.fad (.t 4) 2), zw 61 false 63 (.ld false 1 (.t 62)), zw 61 false 64 (.len false (.t 63)), zw 61 false 65 (.bin .gtr .no (.t 64) (zc 0)), zv 66 (.pick (.t 61) (.c (.bool true)) (.t 65)), zm 67 66, zw 67 false 68 (.fad (.t 4) 1), zw 67 false 69 (.ld false 1 (.t 68)), zw 67 false 70 (.bin .lss .no (.t 69) (zc 0)), zv 71 (.pick (.t 67) (.c (.bool true)) (.t 70)), zm 72 71, zw 72 false 73 (.fad (.t 4) 1), zw 72 false 74 (.ld false 1 (.t 73)), zw 72 false 75 (.fad (.t 1) 2), zw 72 false 76 (.ld false 1 (.t 75)), zw 72 false 77 (.bin .geq .no (.t 74) (.t 76)), zv 78 (.pick (.t 72) (.c (.bool true)) (.t 77))]
def q8b : IC := zr [zv 2 (.mov (zc 10))]
def qbjl : IC := zr [zm 40 3, zv 41 (.bin .add .no (.t 40) (zc 1)), zm 3 41]
def q9f : IC := (.seq (.seq qbds (.cond (.t 39) .skip (.exit 0))) (.seq (.block 1 (.seq q9w (.seq qbbe (.cond (.t 78) (.seq q8b .ret) .skip)))) qbjl))
def q4d : IC := zr [zv 2 (.mov (zc 0))]
def k0dg : IC := (.seq qbft (.seq (.seq qbhk (.cond (.t 34) (.seq q8z .ret) .skip)) (.seq (.seq q83 (.block 0 (.loop q9f))) (.seq q4d .ret))))
@[go_sem] def s0dg : List (RV × Co) := [(.t 2, .id)]
theorem c0dg : cFun Tryz.prog 13 = some (79, k0dg, s0dg) := by kernel_rfl

def qbkn : IC := zr [zi 1 (.box (.t 0)), zv 2 (.mov (.c (.str [])))]
def qbe0 : IC := zr [zv 6 (.ld true 4 (.t 1)), zi 7 (.call (.c (.fn 12 [] [])) [((.t 6), (.agg [.id, .id, .id, (.sl 4)]))]), zv 8 (.bin .neq .no (.t 7) (zc 0))]
def q5u : IC := zr [zv 2 (.mov (.c (.str [])))]
def qbc7 : IC := zr [zv 9 (.fad (.t 1) 1), zv 10 (.ld false 1 (.t 9)), zv 11 (.bld [(.str []), (.int .i64 0), .nils] [(0, 1, (.t 10))]), zi 3 (.alo [(.str []), (.int .i64 0), .nils]), zn (.st 3 (.agg [.id, .id, (.sl 3)]) (.t 3) (.t 11))]
def qbfu : IC := zr [zv 12 (.fad (.t 1) 2), zv 13 (.ld false 1 (.t 12)), zv 14 (.mov (zc 0))]
def qbbu : IC := zr [zv 15 (.bin .lss .no (.t 14) (.t 13))]
def q9i : IC := zr [zm 16 14, zm 4 16]
def qbb0 : IC := zr [zv 17 (.fad (.t 3) 2), zv 18 (.ld false 1 (.t 17)), zm 19 4, zv 20 (.bld [(.str []), (.int .i64 0), .nils] [(1, 1, (.t 19))]), zv 21 (.bsl 3 [((.t 20), (.agg [.id, .id, (.sl 3)]))]), zi 22 (.app 3 (.agg [(.str []), (.int .i64 0), .nils]) 48 (.sl 3) (.t 18) (.t 21)), zv 23 (.fad (.t 3) 2), zn (.st 1 (.sl 3) (.t 23) (.t 22))]
def q5o : IC := zr [zv 24 (.bin .add .no (.t 14) (zc 1)), zm 14 24]
def qbgq : IC := (.seq qbbu (.seq (.cond (.t 15) .skip (.exit 0)) (.seq (.block 1 (.seq q9i qbb0)) q5o)))
def q2f : IC := zr [zv 25 (.ld true 3 (.t 3)), zi 26 (.call (.c (.fn 28 [] [])) [((.t 25), (.agg [.id, .id, (.sl 3)]))]), zm 5 26]
def q39 : IC := zr [zv 27 (.fad (.t 1) 2), zv 28 (.ld false 1 (.t 27)), zv 29 (.bin .gtr .no (.t 28) (zc 0))]
def q11 : IC := zr [zm 30 5, zv 31 (.bin .add .no (.c (.str [40])) (.t 30)), zv 32 (.bin .add .no (.t 31) (.c (.str [41]))), zm 5 32]
def q0l : IC := zr [zv 33 (.fad (.t 1) 0), zv 34 (.ld false 1 (.t 33)), zv 35 (.bin .add .no (.t 34) (.c (.str [32]))), zm 36 5, zv 37 (.bin .add .no (.t 35) (.t 36)), zm 5 37]
def q07 : IC := zr [zv 38 (.fad (.t 1) 3), zv 39 (.ld false 1 (.t 38)), zv 40 (.len false (.t 39)), zv 41 (.bin .gtr .no (.t 40) (zc 0))]
def q0j : IC := zr [zv 42 (.fad (.t 1) 3), zv 43 (.ld false 1 (.t 42)), zi 44 (.call (.c (.fn 29 [] [])) [((.t 43), (.sl 4))]), zv 45 (.bin .add .no (.t 44) (.c (.str [32, 61, 62, 32]))), zm 46 5, zv 47 (.bin .add .no (.t 45) (.t 46)), zm 5 47]
def q1o : IC := zr [zm 48 5, zv 49 (.bin .add .no (.c (.str [105, 110, 115, 116, 97, 110, 99, 101, 32])) (.t 48)), zm 2 49]
def k0cf : IC := (.seq qbkn (.seq (.seq qbe0 (.cond (.t 8) (.seq q5u .ret) .skip)) (.seq qbc7 (.seq (.seq qbfu (.block 0 (.loop qbgq))) (.seq q2f (.seq (.seq q39 (.cond (.t 29) q11 .skip)) (.seq q0l (.seq (.seq q07 (.cond (.t 41) q0j .skip)) (.seq q1o .ret)))))))))
@[go_sem] def s0cf : List (RV × Co) := [(.t 2, .id)]
theorem c0cf : cFun Tryz.prog 14 = some (50, k0cf, s0cf) := by kernel_rfl

def q7n : IC := zr [zi 1 (.box (.t 0)), zv 2 (.mov (.c (.str [])))]
def qbe8 : IC := zr [zv 4 (.ld true 4 (.t 1)), zi 5 (.call (.c (.fn 13 [] [])) [((.t 4), (.agg [.id, .id, .id, (.sl 4)]))]), zv 6 (.bin .neq .no (.t 5) (zc 0))]
def qbak : IC := zr [zv 2 (.mov (.c (.str [])))]
def q6n : IC := zr [zv 3 (.mov (.c (.str [105, 110, 115, 116, 97, 110, 99, 101, 32])))]
def q9l : IC := zr [zv 7 (.fad (.t 1) 3), zv 8 (.ld false 1 (.t 7)), zv 9 (.len false (.t 8)), zv 10 (.bin .gtr .no (.t 9) (zc 0))]
def q8p : IC := zr [zm 11 3, zv 12 (.fad (.t 1) 3), zv 13 (.ld false 1 (.t 12)), zi 14 (.call (.c (.fn 30 [] [])) [((.t 13), (.sl 4))]), zv 15 (.bin .add .no (.t 14) (.c (.str [32, 61, 62, 32]))), zv 16 (.bin .add .no (.t 11) (.t 15)), zm 3 16]
def qbi3 : IC := .drw [zp (zm 17 3), zp (zv 18 (.fad (.t 1) 0)), zp (zv 19 (.ld false 1 (.t 18))), zp (zv 20 (.bin .add .no (.t 17) (.t 19))), (zv 21 (.bin .add .no (.t 20) (.c (.str [32]))), []), zp (zv 22 (.ld true 4 (.t 1))), (zi 23 (.call (.c (.fn 22 [] [])) [((.t 22), (.agg [.id, .id, .id, (.sl 4)]))]), [2]), (zi 24 (.call (.c (.fn 31 [] [])) [((.t 23), (.agg [.id, .id, (.sl 3)]))]), [2]), zp (zv 25 (.bin .add .no (.t 21) (.t 24))), zp (zm 2 25)]
def k0dl : IC := (.seq q7n (.seq (.seq qbe8 (.cond (.t 6) (.seq qbak .ret) .skip)) (.seq q6n (.seq (.seq q9l (.cond (.t 10) q8p .skip)) (.seq qbi3 .ret)))))
@[go_sem] def s0dl : List (RV × Co) := [(.t 2, .id)]
theorem c0dl : cFun Tryz.prog 15 = some (26, k0dl, s0dl) := by kernel_rfl

def qbav : IC := zr [zv 2 (.mov (zc 0))]
def qbbi : IC := zr [zm 5 0, zv 6 (.len false (.t 5)), zv 7 (.bin .gtr .no (.t 6) (zc 30))]
def qbho : IC := zr [zv 2 (.mov (zc 0))]
def qba4 : IC := zr [zv 3 (.mov (.c .nils))]
def qbbb : IC := zr [zv 4 (.mov (zc 0))]
def q88 : IC := zr [zm 8 4, zm 9 0, zv 10 (.len false (.t 9)), zv 11 (.bin .lss .no (.t 8) (.t 10))]
def qbin : IC := zr [zm 14 3, zm 15 0, zm 16 4, zv 17 (.iad 4 (.t 15) (.t 16)), zv 18 (.fad (.t 17) 1), zv 19 (.ld true 3 (.t 18)), zv 20 (.bsl 3 [((.t 19), (.agg [.id, .id, (.sl 3)]))]), zi 21 (.app 3 (.agg [(.str []), (.int .i64 0), .nils]) 48 (.sl 3) (.t 14) (.t 20)), zm 3 21]
def q65 : IC := zr [zm 12 4, zv 13 (.bin .add .no (.t 12) (zc 1)), zm 4 13]
def qbg7 : IC := (.seq (.seq q88 (.cond (.t 11) .skip (.exit 0))) (.seq (.block 1 qbin) q65))
def q1c : IC := zr [zm 22 3, zi 23 (.call (.c (.fn 32 [] [])) [((.t 22), (.sl 3))]), zm 2 23]
def k0bz : IC := (.seq qbav (.seq (.seq qbbi (.cond (.t 7) (.seq qbho .ret) .skip)) (.seq qba4 (.seq (.seq qbbb (.block 0 (.loop qbg7))) (.seq q1c .ret)))))
@[go_sem] def s0bz : List (RV × Co) := [(.t 2, .id)]
theorem c0bz : cFun Tryz.prog 16 = some (24, k0bz, s0bz) := by kernel_rfl

def qbad : IC := zr [zi 3 (.box (.t 1)), zv 4 (.mov (zc 0)), zv 5 (.mov (.c .nils)), zv 6 zf]
def qbki : IC := zr [zm 15 0, zv 16 (.fad (.t 3) 0), zv 17 (.ld false 1 (.t 16)), zv 18 (.fad (.t 3) 1), zv 19 (.fad (.t 18) 0), zv 20 (.ld false 1 (.t 19)), zi 21 (.call (.c (.fn 10 [] [])) [((.t 15), (.sl 4)), ((.t 17), .id), ((.t 20), .id)]), zm 14 21, zv 22 (.ext (.t 14) 0), zv 23 (.ext (.t 14) 1), zm 7 22, zm 8 23]
def qba9 : IC := .drw [zp (zm 24 8), zp (zv 25 (.un .not (.t 24))), zp (zm 26 25), zp (zw 26 false 27 (.fad (.t 3) 1)), zp (zw 26 false 28 (.fad (.t 27) 0)), zp (zw 26 false 29 (.ld false 1 (.t 28))), (zw 26 false 30 (.bin .eql .no (.t 29) (.c (.str []))), []), zp (zv 31 (.pick (.t 26) (.c (.bool true)) (.t 30))), zp (zm 32 31), zp (zw 32 false 33 (.mov (.t 0))), zp (zw 32 false 34 (.mov (.t 7))), zp (zw 32 false 35 (.iad 4 (.t 33) (.t 34))), zp (zw 32 false 36 (.fad (.t 35) 2)), zp (zw 32 false 37 (.ld false 1 (.t 36))), zp (zw 32 false 38 (.fad (.t 3) 1)), zp (zw 32 false 39 (.fad (.t 38) 2)), zp (zw 32 false 40 (.ld false 1 (.t 39))), zp (zw 32 false 41 (.len false (.t 40))), zp (zw 32 false 42 (.bin .neq .no (.t 37) (.t 41))), zp (zv 43 (.pick (.t 32) (.c (.bool true)) (.t 42)))]
def q85 : IC := zr [zv 4 (.mov (zc 0)), zv 5 (.mov (.c .nils)), zv 6 zf]
def qbgo : IC := zr [zi 44 (.call (.c (.fn 33 [] [])) [((.c .nils), (.sl 4))]), zm 9 44]
def qbkm : IC := zr [zv 45 (.fad (.t 3) 1), zv 46 (.fad (.t 45) 2), zv 47 (.ld false 1 (.t 46)), zv 48 (.len false (.t 47)), zv 49 (.mov (zc 0))]
def qba6 : IC := zr [zv 50 (.bin .lss .no (.t 49) (.t 48))]
def qbdd : IC := zr [zm 51 49, zv 52 (.iad 3 (.t 47) (.t 49)), zv 53 (.ld true 3 (.t 52)), zi 11 (.alo [(.str []), (.int .i64 0), .nils]), zm 10 51, zn (.st 3 (.agg [.id, .id, (.sl 3)]) (.t 11) (.t 53))]
def qber : IC := zr [zm 54 9, zm 55 10, zv 56 (.ld true 3 (.t 11)), zi 57 (.call (.c (.fn 34 [] [])) [((.t 54), .id), ((.t 55), .id), ((.t 56), (.agg [.id, .id, (.sl 3)]))])]
def q1b : IC := zr [zv 58 (.bin .add .no (.t 49) (zc 1)), zm 49 58]
def qbkk : IC := (.seq qba6 (.seq (.cond (.t 50) .skip (.exit 0)) (.seq (.block 1 (.seq qbdd qber)) q1b)))
def qza : IC := zr [zm 60 9, zm 61 0, zm 62 7, zv 63 (.iad 4 (.t 61) (.t 62)), zv 64 (.fad (.t 63) 3), zv 65 (.ld false 1 (.t 64)), zi 66 (.call (.c (.fn 35 [] [])) [((.t 60), .id), ((.t 65), (.sl 4))]), zm 59 66, zv 67 (.ext (.t 59) 0), zv 68 (.ext (.t 59) 1), zm 12 67, zm 13 68]
def q3t : IC := zr [zm 69 7, zm 70 12, zm 4 69, zm 5 70, zv 6 (.mov (.c (.bool true)))]
def k0ci : IC := (.seq qbad (.seq qbki (.seq (.seq qba9 (.cond (.t 43) (.seq q85 .ret) .skip)) (.seq qbgo (.seq (.seq qbkm (.block 0 (.loop qbkk))) (.seq qza (.seq q3t .ret)))))))
@[go_sem] def s0ci : List (RV × Co) := [(.t 4, .id), (.t 5, (.sl 4)), (.t 6, .id)]
theorem c0ci : cFun Tryz.prog 17 = some (71, k0ci, s0ci) := by kernel_rfl

def qbi1 : IC := zr [zv 4 zf]
def q68 : IC := zr [zm 6 0, zv 7 (.len false (.t 6)), zm 8 1, zv 9 (.len false (.t 8)), zv 10 (.bin .neq .no (.t 7) (.t 9))]
def q5q : IC := zr [zv 4 zf]
def qbbj : IC := zr [zv 5 (.mov (zc 0))]
def qbe2 : IC := zr [zm 11 5, zm 12 0, zv 13 (.len false (.t 12)), zv 14 (.bin .lss .no (.t 11) (.t 13))]
def q84 : IC := .drw [zp (zm 17 0), zp (zm 18 5), zp (zv 19 (.iad 4 (.t 17) (.t 18))), zp (zv 20 (.ld true 4 (.t 19))), zp (zm 21 1), zp (zm 22 5), zp (zv 23 (.iad 4 (.t 21) (.t 22))), zp (zv 24 (.ld true 4 (.t 23))), (zi 25 (.call (.c (.fn 37 [] [])) [((.t 20), (.agg [.id, .id, .id, (.sl 3)])), ((.t 24), (.agg [.id, .id, .id, (.sl 3)]))]), []), zp (zv 26 (.un .not (.t 25)))]
def qbbl : IC := zr [zv 4 zf]
def qbil : IC := zr [zm 15 5, zv 16 (.bin .add .no (.t 15) (zc 1)), zm 5 16]
def q66 : IC := (.seq (.seq qbe2 (.cond (.t 14) .skip (.exit 0))) (.seq (.block 1 (.seq q84 (.cond (.t 26) (.seq qbbl .ret) .skip))) qbil))
def q4c : IC := zr [zv 4 (.mov (.c (.bool true)))]
def k0bv : IC := (.seq qbi1 (.seq (.seq q68 (.cond (.t 10) (.seq q5q .ret) .skip)) (.seq (.seq qbbj (.block 0 (.loop q66))) (.seq q4c .ret))))
@[go_sem] def s0bv : List (RV × Co) := [(.t 4, .id)]
theorem c0bv : cFun Tryz.prog 19 = some (27, k0bv, s0bv) := by kernel_rfl

def qbme : IC := zr [zi 1 (.box (.t 0)), zv 2 zf]
def qbk2 : IC := zr [zv 3 (.ld true 3 (.t 1)), zi 4 (.call (.c (.fn 23 [] [])) [((.t 3), (.agg [.id, .id, (.sl 3)]))]), zv 5 (.bin .leq .no (.t 4) (zc 4096)), zm 6 5, zw 6 true 7 (.ld true 3 (.t 1)), ⟨some (6, true), some 8, .call (.c (.fn 38 [] [])) [((.t 7), (.agg [.id, .id, (.sl 3)]))]⟩, zw 6 true 9 (.bin .leq .no (.t 8) (zc 100)), zv 10 (.pick (.t 6) (.t 9) (.c (.bool false))), zm 11 10, zw 11 true 12 (.ld true 3 (.t 1)), ⟨some (11, true), some 13, .call (.c (.fn 39 [] [])) [((.t 12), (.agg [.id, .id, (.sl 3)]))]⟩, zv 14 (.pick (.t 11) (.t 13) (.c (.bool false))), zm 2 14]
def k0r : IC := (.seq qbme (.seq qbk2 .ret))
@[go_sem] def s0r : List (RV × Co) := [(.t 2, .id)]
theorem c0r : cFun Tryz.prog 20 = some (15, k0r, s0r) := by kernel_rfl

def q86 : IC := zr [zi 1 (.box (.t 0)), zi 2 (.alo [(.str []), (.int .i64 0), .nils])]
def qbf7 : IC := zr [zv 5 (.fad (.t 1) 1), zv 6 (.ld false 1 (.t 5)), zv 7 (.bld [(.str []), (.int .i64 0), .nils] [(0, 1, (.t 6))]), zi 3 (.alo [(.str []), (.int .i64 0), .nils]), zn (.st 3 (.agg [.id, .id, (.sl 3)]) (.t 3) (.t 7))]
def q92 : IC := zr [zv 4 (.mov (zc 0))]
def qbif : IC := zr [zm 8 4, zv 9 (.fad (.t 1) 2), zv 10 (.ld false 1 (.t 9)), zv 11 (.bin .lss .no (.t 8) (.t 10))]
def qbdn : IC := .drw [zp (zv 14 (.fad (.t 3) 2)), zp (zv 15 (.ld false 1 (.t 14))), zp (zm 16 4), (zi 17 (.call (.c (.fn 41 [] [])) [((.t 16), .id)]), [1]), (zv 18 (.bsl 3 [((.t 17), (.agg [.id, .id, (.sl 3)]))]), []), (zi 19 (.app 3 (.agg [(.str []), (.int .i64 0), .nils]) 48 (.sl 3) (.t 15) (.t 18)), []), zp (zv 20 (.fad (.t 3) 2)), (zn (.st 1 (.sl 3) (.t 20) (.t 19)), [])]
def q6i : IC := zr [zm 12 4, zv 13 (.bin .add .no (.t 12) (zc 1)), zm 4 13]
def qbja : IC := (.seq (.seq qbif (.cond (.t 11) .skip (.exit 0))) (.seq (.block 1 qbdn) q6i))
def qbkv : IC := zr [zv 21 (.ld true 3 (.t 3)), zn (.st 3 (.agg [.id, .id, (.sl 3)]) (.t 2) (.t 21))]
def k0dj : IC := (.seq q86 (.seq qbf7 (.seq (.seq q92 (.block 0 (.loop qbja))) (.seq qbkv .ret))))
@[go_sem] def s0dj : List (RV × Co) := [(.c true 3 2, (.agg [.id, .id, (.sl 3)]))]
theorem c0dj : cFun Tryz.prog 22 = some (22, k0dj, s0dj) := by kernel_rfl

def qbqo : IC := zr [zi 1 (.box (.t 0)), zv 2 (.mov (zc 0))]
def qbmx : IC := zr [zv 3 (.mov (zc 1))]
def qbo4 : IC := zr [zv 4 (.mov (zc 0))]
def qbl1 : IC := zr [zm 5 4, zv 6 (.fad (.t 1) 2), zv 7 (.ld false 1 (.t 6)), zv 8 (.len false (.t 7)), zv 9 (.bin .lss .no (.t 5) (.t 8))]
def qbqe : IC := zr [zm 12 3, zv 13 (.fad (.t 1) 2), zv 14 (.ld false 1 (.t 13)), zm 15 4, zv 16 (.iad 3 (.t 14) (.t 15)), zv 17 (.ld true 3 (.t 16)), zi 18 (.call (.c (.fn 23 [] [])) [((.t 17), (.agg [.id, .id, (.sl 3)]))]), zv 19 (.bin .add .no (.t 12) (.t 18)), zm 3 19]
def qbpe : IC := zr [zm 10 4, zv 11 (.bin .add .no (.t 10) (zc 1)), zm 4 11]
def qbo7 : IC := (.seq (.seq qbl1 (.cond (.t 9) .skip (.exit 0))) (.seq (.block 1 qbqe) qbpe))
def qboe : IC := zr [zm 20 3, zm 2 20]
def k0m : IC := (.seq qbqo (.seq qbmx (.seq (.seq qbo4 (.block 0 (.loop qbo7))) (.seq qboe .ret))))
@[go_sem] def s0m : List (RV × Co) := [(.t 2, .id)]
theorem c0m : cFun Tryz.prog 23 = some (21, k0m, s0m) := by kernel_rfl

def q75 : IC := zr [zi 2 (.alo [(.str []), (.int .i64 0), .nils]), zv 3 (.mov (zc 0))]
def qbe6 : IC := zr [zm 6 0, zv 7 (.bld [(.str []), (.int .i64 0), (.bool false)] [(0, 1, (.t 6))]), zi 8 (.box (.t 7)), zm 4 8]
def q82 : IC := zr [zm 9 4, zi 10 (.call (.c (.fn 42 [] [])) [((.t 9), .id)]), zi 5 (.alo [(.str []), (.int .i64 0), .nils]), zn (.st 3 (.agg [.id, .id, (.sl 3)]) (.t 5) (.t 10))]
def qbka : IC := zr [zm 11 4, zv 12 (.nck (.t 11)), zv 13 (.fad (.t 12) 2), zv 14 (.ld false 1 (.t 13)), zm 15 14, zw 15 false 16 (.mov (.t 4)), zw 15 false 17 (.nck (.t 16)), zw 15 false 18 (.fad (.t 17) 0), zw 15 false 19 (.ld false 1 (.t 18)), zw 15 false 20 (.bin .neq .no (.t 19) (.c (.str []))), zv 21 (.pick (.t 15) (.c (.bool true)) (.t 20)), zm 22 21, zw 22 false 23 (.ld true 3 (.t 5)), ⟨some (22, false), some 24, .call (.c (.fn 28 [] [])) [((.t 23), (.agg [.id, .id, (.sl 3)]))]⟩, zw 22 false 25 (.mov (.t 0)), zw 22 false 26 (.bin .neq .no (.t 24) (.t 25)), zv 27 (.pick (.t 22) (.c (.bool true)) (.t 26))]
def qbgl : IC := zr [zv 28 (.bld [(.str []), (.int .i64 0), .nils] []), zn (.st 3 (.agg [.id, .id, (.sl 3)]) (.t 2) (.t 28)), zv 3 (.mov (zc 5))]
def qbew : IC := zr [zv 29 (.ld true 3 (.t 5)), zn (.st 3 (.agg [.id, .id, (.sl 3)]) (.t 2) (.t 29)), zv 3 (.mov (zc 0))]
def k0cz : IC := (.seq q75 (.seq qbe6 (.seq q82 (.seq (.seq qbka (.cond (.t 27) (.seq qbgl .ret) .skip)) (.seq qbew .ret)))))
@[go_sem] def s0cz : List (RV × Co) := [(.c true 3 2, (.agg [.id, .id, (.sl 3)])), (.t 3, .id)]
theorem c0cz : cFun Tryz.prog 24 = some (30, k0cz, s0cz) := by kernel_rfl

def qbb9 : IC := zr [zv 2 zf]
def qbg3 : IC := zr [zm 3 0, zv 4 (.bin .neq .no (.t 3) (.c (.str []))), zm 5 4, zw 5 true 6 (.mov (.t 0)), zw 5 true 7 (.idx (.t 6) (zc 0)), ⟨some (5, true), some 8, .call (.c (.fn 43 [] [])) [((.t 7), .id)]⟩, zv 9 (.pick (.t 5) (.t 8) (.c (.bool false))), zm 10 9, zw 10 true 11 (.mov (.t 0)), ⟨some (10, true), some 12, .call (.c (.fn 44 [] [])) [((.t 11), .id)]⟩, zv 13 (.pick (.t 10) (.t 12) (.c (.bool false))), zm 2 13]
def k0bl : IC := (.seq qbb9 (.seq qbg3 .ret))
@[go_sem] def s0bl : List (RV × Co) := [(.t 2, .id)]
theorem c0bl : cFun Tryz.prog 25 = some (14, k0bl, s0bl) := by kernel_rfl

def qbi4 : IC := zr [zi 2 (.box (.t 0)), zv 4 zf]
def qbik : IC := zr [zv 6 (.fad (.t 2) 1), zv 7 (.ld true 3 (.t 6)), zi 5 (.alo [(.str []), (.int .i64 0), .nils]), zn (.st 3 (.agg [.id, .id, (.sl 3)]) (.t 5) (.t 7))]
def q9t : IC := zr [zv 8 (.fad (.t 2) 0), zv 9 (.ld false 1 (.t 8)), zi 10 (.call (.c (.fn 25 [] [])) [((.t 9), .id)]), zm 11 10, zw 11 true 12 (.fad (.t 5) 0), zw 11 true 13 (.ld false 1 (.t 12)), zw 11 true 14 (.bin .eql .no (.t 13) (.c (.str []))), zv 15 (.pick (.t 11) (.t 14) (.c (.bool false))), zm 16 15, zw 16 true 17 (.fad (.t 5) 2), zw 16 true 18 (.ld false 1 (.t 17)), zw 16 true 19 (.len false (.t 18)), zw 16 true 20 (.bin .eql .no (.t 19) (zc 0)), zv 21 (.pick (.t 16) (.t 20) (.c (.bool false))), zm 22 21, zw 22 true 23 (.fad (.t 5) 1), zw 22 true 24 (.ld false 1 (.t 23)), zw 22 true 25 (.bin .geq .no (.t 24) (zc 0)), zv 26 (.pick (.t 22) (.t 25) (.c (.bool false))), zm 27 26, zw 27 true 28 (.fad (.t 5) 1), zw 27 true 29 (.ld false 1 (.t 28)), zw 27 true 30 (.mov (.t 1)), zw 27 true 31 (.bin .lss .no (.t 29) (.t 30)), zv 32 (.pick (.t 27) (.t 31) (.c (.bool false))), zm 4 32]
def k0cg : IC := (.seq qbi4 (.seq qbik (.seq q9t .ret)))
@[go_sem] def s0cg : List (RV × Co) := [(.t 4, .id)]
theorem c0cg : cFun Tryz.prog 26 = some (33, k0cg, s0cg) := by kernel_rfl

def qbdl : IC := zr [zv 2 zf]
def q8e : IC := zr [zm 3 0, zv 4 (.bin .neq .no (.t 3) (.c (.str []))), zm 5 4, zw 5 true 6 (.mov (.t 0)), zw 5 true 7 (.idx (.t 6) (zc 0)), ⟨some (5, true), some 8, .call (.c (.fn 45 [] [])) [((.t 7), .id)]⟩, zv 9 (.pick (.t 5) (.t 8) (.c (.bool false))), zm 10 9, zw 10 true 11 (.mov (.t 0)), ⟨some (10, true), some 12, .call (.c (.fn 46 [] [])) [((.t 11), .id)]⟩, zv 13 (.pick (.t 10) (.t 12) (.c (.bool false))), zm 2 13]
def k0bm : IC := (.seq qbdl (.seq q8e .ret))
@[go_sem] def s0bm : List (RV × Co) := [(.t 2, .id)]
theorem c0bm : cFun Tryz.prog 27 = some (14, k0bm, s0bm) := by kernel_rfl

def qbma : IC := zr [zi 1 (.box (.t 0)), zv 2 (.mov (.c (.str [])))]
def qbn5 : IC := zr [zv 3 (.ld true 3 (.t 1)), zi 4 (.call (.c (.fn 47 [] [])) [((.t 3), (.agg [.id, .id, (.sl 3)]))]), zv 5 (.un .not (.t 4))]
def qbru : IC := zr [zv 2 (.mov (.c (.str [])))]
def qbrt : IC := zr [zv 6 (.ld true 3 (.t 1)), zi 7 (.call (.c (.fn 48 [] [])) [((.t 6), (.agg [.id, .id, (.sl 3)]))]), zm 2 7]
def k0d : IC := (.seq qbma (.seq (.seq qbn5 (.cond (.t 5) (.seq qbru .ret) .skip)) (.seq qbrt .ret)))
@[go_sem] def s0d : List (RV × Co) := [(.t 2, .id)]
theorem c0d : cFun Tryz.prog 28 = some (8, k0d, s0d) := by kernel_rfl

def qbb1 : IC := zr [zv 2 (.mov (.c (.str [])))]
def qbko : IC := zr [zv 3 (.mov (.c .nils))]
def qbd6 : IC := zr [zm 7 0, zv 8 (.len false (.t 7)), zv 9 (.mov (zc 0))]
def qbfv : IC := zr [zv 10 (.bin .lss .no (.t 9) (.t 8))]
def q6f : IC := zr [zv 11 (.iad 4 (.t 7) (.t 9)), zv 12 (.ld true 4 (.t 11)), zi 5 (.alo [(.str []), (.str []), (.int .i64 0), .nils]), zn (.st 4 (.agg [.id, .id, .id, (.sl 3)]) (.t 5) (.t 12))]
def q8q : IC := zr [zv 13 (.ld true 4 (.t 5)), zi 14 (.call (.c (.fn 49 [] [])) [((.t 13), (.agg [.id, .id, .id, (.sl 3)]))]), zv 15 (.un .not (.t 14))]
def qbb2 : IC := zr [zv 2 (.mov (.c (.str [])))]
def qbbw : IC := zr [zm 16 3, zv 17 (.ld true 4 (.t 5)), zi 18 (.call (.c (.fn 50 [] [])) [((.t 17), (.agg [.id, .id, .id, (.sl 3)]))]), zv 19 (.bsl 1 [((.t 18), .id)]), zi 20 (.app 1 (.str []) 16 (.sl 1) (.t 16) (.t 19)), zm 3 20]
def qbbt : IC := zr [zv 21 (.bin .add .no (.t 9) (zc 1)), zm 9 21]
def qbdm : IC := (.seq qbfv (.seq (.cond (.t 10) .skip (.exit 0)) (.seq (.block 1 (.seq q6f (.seq (.seq q8q (.cond (.t 15) (.seq qbb2 .ret) .skip)) qbbw))) qbbt)))
def q1p : IC := zr [zm 22 3, zi 23 (.call (.c (.fn 51 [] [])) [((.t 22), (.sl 1)), ((.c (.str [44, 32])), .id)]), zm 6 23]
def q3l : IC := zr [zm 24 0, zv 25 (.len false (.t 24)), zv 26 (.bin .gtr .no (.t 25) (zc 1))]
def q1t : IC := zr [zm 27 6, zv 28 (.bin .add .no (.c (.str [40])) (.t 27)), zv 29 (.bin .add .no (.t 28) (.c (.str [41]))), zm 2 29]
def q21 : IC := zr [zm 30 6, zm 2 30]
def k0bu : IC := (.seq qbb1 (.seq qbko (.seq (.seq qbd6 (.block 0 (.loop qbdm))) (.seq q1p (.seq (.seq q3l (.cond (.t 26) (.seq q1t .ret) .skip)) (.seq q21 .ret))))))
@[go_sem] def s0bu : List (RV × Co) := [(.t 2, .id)]
theorem c0bu : cFun Tryz.prog 29 = some (31, k0bu, s0bu) := by kernel_rfl

def qbij : IC := zr [zv 2 (.mov (.c (.str [])))]
def q5c : IC := zr [zm 5 0, zi 6 (.call (.c (.fn 52 [] [])) [((.t 5), (.sl 4))]), zv 7 (.un .not (.t 6)), zm 8 7, zw 8 false 9 (.mov (.t 0)), zw 8 false 10 (.len false (.t 9)), zw 8 false 11 (.bin .eql .no (.t 10) (zc 0)), zv 12 (.pick (.t 8) (.c (.bool true)) (.t 11))]
def qbha : IC := zr [zv 2 (.mov (.c (.str [])))]
def q8y : IC := zr [zv 3 (.mov (.c (.str [])))]
def q5l : IC := zr [zv 4 (.mov (zc 0))]
def qbgh : IC := zr [zm 13 4, zm 14 0, zv 15 (.len false (.t 14)), zv 16 (.bin .lss .no (.t 13) (.t 15))]
def qbkg : IC := zr [zm 19 4, zv 20 (.bin .gtr .no (.t 19) (zc 0))]
def qbku : IC := zr [zm 21 3, zv 22 (.bin .add .no (.t 21) (.c (.str [44, 32]))), zm 3 22]
def qbb8 : IC := .drw [zp (zm 23 3), zp (zm 24 0), zp (zm 25 4), zp (zv 26 (.iad 4 (.t 24) (.t 25))), zp (zv 27 (.fad (.t 26) 0)), zp (zv 28 (.ld false 1 (.t 27))), (zv 29 (.bin .add .no (.t 28) (.c (.str [32]))), []), zp (zm 30 0), zp (zm 31 4), zp (zv 32 (.iad 4 (.t 30) (.t 31))), zp (zv 33 (.fad (.t 32) 1)), zp (zv 34 (.ld true 3 (.t 33))), (zi 35 (.call (.c (.fn 31 [] [])) [((.t 34), (.agg [.id, .id, (.sl 3)]))]), [5]), zp (zv 36 (.bin .add .no (.t 29) (.t 35))), zp (zv 37 (.bin .add .no (.t 23) (.t 36))), zp (zm 3 37)]
def q2a : IC := zr [zm 17 4, zv 18 (.bin .add .no (.t 17) (zc 1)), zm 4 18]
def qbim : IC := (.seq (.seq qbgh (.cond (.t 16) .skip (.exit 0))) (.seq (.block 1 (.seq (.seq qbkg (.cond (.t 20) qbku .skip)) qbb8)) q2a))
def qyv : IC := zr [zm 38 0, zv 39 (.len false (.t 38)), zv 40 (.bin .gtr .no (.t 39) (zc 1))]
def qzu : IC := zr [zm 41 3, zv 42 (.bin .add .no (.c (.str [40])) (.t 41)), zv 43 (.bin .add .no (.t 42) (.c (.str [41]))), zm 2 43]
def qzc : IC := zr [zm 44 3, zm 2 44]
def k0bs : IC := (.seq qbij (.seq (.seq q5c (.cond (.t 12) (.seq qbha .ret) .skip)) (.seq q8y (.seq (.seq q5l (.block 0 (.loop qbim))) (.seq (.seq qyv (.cond (.t 40) (.seq qzu .ret) .skip)) (.seq qzc .ret))))))
@[go_sem] def s0bs : List (RV × Co) := [(.t 2, .id)]
theorem c0bs : cFun Tryz.prog 30 = some (45, k0bs, s0bs) := by kernel_rfl

def qbmi : IC := zr [zi 1 (.box (.t 0)), zv 2 (.mov (.c (.str [])))]
def qbq3 : IC := zr [zv 3 (.fad (.t 1) 2), zv 4 (.ld false 1 (.t 3)), zv 5 (.len false (.t 4)), zv 6 (.bin .gtr .no (.t 5) (zc 0))]
def qbrk : IC := zr [zv 7 (.ld true 3 (.t 1)), zi 8 (.call (.c (.fn 53 [] [])) [((.t 7), (.agg [.id, .id, (.sl 3)]))]), zv 9 (.bin .add .no (.c (.str [40])) (.t 8)), zv 10 (.bin .add .no (.t 9) (.c (.str [41]))), zm 2 10]
def qbmy : IC := zr [zv 11 (.ld true 3 (.t 1)), zi 12 (.call (.c (.fn 53 [] [])) [((.t 11), (.agg [.id, .id, (.sl 3)]))]), zm 2 12]
def k0e : IC := (.seq qbmi (.seq (.seq qbq3 (.cond (.t 6) (.seq qbrk .ret) .skip)) (.seq qbmy .ret)))
@[go_sem] def s0e : List (RV × Co) := [(.t 2, .id)]
theorem c0e : cFun Tryz.prog 31 = some (13, k0e, s0e) := by kernel_rfl

def qbp7 : IC := zr [zv 2 (.mov (zc 0))]
def qbk8 : IC := zr [zv 3 (.mov (zc 20000))]
def qbof : IC := zr [zv 4 (.mov (zc 0))]
def qbl7 : IC := zr [zm 5 4, zm 6 0, zv 7 (.len false (.t 6)), zv 8 (.bin .lss .no (.t 5) (.t 7))]
def qbr2 : IC := zr [zm 11 0, zm 12 4, zv 13 (.iad 3 (.t 11) (.t 12)), zv 14 (.ld true 3 (.t 13)), zm 15 3, zi 16 (.call (.c (.fn 54 [] [])) [((.t 14), (.agg [.id, .id, (.sl 3)])), ((.t 15), .id), ((zc 300), .id)]), zm 3 16]
def qbpn : IC := zr [zm 9 4, zv 10 (.bin .add .no (.t 9) (zc 1)), zm 4 10]
def qboo : IC := (.seq (.seq qbl7 (.cond (.t 8) .skip (.exit 0))) (.seq (.block 1 qbr2) qbpn))
def qbq0 : IC := zr [zm 17 3, zv 18 (.bin .lss .no (.t 17) (zc 0))]
def qbl3 : IC := zr [zv 2 (.mov (zc 0))]
def qbev : IC := zr [zv 2 (.mov (zc 1))]
def k0q : IC := (.seq qbp7 (.seq qbk8 (.seq (.seq qbof (.block 0 (.loop qboo))) (.seq (.seq qbq0 (.cond (.t 18) (.seq qbl3 .ret) .skip)) (.seq qbev .ret)))))
@[go_sem] def s0q : List (RV × Co) := [(.t 2, .id)]
theorem c0q : cFun Tryz.prog 32 = some (19, k0q, s0q) := by kernel_rfl

def qbgb : IC := zr [zv 2 (.mov (.c .nilp))]
def qbhr : IC := zr [zv 6 (.bld [.nils] []), zi 7 (.box (.t 6)), zm 3 7]
def qbhb : IC := zr [zm 8 0, zv 9 (.len false (.t 8)), zv 10 (.mov (zc 0))]
def q64 : IC := zr [zv 11 (.bin .lss .no (.t 10) (.t 9))]
def q9b : IC := zr [zv 12 (.iad 4 (.t 8) (.t 10)), zv 13 (.ld true 4 (.t 12)), zi 5 (.alo [(.int .i64 0), (.str []), (.int .i64 0), .nils]), zn (.st 4 (.agg [.id, .id, .id, (.sl 3)]) (.t 5) (.t 13))]
def q57 : IC := zr [zm 14 3, zv 15 (.fad (.t 5) 0), zv 16 (.ld false 1 (.t 15)), zv 17 (.fad (.t 5) 1), zv 18 (.ld true 3 (.t 17)), zi 19 (.call (.c (.fn 34 [] [])) [((.t 14), .id), ((.t 16), .id), ((.t 18), (.agg [.id, .id, (.sl 3)]))])]
def qbjx : IC := zr [zv 20 (.bin .add .no (.t 10) (zc 1)), zm 10 20]
def qbj0 : IC := (.seq q64 (.seq (.cond (.t 11) .skip (.exit 0)) (.seq (.block 1 (.seq q9b q57)) qbjx)))
def q5j : IC := zr [zm 21 3, zm 2 21]
def k0cm : IC := (.seq qbgb (.seq qbhr (.seq (.seq qbhb (.block 0 (.loop qbj0))) (.seq q5j .ret))))
@[go_sem] def s0cm : List (RV × Co) := [(.t 2, .id)]
theorem c0cm : cFun Tryz.prog 33 = some (22, k0cm, s0cm) := by kernel_rfl

def q8f : IC := zr [zi 5 (.box (.t 2)), zv 6 (.mov (zc 0))]
def qbio : IC := zr [zm 9 0, zv 10 (.bin .eql .ptr (.t 9) (.c .nilp)), zm 11 10, zw 11 false 12 (.ld true 3 (.t 5)), ⟨some (11, false), some 13, .call (.c (.fn 47 [] [])) [((.t 12), (.agg [.id, .id, (.sl 3)]))]⟩, zw 11 false 14 (.un .not (.t 13)), zv 15 (.pick (.t 11) (.c (.bool true)) (.t 14))]
def q5m : IC := zr [zv 6 (.mov (zc 1))]
def qbhd : IC := zr [zm 17 0, zm 18 1, zi 19 (.call (.c (.fn 55 [] [])) [((.t 17), .id), ((.t 18), .id)]), zm 16 19, zv 20 (.ext (.t 16) 0), zv 21 (.ext (.t 16) 1), zm 7 20, zm 8 21]
def qbd8 : IC := zr [zm 22 8]
def qbhi : IC := zr [zv 6 (.mov (zc 6))]
def qbhj : IC := .drw [zp (zm 23 0), zp (zm 24 0), zp (zv 25 (.nck (.t 24))), zp (zv 26 (.fad (.t 25) 0)), zp (zv 27 (.ld false 1 (.t 26))), zp (zm 28 7), zp (zm 29 1), zp (zv 30 (.ld true 3 (.t 5))), (zi 31 (.call (.c (.fn 57 [] [])) [((.t 30), (.agg [.id, .id, (.sl 3)]))]), [4]), (zv 32 (.bld [(.int .i64 0), (.str []), (.int .i64 0), .nils] [(0, 1, (.t 29)), (1, 3, (.t 31))]), []), (zv 33 (.bsl 4 [((.t 32), (.agg [.id, .id, .id, (.sl 3)]))]), []), (zi 34 (.call (.c (.fn 56 [] [])) [((.t 27), (.sl 4)), ((.t 28), .id), ((.t 33), (.sl 4))]), []), zp (zv 35 (.nck (.t 23))), zp (zv 36 (.fad (.t 35) 0)), (zn (.st 1 (.sl 4) (.t 36) (.t 34)), [])]
def qbfq : IC := zr [zv 6 (.mov (zc 0))]
def k0co : IC := (.seq q8f (.seq (.seq qbio (.cond (.t 15) (.seq q5m .ret) .skip)) (.seq qbhd (.seq (.seq qbd8 (.cond (.t 22) (.seq qbhi .ret) .skip)) (.seq qbhj (.seq qbfq .ret))))))
@[go_sem] def s0co : List (RV × Co) := [(.t 6, .id)]
theorem c0co : cFun Tryz.prog 34 = some (37, k0co, s0co) := by kernel_rfl

def qbjp : IC := zr [zv 4 (.mov (.c .nils)), zv 5 (.mov (zc 0))]
def qbbs : IC := zr [zv 6 (.mov (.c .nils))]
def qbcl : IC := zr [zm 11 1, zv 12 (.len false (.t 11)), zv 13 (.mov (zc 0))]
def qbhg : IC := zr [zv 14 (.bin .lss .no (.t 13) (.t 12))]
def qbax : IC := zr [zv 15 (.iad 4 (.t 11) (.t 13)), zv 16 (.ld true 4 (.t 15)), zi 8 (.alo [(.str []), (.str []), (.int .i64 0), .nils]), zn (.st 4 (.agg [.id, .id, .id, (.sl 3)]) (.t 8) (.t 16))]
def qbcz : IC := zr [zm 18 0, zv 19 (.fad (.t 8) 1), zv 20 (.ld true 3 (.t 19)), zi 21 (.call (.c (.fn 58 [] [])) [((.t 18), .id), ((.t 20), (.agg [.id, .id, (.sl 3)]))]), zm 17 21, zv 22 (.ext (.t 17) 0), zv 23 (.ext (.t 17) 1), zi 9 (.alo [(.str []), (.int .i64 0), .nils]), zn (.st 3 (.agg [.id, .id, (.sl 3)]) (.t 9) (.t 22)), zm 10 23]
def qbky : IC := zr [zm 24 10, zv 25 (.bin .neq .no (.t 24) (zc 0))]
def q6m : IC := zr [zm 26 10, zv 4 (.mov (.c .nils)), zm 5 26]
def qbgz : IC := zr [zm 27 6, zv 28 (.fad (.t 8) 0), zv 29 (.ld false 1 (.t 28)), zv 30 (.ld true 3 (.t 9)), zv 31 (.bld [(.str []), (.str []), (.int .i64 0), .nils] [(0, 1, (.t 29)), (1, 3, (.t 30))]), zv 32 (.bsl 4 [((.t 31), (.agg [.id, .id, .id, (.sl 3)]))]), zi 33 (.app 4 (.agg [(.str []), (.str []), (.int .i64 0), .nils]) 64 (.sl 4) (.t 27) (.t 32)), zm 6 33]
def q3y : IC := zr [zv 34 (.bin .add .no (.t 13) (zc 1)), zm 13 34]
def q6c : IC := (.seq qbhg (.seq (.cond (.t 14) .skip (.exit 0)) (.seq (.block 1 (.seq qbax (.seq qbcz (.seq (.seq qbky (.cond (.t 25) (.seq q6m .ret) .skip)) qbgz)))) q3y)))
def q2l : IC := zr [zm 35 6, zm 4 35, zv 5 (.mov (zc 0))]
def k0ck : IC := (.seq qbjp (.seq qbbs (.seq (.seq qbcl (.block 0 (.loop q6c))) (.seq q2l .ret))))
@[go_sem] def s0ck : List (RV × Co) := [(.t 4, (.sl 4)), (.t 5, .id)]
theorem c0ck : cFun Tryz.prog 35 = some (36, k0ck, s0ck) := by kernel_rfl

def q7h : IC := zr [zi 2 (.box (.t 0)), zi 3 (.box (.t 1)), zv 4 zf]
def qbec : IC := zr [zv 5 (.fad (.t 2) 0), zv 6 (.ld false 1 (.t 5)), zv 7 (.fad (.t 3) 0), zv 8 (.ld false 1 (.t 7)), zv 9 (.bin .eql .no (.t 6) (.t 8)), zm 10 9, zw 10 true 11 (.fad (.t 2) 1), zw 10 true 12 (.ld true 3 (.t 11)), zw 10 true 13 (.fad (.t 3) 1), zw 10 true 14 (.ld true 3 (.t 13)), ⟨some (10, true), some 15, .call (.c (.fn 61 [] [])) [((.t 12), (.agg [.id, .id, (.sl 3)])), ((.t 14), (.agg [.id, .id, (.sl 3)]))]⟩, zv 16 (.pick (.t 10) (.t 15) (.c (.bool false))), zm 4 16]
def k0ca : IC := (.seq q7h (.seq qbec .ret))
@[go_sem] def s0ca : List (RV × Co) := [(.t 4, .id)]
theorem c0ca : cFun Tryz.prog 37 = some (17, k0ca, s0ca) := by kernel_rfl

def qbqr : IC := zr [zi 1 (.box (.t 0)), zv 2 (.mov (zc 0))]
def qbq2 : IC := zr [zv 3 (.mov (zc 0))]
def qbl6 : IC := zr [zv 4 (.mov (zc 0))]
def qbp9 : IC := zr [zm 5 4, zv 6 (.fad (.t 1) 2), zv 7 (.ld false 1 (.t 6)), zv 8 (.len false (.t 7)), zv 9 (.bin .lss .no (.t 5) (.t 8))]
def qbmt : IC := zr [zm 12 3, zv 13 (.fad (.t 1) 2), zv 14 (.ld false 1 (.t 13)), zm 15 4, zv 16 (.iad 3 (.t 14) (.t 15)), zv 17 (.ld true 3 (.t 16)), zi 18 (.call (.c (.fn 38 [] [])) [((.t 17), (.agg [.id, .id, (.sl 3)]))]), zv 19 (.mm true (.t 12) (.t 18)), zm 3 19]
def qblx : IC := zr [zm 10 4, zv 11 (.bin .add .no (.t 10) (zc 1)), zm 4 11]
def qbqd : IC := (.seq (.seq qbp9 (.cond (.t 9) .skip (.exit 0))) (.seq (.block 1 qbmt) qblx))
def qbmm : IC := zr [zm 20 3, zv 21 (.bin .add .no (.t 20) (zc 1)), zm 2 21]
def k0n : IC := (.seq qbqr (.seq qbq2 (.seq (.seq qbl6 (.block 0 (.loop qbqd))) (.seq qbmm .ret))))
@[go_sem] def s0n : List (RV × Co) := [(.t 2, .id)]
theorem c0n : cFun Tryz.prog 38 = some (22, k0n, s0n) := by kernel_rfl

def qbon : IC := zr [zi 1 (.box (.t 0)), zv 2 zf]
def qbra : IC := zr [zv 3 (.mov (zc 0))]
def qblb : IC := zr [zm 5 3, zv 6 (.fad (.t 1) 2), zv 7 (.ld false 1 (.t 6)), zv 8 (.len false (.t 7)), zv 9 (.bin .lss .no (.t 5) (.t 8))]
def qbpt : IC := zr [zv 12 (.fad (.t 1) 2), zv 13 (.ld false 1 (.t 12)), zm 14 3, zv 15 (.iad 3 (.t 13) (.t 14)), zv 16 (.ld true 3 (.t 15)), zi 17 (.call (.c (.fn 39 [] [])) [((.t 16), (.agg [.id, .id, (.sl 3)]))]), zv 18 (.un .not (.t 17))]
def qbp3 : IC := zr [zv 2 zf]
def qbqh : IC := zr [zm 10 3, zv 11 (.bin .add .no (.t 10) (zc 1)), zm 3 11]
def qbrm : IC := (.seq (.seq qblb (.cond (.t 9) .skip (.exit 0))) (.seq (.block 1 (.seq qbpt (.cond (.t 18) (.seq qbp3 .ret) .skip))) qbqh))
def qbrq : IC := zr [zv 19 (.fad (.t 1) 2), zv 20 (.ld false 1 (.t 19)), zv 21 (.len false (.t 20)), zm 4 21]
def qbqs : IC := zr [zv 23 (.fad (.t 1) 0), zv 24 (.ld false 1 (.t 23)), zv 25 (.bin .eql .no (.t 24) (.c (.str []))), zm 22 25]
def qbix : IC := zr [zm 26 4, zv 27 (.bin .eql .no (.t 26) (zc 0)), zm 2 27]
def qbeg : IC := zr [zv 29 (.fad (.t 1) 0), zv 30 (.ld false 1 (.t 29)), zv 31 (.bin .eql .no (.t 30) (.c (.str [45, 62]))), zm 28 31]
def qbbn : IC := zr [zm 32 4, zv 33 (.bin .eql .no (.t 32) (zc 2)), zm 34 33, zw 34 true 35 (.fad (.t 1) 1), zw 34 true 36 (.ld false 1 (.t 35)), zw 34 true 37 (.bin .eql .no (.t 36) (zc 0)), zv 38 (.pick (.t 34) (.t 37) (.c (.bool false))), zm 2 38]
def qbeb : IC := zr [zv 40 (.fad (.t 1) 0), zv 41 (.ld false 1 (.t 40)), zi 42 (.call (.c (.fn 62 [] [])) [((.t 41), .id)]), zm 39 42]
def qbgr : IC := zr [zm 43 4, zv 44 (.bin .eql .no (.t 43) (zc 0)), zm 45 44, zw 45 true 46 (.fad (.t 1) 1), zw 45 true 47 (.ld false 1 (.t 46)), zw 45 true 48 (.bin .eql .no (.t 47) (zc 0)), zv 49 (.pick (.t 45) (.t 48) (.c (.bool false))), zm 2 49]
def q6p : IC := zr [zv 50 (.fad (.t 1) 0), zv 51 (.ld false 1 (.t 50)), zi 52 (.call (.c (.fn 27 [] [])) [((.t 51), .id)]), zm 53 52, zw 53 true 54 (.fad (.t 1) 1), zw 53 true 55 (.ld false 1 (.t 54)), zw 53 true 56 (.bin .eql .no (.t 55) (zc 0)), zv 57 (.pick (.t 53) (.t 56) (.c (.bool false))), zm 2 57]
def k0o : IC := (.seq qbon (.seq (.seq qbra (.block 0 (.loop qbrm))) (.seq qbrq (.seq (.block 2 (.seq qbqs (.cond (.t 22) (.seq qbix .ret) (.seq qbeg (.cond (.t 28) (.seq qbbn .ret) (.seq qbeb (.cond (.t 39) (.seq qbgr .ret) .skip))))))) (.seq q6p .ret)))))
@[go_sem] def s0o : List (RV × Co) := [(.t 2, .id)]
theorem c0o : cFun Tryz.prog 39 = some (58, k0o, s0o) := by kernel_rfl

def q7w : IC := zr [zi 2 (.alo [(.str []), (.int .i64 0), .nils])]
def qbfo : IC := zr [zm 3 0, zv 4 (.bld [(.str []), (.int .i64 0), .nils] [(1, 1, (.t 3))]), zn (.st 3 (.agg [.id, .id, (.sl 3)]) (.t 2) (.t 4))]
def k0di : IC := (.seq q7w (.seq qbfo .ret))
@[go_sem] def s0di : List (RV × Co) := [(.c true 3 2, (.agg [.id, .id, (.sl 3)]))]
theorem c0di : cFun Tryz.prog 41 = some (5, k0di, s0di) := by kernel_rfl

def qbi7 : IC := zr [zi 1 (.box (.t 0)), zi 2 (.alo [(.str []), (.int .i64 0), .nils])]
def qbfl : IC := zr [zv 4 (.ld false 1 (.t 1)), zv 5 (.nck (.t 4)), zv 6 (.fad (.t 5) 1), zv 7 (.ld false 1 (.t 6)), zv 8 (.bin .add .no (.t 7) (zc 1)), zv 9 (.nck (.t 4)), zv 10 (.fad (.t 9) 1), zn (.st 1 .id (.t 10) (.t 8))]
def qbcf : IC := zr [zv 11 (.ld false 1 (.t 1)), zv 12 (.nck (.t 11)), zv 13 (.fad (.t 12) 1), zv 14 (.ld false 1 (.t 13)), zv 15 (.bin .gtr .no (.t 14) (zc 200))]
def qbay : IC := zr [zv 16 (.ld false 1 (.t 1)), zv 17 (.nck (.t 16)), zv 18 (.fad (.t 17) 2), zn (.st 1 .id (.t 18) (.c (.bool true)))]
def q70 : IC := .dfr [zv 19 (.mfn 64 [] [(.t 1)])] (.t 19)
def qbcm : IC := zr [zv 20 (.ld false 1 (.t 1)), zv 21 (.nck (.t 20)), zv 22 (.fad (.t 21) 2), zv 23 (.ld false 1 (.t 22))]
def qbaq : IC := zr [zv 24 (.bld [(.str []), (.int .i64 0), .nils] []), zn (.st 3 (.agg [.id, .id, (.sl 3)]) (.t 2) (.t 24))]
def qbag : IC := zr [zv 25 (.ld false 1 (.t 1)), zi 26 (.call (.c (.fn 65 [] [])) [((.t 25), .id)]), zi 3 (.alo [(.str []), (.int .i64 0), .nils]), zn (.st 3 (.agg [.id, .id, (.sl 3)]) (.t 3) (.t 26))]
def q8o : IC := zr [zv 27 (.ld false 1 (.t 1)), zv 28 (.nck (.t 27)), zv 29 (.fad (.t 28) 2), zv 30 (.ld false 1 (.t 29)), zv 31 (.un .not (.t 30)), zm 32 31, zw 32 true 33 (.ld false 1 (.t 1)), zw 32 true 34 (.nck (.t 33)), zw 32 true 35 (.fad (.t 34) 0), zw 32 true 36 (.ld false 1 (.t 35)), ⟨some (32, true), some 37, .call (.c (.fn 66 [] [])) [((.t 36), .id), ((.c (.str [32, 45, 62, 32])), .id)]⟩, zw 32 true 38 (.un .not (.t 37)), zv 39 (.pick (.t 32) (.t 38) (.c (.bool false))), zm 40 39, zw 40 true 41 (.ld false 1 (.t 1)), ⟨some (40, true), some 42, .call (.c (.fn 67 [] [])) [((.t 41), .id), ((.c (.str [32])), .id)]⟩, zv 43 (.pick (.t 40) (.t 42) (.c (.bool false)))]
def qzq : IC := .drw [zp (zv 44 (.fad (.t 3) 2)), zp (zv 45 (.ld false 1 (.t 44))), (zi 46 (.call (.c (.fn 68 [] [])) [((.t 45), (.sl 3))]), []), (zv 47 (.ld false 1 (.t 1)), [2]), (zi 48 (.call (.c (.fn 65 [] [])) [((.t 47), .id)]), []), (zv 49 (.bsl 3 [((.t 48), (.agg [.id, .id, (.sl 3)]))]), []), (zi 50 (.app 3 (.agg [(.str []), (.int .i64 0), .nils]) 48 (.sl 3) (.t 46) (.t 49)), []), zp (zv 51 (.fad (.t 3) 2)), (zn (.st 1 (.sl 3) (.t 51) (.t 50)), [])]
def qmk : IC := (.seq (.seq q8o (.cond (.t 43) .skip (.exit 0))) (.block 1 qzq))
def qyr : IC := zr [zv 52 (.ld false 1 (.t 1)), zv 53 (.nck (.t 52)), zv 54 (.fad (.t 53) 2), zv 55 (.ld false 1 (.t 54)), zv 56 (.un .not (.t 55)), zm 57 56, zw 57 true 58 (.ld false 1 (.t 1)), ⟨some (57, true), some 59, .call (.c (.fn 67 [] [])) [((.t 58), .id), ((.c (.str [32, 45, 62, 32])), .id)]⟩, zv 60 (.pick (.t 57) (.t 59) (.c (.bool false)))]
def q0q : IC := .drw [zp (zv 61 (.ld true 3 (.t 3))), zp (zv 62 (.ld false 1 (.t 1))), (zi 63 (.call (.c (.fn 42 [] [])) [((.t 62), .id)]), [0]), (zv 64 (.bsl 3 [((.t 61), (.agg [.id, .id, (.sl 3)])), ((.t 63), (.agg [.id, .id, (.sl 3)]))]), []), (zv 65 (.bld [(.str []), (.int .i64 0), .nils] [(0, 1, (.c (.str [45, 62]))), (2, 1, (.t 64))]), []), (zn (.st 3 (.agg [.id, .id, (.sl 3)]) (.t 2) (.t 65)), [])]
def q1k : IC := zr [zv 66 (.ld true 3 (.t 3)), zn (.st 3 (.agg [.id, .id, (.sl 3)]) (.t 2) (.t 66))]
def k0cy : IC := (.seq qbi7 (.seq (.seq qbfl (.seq qbcf (.cond (.t 15) qbay .skip))) (.seq q70 (.seq (.seq qbcm (.cond (.t 23) (.seq qbaq .ret) .skip)) (.seq qbag (.seq (.block 0 (.loop qmk)) (.seq (.seq qyr (.cond (.t 60) (.seq q0q .ret) .skip)) (.seq q1k .ret))))))))
@[go_sem] def s0cy : List (RV × Co) := [(.c true 3 2, (.agg [.id, .id, (.sl 3)]))]
theorem c0cy : cFun Tryz.prog 42 = some (67, k0cy, s0cy) := by kernel_rfl

def qbhf : IC := zr [zv 2 zf]
def q7e : IC := zr [zm 3 0, zv 4 (.bin .geq .no (.t 3) (.c (.int .u8 65))), zm 5 4, zw 5 true 6 (.mov (.t 0)), zw 5 true 7 (.bin .leq .no (.t 6) (.c (.int .u8 90))), zv 8 (.pick (.t 5) (.t 7) (.c (.bool false))), zm 2 8]
def k0bf : IC := (.seq qbhf (.seq q7e .ret))
@[go_sem] def s0bf : List (RV × Co) := [(.t 2, .id)]
theorem c0bf : cFun Tryz.prog 43 = some (9, k0bf, s0bf) := by kernel_rfl

def qbc3 : IC := zr [zv 2 zf]
def qbei : IC := zr [zm 5 0, zv 6 (.len true (.t 5)), zv 7 (.mov (zc 0))]
def qbcj : IC := zr [zv 8 (.bin .lss .no (.t 7) (.t 6))]
def q9d : IC := zr [zm 9 7, zm 3 9]
def qbh3 : IC := zr [zm 10 0, zm 11 3, zv 12 (.idx (.t 10) (.t 11)), zm 4 12]
def qbkb : IC := zr [zm 13 4, zi 14 (.call (.c (.fn 69 [] [])) [((.t 13), .id)]), zv 15 (.un .not (.t 14)), zm 16 15, zw 16 true 17 (.mov (.t 4)), ⟨some (16, true), some 18, .call (.c (.fn 43 [] [])) [((.t 17), .id)]⟩, zw 16 true 19 (.un .not (.t 18)), zv 20 (.pick (.t 16) (.t 19) (.c (.bool false))), zm 21 20, zw 21 true 22 (.mov (.t 4)), zw 21 true 23 (.bin .lss .no (.t 22) (.c (.int .u8 48))), zw 21 true 24 (.mov (.t 23)), zw 24 false 25 (.mov (.t 4)), zw 24 false 26 (.bin .gtr .no (.t 25) (.c (.int .u8 57))), zw 21 true 27 (.pick (.t 24) (.c (.bool true)) (.t 26)), zv 28 (.pick (.t 21) (.t 27) (.c (.bool false))), zm 29 28, zw 29 true 30 (.mov (.t 4)), zw 29 true 31 (.bin .neq .no (.t 30) (.c (.int .u8 39))), zv 32 (.pick (.t 29) (.t 31) (.c (.bool false)))]
def qbea : IC := zr [zv 2 zf]
def q5n : IC := zr [zv 33 (.bin .add .no (.t 7) (zc 1)), zm 7 33]
def qbe7 : IC := (.seq qbcj (.seq (.cond (.t 8) .skip (.exit 0)) (.seq (.block 1 (.seq q9d (.seq qbh3 (.seq qbkb (.cond (.t 32) (.seq qbea .ret) .skip))))) q5n)))
def q09 : IC := zr [zv 2 (.mov (.c (.bool true)))]
def k0bj : IC := (.seq qbc3 (.seq (.seq qbei (.block 0 (.loop qbe7))) (.seq q09 .ret)))
@[go_sem] def s0bj : List (RV × Co) := [(.t 2, .id)]
theorem c0bj : cFun Tryz.prog 44 = some (34, k0bj, s0bj) := by kernel_rfl

def qbiq : IC := zr [zv 2 zf]
def qbiw : IC := zr [zm 3 0, zv 4 (.bin .geq .no (.t 3) (.c (.int .u8 65))), zm 5 4, zw 5 true 6 (.mov (.t 0)), zw 5 true 7 (.bin .leq .no (.t 6) (.c (.int .u8 90))), zv 8 (.pick (.t 5) (.t 7) (.c (.bool false))), zm 2 8]
def k0bg : IC := (.seq qbiq (.seq qbiw .ret))
@[go_sem] def s0bg : List (RV × Co) := [(.t 2, .id)]
theorem c0bg : cFun Tryz.prog 45 = some (9, k0bg, s0bg) := by kernel_rfl

def qbiz : IC := zr [zv 2 zf]
def qbfc : IC := zr [zv 3 (.mov (zc 1))]
def q7c : IC := zr [zm 4 3, zm 5 0, zv 6 (.len true (.t 5)), zv 7 (.bin .lss .no (.t 4) (.t 6))]
def q5v : IC := zr [zm 10 0, zm 11 3, zv 12 (.idx (.t 10) (.t 11)), zi 13 (.call (.c (.fn 70 [] [])) [((.t 12), .id)]), zv 14 (.un .not (.t 13))]
def q8s : IC := zr [zv 2 zf]
def qbci : IC := zr [zm 8 3, zv 9 (.bin .add .no (.t 8) (zc 1)), zm 3 9]
def qbbq : IC := (.seq (.seq q7c (.cond (.t 7) .skip (.exit 0))) (.seq (.block 1 (.seq q5v (.cond (.t 14) (.seq q8s .ret) .skip))) qbci))
def qbiu : IC := zr [zv 2 (.mov (.c (.bool true)))]
def k0bk : IC := (.seq qbiz (.seq (.seq qbfc (.block 0 (.loop qbbq))) (.seq qbiu .ret)))
@[go_sem] def s0bk : List (RV × Co) := [(.t 2, .id)]
theorem c0bk : cFun Tryz.prog 46 = some (15, k0bk, s0bk) := by kernel_rfl

def qbpl : IC := zr [zi 1 (.box (.t 0)), zv 2 zf]
def qbo8 : IC := zr [zi 3 (.alo [(.int .i64 0)]), zn (.st 1 .id (.t 3) (zc 0))]
def qbl5 : IC := zr [zv 4 (.ld true 3 (.t 1)), zv 5 (.mfn 72 [] [(.t 3)]), zi 6 (.call (.c (.fn 71 [] [])) [((.t 4), (.agg [.id, .id, (.sl 3)])), ((zc 1), .id), ((.t 5), .id)]), zm 2 6]
def k0j : IC := (.seq qbpl (.seq qbo8 (.seq qbl5 .ret)))
@[go_sem] def s0j : List (RV × Co) := [(.t 2, .id)]
theorem c0j : cFun Tryz.prog 47 = some (7, k0j, s0j) := by kernel_rfl

def qblp : IC := zr [zi 1 (.box (.t 0)), zv 2 (.mov (.c (.str [])))]
def qbnx : IC := zr [zv 6 (.fad (.t 1) 0), zv 7 (.ld false 1 (.t 6)), zv 8 (.bin .eql .no (.t 7) (.c (.str [45, 62])))]
def qbk4 : IC := .drw [zp (zv 9 (.fad (.t 1) 2)), zp (zv 10 (.ld false 1 (.t 9))), zp (zv 11 (.iad 3 (.t 10) (zc 0))), zp (zv 12 (.ld true 3 (.t 11))), zp (zv 13 (.fad (.t 1) 2)), zp (zv 14 (.ld false 1 (.t 13))), zp (zv 15 (.iad 3 (.t 14) (zc 0))), zp (zv 16 (.fad (.t 15) 0)), zp (zv 17 (.ld false 1 (.t 16))), (zv 18 (.bin .eql .no (.t 17) (.c (.str [45, 62]))), []), (zi 19 (.call (.c (.fn 75 [] [])) [((.t 12), (.agg [.id, .id, (.sl 3)])), ((.t 18), .id)]), []), (zv 20 (.bin .add .no (.t 19) (.c (.str [32, 45, 62, 32]))), []), zp (zv 21 (.fad (.t 1) 2)), (zv 22 (.ld false 1 (.t 21)), [10]), zp (zv 23 (.iad 3 (.t 22) (zc 1))), (zv 24 (.ld true 3 (.t 23)), [10]), (zi 25 (.call (.c (.fn 48 [] [])) [((.t 24), (.agg [.id, .id, (.sl 3)]))]), []), zp (zv 26 (.bin .add .no (.t 20) (.t 25))), zp (zm 2 26)]
def qbne : IC := zr [zi 3 (.bld 104 5)]
def qbmh : IC := zr [zv 27 (.ld true 3 (.t 1)), zi 28 (.call (.c (.fn 73 [] [])) [((.t 27), (.agg [.id, .id, (.sl 3)]))]), zi 29 (.call (.c (.fn 77 [] [])) [((.t 28), .id)]), zi 30 (.call (.c (.fn 76 [] [])) [((.t 3), (.agg [.id, (.sl 1)])), ((.t 29), .id)])]
def qbo6 : IC := zr [zv 31 (.fad (.t 1) 2), zv 32 (.ld false 1 (.t 31)), zv 33 (.len false (.t 32)), zv 34 (.mov (zc 0))]
def qblk : IC := zr [zv 35 (.bin .lss .no (.t 34) (.t 33))]
def qbpo : IC := zr [zv 36 (.iad 3 (.t 32) (.t 34)), zv 37 (.ld true 3 (.t 36)), zi 5 (.alo [(.str []), (.int .i64 0), .nils]), zn (.st 3 (.agg [.id, .id, (.sl 3)]) (.t 5) (.t 37))]
def qbrs : IC := zr [zv 38 (.ld true 3 (.t 5)), zv 39 (.fad (.t 5) 2), zv 40 (.ld false 1 (.t 39)), zv 41 (.len false (.t 40)), zv 42 (.bin .gtr .no (.t 41) (zc 0)), zi 43 (.call (.c (.fn 75 [] [])) [((.t 38), (.agg [.id, .id, (.sl 3)])), ((.t 42), .id)]), zv 44 (.bin .add .no (.c (.str [32])) (.t 43)), zi 45 (.call (.c (.fn 76 [] [])) [((.t 3), (.agg [.id, (.sl 1)])), ((.t 44), .id)])]
def q9y : IC := zr [zv 46 (.bin .add .no (.t 34) (zc 1)), zm 34 46]
def qbm5 : IC := (.seq qblk (.seq (.cond (.t 35) .skip (.exit 0)) (.seq (.block 1 (.seq qbpo qbrs)) q9y)))
def qbgp : IC := zr [zi 47 (.call (.c (.fn 78 [] [])) [((.t 3), (.agg [.id, (.sl 1)]))]), zm 2 47]
def k0c : IC := (.seq qblp (.seq (.seq qbnx (.cond (.t 8) (.seq qbk4 .ret) .skip)) (.seq qbne (.seq qbmh (.seq (.seq qbo6 (.block 0 (.loop qbm5))) (.seq qbgp .ret))))))
@[go_sem] def s0c : List (RV × Co) := [(.t 2, .id)]
theorem c0c : cFun Tryz.prog 48 = some (48, k0c, s0c) := by kernel_rfl

def qbhx : IC := zr [zi 1 (.box (.t 0)), zv 2 zf]
def qbje : IC := zr [zv 3 (.fad (.t 1) 0), zv 4 (.ld false 1 (.t 3)), zi 5 (.call (.c (.fn 25 [] [])) [((.t 4), .id)]), zm 6 5, zw 6 true 7 (.fad (.t 1) 1), zw 6 true 8 (.ld true 3 (.t 7)), ⟨some (6, true), some 9, .call (.c (.fn 47 [] [])) [((.t 8), (.agg [.id, .id, (.sl 3)]))]⟩, zv 10 (.pick (.t 6) (.t 9) (.c (.bool false))), zm 2 10]
def k0bw : IC := (.seq qbhx (.seq qbje .ret))
@[go_sem] def s0bw : List (RV × Co) := [(.t 2, .id)]
theorem c0bw : cFun Tryz.prog 49 = some (11, k0bw, s0bw) := by kernel_rfl

def qbh0 : IC := zr [zi 1 (.box (.t 0)), zv 2 (.mov (.c (.str [])))]
def qbkf : IC := zr [zv 4 (.fad (.t 1) 1), zv 5 (.ld true 3 (.t 4)), zi 6 (.call (.c (.fn 28 [] [])) [((.t 5), (.agg [.id, .id, (.sl 3)]))]), zm 3 6]
def qba7 : IC := zr [zv 7 (.fad (.t 1) 1), zv 8 (.fad (.t 7) 2), zv 9 (.ld false 1 (.t 8)), zv 10 (.len false (.t 9)), zv 11 (.bin .gtr .no (.t 10) (zc 0))]
def qbj7 : IC := zr [zm 12 3, zv 13 (.bin .add .no (.c (.str [40])) (.t 12)), zv 14 (.bin .add .no (.t 13) (.c (.str [41]))), zm 3 14]
def qbh4 : IC := zr [zv 15 (.fad (.t 1) 0), zv 16 (.ld false 1 (.t 15)), zv 17 (.bin .add .no (.t 16) (.c (.str [32]))), zm 18 3, zv 19 (.bin .add .no (.t 17) (.t 18)), zm 2 19]
def k0bt : IC := (.seq qbh0 (.seq qbkf (.seq (.seq qba7 (.cond (.t 11) qbj7 .skip)) (.seq qbh4 .ret))))
@[go_sem] def s0bt : List (RV × Co) := [(.t 2, .id)]
theorem c0bt : cFun Tryz.prog 50 = some (20, k0bt, s0bt) := by kernel_rfl

def q6g : IC := zr [zv 2 zf]
def qbc9 : IC := zr [zv 3 (.mov (zc 0))]
def qbhw : IC := zr [zm 4 3, zm 5 0, zv 6 (.len false (.t 5)), zv 7 (.bin .lss .no (.t 4) (.t 6))]
def qbj4 : IC := zr [zm 10 0, zm 11 3, zv 12 (.iad 4 (.t 10) (.t 11)), zv 13 (.ld true 4 (.t 12)), zi 14 (.call (.c (.fn 80 [] [])) [((.t 13), (.agg [.id, .id, .id, (.sl 3)]))]), zv 15 (.un .not (.t 14))]
def q5y : IC := zr [zv 2 zf]
def q9e : IC := zr [zm 8 3, zv 9 (.bin .add .no (.t 8) (zc 1)), zm 3 9]
def q5r : IC := (.seq (.seq qbhw (.cond (.t 7) .skip (.exit 0))) (.seq (.block 1 (.seq qbj4 (.cond (.t 15) (.seq q5y .ret) .skip))) q9e))
def q45 : IC := zr [zv 2 (.mov (.c (.bool true)))]
def k0by : IC := (.seq q6g (.seq (.seq qbc9 (.block 0 (.loop q5r))) (.seq q45 .ret)))
@[go_sem] def s0by : List (RV × Co) := [(.t 2, .id)]
theorem c0by : cFun Tryz.prog 52 = some (16, k0by, s0by) := by kernel_rfl

def qbqu : IC := zr [zi 1 (.box (.t 0)), zv 2 (.mov (.c (.str [])))]
def qboq : IC := zr [zv 7 (.fad (.t 1) 0), zv 8 (.ld false 1 (.t 7)), zv 9 (.bin .eql .no (.t 8) (.c (.str []))), zm 10 9, zw 10 true 11 (.fad (.t 1) 1), zw 10 true 12 (.ld false 1 (.t 11)), zw 10 true 13 (.bin .geq .no (.t 12) (zc 0)), zv 14 (.pick (.t 10) (.t 13) (.c (.bool false))), zm 6 14]
def qboh : IC := zr [zv 15 (.fad (.t 1) 1), zv 16 (.ld false 1 (.t 15)), zi 17 (.call (.c (.fn 81 [] [])) [((.t 16), .id)]), zm 2 17]
def qbog : IC := zr [zv 19 (.fad (.t 1) 0), zv 20 (.ld false 1 (.t 19)), zv 21 (.bin .eql .no (.t 20) (.c (.str []))), zm 18 21]
def qbn2 : IC := zr [zv 22 (.fad (.t 1) 1), zv 23 (.ld false 1 (.t 22)), zv 24 (.bin .sub .no (zc (-1)) (.t 23)), zi 25 (.call (.c (.fn 82 [] [])) [((.t 24), .id)]), zv 26 (.bin .add .no (.c (.str [63])) (.t 25)), zm 2 26]
def qbqp : IC := zr [zv 28 (.fad (.t 1) 0), zv 29 (.ld false 1 (.t 28)), zv 30 (.bin .eql .no (.t 29) (.c (.str [45, 62]))), zm 27 30]
def qbm7 : IC := zr [zv 31 (.fad (.t 1) 2), zv 32 (.ld false 1 (.t 31)), zv 33 (.iad 3 (.t 32) (zc 0)), zv 34 (.ld true 3 (.t 33)), zi 35 (.call (.c (.fn 53 [] [])) [((.t 34), (.agg [.id, .id, (.sl 3)]))]), zm 3 35]
def qbr5 : IC := zr [zv 36 (.fad (.t 1) 2), zv 37 (.ld false 1 (.t 36)), zv 38 (.iad 3 (.t 37) (zc 0)), zv 39 (.fad (.t 38) 0), zv 40 (.ld false 1 (.t 39)), zv 41 (.bin .eql .no (.t 40) (.c (.str [45, 62])))]
def qbpu : IC := zr [zm 42 3, zv 43 (.bin .add .no (.c (.str [40])) (.t 42)), zv 44 (.bin .add .no (.t 43) (.c (.str [41]))), zm 3 44]
def qbl8 : IC := zr [zm 45 3, zv 46 (.bin .add .no (.t 45) (.c (.str [32, 45, 62, 32]))), zv 47 (.fad (.t 1) 2), zv 48 (.ld false 1 (.t 47)), zv 49 (.iad 3 (.t 48) (zc 1)), zv 50 (.ld true 3 (.t 49)), zi 51 (.call (.c (.fn 53 [] [])) [((.t 50), (.agg [.id, .id, (.sl 3)]))]), zv 52 (.bin .add .no (.t 46) (.t 51)), zm 2 52]
def qbb5 : IC := zr [zv 53 (.fad (.t 1) 0), zv 54 (.ld false 1 (.t 53)), zm 4 54]
def qbjm : IC := zr [zv 5 (.mov (zc 0))]
def q97 : IC := zr [zm 55 5, zv 56 (.fad (.t 1) 2), zv 57 (.ld false 1 (.t 56)), zv 58 (.len false (.t 57)), zv 59 (.bin .lss .no (.t 55) (.t 58))]
def qbas : IC := zr [zm 62 4, zv 63 (.fad (.t 1) 2), zv 64 (.ld false 1 (.t 63)), zm 65 5, zv 66 (.iad 3 (.t 64) (.t 65)), zv 67 (.ld true 3 (.t 66)), zi 68 (.call (.c (.fn 31 [] [])) [((.t 67), (.agg [.id, .id, (.sl 3)]))]), zv 69 (.bin .add .no (.c (.str [32])) (.t 68)), zv 70 (.bin .add .no (.t 62) (.t 69)), zm 4 70]
def q8l : IC := zr [zm 60 5, zv 61 (.bin .add .no (.t 60) (zc 1)), zm 5 61]
def qbbk : IC := (.seq (.seq q97 (.cond (.t 59) .skip (.exit 1))) (.seq (.block 2 qbas) q8l))
def qbfx : IC := zr [zm 71 4, zm 2 71]
def k0f : IC := (.seq qbqu (.seq (.block 0 (.seq qboq (.cond (.t 6) (.seq qboh .ret) (.seq qbog (.cond (.t 18) (.seq qbn2 .ret) (.seq qbqp (.cond (.t 27) (.seq qbm7 (.seq (.seq qbr5 (.cond (.t 41) qbpu .skip)) (.seq qbl8 .ret))) .skip))))))) (.seq qbb5 (.seq (.seq qbjm (.block 1 (.loop qbbk))) (.seq qbfx .ret)))))
@[go_sem] def s0f : List (RV × Co) := [(.t 2, .id)]
theorem c0f : cFun Tryz.prog 53 = some (72, k0f, s0f) := by kernel_rfl

def qbpk : IC := zr [zi 3 (.box (.t 0)), zv 6 (.mov (zc 0))]
def qbph : IC := zr [zm 8 1, zv 9 (.bin .sub .no (.t 8) (zc 1)), zm 1 9]
def qbl4 : IC := zr [zm 10 2, zv 11 (.bin .lss .no (.t 10) (zc 1))]
def qbln : IC := zr [zv 6 (.mov (zc (-1)))]
def qbro : IC := zr [zv 7 (.mov (zc 0))]
def qbqz : IC := zr [zm 12 7, zv 13 (.fad (.t 3) 2), zv 14 (.ld false 1 (.t 13)), zv 15 (.len false (.t 14)), zv 16 (.bin .lss .no (.t 12) (.t 15)), zm 17 16, zw 17 true 18 (.mov (.t 1)), zw 17 true 19 (.bin .geq .no (.t 18) (zc 0)), zv 20 (.pick (.t 17) (.t 19) (.c (.bool false)))]
def qbox : IC := zr [zv 23 (.fad (.t 3) 2), zv 24 (.ld false 1 (.t 23)), zm 25 7, zv 26 (.iad 3 (.t 24) (.t 25)), zv 27 (.ld true 3 (.t 26)), zm 28 1, zm 29 2, zv 30 (.bin .sub .no (.t 29) (zc 1)), zi 31 (.call (.c (.fn 54 [] [])) [((.t 27), (.agg [.id, .id, (.sl 3)])), ((.t 28), .id), ((.t 30), .id)]), zm 1 31]
def qbps : IC := zr [zm 21 7, zv 22 (.bin .add .no (.t 21) (zc 1)), zm 7 22]
def qbqa : IC := (.seq (.seq qbqz (.cond (.t 20) .skip (.exit 0))) (.seq (.block 1 qbox) qbps))
def qbes : IC := zr [zm 32 1, zm 6 32]
def k0p : IC := (.seq qbpk (.seq qbph (.seq (.seq qbl4 (.cond (.t 11) (.seq qbln .ret) .skip)) (.seq (.seq qbro (.block 0 (.loop qbqa))) (.seq qbes .ret)))))
@[go_sem] def s0p : List (RV × Co) := [(.t 6, .id)]
theorem c0p : cFun Tryz.prog 54 = some (33, k0p, s0p) := by kernel_rfl

def qbjk : IC := zr [zv 4 (.mov (zc 0)), zv 5 zf]
def q7b : IC := zr [zm 6 0, zv 7 (.nck (.t 6)), zv 8 (.fad (.t 7) 0), zv 9 (.ld false 1 (.t 8)), zm 10 1, zi 11 (.call (.c (.fn 83 [] [])) [((.t 9), (.sl 4)), ((.t 10), .id), ((.c (.fn 84 [] [])), .id)]), zv 12 (.ext (.t 11) 0), zv 13 (.ext (.t 11) 1), zm 4 12, zm 5 13]
def k0cr : IC := (.seq qbjk (.seq q7b .ret))
@[go_sem] def s0cr : List (RV × Co) := [(.t 4, .id), (.t 5, .id)]
theorem c0cr : cFun Tryz.prog 55 = some (14, k0cr, s0cr) := by kernel_rfl

def qbf4 : IC := zr [zi 1 (.box (.t 0)), zi 2 (.alo [(.str []), (.int .i64 0), .nils])]
def qbdf : IC := zr [zv 6 (.fad (.t 1) 2), zv 7 (.ld false 1 (.t 6)), zv 8 (.len false (.t 7)), zi 9 (.mks 3 (.agg [(.str []), (.int .i64 0), .nils]) 48 (.t 8) (.t 8)), zm 3 9]
def q61 : IC := zr [zv 10 (.fad (.t 1) 2), zv 11 (.ld false 1 (.t 10)), zv 12 (.len false (.t 11)), zv 13 (.mov (zc 0))]
def q9k : IC := zr [zv 14 (.bin .lss .no (.t 13) (.t 12))]
def qbbz : IC := zr [zm 15 13, zv 16 (.iad 3 (.t 11) (.t 13)), zv 17 (.ld true 3 (.t 16)), zi 5 (.alo [(.str []), (.int .i64 0), .nils]), zm 4 15, zn (.st 3 (.agg [.id, .id, (.sl 3)]) (.t 5) (.t 17))]
def qbeu : IC := zr [zm 18 3, zm 19 4, zv 20 (.ld true 3 (.t 5)), zi 21 (.call (.c (.fn 57 [] [])) [((.t 20), (.agg [.id, .id, (.sl 3)]))]), zv 22 (.iad 3 (.t 18) (.t 19)), zn (.st 3 (.agg [.id, .id, (.sl 3)]) (.t 22) (.t 21))]
def qbex : IC := zr [zv 23 (.bin .add .no (.t 13) (zc 1)), zm 13 23]
def qbb4 : IC := (.seq q9k (.seq (.cond (.t 14) .skip (.exit 0)) (.seq (.block 1 (.seq qbbz qbeu)) qbex)))
def qbhe : IC := zr [zm 24 3, zv 25 (.fad (.t 1) 2), zn (.st 1 (.sl 3) (.t 25) (.t 24))]
def q2h : IC := zr [zv 26 (.ld true 3 (.t 1)), zn (.st 3 (.agg [.id, .id, (.sl 3)]) (.t 2) (.t 26))]
def k0ct : IC := (.seq qbf4 (.seq qbdf (.seq (.seq q61 (.block 0 (.loop qbb4))) (.seq qbhe (.seq q2h .ret)))))
@[go_sem] def s0ct : List (RV × Co) := [(.c true 3 2, (.agg [.id, .id, (.sl 3)]))]
theorem c0ct : cFun Tryz.prog 57 = some (27, k0ct, s0ct) := by kernel_rfl

def q51 : IC := zr [zi 3 (.box (.t 1)), zi 4 (.alo [(.str []), (.int .i64 0), .nils]), zv 5 (.mov (zc 0))]
def qbgt : IC := zr [zv 8 (.ld true 3 (.t 3)), zi 9 (.call (.c (.fn 47 [] [])) [((.t 8), (.agg [.id, .id, (.sl 3)]))]), zv 10 (.un .not (.t 9))]
def qbjz : IC := zr [zv 11 (.bld [(.str []), (.int .i64 0), .nils] []), zn (.st 3 (.agg [.id, .id, (.sl 3)]) (.t 4) (.t 11)), zv 5 (.mov (zc 1))]
def qbgk : IC := zr [zm 12 0, zv 13 (.bld [.nilp, (.int .i64 0)] [(0, 1, (.t 12)), (1, 1, (zc 4096))]), zi 14 (.box (.t 13)), zm 6 14]
def q67 : IC := zr [zm 15 6, zv 16 (.ld true 3 (.t 3)), zi 17 (.call (.c (.fn 87 [] [])) [((.t 15), .id), ((.t 16), (.agg [.id, .id, (.sl 3)])), ((zc 1), .id)]), zi 7 (.alo [(.str []), (.int .i64 0), .nils]), zn (.st 3 (.agg [.id, .id, (.sl 3)]) (.t 7) (.t 17))]
def qbi0 : IC := zr [zm 18 6, zv 19 (.nck (.t 18)), zv 20 (.fad (.t 19) 1), zv 21 (.ld false 1 (.t 20)), zv 22 (.bin .lss .no (.t 21) (zc 0))]
def q5i : IC := zr [zv 23 (.bld [(.str []), (.int .i64 0), .nils] []), zn (.st 3 (.agg [.id, .id, (.sl 3)]) (.t 4) (.t 23)), zv 5 (.mov (zc 2))]
def qbe5 : IC := zr [zv 24 (.ld true 3 (.t 7)), zn (.st 3 (.agg [.id, .id, (.sl 3)]) (.t 4) (.t 24)), zv 5 (.mov (zc 0))]
def k0cl : IC := (.seq q51 (.seq (.seq qbgt (.cond (.t 10) (.seq qbjz .ret) .skip)) (.seq qbgk (.seq q67 (.seq (.seq qbi0 (.cond (.t 22) (.seq q5i .ret) .skip)) (.seq qbe5 .ret))))))
@[go_sem] def s0cl : List (RV × Co) := [(.c true 3 4, (.agg [.id, .id, (.sl 3)])), (.t 5, .id)]
theorem c0cl : cFun Tryz.prog 58 = some (25, k0cl, s0cl) := by kernel_rfl

def q60 : IC := zr [zv 4 (.mov (.c .nils)), zv 5 (.mov (zc 0))]
def qbji : IC := zr [zv 6 (.mov (.c .nils))]
def q6y : IC := zr [zv 7 (.mov (zc 0))]
def q8d : IC := zr [zm 10 7, zm 11 1, zv 12 (.len false (.t 11)), zv 13 (.bin .lss .no (.t 10) (.t 12))]
def qbdc : IC := zr [zm 17 0, zm 18 1, zm 19 7, zv 20 (.iad 4 (.t 18) (.t 19)), zv 21 (.fad (.t 20) 1), zv 22 (.ld true 3 (.t 21)), zi 23 (.call (.c (.fn 89 [] [])) [((.t 17), (.sl 4)), ((.t 22), (.agg [.id, .id, (.sl 3)]))]), zm 16 23, zv 24 (.ext (.t 16) 0), zv 25 (.ext (.t 16) 1), zi 8 (.alo [(.str []), (.int .i64 0), .nils]), zn (.st 3 (.agg [.id, .id, (.sl 3)]) (.t 8) (.t 24)), zm 9 25]
def qbc0 : IC := zr [zm 26 9, zv 27 (.bin .neq .no (.t 26) (zc 0))]
def qbju : IC := zr [zm 28 9, zv 4 (.mov (.c .nils)), zm 5 28]
def q5f : IC := .drw [zp (zm 29 6), zp (zm 30 1), zp (zm 31 7), zp (zv 32 (.iad 4 (.t 30) (.t 31))), zp (zv 33 (.fad (.t 32) 0)), zp (zv 34 (.ld false 1 (.t 33))), zp (zv 35 (.ld true 3 (.t 8))), (zv 36 (.bld [(.str []), (.str []), (.int .i64 0), .nils] [(0, 1, (.t 34)), (1, 3, (.t 35))]), []), (zv 37 (.bsl 4 [((.t 36), (.agg [.id, .id, .id, (.sl 3)]))]), []), (zi 38 (.app 4 (.agg [(.str []), (.str []), (.int .i64 0), .nils]) 64 (.sl 4) (.t 29) (.t 37)), []), zp (zm 6 38)]
def qbbr : IC := zr [zm 14 7, zv 15 (.bin .add .no (.t 14) (zc 1)), zm 7 15]
def qbgg : IC := (.seq (.seq q8d (.cond (.t 13) .skip (.exit 0))) (.seq (.block 1 (.seq qbdc (.seq (.seq qbc0 (.cond (.t 27) (.seq qbju .ret) .skip)) q5f))) qbbr))
def q2g : IC := zr [zm 39 6, zm 4 39, zv 5 (.mov (zc 0))]
def k0cj : IC := (.seq q60 (.seq qbji (.seq (.seq q6y (.block 0 (.loop qbgg))) (.seq q2g .ret))))
@[go_sem] def s0cj : List (RV × Co) := [(.t 4, (.sl 4)), (.t 5, .id)]
theorem c0cj : cFun Tryz.prog 60 = some (40, k0cj, s0cj) := by kernel_rfl

def qbmj : IC := zr [zi 2 (.box (.t 0)), zi 3 (.box (.t 1)), zv 4 zf]
def qbrg : IC := zr [zv 6 (.fad (.t 2) 0), zv 7 (.ld false 1 (.t 6)), zv 8 (.fad (.t 3) 0), zv 9 (.ld false 1 (.t 8)), zv 10 (.bin .neq .no (.t 7) (.t 9)), zm 11 10, zw 11 false 12 (.fad (.t 2) 1), zw 11 false 13 (.ld false 1 (.t 12)), zw 11 false 14 (.fad (.t 3) 1), zw 11 false 15 (.ld false 1 (.t 14)), zw 11 false 16 (.bin .neq .no (.t 13) (.t 15)), zv 17 (.pick (.t 11) (.c (.bool true)) (.t 16)), zm 18 17, zw 18 false 19 (.fad (.t 2) 2), zw 18 false 20 (.ld false 1 (.t 19)), zw 18 false 21 (.len false (.t 20)), zw 18 false 22 (.fad (.t 3) 2), zw 18 false 23 (.ld false 1 (.t 22)), zw 18 false 24 (.len false (.t 23)), zw 18 false 25 (.bin .neq .no (.t 21) (.t 24)), zv 26 (.pick (.t 18) (.c (.bool true)) (.t 25))]
def qbl2 : IC := zr [zv 4 zf]
def qblq : IC := zr [zv 5 (.mov (zc 0))]
def qbpg : IC := zr [zm 27 5, zv 28 (.fad (.t 2) 2), zv 29 (.ld false 1 (.t 28)), zv 30 (.len false (.t 29)), zv 31 (.bin .lss .no (.t 27) (.t 30))]
def qbqx : IC := .drw [zp (zv 34 (.fad (.t 2) 2)), zp (zv 35 (.ld false 1 (.t 34))), zp (zm 36 5), zp (zv 37 (.iad 3 (.t 35) (.t 36))), zp (zv 38 (.ld true 3 (.t 37))), zp (zv 39 (.fad (.t 3) 2)), zp (zv 40 (.ld false 1 (.t 39))), zp (zm 41 5), zp (zv 42 (.iad 3 (.t 40) (.t 41))), zp (zv 43 (.ld true 3 (.t 42))), (zi 44 (.call (.c (.fn 61 [] [])) [((.t 38), (.agg [.id, .id, (.sl 3)])), ((.t 43), (.agg [.id, .id, (.sl 3)]))]), []), zp (zv 45 (.un .not (.t 44)))]
def qbq1 : IC := zr [zv 4 zf]
def qble : IC := zr [zm 32 5, zv 33 (.bin .add .no (.t 32) (zc 1)), zm 5 33]
def qbp8 : IC := (.seq (.seq qbpg (.cond (.t 31) .skip (.exit 0))) (.seq (.block 1 (.seq qbqx (.cond (.t 45) (.seq qbq1 .ret) .skip))) qble))
def qbhz : IC := zr [zv 4 (.mov (.c (.bool true)))]
def k0u : IC := (.seq qbmj (.seq (.seq qbrg (.cond (.t 26) (.seq qbl2 .ret) .skip)) (.seq (.seq qblq (.block 0 (.loop qbp8))) (.seq qbhz .ret))))
@[go_sem] def s0u : List (RV × Co) := [(.t 4, .id)]
theorem c0u : cFun Tryz.prog 61 = some (46, k0u, s0u) := by kernel_rfl

def qbnr : IC := zr [zv 2 zf]
def qbqm : IC := zr [zm 5 0, zv 6 (.bin .eql .no (.t 5) (.c (.str []))), zm 7 6, zw 7 false 8 (.mov (.t 0)), zw 7 false 9 (.idx (.t 8) (zc 0)), zw 7 false 10 (.bin .neq .no (.t 9) (.c (.int .u8 33))), zv 11 (.pick (.t 7) (.c (.bool true)) (.t 10))]
def qbo3 : IC := zr [zv 2 zf]
def qbmv : IC := zr [zm 13 0, zv 14 (.sls (.t 13) (some (zc 1)) none), zi 15 (.call (.c (.fn 90 [] [])) [((.t 14), .id)]), zm 12 15, zv 16 (.ext (.t 12) 0), zv 17 (.ext (.t 12) 1), zm 3 16, zm 4 17]
def qbll : IC := .drw [zp (zm 18 4), zp (zv 19 (.bin .eql .no (.t 18) (zc 0))), zp (zm 20 19), zp (zw 20 true 21 (.mov (.t 3))), (⟨some (20, true), some 22, .call (.c (.fn 82 [] [])) [((.t 21), .id)]⟩, []), zp (zw 20 true 23 (.mov (.t 0))), zp (zw 20 true 24 (.sls (.t 23) (some (zc 1)) none)), zp (zw 20 true 25 (.bin .eql .no (.t 22) (.t 24))), zp (zv 26 (.pick (.t 20) (.t 25) (.c (.bool false)))), zp (zm 2 26)]
def k0w : IC := (.seq qbnr (.seq (.seq qbqm (.cond (.t 11) (.seq qbo3 .ret) .skip)) (.seq qbmv (.seq qbll .ret))))
@[go_sem] def s0w : List (RV × Co) := [(.t 2, .id)]
theorem c0w : cFun Tryz.prog 62 = some (27, k0w, s0w) := by kernel_rfl

def qbhv : IC := zr [zv 1 (.ld false 1 (.t 0)), zv 2 (.nck (.t 1)), zv 3 (.fad (.t 2) 1), zv 4 (.ld false 1 (.t 3)), zv 5 (.bin .sub .no (.t 4) (zc 1)), zv 6 (.nck (.t 1)), zv 7 (.fad (.t 6) 1), zn (.st 1 .id (.t 7) (.t 5))]
def k0da : IC := qbhv
@[go_sem] def s0da : List (RV × Co) := []
theorem c0da : cFun Tryz.prog 64 = some (8, k0da, s0da) := by kernel_rfl

def q46 : IC := zr [zi 2 (.alo [(.str []), (.int .i64 0), .nils])]
def qbgv : IC := zr [zm 6 0, zi 7 (.call (.c (.fn 67 [] [])) [((.t 6), .id), ((.c (.str [40])), .id)])]
def qbca : IC := zr [zm 8 0, zi 9 (.call (.c (.fn 42 [] [])) [((.t 8), .id)]), zi 3 (.alo [(.str []), (.int .i64 0), .nils]), zn (.st 3 (.agg [.id, .id, (.sl 3)]) (.t 3) (.t 9))]
def q6s : IC := zr [zm 10 0, zm 11 0, zv 12 (.nck (.t 11)), zv 13 (.fad (.t 12) 2), zv 14 (.ld false 1 (.t 13)), zm 15 14, zw 15 false 16 (.mov (.t 0)), ⟨some (15, false), some 17, .call (.c (.fn 67 [] [])) [((.t 16), .id), ((.c (.str [41])), .id)]⟩, zw 15 false 18 (.un .not (.t 17)), zv 19 (.pick (.t 15) (.c (.bool true)) (.t 18)), zv 20 (.nck (.t 10)), zv 21 (.fad (.t 20) 2), zn (.st 1 .id (.t 21) (.t 19))]
def qbhy : IC := zr [zv 22 (.ld true 3 (.t 3)), zn (.st 3 (.agg [.id, .id, (.sl 3)]) (.t 2) (.t 22))]
def qbhp : IC := zr [zm 23 0, zv 24 (.nck (.t 23)), zv 25 (.fad (.t 24) 0), zv 26 (.ld false 1 (.t 25)), zi 27 (.call (.c (.fn 95 [] [])) [((.t 26), .id), ((.c (.str [32, 40, 41])), .id)]), zm 4 27]
def qbap : IC := zr [zm 28 4, zv 29 (.bin .lss .no (.t 28) (zc 0))]
def q6x : IC := zr [zm 30 0, zv 31 (.nck (.t 30)), zv 32 (.fad (.t 31) 0), zv 33 (.ld false 1 (.t 32)), zv 34 (.len true (.t 33)), zm 4 34]
def q95 : IC := zr [zm 35 0, zv 36 (.nck (.t 35)), zv 37 (.fad (.t 36) 0), zv 38 (.ld false 1 (.t 37)), zm 39 4, zv 40 (.sls (.t 38) none (some (.t 39))), zi 41 (.call (.c (.fn 96 [] [])) [((.t 40), .id)]), zi 5 (.alo [(.str []), (.int .i64 0), .nils]), zn (.st 3 (.agg [.id, .id, (.sl 3)]) (.t 5) (.t 41))]
def qbdt : IC := .drw [zp (zm 42 0), zp (zm 43 0), zp (zm 44 0), zp (zv 45 (.nck (.t 44))), zp (zv 46 (.fad (.t 45) 0)), zp (zv 47 (.ld false 1 (.t 46))), zp (zm 48 4), zp (zv 49 (.sls (.t 47) (some (.t 48)) none)), zp (zm 50 0), zp (zv 51 (.nck (.t 50))), zp (zv 52 (.fad (.t 51) 2)), zp (zv 53 (.ld false 1 (.t 52))), zp (zm 54 53), zp (zw 54 false 55 (.mov (.t 4))), zp (zw 54 false 56 (.bin .eql .no (.t 55) (zc 0))), zp (zv 57 (.pick (.t 54) (.c (.bool true)) (.t 56))), zp (zv 58 (.nck (.t 42))), zp (zv 59 (.fad (.t 58) 0)), (zn (.st 1 .id (.t 59) (.t 49)), []), zp (zv 60 (.nck (.t 43))), zp (zv 61 (.fad (.t 60) 2)), (zn (.st 1 .id (.t 61) (.t 57)), [])]
def q0c : IC := zr [zv 62 (.ld true 3 (.t 5)), zn (.st 3 (.agg [.id, .id, (.sl 3)]) (.t 2) (.t 62))]
def k0db : IC := (.seq q46 (.seq (.seq qbgv (.cond (.t 7) (.seq qbca (.seq q6s (.seq qbhy .ret))) .skip)) (.seq qbhp (.seq (.seq qbap (.cond (.t 29) q6x .skip)) (.seq q95 (.seq qbdt (.seq q0c .ret)))))))
@[go_sem] def s0db : List (RV × Co) := [(.c true 3 2, (.agg [.id, .id, (.sl 3)]))]
theorem c0db : cFun Tryz.prog 65 = some (63, k0db, s0db) := by kernel_rfl

def qbgj : IC := zr [zv 4 zf]
def qbc6 : IC := zr [zm 5 0, zm 6 1, zi 7 (.call (.c (.fn 97 [] [])) [((.t 5), .id), ((.t 6), .id)]), zm 4 7]
def k0ba : IC := (.seq qbgj (.seq qbc6 .ret))
@[go_sem] def s0ba : List (RV × Co) := [(.t 4, .id)]
theorem c0ba : cFun Tryz.prog 66 = some (8, k0ba, s0ba) := by kernel_rfl

def qbit : IC := zr [zv 4 zf]
def qbe9 : IC := zr [zm 6 0, zv 7 (.nck (.t 6)), zv 8 (.fad (.t 7) 0), zv 9 (.ld false 1 (.t 8)), zm 10 1, zi 11 (.call (.c (.fn 66 [] [])) [((.t 9), .id), ((.t 10), .id)]), zm 5 11]
def qbkp : IC := zr [zm 12 5]
def q8j : IC := zr [zm 13 0, zm 14 0, zv 15 (.nck (.t 14)), zv 16 (.fad (.t 15) 0), zv 17 (.ld false 1 (.t 16)), zm 18 1, zv 19 (.len true (.t 18)), zv 20 (.sls (.t 17) (some (.t 19)) none), zv 21 (.nck (.t 13)), zv 22 (.fad (.t 21) 0), zn (.st 1 .id (.t 22) (.t 20))]
def qbdv : IC := zr [zm 23 5, zm 4 23]
def k0de : IC := (.seq qbit (.seq qbe9 (.seq (.seq qbkp (.cond (.t 12) q8j .skip)) (.seq qbdv .ret))))
@[go_sem] def s0de : List (RV × Co) := [(.t 4, .id)]
theorem c0de : cFun Tryz.prog 67 = some (24, k0de, s0de) := by kernel_rfl

def q9j : IC := zr [zv 2 (.mov (.c .nils))]
def qbdz : IC := zr [zm 3 0, zv 4 (.bin .eql .slice (.t 3) (.c .nils))]
def qbgu : IC := zr [zv 2 (.mov (.c .nils))]
def q7p : IC := zr [zv 5 (.bsl 3 []), zm 6 0, zi 7 (.app 3 (.agg [(.str []), (.int .i64 0), .nils]) 48 (.sl 3) (.t 5) (.t 6)), zm 2 7]
def k0dd : IC := (.seq q9j (.seq (.seq qbdz (.cond (.t 4) (.seq qbgu .ret) .skip)) (.seq q7p .ret)))
@[go_sem] def s0dd : List (RV × Co) := [(.t 2, (.sl 3))]
theorem c0dd : cFun Tryz.prog 68 = some (8, k0dd, s0dd) := by kernel_rfl

def q9r : IC := zr [zv 2 zf]
def q8c : IC := zr [zm 3 0, zv 4 (.bin .geq .no (.t 3) (.c (.int .u8 97))), zm 5 4, zw 5 true 6 (.mov (.t 0)), zw 5 true 7 (.bin .leq .no (.t 6) (.c (.int .u8 122))), zv 8 (.pick (.t 5) (.t 7) (.c (.bool false))), zm 9 8, zw 9 false 10 (.mov (.t 0)), zw 9 false 11 (.bin .eql .no (.t 10) (.c (.int .u8 95))), zv 12 (.pick (.t 9) (.c (.bool true)) (.t 11)), zm 2 12]
def k0bd : IC := (.seq q9r (.seq q8c .ret))
@[go_sem] def s0bd : List (RV × Co) := [(.t 2, .id)]
theorem c0bd : cFun Tryz.prog 69 = some (13, k0bd, s0bd) := by kernel_rfl

def q8v : IC := zr [zv 2 zf]
def qbcy : IC := zr [zm 3 0, zi 4 (.call (.c (.fn 98 [] [])) [((.t 3), .id)]), zm 5 4, zw 5 false 6 (.mov (.t 0)), ⟨some (5, false), some 7, .call (.c (.fn 45 [] [])) [((.t 6), .id)]⟩, zv 8 (.pick (.t 5) (.c (.bool true)) (.t 7)), zm 9 8, zw 9 false 10 (.mov (.t 0)), ⟨some (9, false), some 11, .call (.c (.fn 99 [] [])) [((.t 10), .id)]⟩, zv 12 (.pick (.t 9) (.c (.bool true)) (.t 11)), zm 13 12, zw 13 false 14 (.mov (.t 0)), zw 13 false 15 (.bin .eql .no (.t 14) (.c (.int .u8 39))), zv 16 (.pick (.t 13) (.c (.bool true)) (.t 15)), zm 2 16]
def k0bi : IC := (.seq q8v (.seq qbcy .ret))
@[go_sem] def s0bi : List (RV × Co) := [(.t 2, .id)]
theorem c0bi : cFun Tryz.prog 70 = some (17, k0bi, s0bi) := by kernel_rfl

def qbod : IC := zr [zi 3 (.box (.t 0)), zv 6 zf]
def qbly : IC := zr [zm 9 2, zv 10 (.ld true 3 (.t 3)), zm 11 1, zi 12 (.call (.t 9) [((.t 10), (.agg [.id, .id, (.sl 3)])), ((.t 11), .id)]), zv 13 (.un .not (.t 12))]
def qbqq : IC := zr [zv 6 zf]
def qbrh : IC := zr [zv 14 (.fad (.t 3) 2), zv 15 (.ld false 1 (.t 14)), zv 16 (.len false (.t 15)), zv 17 (.mov (zc 0))]
def qbpf : IC := zr [zv 18 (.bin .lss .no (.t 17) (.t 16))]
def qbms : IC := zr [zv 19 (.iad 3 (.t 15) (.t 17)), zv 20 (.ld true 3 (.t 19)), zi 8 (.alo [(.str []), (.int .i64 0), .nils]), zn (.st 3 (.agg [.id, .id, (.sl 3)]) (.t 8) (.t 20))]
def qbmg : IC := zr [zv 21 (.ld true 3 (.t 8)), zm 22 1, zv 23 (.bin .add .no (.t 22) (zc 1)), zm 24 2, zi 25 (.call (.c (.fn 71 [] [])) [((.t 21), (.agg [.id, .id, (.sl 3)])), ((.t 23), .id), ((.t 24), .id)]), zv 26 (.un .not (.t 25))]
def qbot : IC := zr [zv 6 zf]
def qbmw : IC := zr [zv 27 (.bin .add .no (.t 17) (zc 1)), zm 17 27]
def qbri : IC := (.seq qbpf (.seq (.cond (.t 18) .skip (.exit 0)) (.seq (.block 1 (.seq qbms (.seq qbmg (.cond (.t 26) (.seq qbot .ret) .skip)))) qbmw)))
def qbek : IC := zr [zv 6 (.mov (.c (.bool true)))]
def k0y : IC := (.seq qbod (.seq (.seq qbly (.cond (.t 13) (.seq qbqq .ret) .skip)) (.seq (.seq qbrh (.block 0 (.loop qbri))) (.seq qbek .ret))))
@[go_sem] def s0y : List (RV × Co) := [(.t 6, .id)]
theorem c0y : cFun Tryz.prog 71 = some (28, k0y, s0y) := by kernel_rfl

def qbqy : IC := zr [zi 3 (.box (.t 0)), zv 5 zf]
def qbo0 : IC := zr [zv 6 (.ld false 1 (.t 2)), zv 7 (.bin .add .no (.t 6) (zc 1)), zn (.st 1 .id (.t 2) (.t 7))]
def qbn6 : IC := zr [zv 8 (.ld false 1 (.t 2)), zv 9 (.bin .leq .no (.t 8) (zc 4096)), zm 10 9, zw 10 true 11 (.mov (.t 1)), zw 10 true 12 (.bin .leq .no (.t 11) (zc 100)), zv 13 (.pick (.t 10) (.t 12) (.c (.bool false))), zm 14 13, zw 14 true 15 (.ld true 3 (.t 3)), ⟨some (14, true), some 16, .call (.c (.fn 73 [] [])) [((.t 15), (.agg [.id, .id, (.sl 3)]))]⟩, ⟨some (14, true), some 17, .call (.c (.fn 74 [] [])) [((.t 16), .id)]⟩, zv 18 (.pick (.t 14) (.t 17) (.c (.bool false))), zm 5 18]
def k0g : IC := (.seq qbqy (.seq qbo0 (.seq qbn6 .ret)))
@[go_sem] def s0g : List (RV × Co) := [(.t 5, .id)]
theorem c0g : cFun Tryz.prog 72 = some (19, k0g, s0g) := by kernel_rfl

def qbp4 : IC := zr [zi 1 (.box (.t 0)), zi 2 (.alo [(.str []), (.int .i64 0), (.int .i64 0)])]
def qboz : IC := zr [zv 3 (.fad (.t 1) 0), zv 4 (.ld false 1 (.t 3)), zv 5 (.fad (.t 1) 1), zv 6 (.ld false 1 (.t 5)), zv 7 (.fad (.t 1) 2), zv 8 (.ld false 1 (.t 7)), zv 9 (.len false (.t 8)), zv 10 (.bld [(.str []), (.int .i64 0), (.int .i64 0)] [(0, 1, (.t 4)), (1, 1, (.t 6)), (2, 1, (.t 9))]), zn (.st 3 .id (.t 2) (.t 10))]
def k0s : IC := (.seq qbp4 (.seq qboz .ret))
@[go_sem] def s0s : List (RV × Co) := [(.c true 3 2, .id)]
theorem c0s : cFun Tryz.prog 73 = some (11, k0s, s0s) := by kernel_rfl

def qbpw : IC := zr [zi 1 (.box (.t 0)), zv 2 zf]
def qbn3 : IC := zr [zv 4 (.fad (.t 1) 0), zv 5 (.ld false 1 (.t 4)), zv 6 (.bin .eql .no (.t 5) (.c (.str []))), zm 3 6]
def qbo2 : IC := zr [zv 7 (.fad (.t 1) 2), zv 8 (.ld false 1 (.t 7)), zv 9 (.bin .eql .no (.t 8) (zc 0)), zm 2 9]
def qblf : IC := zr [zv 11 (.fad (.t 1) 0), zv 12 (.ld false 1 (.t 11)), zv 13 (.bin .eql .no (.t 12) (.c (.str [45, 62]))), zm 10 13]
def qbo1 : IC := zr [zv 14 (.ld true 3 (.t 1)), zv 15 (.bld [(.str []), (.int .i64 0), (.int .i64 0)] [(0, 1, (.c (.str [45, 62]))), (1, 1, (zc 0)), (2, 1, (zc 2))]), zv 16 (.bin .eql (.cells [.str, (.int .i64), (.int .i64)]) (.t 14) (.t 15)), zm 2 16]
def qbnl : IC := zr [zv 18 (.fad (.t 1) 0), zv 19 (.ld false 1 (.t 18)), zi 20 (.call (.c (.fn 100 [] [])) [((.t 19), .id)]), zm 17 20]
def qbk3 : IC := zr [zv 21 (.ld true 3 (.t 1)), zv 22 (.fad (.t 1) 0), zv 23 (.ld false 1 (.t 22)), zv 24 (.bld [(.str []), (.int .i64 0), (.int .i64 0)] [(0, 1, (.t 23))]), zv 25 (.bin .eql (.cells [.str, (.int .i64), (.int .i64)]) (.t 21) (.t 24)), zm 2 25]
def qbp6 : IC := zr [zv 26 (.fad (.t 1) 1), zv 27 (.ld false 1 (.t 26)), zv 28 (.bin .eql .no (.t 27) (zc 0)), zm 29 28, zw 29 true 30 (.fad (.t 1) 0), zw 29 true 31 (.ld false 1 (.t 30)), ⟨some (29, true), some 32, .call (.c (.fn 25 [] [])) [((.t 31), .id)]⟩, zv 33 (.pick (.t 29) (.t 32) (.c (.bool false))), zm 2 33]
def k0x : IC := (.seq qbpw (.seq (.block 0 (.seq qbn3 (.cond (.t 3) (.seq qbo2 .ret) (.seq qblf (.cond (.t 10) (.seq qbo1 .ret) (.seq qbnl (.cond (.t 17) (.seq qbk3 .ret) .skip))))))) (.seq qbp6 .ret)))
@[go_sem] def s0x : List (RV × Co) := [(.t 2, .id)]
theorem c0x : cFun Tryz.prog 74 = some (34, k0x, s0x) := by kernel_rfl

def qbrp : IC := zr [zi 2 (.box (.t 0)), zv 4 (.mov (.c (.str [])))]
def qbpc : IC := zr [zm 5 1]
def qbmc : IC := zr [zv 6 (.ld true 3 (.t 2)), zi 7 (.call (.c (.fn 48 [] [])) [((.t 6), (.agg [.id, .id, (.sl 3)]))]), zv 8 (.bin .add .no (.c (.str [40])) (.t 7)), zv 9 (.bin .add .no (.t 8) (.c (.str [41]))), zm 4 9]
def qbpq : IC := zr [zv 10 (.ld true 3 (.t 2)), zi 11 (.call (.c (.fn 48 [] [])) [((.t 10), (.agg [.id, .id, (.sl 3)]))]), zm 4 11]
def k0b : IC := (.seq qbrp (.seq (.seq qbpc (.cond (.t 5) (.seq qbmc .ret) .skip)) (.seq qbpq .ret)))
@[go_sem] def s0b : List (RV × Co) := [(.t 4, .id)]
theorem c0b : cFun Tryz.prog 75 = some (12, k0b, s0b) := by kernel_rfl

def qbmk : IC := zr [zi 1 (.box (.t 0)), zv 2 (.mov (.c (.str [])))]
def qblg : IC := zr [zv 4 (.fad (.t 1) 0), zv 5 (.ld false 1 (.t 4)), zv 6 (.bin .neq .no (.t 5) (.c (.str []))), zm 3 6]
def qbrb : IC := zr [zv 7 (.fad (.t 1) 0), zv 8 (.ld false 1 (.t 7)), zm 2 8]
def qbpj : IC := zr [zv 10 (.fad (.t 1) 1), zv 11 (.ld false 1 (.t 10)), zv 12 (.bin .geq .no (.t 11) (zc 0)), zm 9 12]
def qboi : IC := zr [zv 13 (.fad (.t 1) 1), zv 14 (.ld false 1 (.t 13)), zi 15 (.call (.c (.fn 102 [] [])) [((.t 14), .id)]), zm 2 15]
def qbo9 : IC := zr [zv 16 (.fad (.t 1) 1), zv 17 (.ld false 1 (.t 16)), zv 18 (.bin .sub .no (zc (-1)) (.t 17)), zi 19 (.call (.c (.fn 103 [] [])) [((.t 18), .id)]), zv 20 (.bin .add .no (.c (.str [63])) (.t 19)), zm 2 20]
def k0a : IC := (.seq qbmk (.seq (.block 0 (.seq qblg (.cond (.t 3) (.seq qbrb .ret) (.seq qbpj (.cond (.t 9) (.seq qboi .ret) .skip))))) (.seq qbo9 .ret)))
@[go_sem] def s0a : List (RV × Co) := [(.t 2, .id)]
theorem c0a : cFun Tryz.prog 77 = some (21, k0a, s0a) := by kernel_rfl

def qbdi : IC := zr [zi 1 (.box (.t 0)), zv 2 zf]
def qbcp : IC := zr [zv 3 (.fad (.t 1) 0), zv 4 (.ld false 1 (.t 3)), zi 5 (.call (.c (.fn 27 [] [])) [((.t 4), .id)]), zm 6 5, zw 6 true 7 (.fad (.t 1) 1), zw 6 true 8 (.ld true 3 (.t 7)), ⟨some (6, true), some 9, .call (.c (.fn 20 [] [])) [((.t 8), (.agg [.id, .id, (.sl 3)]))]⟩, zv 10 (.pick (.t 6) (.t 9) (.c (.bool false))), zm 2 10]
def k0bx : IC := (.seq qbdi (.seq qbcp .ret))
@[go_sem] def s0bx : List (RV × Co) := [(.t 2, .id)]
theorem c0bx : cFun Tryz.prog 80 = some (11, k0bx, s0bx) := by kernel_rfl

def q91 : IC := zr [zv 2 (.mov (.c (.str [])))]
def qba3 : IC := zr [zm 4 0, zv 5 (.bin .lss .no (.t 4) (zc 0))]
def q5b : IC := zr [zv 2 (.mov (.c (.str [])))]
def qbe1 : IC := zr [zm 6 0, zv 7 (.bin .rem .no (.t 6) (zc 26)), zv 8 (.bin .add .no (zc 97) (.t 7)), zv 9 (.cvi .u8 (.t 8)), zv 10 (.bsl 1 [((.t 9), .id)]), zv 11 (.cbs (.t 10)), zm 3 11]
def qbid : IC := zr [zm 12 0, zv 13 (.bin .geq .no (.t 12) (zc 26))]
def qbjr : IC := zr [zm 14 3, zm 15 0, zv 16 (.bin .quo .no (.t 15) (zc 26)), zi 17 (.call (.c (.fn 82 [] [])) [((.t 16), .id)]), zv 18 (.bin .add .no (.t 14) (.t 17)), zm 3 18]
def qbfw : IC := zr [zm 19 3, zm 2 19]
def k0br : IC := (.seq q91 (.seq (.seq qba3 (.cond (.t 5) (.seq q5b .ret) .skip)) (.seq qbe1 (.seq (.seq qbid (.cond (.t 13) qbjr .skip)) (.seq qbfw .ret)))))
@[go_sem] def s0br : List (RV × Co) := [(.t 2, .id)]
theorem c0br : cFun Tryz.prog 81 = some (20, k0br, s0br) := by kernel_rfl

def q7s : IC := zr [zv 2 (.mov (.c (.str [])))]
def qbfd : IC := zr [zm 5 0, zi 6 (.call (.c (.fn 105 [] [])) [((.t 5), .id)]), zm 3 6]
def q76 : IC := zr [zv 4 (.mov (.c (.str [])))]
def qbh6 : IC := zr [zm 7 3, zv 8 (.bin .gtr .no (.t 7) (.c (.int .u64 9)))]
def qbiv : IC := zr [zm 9 3, zv 10 (.bin .rem .no (.t 9) (.c (.int .u64 10))), zv 11 (.bin .add .no (.c (.int .u64 48)) (.t 10)), zv 12 (.cvi .u8 (.t 11)), zv 13 (.bsl 1 [((.t 12), .id)]), zv 14 (.cbs (.t 13)), zm 15 4, zv 16 (.bin .add .no (.t 14) (.t 15)), zm 4 16]
def q5h : IC := zr [zm 17 3, zv 18 (.bin .quo .no (.t 17) (.c (.int .u64 10))), zm 3 18]
def qbht : IC := (.seq (.seq qbh6 (.cond (.t 8) .skip (.exit 0))) (.block 1 (.seq qbiv q5h)))
def qbeo : IC := zr [zm 19 3, zv 20 (.bin .add .no (.c (.int .u64 48)) (.t 19)), zv 21 (.cvi .u8 (.t 20)), zv 22 (.bsl 1 [((.t 21), .id)]), zv 23 (.cbs (.t 22)), zm 24 4, zv 25 (.bin .add .no (.t 23) (.t 24)), zm 4 25]
def qbj9 : IC := zr [zm 26 0, zv 27 (.bin .lss .no (.t 26) (zc 0))]
def qz9 : IC := zr [zm 28 4, zv 29 (.bin .add .no (.c (.str [45])) (.t 28)), zm 2 29]
def q3i : IC := zr [zm 30 4, zm 2 30]
def k0bo : IC := (.seq q7s (.seq qbfd (.seq q76 (.seq (.block 0 (.loop qbht)) (.seq qbeo (.seq (.seq qbj9 (.cond (.t 27) (.seq qz9 .ret) .skip)) (.seq q3i .ret)))))))
@[go_sem] def s0bo : List (RV × Co) := [(.t 2, .id)]
theorem c0bo : cFun Tryz.prog 82 = some (31, k0bo, s0bo) := by kernel_rfl

def qbjy : IC := zr [zv 6 (.mov (zc 0)), zv 7 zf]
def qba2 : IC := zr [zm 12 0, zv 13 (.len false (.t 12)), zm 8 13]
def qbb3 : IC := zr [zm 14 8, zv 9 (.mov (zc 0)), zm 10 14]
def qbj3 : IC := zr [zm 15 9, zm 16 10, zv 17 (.bin .lss .no (.t 15) (.t 16))]
def q9z : IC := zr [zm 18 9, zm 19 10, zv 20 (.bin .add .no (.t 18) (.t 19)), zv 21 (.cvi .u64 (.t 20)), zv 22 (.bin .shr .no (.t 21) (.c (.int .u64 1))), zv 23 (.cvi .i64 (.t 22)), zm 11 23]
def qbam : IC := zr [zm 24 2, zm 25 0, zm 26 11, zv 27 (.iad 4 (.t 25) (.t 26)), zv 28 (.ld true 4 (.t 27)), zm 29 1, zi 30 (.call (.t 24) [((.t 28), (.agg [.id, .id, .id, (.sl 3)])), ((.t 29), .id)]), zv 31 (.bin .lss .no (.t 30) (zc 0))]
def qbis : IC := zr [zm 32 11, zv 33 (.bin .add .no (.t 32) (zc 1)), zm 9 33]
def qbem : IC := zr [zm 34 11, zm 10 34]
def q7x : IC := (.seq (.seq qbj3 (.cond (.t 17) .skip (.exit 0))) (.block 1 (.seq q9z (.seq qbam (.cond (.t 31) qbis qbem)))))
def q0m : IC := zr [zm 35 9, zm 36 9, zm 37 8, zv 38 (.bin .lss .no (.t 36) (.t 37)), zm 39 38, zw 39 true 40 (.mov (.t 2)), zw 39 true 41 (.mov (.t 0)), zw 39 true 42 (.mov (.t 9)), zw 39 true 43 (.iad 4 (.t 41) (.t 42)), zw 39 true 44 (.ld true 4 (.t 43)), zw 39 true 45 (.mov (.t 1)), ⟨some (39, true), some 46, .call (.t 40) [((.t 44), (.agg [.id, .id, .id, (.sl 3)])), ((.t 45), .id)]⟩, zw 39 true 47 (.bin .eql .no (.t 46) (zc 0)), zv 48 (.pick (.t 39) (.t 47) (.c (.bool false))), zm 6 35, zm 7 48]
def k0cq : IC := (.seq qbjy (.seq qba2 (.seq qbb3 (.seq (.block 0 (.loop q7x)) (.seq q0m .ret)))))
@[go_sem] def s0cq : List (RV × Co) := [(.t 6, .id), (.t 7, .id)]
theorem c0cq : cFun Tryz.prog 83 = some (49, k0cq, s0cq) := by kernel_rfl

def q8u : IC := zr [zi 2 (.box (.t 0)), zv 4 (.mov (zc 0))]
def qben : IC := zr [zv 6 (.fad (.t 2) 0), zv 7 (.ld false 1 (.t 6)), zm 8 1, zv 9 (.bin .lss .no (.t 7) (.t 8)), zm 5 9]
def qbfe : IC := zr [zv 4 (.mov (zc (-1)))]
def q48 : IC := zr [zv 11 (.fad (.t 2) 0), zv 12 (.ld false 1 (.t 11)), zm 13 1, zv 14 (.bin .gtr .no (.t 12) (.t 13)), zm 10 14]
def q69 : IC := zr [zv 4 (.mov (zc 1))]
def q5p : IC := zr [zv 4 (.mov (zc 0))]
def k0cs : IC := (.seq q8u (.seq (.block 0 (.seq qben (.cond (.t 5) (.seq qbfe .ret) (.seq q48 (.cond (.t 10) (.seq q69 .ret) .skip))))) (.seq q5p .ret)))
@[go_sem] def s0cs : List (RV × Co) := [(.t 4, .id)]
theorem c0cs : cFun Tryz.prog 84 = some (15, k0cs, s0cs) := by kernel_rfl

def q7d : IC := zr [zi 4 (.box (.t 1)), zi 6 (.alo [(.str []), (.int .i64 0), .nils])]
def qbcd : IC := zr [zv 11 (.fad (.t 4) 0), zv 12 (.ld false 1 (.t 11)), zv 13 (.bin .eql .no (.t 12) (.c (.str [])))]
def qbjc : IC := .drw [zp (zm 15 0), zp (zv 16 (.nck (.t 15))), zp (zv 17 (.fad (.t 16) 0)), zp (zv 18 (.ld false 1 (.t 17))), zp (zv 19 (.fad (.t 4) 1)), zp (zv 20 (.ld false 1 (.t 19))), (zi 21 (.call (.c (.fn 107 [] [])) [((.t 18), .id), ((.t 20), .id)]), []), zp (zm 14 21), zp (zv 22 (.ext (.t 14) 0)), zp (zv 23 (.ext (.t 14) 1)), (zi 7 (.alo [(.str []), (.int .i64 0), .nils]), [3, 5, 6]), (zn (.st 3 (.agg [.id, .id, (.sl 3)]) (.t 7) (.t 22)), []), zp (zm 8 23)]
def qbeq : IC := zr [zm 24 8]
def qbbx : IC := .drw [zp (zm 25 0), zp (zv 26 (.nck (.t 25))), zp (zv 27 (.fad (.t 26) 1)), zp (zv 28 (.ld false 1 (.t 27))), zp (zv 29 (.ld true 3 (.t 7))), (zi 30 (.call (.c (.fn 108 [] [])) [((.t 29), (.agg [.id, .id, (.sl 3)]))]), [3]), zp (zv 31 (.bin .sub .no (.t 28) (.t 30))), zp (zv 32 (.nck (.t 25))), zp (zv 33 (.fad (.t 32) 1)), (zn (.st 1 .id (.t 33) (.t 31)), [])]
def q94 : IC := zr [zm 34 2, zv 35 (.ld true 3 (.t 7)), zi 36 (.call (.c (.fn 109 [] [])) [((.t 35), (.agg [.id, .id, (.sl 3)]))]), zv 37 (.bin .add .no (.t 34) (.t 36)), zv 38 (.bin .gtr .no (.t 37) (zc 101))]
def qbkh : IC := zr [zm 39 0, zv 40 (.nck (.t 39)), zv 41 (.fad (.t 40) 1), zn (.st 1 .id (.t 41) (zc (-1)))]
def q79 : IC := zr [zv 42 (.ld true 3 (.t 7)), zi 43 (.call (.c (.fn 57 [] [])) [((.t 42), (.agg [.id, .id, (.sl 3)]))]), zn (.st 3 (.agg [.id, .id, (.sl 3)]) (.t 6) (.t 43))]
def q5k : IC := zr [zm 44 0, zv 45 (.nck (.t 44)), zv 46 (.fad (.t 45) 1), zv 47 (.ld false 1 (.t 46)), zv 48 (.bin .sub .no (.t 47) (zc 1)), zv 49 (.nck (.t 44)), zv 50 (.fad (.t 49) 1), zn (.st 1 .id (.t 50) (.t 48))]
def qbdy : IC := zr [zv 51 (.fad (.t 4) 2), zv 52 (.ld false 1 (.t 51)), zv 53 (.len false (.t 52)), zi 54 (.mks 3 (.agg [(.str []), (.int .i64 0), .nils]) 48 (.t 53) (.t 53)), zm 9 54]
def q3p : IC := zr [zv 55 (.fad (.t 4) 2), zv 56 (.ld false 1 (.t 55)), zv 57 (.len false (.t 56)), zv 58 (.mov (zc 0))]
def q3a : IC := zr [zv 59 (.bin .lss .no (.t 58) (.t 57))]
def q2v : IC := zr [zm 60 58, zm 10 60]
def qyu : IC := zr [zm 61 0, zv 62 (.nck (.t 61)), zv 63 (.fad (.t 62) 1), zv 64 (.ld false 1 (.t 63)), zv 65 (.bin .lss .no (.t 64) (zc 0))]
def q3d : IC := zr [zv 66 (.ld true 3 (.t 4)), zn (.st 3 (.agg [.id, .id, (.sl 3)]) (.t 6) (.t 66))]
def q2e : IC := zr [zm 67 9, zm 68 10, zm 69 0, zv 70 (.fad (.t 4) 2), zv 71 (.ld false 1 (.t 70)), zm 72 10, zv 73 (.iad 3 (.t 71) (.t 72)), zv 74 (.ld true 3 (.t 73)), zm 75 2, zv 76 (.bin .add .no (.t 75) (zc 1)), zi 77 (.call (.c (.fn 87 [] [])) [((.t 69), .id), ((.t 74), (.agg [.id, .id, (.sl 3)])), ((.t 76), .id)]), zv 78 (.iad 3 (.t 67) (.t 68)), zn (.st 3 (.agg [.id, .id, (.sl 3)]) (.t 78) (.t 77))]
def q3m : IC := zr [zv 79 (.bin .add .no (.t 58) (zc 1)), zm 58 79]
def q2u : IC := (.seq q3a (.seq (.cond (.t 59) .skip (.exit 0)) (.seq (.block 1 (.seq q2v (.seq (.seq qyu (.cond (.t 65) (.seq q3d .ret) .skip)) q2e))) q3m)))
def qy0 : IC := zr [zm 80 9, zv 81 (.fad (.t 4) 2), zn (.st 1 (.sl 3) (.t 81) (.t 80))]
def q0e : IC := zr [zv 82 (.ld true 3 (.t 4)), zn (.st 3 (.agg [.id, .id, (.sl 3)]) (.t 6) (.t 82))]
def k0cn : IC := (.seq q7d (.seq (.seq qbcd (.cond (.t 13) (.seq qbjc (.seq qbeq (.cond (.t 24) (.seq qbbx (.seq (.seq q94 (.cond (.t 38) qbkh .skip)) (.seq q79 .ret))) .skip))) .skip)) (.seq q5k (.seq qbdy (.seq (.seq q3p (.block 0 (.loop q2u))) (.seq qy0 (.seq q0e .ret)))))))
@[go_sem] def s0cn : List (RV × Co) := [(.c true 3 6, (.agg [.id, .id, (.sl 3)]))]
theorem c0cn : cFun Tryz.prog 87 = some (83, k0cn, s0cn) := by kernel_rfl

def qbi2 : IC := zr [zi 4 (.alo [(.str []), (.int .i64 0), .nils]), zv 5 zf]
def qbjq : IC := zr [zv 6 (.mov (zc 0))]
def qbcw : IC := zr [zm 7 6, zm 8 0, zv 9 (.len false (.t 8)), zv 10 (.bin .lss .no (.t 7) (.t 9))]
def qbbc : IC := zr [zm 13 0, zm 14 6, zv 15 (.iad 4 (.t 13) (.t 14)), zv 16 (.fad (.t 15) 0), zv 17 (.ld false 1 (.t 16)), zm 18 1, zv 19 (.bin .eql .no (.t 17) (.t 18))]
def q55 : IC := zr [zm 20 0, zm 21 6, zv 22 (.iad 4 (.t 20) (.t 21)), zv 23 (.fad (.t 22) 1), zv 24 (.ld true 3 (.t 23)), zn (.st 3 (.agg [.id, .id, (.sl 3)]) (.t 4) (.t 24)), zv 5 (.mov (.c (.bool true)))]
def qbdo : IC := zr [zm 11 6, zv 12 (.bin .add .no (.t 11) (zc 1)), zm 6 12]
def qbj2 : IC := (.seq (.seq qbcw (.cond (.t 10) .skip (.exit 0))) (.seq (.block 1 (.seq qbbc (.cond (.t 19) (.seq q55 .ret) .skip))) qbdo))
def qbeh : IC := zr [zv 25 (.bld [(.str []), (.int .i64 0), .nils] []), zn (.st 3 (.agg [.id, .id, (.sl 3)]) (.t 4) (.t 25)), zv 5 zf]
def k0cu : IC := (.seq qbi2 (.seq (.seq qbjq (.block 0 (.loop qbj2))) (.seq qbeh .ret)))
@[go_sem] def s0cu : List (RV × Co) := [(.c true 3 4, (.agg [.id, .id, (.sl 3)])), (.t 5, .id)]
theorem c0cu : cFun Tryz.prog 88 = some (26, k0cu, s0cu) := by kernel_rfl

def q7y : IC := zr [zi 3 (.box (.t 1)), zi 4 (.alo [(.str []), (.int .i64 0), .nils]), zv 5 (.mov (zc 0))]
def qbga : IC := zr [zv 7 (.ld true 3 (.t 3)), zi 8 (.call (.c (.fn 20 [] [])) [((.t 7), (.agg [.id, .id, (.sl 3)]))]), zv 9 (.un .not (.t 8))]
def qbc8 : IC := zr [zv 10 (.bld [(.str []), (.int .i64 0), .nils] []), zn (.st 3 (.agg [.id, .id, (.sl 3)]) (.t 4) (.t 10)), zv 5 (.mov (zc 1))]
def qbab : IC := zr [zm 11 0, zv 12 (.ld true 3 (.t 3)), zi 13 (.call (.c (.fn 110 [] [])) [((.t 11), (.sl 4)), ((.t 12), (.agg [.id, .id, (.sl 3)]))]), zv 14 (.bin .gtr .no (.t 13) (zc 4096))]
def qbcc : IC := zr [zv 15 (.bld [(.str []), (.int .i64 0), .nils] []), zn (.st 3 (.agg [.id, .id, (.sl 3)]) (.t 4) (.t 15)), zv 5 (.mov (zc 2))]
def q99 : IC := zr [zm 16 0, zv 17 (.ld true 3 (.t 3)), zi 18 (.call (.c (.fn 111 [] [])) [((.t 16), (.sl 4)), ((.t 17), (.agg [.id, .id, (.sl 3)]))]), zi 6 (.alo [(.str []), (.int .i64 0), .nils]), zn (.st 3 (.agg [.id, .id, (.sl 3)]) (.t 6) (.t 18))]
def qbbf : IC := zr [zv 19 (.ld true 3 (.t 6)), zi 20 (.call (.c (.fn 20 [] [])) [((.t 19), (.agg [.id, .id, (.sl 3)]))]), zv 21 (.un .not (.t 20))]
def qbjb : IC := zr [zv 22 (.bld [(.str []), (.int .i64 0), .nils] []), zn (.st 3 (.agg [.id, .id, (.sl 3)]) (.t 4) (.t 22)), zv 5 (.mov (zc 2))]
def q6j : IC := zr [zv 23 (.ld true 3 (.t 6)), zn (.st 3 (.agg [.id, .id, (.sl 3)]) (.t 4) (.t 23)), zv 5 (.mov (zc 0))]
def k0cv : IC := (.seq q7y (.seq (.seq qbga (.cond (.t 9) (.seq qbc8 .ret) .skip)) (.seq (.seq qbab (.cond (.t 14) (.seq qbcc .ret) .skip)) (.seq q99 (.seq (.seq qbbf (.cond (.t 21) (.seq qbjb .ret) .skip)) (.seq q6j .ret))))))
@[go_sem] def s0cv : List (RV × Co) := [(.c true 3 4, (.agg [.id, .id, (.sl 3)])), (.t 5, .id)]
theorem c0cv : cFun Tryz.prog 89 = some (24, k0cv, s0cv) := by kernel_rfl

def qbai : IC := zr [zv 2 (.mov (zc 0)), zv 3 (.mov (zc 0))]
def q7j : IC := zr [zm 8 0, zv 9 (.bin .eql .no (.t 8) (.c (.str [])))]
def qbi5 : IC := zr [zv 2 (.mov (zc 0)), zv 3 (.mov (zc 5))]
def qbkd : IC := zr [zv 4 (.mov (zc 0))]
def q7q : IC := zr [zm 10 4, zm 11 0, zv 12 (.len true (.t 11)), zv 13 (.bin .lss .no (.t 10) (.t 12))]
def qbah : IC := zr [zm 16 0, zm 17 4, zv 18 (.idx (.t 16) (.t 17)), zv 19 (.bin .lss .no (.t 18) (.c (.int .u8 48))), zm 20 19, zw 20 false 21 (.mov (.t 0)), zw 20 false 22 (.mov (.t 4)), zw 20 false 23 (.idx (.t 21) (.t 22)), zw 20 false 24 (.bin .gtr .no (.t 23) (.c (.int .u8 57))), zv 25 (.pick (.t 20) (.c (.bool true)) (.t 24))]
def qbgm : IC := zr [zv 2 (.mov (zc 0)), zv 3 (.mov (zc 5))]
def q9s : IC := zr [zm 14 4, zv 15 (.bin .add .no (.t 14) (zc 1)), zm 4 15]
def qbkw : IC := (.seq (.seq q7q (.cond (.t 13) .skip (.exit 0))) (.seq (.block 1 (.seq qbah (.cond (.t 25) (.seq qbgm .ret) .skip))) q9s))
def qy1 : IC := zr [zv 5 (.mov (zc 0))]
def q0t : IC := zr [zv 6 (.mov (zc 0))]
def qzy : IC := zr [zm 26 6, zm 27 0, zv 28 (.len true (.t 27)), zv 29 (.bin .lss .no (.t 26) (.t 28))]
def q4a : IC := zr [zm 32 0, zm 33 6, zv 34 (.idx (.t 32) (.t 33)), zv 35 (.bin .sub .no (.t 34) (.c (.int .u8 48))), zv 36 (.cvi .i64 (.t 35)), zm 7 36]
def q30 : IC := zr [zm 37 5, zm 38 7, zv 39 (.bin .sub .no (zc 9223372036854775807) (.t 38)), zv 40 (.bin .quo .no (.t 39) (zc 10)), zv 41 (.bin .gtr .no (.t 37) (.t 40))]
def q3z : IC := zr [zv 2 (.mov (zc 0)), zv 3 (.mov (zc 4))]
def q2o : IC := zr [zm 42 5, zv 43 (.bin .mul .no (zc 10) (.t 42)), zm 44 7, zv 45 (.bin .add .no (.t 43) (.t 44)), zm 5 45]
def q1m : IC := zr [zm 30 6, zv 31 (.bin .add .no (.t 30) (zc 1)), zm 6 31]
def q2m : IC := (.seq (.seq qzy (.cond (.t 29) .skip (.exit 2))) (.seq (.block 3 (.seq q4a (.seq (.seq q30 (.cond (.t 41) (.seq q3z .ret) .skip)) q2o))) q1m))
def q1i : IC := zr [zm 46 5, zm 2 46, zv 3 (.mov (zc 0))]
def k0bb : IC := (.seq qbai (.seq (.seq q7j (.cond (.t 9) (.seq qbi5 .ret) .skip)) (.seq (.seq qbkd (.block 0 (.loop qbkw))) (.seq qy1 (.seq (.seq q0t (.block 2 (.loop q2m))) (.seq q1i .ret))))))
@[go_sem] def s0bb : List (RV × Co) := [(.t 2, .id), (.t 3, .id)]
theorem c0bb : cFun Tryz.prog 90 = some (47, k0bb, s0bb) := by kernel_rfl

def q9x : IC := zr [zi 2 (.alo [(.str []), (.int .i64 0), .nils])]
def qbgx : IC := zr [zm 6 0, zi 7 (.call (.c (.fn 119 [] [])) [((.t 6), .id)]), zm 3 7]
def qbee : IC := zr [zm 8 3, zv 9 (.bin .geq .no (.t 8) (zc 0))]
def qbh7 : IC := zr [zm 10 3, zv 11 (.bld [(.str []), (.int .i64 0), .nils] [(1, 1, (.t 10))]), zn (.st 3 (.agg [.id, .id, (.sl 3)]) (.t 2) (.t 11))]
def q6q : IC := zr [zm 12 0, zi 13 (.call (.c (.fn 66 [] [])) [((.t 12), .id), ((.c (.str [63])), .id)])]
def qbct : IC := zr [zm 15 0, zv 16 (.sls (.t 15) (some (zc 1)) none), zi 17 (.call (.c (.fn 120 [] [])) [((.t 16), .id)]), zm 14 17, zv 18 (.ext (.t 14) 0), zv 19 (.ext (.t 14) 1), zm 4 18, zm 5 19]
def qbdr : IC := zr [zm 20 5, zv 21 (.bin .eql .no (.t 20) (zc 0))]
def q5d : IC := zr [zm 22 4, zv 23 (.bin .sub .no (zc (-1)) (.t 22)), zv 24 (.bld [(.str []), (.int .i64 0), .nils] [(1, 1, (.t 23))]), zn (.st 3 (.agg [.id, .id, (.sl 3)]) (.t 2) (.t 24))]
def qbby : IC := zr [zm 25 0, zv 26 (.bld [(.str []), (.int .i64 0), .nils] [(0, 1, (.t 25))]), zn (.st 3 (.agg [.id, .id, (.sl 3)]) (.t 2) (.t 26))]
def k0dc : IC := (.seq q9x (.seq (.seq qbgx (.seq qbee (.cond (.t 9) (.seq qbh7 .ret) .skip))) (.seq (.seq q6q (.cond (.t 13) (.seq qbct (.seq qbdr (.cond (.t 21) (.seq q5d .ret) .skip))) .skip)) (.seq qbby .ret))))
@[go_sem] def s0dc : List (RV × Co) := [(.c true 3 2, (.agg [.id, .id, (.sl 3)]))]
theorem c0dc : cFun Tryz.prog 96 = some (27, k0dc, s0dc) := by kernel_rfl

def qbqg : IC := zr [zv 4 zf]
def qbrv : IC := zr [zm 5 0, zv 6 (.len true (.t 5)), zm 7 1, zv 8 (.len true (.t 7)), zv 9 (.bin .geq .no (.t 6) (.t 8)), zm 10 9, zw 10 true 11 (.mov (.t 0)), zw 10 true 12 (.mov (.t 1)), zw 10 true 13 (.len true (.t 12)), zw 10 true 14 (.sls (.t 11) none (some (.t 13))), zw 10 true 15 (.mov (.t 1)), zw 10 true 16 (.bin .eql .no (.t 14) (.t 15)), zv 17 (.pick (.t 10) (.t 16) (.c (.bool false))), zm 4 17]
def k0z : IC := (.seq qbqg (.seq qbrv .ret))
@[go_sem] def s0z : List (RV × Co) := [(.t 4, .id)]
theorem c0z : cFun Tryz.prog 97 = some (18, k0z, s0z) := by kernel_rfl

def q8a : IC := zr [zv 2 zf]
def qbiy : IC := zr [zm 3 0, zv 4 (.bin .geq .no (.t 3) (.c (.int .u8 97))), zm 5 4, zw 5 true 6 (.mov (.t 0)), zw 5 true 7 (.bin .leq .no (.t 6) (.c (.int .u8 122))), zv 8 (.pick (.t 5) (.t 7) (.c (.bool false))), zm 9 8, zw 9 false 10 (.mov (.t 0)), zw 9 false 11 (.bin .eql .no (.t 10) (.c (.int .u8 95))), zv 12 (.pick (.t 9) (.c (.bool true)) (.t 11)), zm 2 12]
def k0be : IC := (.seq q8a (.seq qbiy .ret))
@[go_sem] def s0be : List (RV × Co) := [(.t 2, .id)]
theorem c0be : cFun Tryz.prog 98 = some (13, k0be, s0be) := by kernel_rfl

def q49 : IC := zr [zv 2 zf]
def qbi9 : IC := zr [zm 3 0, zv 4 (.bin .geq .no (.t 3) (.c (.int .u8 48))), zm 5 4, zw 5 true 6 (.mov (.t 0)), zw 5 true 7 (.bin .leq .no (.t 6) (.c (.int .u8 57))), zv 8 (.pick (.t 5) (.t 7) (.c (.bool false))), zm 2 8]
def k0bh : IC := (.seq q49 (.seq qbi9 .ret))
@[go_sem] def s0bh : List (RV × Co) := [(.t 2, .id)]
theorem c0bh : cFun Tryz.prog 99 = some (9, k0bh, s0bh) := by kernel_rfl

def qbml : IC := zr [zv 2 zf]
def qbmz : IC := zr [zm 5 0, zi 6 (.call (.c (.fn 66 [] [])) [((.t 5), .id), ((.c (.str [33])), .id)]), zv 7 (.un .not (.t 6))]
def qbk7 : IC := zr [zv 2 zf]
def qbmq : IC := zr [zm 9 0, zv 10 (.sls (.t 9) (some (zc 1)) none), zi 11 (.call (.c (.fn 120 [] [])) [((.t 10), .id)]), zm 8 11, zv 12 (.ext (.t 8) 0), zv 13 (.ext (.t 8) 1), zm 3 12, zm 4 13]
def qbpy : IC := .drw [zp (zm 14 4), zp (zv 15 (.bin .eql .no (.t 14) (zc 0))), zp (zm 16 15), zp (zw 16 true 17 (.mov (.t 3))), (⟨some (16, true), some 18, .call (.c (.fn 103 [] [])) [((.t 17), .id)]⟩, []), zp (zw 16 true 19 (.mov (.t 0))), zp (zw 16 true 20 (.sls (.t 19) (some (zc 1)) none)), zp (zw 16 true 21 (.bin .eql .no (.t 18) (.t 20))), zp (zv 22 (.pick (.t 16) (.t 21) (.c (.bool false)))), zp (zm 2 22)]
def k0v : IC := (.seq qbml (.seq (.seq qbmz (.cond (.t 7) (.seq qbk7 .ret) .skip)) (.seq qbmq (.seq qbpy .ret))))
@[go_sem] def s0v : List (RV × Co) := [(.t 2, .id)]
theorem c0v : cFun Tryz.prog 100 = some (23, k0v, s0v) := by kernel_rfl

def qbie : IC := zr [zv 2 (.mov (.c (.str [])))]
def q8w : IC := zr [zm 4 0, zv 5 (.bin .lss .no (.t 4) (zc 0))]
def qbii : IC := zr [zv 2 (.mov (.c (.str [])))]
def q9q : IC := zr [zm 6 0, zv 7 (.bin .rem .no (.t 6) (zc 26)), zv 8 (.bin .add .no (zc 97) (.t 7)), zv 9 (.cvi .u8 (.t 8)), zv 10 (.bsl 1 [((.t 9), .id)]), zv 11 (.cbs (.t 10)), zm 3 11]
def q8t : IC := zr [zm 12 0, zv 13 (.bin .lss .no (.t 12) (zc 26))]
def qbkq : IC := zr [zm 14 3, zm 2 14]
def qbcb : IC := zr [zm 15 3, zm 16 0, zv 17 (.bin .quo .no (.t 16) (zc 26)), zi 18 (.call (.c (.fn 103 [] [])) [((.t 17), .id)]), zv 19 (.bin .add .no (.t 15) (.t 18)), zm 2 19]
def k0bq : IC := (.seq qbie (.seq (.seq q8w (.cond (.t 5) (.seq qbii .ret) .skip)) (.seq q9q (.seq (.seq q8t (.cond (.t 13) (.seq qbkq .ret) .skip)) (.seq qbcb .ret)))))
@[go_sem] def s0bq : List (RV × Co) := [(.t 2, .id)]
theorem c0bq : cFun Tryz.prog 102 = some (20, k0bq, s0bq) := by kernel_rfl

def qbfs : IC := zr [zv 2 (.mov (.c (.str [])))]
def qba0 : IC := zr [zm 6 0, zv 7 (.cvi .u64 (.t 6)), zm 3 7]
def qbd0 : IC := zr [zm 8 0, zv 9 (.bin .lss .no (.t 8) (zc 0))]
def q6a : IC := zr [zm 10 3, zv 11 (.un .neg (.t 10)), zm 3 11]
def qbff : IC := zr [zi 4 (.alo [(.int .u8 0), (.int .u8 0), (.int .u8 0), (.int .u8 0), (.int .u8 0), (.int .u8 0), (.int .u8 0), (.int .u8 0), (.int .u8 0), (.int .u8 0), (.int .u8 0), (.int .u8 0), (.int .u8 0), (.int .u8 0), (.int .u8 0), (.int .u8 0), (.int .u8 0), (.int .u8 0), (.int .u8 0), (.int .u8 0)])]
def q9h : IC := zr [zv 5 (.mov (zc 20))]
def qbjn : IC := zr [zm 12 5, zv 13 (.bin .sub .no (.t 12) (zc 1)), zm 5 13]
def qbdg : IC := zr [zm 14 5, zm 15 3, zv 16 (.bin .rem .no (.t 15) (.c (.int .u64 10))), zv 17 (.bin .add .no (.c (.int .u64 48)) (.t 16)), zv 18 (.cvi .u8 (.t 17)), zv 19 (.aad 1 20 (.t 4) (.t 14)), zn (.st 1 .id (.t 19) (.t 18))]
def qbac : IC := zr [zm 20 3, zv 21 (.bin .quo .no (.t 20) (.c (.int .u64 10))), zm 3 21]
def q1s : IC := zr [zm 22 3, zv 23 (.bin .eql .no (.t 22) (.c (.int .u64 0)))]
def q93 : IC := (.block 1 (.seq qbjn (.seq qbdg (.seq qbac (.seq q1s (.cond (.t 23) (.exit 0) .skip))))))
def q2q : IC := zr [zm 24 0, zv 25 (.bin .lss .no (.t 24) (zc 0))]
def qyx : IC := zr [zm 26 5, zv 27 (.sla 20 (.t 4) (.t 26)), zv 28 (.cbs (.t 27)), zv 29 (.bin .add .no (.c (.str [45])) (.t 28)), zm 2 29]
def qzr : IC := zr [zm 30 5, zv 31 (.sla 20 (.t 4) (.t 30)), zv 32 (.cbs (.t 31)), zm 2 32]
def k0bp : IC := (.seq qbfs (.seq qba0 (.seq (.seq qbd0 (.cond (.t 9) q6a .skip)) (.seq qbff (.seq q9h (.seq (.block 0 (.loop q93)) (.seq (.seq q2q (.cond (.t 25) (.seq qyx .ret) .skip)) (.seq qzr .ret))))))))
@[go_sem] def s0bp : List (RV × Co) := [(.t 2, .id)]
theorem c0bp : cFun Tryz.prog 103 = some (33, k0bp, s0bp) := by kernel_rfl

def qbhh : IC := zr [zv 2 (.mov (.c (.int .u64 0)))]
def qbf8 : IC := zr [zm 3 0, zv 4 (.bin .lss .no (.t 3) (zc 0))]
def qbjs : IC := zr [zm 5 0, zv 6 (.cvi .u64 (.t 5)), zv 7 (.un .neg (.t 6)), zm 2 7]
def q6t : IC := zr [zm 8 0, zv 9 (.cvi .u64 (.t 8)), zm 2 9]
def k0bn : IC := (.seq qbhh (.seq (.seq qbf8 (.cond (.t 4) (.seq qbjs .ret) .skip)) (.seq q6t .ret)))
@[go_sem] def s0bn : List (RV × Co) := [(.t 2, .id)]
theorem c0bn : cFun Tryz.prog 105 = some (10, k0bn, s0bn) := by kernel_rfl

def qbe3 : IC := zr [zi 4 (.alo [(.str []), (.int .i64 0), .nils]), zv 5 zf]
def qbhu : IC := zr [zm 8 0, zv 9 (.bin .eql .ptr (.t 8) (.c .nilp))]
def qbjv : IC := zr [zv 10 (.bld [(.str []), (.int .i64 0), .nils] []), zn (.st 3 (.agg [.id, .id, (.sl 3)]) (.t 4) (.t 10)), zv 5 zf]
def q6d : IC := zr [zm 12 0, zm 13 1, zi 14 (.call (.c (.fn 55 [] [])) [((.t 12), .id), ((.t 13), .id)]), zm 11 14, zv 15 (.ext (.t 11) 0), zv 16 (.ext (.t 11) 1), zm 6 15, zm 7 16]
def qbaz : IC := zr [zm 17 7, zv 18 (.un .not (.t 17))]
def qbf9 : IC := zr [zv 19 (.bld [(.str []), (.int .i64 0), .nils] []), zn (.st 3 (.agg [.id, .id, (.sl 3)]) (.t 4) (.t 19)), zv 5 zf]
def qbfb : IC := zr [zm 20 0, zv 21 (.nck (.t 20)), zv 22 (.fad (.t 21) 0), zv 23 (.ld false 1 (.t 22)), zm 24 6, zv 25 (.iad 4 (.t 23) (.t 24)), zv 26 (.fad (.t 25) 1), zv 27 (.ld true 3 (.t 26)), zn (.st 3 (.agg [.id, .id, (.sl 3)]) (.t 4) (.t 27)), zv 5 (.mov (.c (.bool true)))]
def k0cp : IC := (.seq qbe3 (.seq (.seq qbhu (.cond (.t 9) (.seq qbjv .ret) .skip)) (.seq q6d (.seq (.seq qbaz (.cond (.t 18) (.seq qbf9 .ret) .skip)) (.seq qbfb .ret)))))
@[go_sem] def s0cp : List (RV × Co) := [(.c true 3 4, (.agg [.id, .id, (.sl 3)])), (.t 5, .id)]
theorem c0cp : cFun Tryz.prog 107 = some (28, k0cp, s0cp) := by kernel_rfl

def qbk5 : IC := zr [zi 1 (.box (.t 0)), zv 2 (.mov (zc 0))]
def qbnd : IC := zr [zi 3 (.alo [(.int .i64 0)]), zn (.st 1 .id (.t 3) (zc 0))]
def qbm4 : IC := zr [zv 4 (.ld true 3 (.t 1)), zv 5 (.mfn 124 [] [(.t 3)]), zi 6 (.call (.c (.fn 71 [] [])) [((.t 4), (.agg [.id, .id, (.sl 3)])), ((zc 1), .id), ((.t 5), .id)])]
def qbrz : IC := zr [zv 7 (.ld false 1 (.t 3)), zm 2 7]
def k0k : IC := (.seq qbk5 (.seq qbnd (.seq qbm4 (.seq qbrz .ret))))
@[go_sem] def s0k : List (RV × Co) := [(.t 2, .id)]
theorem c0k : cFun Tryz.prog 108 = some (8, k0k, s0k) := by kernel_rfl

def qbqt : IC := zr [zi 1 (.box (.t 0)), zv 2 (.mov (zc 0))]
def qbp1 : IC := zr [zi 3 (.alo [(.int .i64 0)]), zn (.st 1 .id (.t 3) (zc 0))]
def qbrj : IC := zr [zv 4 (.ld true 3 (.t 1)), zv 5 (.mfn 125 [] [(.t 3)]), zi 6 (.call (.c (.fn 71 [] [])) [((.t 4), (.agg [.id, .id, (.sl 3)])), ((zc 1), .id), ((.t 5), .id)])]
def qbqv : IC := zr [zv 7 (.ld false 1 (.t 3)), zm 2 7]
def k0l : IC := (.seq qbqt (.seq qbp1 (.seq qbrj (.seq qbqv .ret))))
@[go_sem] def s0l : List (RV × Co) := [(.t 2, .id)]
theorem c0l : cFun Tryz.prog 109 = some (8, k0l, s0l) := by kernel_rfl

def qba1 : IC := zr [zi 3 (.box (.t 1)), zv 4 (.mov (zc 0))]
def q6v : IC := zr [zv 9 (.fad (.t 3) 0), zv 10 (.ld false 1 (.t 9)), zv 11 (.bin .eql .no (.t 10) (.c (.str [])))]
def qbbg : IC := zr [zm 13 0, zv 14 (.fad (.t 3) 1), zv 15 (.ld false 1 (.t 14)), zi 16 (.call (.c (.fn 88 [] [])) [((.t 13), (.sl 4)), ((.t 15), .id)]), zm 12 16, zv 17 (.ext (.t 12) 0), zv 18 (.ext (.t 12) 1), zi 5 (.alo [(.str []), (.int .i64 0), .nils]), zn (.st 3 (.agg [.id, .id, (.sl 3)]) (.t 5) (.t 17)), zm 6 18]
def qbcn : IC := zr [zm 19 6]
def qbh9 : IC := zr [zv 20 (.ld true 3 (.t 5)), zi 21 (.call (.c (.fn 23 [] [])) [((.t 20), (.agg [.id, .id, (.sl 3)]))]), zm 4 21]
def qbgf : IC := zr [zv 4 (.mov (zc 1))]
def qba5 : IC := zr [zv 7 (.mov (zc 1))]
def qbkl : IC := zr [zv 8 (.mov (zc 0))]
def qbh8 : IC := zr [zm 22 8, zv 23 (.fad (.t 3) 2), zv 24 (.ld false 1 (.t 23)), zv 25 (.len false (.t 24)), zv 26 (.bin .lss .no (.t 22) (.t 25))]
def q05 : IC := zr [zm 29 7, zm 30 0, zv 31 (.fad (.t 3) 2), zv 32 (.ld false 1 (.t 31)), zm 33 8, zv 34 (.iad 3 (.t 32) (.t 33)), zv 35 (.ld true 3 (.t 34)), zi 36 (.call (.c (.fn 110 [] [])) [((.t 30), (.sl 4)), ((.t 35), (.agg [.id, .id, (.sl 3)]))]), zv 37 (.bin .add .no (.t 29) (.t 36)), zm 7 37]
def q13 : IC := zr [zm 27 8, zv 28 (.bin .add .no (.t 27) (zc 1)), zm 8 28]
def qbh1 : IC := (.seq (.seq qbh8 (.cond (.t 26) .skip (.exit 0))) (.seq (.block 1 q05) q13))
def qzx : IC := zr [zm 38 7, zm 4 38]
def k0cw : IC := (.seq qba1 (.seq (.seq q6v (.cond (.t 11) (.seq qbbg (.seq (.seq qbcn (.cond (.t 19) (.seq qbh9 .ret) .skip)) (.seq qbgf .ret))) .skip)) (.seq qba5 (.seq (.seq qbkl (.block 0 (.loop qbh1))) (.seq qzx .ret)))))
@[go_sem] def s0cw : List (RV × Co) := [(.t 4, .id)]
theorem c0cw : cFun Tryz.prog 110 = some (39, k0cw, s0cw) := by kernel_rfl

def q8h : IC := zr [zi 3 (.box (.t 1)), zi 4 (.alo [(.str []), (.int .i64 0), .nils])]
def q53 : IC := zr [zv 9 (.fad (.t 3) 0), zv 10 (.ld false 1 (.t 9)), zv 11 (.bin .eql .no (.t 10) (.c (.str [])))]
def qbg5 : IC := zr [zm 13 0, zv 14 (.fad (.t 3) 1), zv 15 (.ld false 1 (.t 14)), zi 16 (.call (.c (.fn 88 [] [])) [((.t 13), (.sl 4)), ((.t 15), .id)]), zm 12 16, zv 17 (.ext (.t 12) 0), zv 18 (.ext (.t 12) 1), zi 5 (.alo [(.str []), (.int .i64 0), .nils]), zn (.st 3 (.agg [.id, .id, (.sl 3)]) (.t 5) (.t 17)), zm 6 18]
def q6w : IC := zr [zm 19 6]
def qbjh : IC := zr [zv 20 (.ld true 3 (.t 5)), zn (.st 3 (.agg [.id, .id, (.sl 3)]) (.t 4) (.t 20))]
def qbhs : IC := zr [zv 21 (.ld true 3 (.t 3)), zn (.st 3 (.agg [.id, .id, (.sl 3)]) (.t 4) (.t 21))]
def qbib : IC := zr [zv 7 (.mov (.c .nils))]
def q8x : IC := zr [zv 8 (.mov (zc 0))]
def qbbo : IC := zr [zm 22 8, zv 23 (.fad (.t 3) 2), zv 24 (.ld false 1 (.t 23)), zv 25 (.len false (.t 24)), zv 26 (.bin .lss .no (.t 22) (.t 25))]
def qzl : IC := zr [zm 29 7, zm 30 0, zv 31 (.fad (.t 3) 2), zv 32 (.ld false 1 (.t 31)), zm 33 8, zv 34 (.iad 3 (.t 32) (.t 33)), zv 35 (.ld true 3 (.t 34)), zi 36 (.call (.c (.fn 111 [] [])) [((.t 30), (.sl 4)), ((.t 35), (.agg [.id, .id, (.sl 3)]))]), zv 37 (.bsl 3 [((.t 36), (.agg [.id, .id, (.sl 3)]))]), zi 38 (.app 3 (.agg [(.str []), (.int .i64 0), .nils]) 48 (.sl 3) (.t 29) (.t 37)), zm 7 38]
def qzz : IC := zr [zm 27 8, zv 28 (.bin .add .no (.t 27) (zc 1)), zm 8 28]
def qbjt : IC := (.seq (.seq qbbo (.cond (.t 26) .skip (.exit 0))) (.seq (.block 1 qzl) qzz))
def qzo : IC := zr [zm 39 7, zv 40 (.fad (.t 3) 2), zn (.st 1 (.sl 3) (.t 40) (.t 39))]
def q1z : IC := zr [zv 41 (.ld true 3 (.t 3)), zn (.st 3 (.agg [.id, .id, (.sl 3)]) (.t 4) (.t 41))]
def k0cx : IC := (.seq q8h (.seq (.seq q53 (.cond (.t 11) (.seq qbg5 (.seq (.seq q6w (.cond (.t 19) (.seq qbjh .ret) .skip)) (.seq qbhs .ret))) .skip)) (.seq qbib (.seq (.seq q8x (.block 0 (.loop qbjt))) (.seq qzo (.seq q1z .ret))))))
@[go_sem] def s0cx : List (RV × Co) := [(.c true 3 4, (.agg [.id, .id, (.sl 3)]))]
theorem c0cx : cFun Tryz.prog 111 = some (42, k0cx, s0cx) := by kernel_rfl

def qblt : IC := zr [zi 2 (.box (.t 0)), zi 3 (.box (.t 1)), zv 4 zf]
def qbq6 : IC := .drw [zp (zv 6 (.ld true 3 (.t 2))), (zi 7 (.call (.c (.fn 73 [] [])) [((.t 6), (.agg [.id, .id, (.sl 3)]))]), []), (zv 8 (.ld true 3 (.t 3)), [1]), (zi 9 (.call (.c (.fn 73 [] [])) [((.t 8), (.agg [.id, .id, (.sl 3)]))]), []), (zv 10 (.bin .neq (.cells [.str, (.int .i64), (.int .i64)]) (.t 7) (.t 9)), [])]
def qbrd : IC := zr [zv 4 zf]
def qbqi : IC := zr [zv 11 (.fad (.t 2) 2), zv 12 (.ld false 1 (.t 11)), zv 13 (.len false (.t 12)), zv 14 (.mov (zc 0))]
def qbpr : IC := zr [zv 15 (.bin .lss .no (.t 14) (.t 13))]
def qbn0 : IC := zr [zm 16 14, zm 5 16]
def qbl0 : IC := .drw [zp (zv 17 (.fad (.t 2) 2)), zp (zv 18 (.ld false 1 (.t 17))), zp (zm 19 5), zp (zv 20 (.iad 3 (.t 18) (.t 19))), zp (zv 21 (.ld true 3 (.t 20))), zp (zv 22 (.fad (.t 3) 2)), zp (zv 23 (.ld false 1 (.t 22))), zp (zm 24 5), zp (zv 25 (.iad 3 (.t 23) (.t 24))), zp (zv 26 (.ld true 3 (.t 25))), (zi 27 (.call (.c (.fn 113 [] [])) [((.t 21), (.agg [.id, .id, (.sl 3)])), ((.t 26), (.agg [.id, .id, (.sl 3)]))]), []), zp (zv 28 (.un .not (.t 27)))]
def qbno : IC := zr [zv 4 zf]
def qbnp : IC := zr [zv 29 (.bin .add .no (.t 14) (zc 1)), zm 14 29]
def qbnh : IC := (.seq qbpr (.seq (.cond (.t 15) .skip (.exit 0)) (.seq (.block 1 (.seq qbn0 (.seq qbl0 (.cond (.t 28) (.seq qbno .ret) .skip)))) qbnp)))
def qbal : IC := zr [zv 4 (.mov (.c (.bool true)))]
def k0t : IC := (.seq qblt (.seq (.seq qbq6 (.cond (.t 10) (.seq qbrd .ret) .skip)) (.seq (.seq qbqi (.block 0 (.loop qbnh))) (.seq qbal .ret))))
@[go_sem] def s0t : List (RV × Co) := [(.t 4, .id)]
theorem c0t : cFun Tryz.prog 113 = some (30, k0t, s0t) := by kernel_rfl

def qbcs : IC := zr [zv 2 (.mov (zc 0))]
def qbcx : IC := zr [zm 6 0, zv 7 (.bin .eql .no (.t 6) (.c (.str []))), zm 8 7, zw 8 false 9 (.mov (.t 0)), zw 8 false 10 (.idx (.t 9) (zc 0)), zw 8 false 11 (.bin .lss .no (.t 10) (.c (.int .u8 97))), zv 12 (.pick (.t 8) (.c (.bool true)) (.t 11)), zm 13 12, zw 13 false 14 (.mov (.t 0)), zw 13 false 15 (.idx (.t 14) (zc 0)), zw 13 false 16 (.bin .gtr .no (.t 15) (.c (.int .u8 122))), zv 17 (.pick (.t 13) (.c (.bool true)) (.t 16))]
def q5g : IC := zr [zv 2 (.mov (zc (-1)))]
def q63 : IC := zr [zm 18 0, zv 19 (.idx (.t 18) (zc 0)), zv 20 (.bin .sub .no (.t 19) (.c (.int .u8 97))), zv 21 (.cvi .i64 (.t 20)), zm 3 21]
def qbaa : IC := zr [zm 22 0, zv 23 (.len true (.t 22)), zv 24 (.bin .gtr .no (.t 23) (zc 1))]
def qbep : IC := zr [zm 26 0, zv 27 (.sls (.t 26) (some (zc 1)) none), zi 28 (.call (.c (.fn 120 [] [])) [((.t 27), .id)]), zm 25 28, zv 29 (.ext (.t 25) 0), zv 30 (.ext (.t 25) 1), zm 4 29, zm 5 30]
def qbc2 : IC := zr [zm 31 5, zv 32 (.bin .neq .no (.t 31) (zc 0)), zm 33 32, zw 33 false 34 (.mov (.t 4)), zw 33 false 35 (.bin .gtr .no (.t 34) (zc 177372539170284150)), zv 36 (.pick (.t 33) (.c (.bool true)) (.t 35))]
def q5t : IC := zr [zv 2 (.mov (zc (-1)))]
def qbf6 : IC := zr [zm 37 3, zm 38 4, zv 39 (.bin .mul .no (zc 26) (.t 38)), zv 40 (.bin .add .no (.t 37) (.t 39)), zm 3 40]
def qbgc : IC := zr [zm 41 3, zv 42 (.bin .gtr .no (.t 41) (zc 4611686018427387904)), zm 43 42, zw 43 false 44 (.mov (.t 3)), ⟨some (43, false), some 45, .call (.c (.fn 102 [] [])) [((.t 44), .id)]⟩, zw 43 false 46 (.mov (.t 0)), zw 43 false 47 (.bin .neq .no (.t 45) (.t 46)), zv 48 (.pick (.t 43) (.c (.bool true)) (.t 47))]
def qy9 : IC := zr [zv 2 (.mov (zc (-1)))]
def q1v : IC := zr [zm 49 3, zm 2 49]
def k0df : IC := (.seq qbcs (.seq (.seq qbcx (.cond (.t 17) (.seq q5g .ret) .skip)) (.seq q63 (.seq (.seq qbaa (.cond (.t 24) (.seq qbep (.seq (.seq qbc2 (.cond (.t 36) (.seq q5t .ret) .skip)) qbf6)) .skip)) (.seq (.seq qbgc (.cond (.t 48) (.seq qy9 .ret) .skip)) (.seq q1v .ret))))))
@[go_sem] def s0df : List (RV × Co) := [(.t 2, .id)]
theorem c0df : cFun Tryz.prog 119 = some (50, k0df, s0df) := by kernel_rfl

def qbbd : IC := zr [zv 2 (.mov (zc 0)), zv 3 (.mov (zc 0))]
def qbf3 : IC := zr [zm 8 0, zv 9 (.len true (.t 8)), zv 10 (.mov (zc 0))]
def q6h : IC := zr [zv 11 (.bin .lss .no (.t 10) (.t 9))]
def qbda : IC := zr [zm 12 10, zm 4 12]
def q5z : IC := zr [zm 13 0, zm 14 4, zv 15 (.idx (.t 13) (.t 14)), zv 16 (.bin .lss .no (.t 15) (.c (.int .u8 48))), zm 17 16, zw 17 false 18 (.mov (.t 0)), zw 17 false 19 (.mov (.t 4)), zw 17 false 20 (.idx (.t 18) (.t 19)), zw 17 false 21 (.bin .gtr .no (.t 20) (.c (.int .u8 57))), zv 22 (.pick (.t 17) (.c (.bool true)) (.t 21))]
def qbco : IC := zr [zv 2 (.mov (zc 0)), zv 3 (.mov (zc 5))]
def qban : IC := zr [zv 23 (.bin .add .no (.t 10) (zc 1)), zm 10 23]
def qbef : IC := (.seq q6h (.seq (.cond (.t 11) .skip (.exit 0)) (.seq (.block 1 (.seq qbda (.seq q5z (.cond (.t 22) (.seq qbco .ret) .skip)))) qban)))
def qbip : IC := zr [zm 24 0, zv 25 (.bin .eql .no (.t 24) (.c (.str [])))]
def q3k : IC := zr [zv 2 (.mov (zc 0)), zv 3 (.mov (zc 5))]
def q3q : IC := zr [zv 5 (.mov (zc 0)), zv 6 (.mov (zc 0))]
def q08 : IC := zr [zm 26 0, zm 27 6, zv 28 (.idx (.t 26) (.t 27)), zv 29 (.bin .sub .no (.t 28) (.c (.int .u8 48))), zv 30 (.cvi .i64 (.t 29)), zm 7 30]
def qzg : IC := zr [zm 31 5, zm 32 7, zv 33 (.bin .sub .no (zc 9223372036854775807) (.t 32)), zv 34 (.bin .quo .no (.t 33) (zc 10)), zv 35 (.bin .gtr .no (.t 31) (.t 34))]
def qzm : IC := zr [zv 2 (.mov (zc 0)), zv 3 (.mov (zc 4))]
def q0f : IC := zr [zm 36 5, zv 37 (.bin .mul .no (zc 10) (.t 36)), zm 38 7, zv 39 (.bin .add .no (.t 37) (.t 38)), zm 5 39]
def qzj : IC := zr [zm 40 6, zv 41 (.bin .add .no (.t 40) (zc 1)), zm 6 41]
def qzd : IC := zr [zm 42 6, zm 43 0, zv 44 (.len true (.t 43)), zv 45 (.bin .lss .no (.t 42) (.t 44))]
def qzk : IC := zr [zm 46 5, zm 2 46, zv 3 (.mov (zc 0))]
def k0bc : IC := (.seq qbbd (.scope (.seq (.seq qbf3 (.block 0 (.loop qbef))) (.seq (.seq qbip (.cond (.t 25) (.seq q3k .ret) .skip)) (.seq q3q (.seq (.label 0) (.seq q08 (.seq (.seq qzg (.cond (.t 35) (.seq qzm .ret) .skip)) (.seq q0f (.seq (.seq qzj (.seq qzd (.cond (.t 45) (.goto 0) .skip))) (.seq qzk .ret)))))))))))
@[go_sem] def s0bc : List (RV × Co) := [(.t 2, .id), (.t 3, .id)]
theorem c0bc : cFun Tryz.prog 120 = some (47, k0bc, s0bc) := by kernel_rfl

def qbmp : IC := zr [zi 3 (.box (.t 0)), zv 5 zf]
def qbn7 : IC := zr [zv 6 (.ld false 1 (.t 2)), zv 7 (.bin .add .no (.t 6) (zc 1)), zn (.st 1 .id (.t 2) (.t 7))]
def qbp5 : IC := zr [zv 5 (.mov (.c (.bool true)))]
def k0h : IC := (.seq qbmp (.seq qbn7 (.seq qbp5 .ret)))
@[go_sem] def s0h : List (RV × Co) := [(.t 5, .id)]
theorem c0h : cFun Tryz.prog 124 = some (8, k0h, s0h) := by kernel_rfl

def qbm3 : IC := zr [zi 3 (.box (.t 0)), zv 5 zf]
def qbn1 : IC := zr [zv 6 (.ld false 1 (.t 2)), zm 7 1, zv 8 (.mm true (.t 6) (.t 7)), zn (.st 1 .id (.t 2) (.t 8))]
def qboy : IC := zr [zv 5 (.mov (.c (.bool true)))]
def k0i : IC := (.seq qbm3 (.seq qbn1 (.seq qboy .ret)))
@[go_sem] def s0i : List (RV × Co) := [(.t 5, .id)]
theorem c0i : cFun Tryz.prog 125 = some (9, k0i, s0i) := by kernel_rfl

end Go.Proofs.YtbbjelfnocmaoaaGreat
