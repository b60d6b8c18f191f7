/- A text of this proof. -/
import Derived.Test.YtlahgbhhejkgbaaGreatLaf
import Derived.Test.YtlahgbhhejkgbaaGreatProg
/- The compiled code of the functions. -/
namespace Go.Proofs.YtlahgbhhejkgbaaGreat
open Go Go.V
@[reducible] def zm (d s : Nat) : GI := ⟨none, some d, .v (.mov (.t s))⟩
@[reducible] def zv (d : Nat) (x : IV) : GI := ⟨none, some d, .v x⟩
@[reducible] def zi (d : Nat) (i : I) : GI := ⟨none, some d, i⟩
@[reducible] def zn (i : I) : GI := ⟨none, none, i⟩
@[reducible] def zw (j : Nat) (b : Bool) (d : Nat) (x : IV) : GI := ⟨some (j, b), some d, .v x⟩
@[reducible] def zp (g : GI) : GI × List Nat := (g, [])
@[reducible] def zN : Co := .agg [.id, .id, .id, .id, (.sl 5)]
@[reducible] def zC : Co := .agg [(.sl 4), .id, .id, .id, .id, .id, .id, .id]
@[reducible] def zaN : I := .alo [(.int .i64 0), (.int .i64 0), (.int .i64 0), (.str []), .nils]
@[reducible] def zaC : I := .alo [.nils, (.int .i64 0), (.int .i64 0), (.int .i64 0), (.str []), (.int .i64 0), (.int .i64 0), (.int .i64 0)]
@[reducible] def zaT : I := .alo [(.int .i64 0), (.int .i64 0), (.int .i64 0), (.str [])]
@[reducible] def zZ : AV := .agg [(.int .i64 0), (.int .i64 0), (.int .i64 0), (.str []), .nils]
@[reducible] def zc (n : Int) : Opd := .c (.int .i64 n)
@[reducible] def zf : IV := .mov (.c (.bool false))
@[reducible] def zr (l : List GI) : IC := .reg false l
def qboq : IC := zr [zi 4 (.box (.t 1)), zi 5 (.box (.t 2)), zv 6 zf]
def qbpq : IC := zr [zm 16 0, zi 17 (.call (.c (.fn 17 [] [])) [((.t 16), (.sl 4))]), zv 18 (.bin .eql .no (.t 17) (zc 0)), zm 19 18, zw 19 false 20 (.mov (.t 0)), zw 19 false 21 (.len false (.t 20)), zw 19 false 22 (.bin .gtr .no (.t 21) (zc 5)), zv 23 (.pick (.t 19) (.c (.bool true)) (.t 22)), zm 24 23, zw 24 false 25 (.ld true 3 (.t 4)), zw 24 false 26 (.ld true 3 (.t 5)), zw 24 false 27 (.bsl 3 [((.t 25), (.agg [.id, .id, (.sl 3)])), ((.t 26), (.agg [.id, .id, (.sl 3)]))]), ⟨some (24, false), some 28, .call (.c (.fn 7 [] [])) [((.t 27), (.sl 3))]⟩, zw 24 false 29 (.un .not (.t 28)), zv 30 (.pick (.t 24) (.c (.bool true)) (.t 29))]
def qbo1 : IC := zr [zi 31 (.call (.c (.fn 8 [] [])) []), zm 6 31]
def qblm : IC := zr [zm 32 0, zi 33 (.call (.c (.fn 18 [] [])) [((.t 32), (.sl 4))]), zm 7 33]
def qbog : IC := zr [zm 35 7, zv 36 (.ld true 3 (.t 4)), zi 37 (.call (.c (.fn 19 [] [])) [((.t 35), .id), ((.t 36), (.agg [.id, .id, (.sl 3)]))]), zm 34 37, zv 38 (.ext (.t 34) 0), zv 39 (.ext (.t 34) 1), zi 8 (.alo [(.str []), (.int .i64 0), .nils]), zn (.st 3 (.agg [.id, .id, (.sl 3)]) (.t 8) (.t 38)), zm 9 39]
def qbp5 : IC := zr [zm 41 7, zv 42 (.ld true 3 (.t 5)), zi 43 (.call (.c (.fn 19 [] [])) [((.t 41), .id), ((.t 42), (.agg [.id, .id, (.sl 3)]))]), zm 40 43, zv 44 (.ext (.t 40) 0), zv 45 (.ext (.t 40) 1), zi 10 (.alo [(.str []), (.int .i64 0), .nils]), zn (.st 3 (.agg [.id, .id, (.sl 3)]) (.t 10) (.t 44)), zm 11 45]
def qbqa : IC := zr [zm 46 9, zv 47 (.bin .neq .no (.t 46) (zc 0)), zm 48 47, zw 48 false 49 (.mov (.t 11)), zw 48 false 50 (.bin .neq .no (.t 49) (zc 0)), zv 51 (.pick (.t 48) (.c (.bool true)) (.t 50)), zm 52 51, zw 52 false 53 (.ld true 3 (.t 8)), zw 52 false 54 (.ld true 3 (.t 10)), ⟨some (52, false), some 55, .call (.c (.fn 20 [] [])) [((.t 53), (.agg [.id, .id, (.sl 3)])), ((.t 54), (.agg [.id, .id, (.sl 3)]))]⟩, zw 52 false 56 (.un .not (.t 55)), zv 57 (.pick (.t 52) (.c (.bool true)) (.t 56))]
def qbsu : IC := zr [zi 58 (.call (.c (.fn 8 [] [])) []), zm 6 58]
def qbpe : IC := zr [zv 60 (.ld true 3 (.t 4)), zv 61 (.ld true 3 (.t 5)), zi 62 (.call (.c (.fn 9 [] [])) [((.t 60), (.agg [.id, .id, (.sl 3)])), ((.t 61), (.agg [.id, .id, (.sl 3)]))]), zm 59 62, zv 63 (.ext (.t 59) 0), zv 64 (.ext (.t 59) 1), zm 12 63, zm 13 64]
def qbr8 : IC := zr [zm 65 13, zv 66 (.bin .neq .no (.t 65) (zc 0))]
def qbin : IC := zr [zm 67 13, zv 68 (.bin .eql .no (.t 67) (zc 2)), zm 69 68, ⟨some (69, true), some 70, .call (.c (.fn 8 [] [])) []⟩, zv 71 (.pick (.t 69) (.t 70) (.c (.bool false))), zm 6 71]
def qbg0 : IC := zr [zm 73 12, zv 74 (.ld true 3 (.t 4)), zi 75 (.call (.c (.fn 19 [] [])) [((.t 73), .id), ((.t 74), (.agg [.id, .id, (.sl 3)]))]), zm 72 75, zv 76 (.ext (.t 72) 0), zv 77 (.ext (.t 72) 1), zi 14 (.alo [(.str []), (.int .i64 0), .nils]), zn (.st 3 (.agg [.id, .id, (.sl 3)]) (.t 14) (.t 76)), zm 15 77]
def qbba : IC := zr [zm 78 15, zv 79 (.bin .neq .no (.t 78) (zc 0)), zm 80 79, zw 80 false 81 (.ld true 3 (.t 14)), zw 80 false 82 (.ld true 3 (.t 8)), ⟨some (80, false), some 83, .call (.c (.fn 21 [] [])) [((.t 81), (.agg [.id, .id, (.sl 3)])), ((.t 82), (.agg [.id, .id, (.sl 3)]))]⟩, zv 84 (.pick (.t 80) (.c (.bool true)) (.t 83)), zm 85 84, ⟨some (85, true), some 86, .call (.c (.fn 8 [] [])) []⟩, zv 87 (.pick (.t 85) (.t 86) (.c (.bool false))), zm 6 87]
def k0c : IC := (.seq qboq (.seq (.seq qbpq (.cond (.t 30) (.seq qbo1 .ret) .skip)) (.seq qblm (.seq qbog (.seq qbp5 (.seq (.seq qbqa (.cond (.t 57) (.seq qbsu .ret) .skip)) (.seq qbpe (.seq (.seq qbr8 (.cond (.t 66) (.seq qbin .ret) .skip)) (.seq qbg0 (.seq qbba .ret))))))))))
@[go_sem] def s0c : List (RV × Co) := [(.t 6, .id)]
theorem c0c : cFun Tryz.prog 5 = some (88, k0c, s0c) := by kernel_rfl

def qbn3 : IC := zr [zv 2 zf]
def qbo0 : IC := zr [zv 3 (.mov (zc 0))]
def qblc : IC := zr [zv 4 (.mov (zc 0))]
def qbrx : IC := zr [zm 5 4, zm 6 0, zv 7 (.len false (.t 6)), zv 8 (.bin .lss .no (.t 5) (.t 7))]
def qbmb : IC := zr [zm 11 0, zm 12 4, zv 13 (.iad 3 (.t 11) (.t 12)), zv 14 (.ld true 3 (.t 13)), zv 15 (.bsl 3 [((.t 14), (.agg [.id, .id, (.sl 3)]))]), zi 16 (.call (.c (.fn 22 [] [])) [((.t 15), (.sl 3))]), zv 17 (.bin .eql .no (.t 16) (zc 0))]
def qbnl : IC := zr [zv 2 zf]
def qbq0 : IC := zr [zm 18 3, zm 19 0, zm 20 4, zv 21 (.iad 3 (.t 19) (.t 20)), zv 22 (.ld true 3 (.t 21)), zi 23 (.call (.c (.fn 23 [] [])) [((.t 22), (.agg [.id, .id, (.sl 3)]))]), zv 24 (.bin .add .no (.t 18) (.t 23)), zm 3 24]
def qbj5 : IC := zr [zm 25 3, zv 26 (.bin .gtr .no (.t 25) (zc 600))]
def qbm0 : IC := zr [zv 2 zf]
def qbfq : IC := zr [zm 9 4, zv 10 (.bin .add .no (.t 9) (zc 1)), zm 4 10]
def qbj1 : IC := (.seq (.seq qbrx (.cond (.t 8) .skip (.exit 0))) (.seq (.block 1 (.seq (.seq qbmb (.cond (.t 17) (.seq qbnl .ret) .skip)) (.seq qbq0 (.seq qbj5 (.cond (.t 26) (.seq qbm0 .ret) .skip))))) qbfq))
def q78 : IC := zr [zv 2 (.mov (.c (.bool true)))]
def k0d : IC := (.seq qbn3 (.seq qbo0 (.seq (.seq qblc (.block 0 (.loop qbj1))) (.seq q78 .ret))))
@[go_sem] def s0d : List (RV × Co) := [(.t 2, .id)]
theorem c0d : cFun Tryz.prog 7 = some (27, k0d, s0d) := by kernel_rfl

def qbpn : IC := zr [zv 0 zf]
def qbjs : IC := zr [zi 18 (.call (.c (.fn 24 [] [])) [((.c (.str [97, 32, 45, 62, 32, 84])), .id)]), zi 19 (.call (.c (.fn 24 [] [])) [((.c (.str [85, 32, 45, 62, 32, 98])), .id)]), zi 20 (.call (.c (.fn 9 [] [])) [((.t 18), (.agg [.id, .id, (.sl 3)])), ((.t 19), (.agg [.id, .id, (.sl 3)]))]), zm 17 20, zv 21 (.ext (.t 17) 0), zv 22 (.ext (.t 17) 1), zm 1 21, zm 2 22]
def qbm6 : IC := zr [zm 23 1, zv 24 (.bin .eql .ptr (.t 23) (.c .nilp))]
def qbn9 : IC := zr [zv 0 zf]
def qbst : IC := zr [zm 26 1, zi 27 (.call (.c (.fn 25 [] [])) [((.t 26), .id), ((zc 0), .id)]), zm 25 27, zv 28 (.ext (.t 25) 0), zv 29 (.ext (.t 25) 1), zi 3 (.alo [(.str []), (.int .i64 0), .nils]), zn (.st 3 (.agg [.id, .id, (.sl 3)]) (.t 3) (.t 28)), zm 4 29]
def qbk8 : IC := zr [zm 31 1, zi 32 (.call (.c (.fn 25 [] [])) [((.t 31), .id), ((zc 1), .id)]), zm 30 32, zv 33 (.ext (.t 30) 0), zv 34 (.ext (.t 30) 1), zi 5 (.alo [(.str []), (.int .i64 0), .nils]), zn (.st 3 (.agg [.id, .id, (.sl 3)]) (.t 5) (.t 33)), zm 6 34]
def qbmv : IC := zr [zi 36 (.call (.c (.fn 24 [] [])) [((.c (.str [97, 32, 45, 62, 32, 84])), .id)]), zi 37 (.call (.c (.fn 24 [] [])) [((.c (.str [84])), .id)]), zi 38 (.call (.c (.fn 9 [] [])) [((.t 36), (.agg [.id, .id, (.sl 3)])), ((.t 37), (.agg [.id, .id, (.sl 3)]))]), zm 35 38, zv 39 (.ext (.t 35) 0), zv 40 (.ext (.t 35) 1), zm 7 39, zm 8 40]
def qbqs : IC := zr [zi 42 (.call (.c (.fn 24 [] [])) [((.c (.str [97])), .id)]), zi 43 (.call (.c (.fn 24 [] [])) [((.c (.str [84, 32, 97])), .id)]), zi 44 (.call (.c (.fn 9 [] [])) [((.t 42), (.agg [.id, .id, (.sl 3)])), ((.t 43), (.agg [.id, .id, (.sl 3)]))]), zm 41 44, zv 45 (.ext (.t 41) 0), zv 46 (.ext (.t 41) 1), zm 9 45, zm 10 46]
def qbq2 : IC := zr [zi 48 (.call (.c (.fn 24 [] [])) [((.c (.str [97])), .id)]), zi 49 (.call (.c (.fn 24 [] [])) [((.c (.str [97])), .id)]), zv 50 (.bsl 3 [((.t 48), (.agg [.id, .id, (.sl 3)])), ((.t 49), (.agg [.id, .id, (.sl 3)]))]), zi 51 (.call (.c (.fn 24 [] [])) [((.c (.str [84])), .id)]), zi 52 (.call (.c (.fn 24 [] [])) [((.c (.str [85])), .id)]), zv 53 (.bsl 3 [((.t 51), (.agg [.id, .id, (.sl 3)])), ((.t 52), (.agg [.id, .id, (.sl 3)]))]), zi 54 (.call (.c (.fn 13 [] [])) [((.t 50), (.sl 3)), ((.t 53), (.sl 3))]), zm 47 54, zv 55 (.ext (.t 47) 0), zv 56 (.ext (.t 47) 1), zm 11 55, zm 12 56]
def qbrm : IC := zr [zm 58 1, zi 59 (.call (.c (.fn 24 [] [])) [((.c (.str [97, 32, 45, 62, 32, 99])), .id)]), zi 60 (.call (.c (.fn 24 [] [])) [((.c (.str [99, 32, 45, 62, 32, 85])), .id)]), zi 61 (.call (.c (.fn 26 [] [])) [((.t 58), .id), ((.t 59), (.agg [.id, .id, (.sl 3)])), ((.t 60), (.agg [.id, .id, (.sl 3)]))]), zm 57 61, zv 62 (.ext (.t 57) 0), zv 63 (.ext (.t 57) 1), zm 13 62, zm 14 63]
def qbe6 : IC := zr [zm 65 13, zi 66 (.call (.c (.fn 25 [] [])) [((.t 65), .id), ((zc 2), .id)]), zm 64 66, zv 67 (.ext (.t 64) 0), zv 68 (.ext (.t 64) 1), zi 15 (.alo [(.str []), (.int .i64 0), .nils]), zn (.st 3 (.agg [.id, .id, (.sl 3)]) (.t 15) (.t 67)), zm 16 68]
def q7z : IC := zr [zm 69 2, zv 70 (.bin .eql .no (.t 69) (zc 0)), zm 71 70, zw 71 true 72 (.fad (.t 3) 0), zw 71 true 73 (.ld false 1 (.t 72)), zw 71 true 74 (.bin .eql .no (.t 73) (.c (.str [85]))), zv 75 (.pick (.t 71) (.t 74) (.c (.bool false))), zm 76 75, zw 76 true 77 (.fad (.t 5) 0), zw 76 true 78 (.ld false 1 (.t 77)), zw 76 true 79 (.bin .eql .no (.t 78) (.c (.str [84]))), zv 80 (.pick (.t 76) (.t 79) (.c (.bool false))), zm 81 80, zw 81 true 82 (.mov (.t 8)), zw 81 true 83 (.bin .eql .no (.t 82) (zc 14)), zv 84 (.pick (.t 81) (.t 83) (.c (.bool false))), zm 85 84, zw 85 true 86 (.mov (.t 10)), zw 85 true 87 (.bin .eql .no (.t 86) (zc 15)), zv 88 (.pick (.t 85) (.t 87) (.c (.bool false))), zm 89 88, zw 89 true 90 (.mov (.t 12)), zw 89 true 91 (.bin .eql .no (.t 90) (zc 14)), zv 92 (.pick (.t 89) (.t 91) (.c (.bool false))), zm 93 92, zw 93 true 94 (.mov (.t 14)), zw 93 true 95 (.bin .eql .no (.t 94) (zc 0)), zv 96 (.pick (.t 93) (.t 95) (.c (.bool false))), zm 97 96, zw 97 true 98 (.fad (.t 15) 0), zw 97 true 99 (.ld false 1 (.t 98)), zw 97 true 100 (.bin .eql .no (.t 99) (.c (.str [85]))), zv 101 (.pick (.t 97) (.t 100) (.c (.bool false))), zm 102 101, ⟨some (102, true), some 103, .call (.c (.fn 24 [] [])) [((.c (.str [97])), .id)]⟩, ⟨some (102, true), some 104, .call (.c (.fn 24 [] [])) [((.c (.str [84, 32, 97])), .id)]⟩, ⟨some (102, true), some 105, .call (.c (.fn 15 [] [])) [((.t 103), (.agg [.id, .id, (.sl 3)])), ((.t 104), (.agg [.id, .id, (.sl 3)]))]⟩, zw 102 true 106 (.un .not (.t 105)), zv 107 (.pick (.t 102) (.t 106) (.c (.bool false))), zm 108 107, ⟨some (108, true), some 109, .call (.c (.fn 24 [] [])) [((.c (.str [84, 32, 97])), .id)]⟩, ⟨some (108, true), some 110, .call (.c (.fn 24 [] [])) [((.c (.str [85])), .id)]⟩, ⟨some (108, true), some 111, .call (.c (.fn 15 [] [])) [((.t 109), (.agg [.id, .id, (.sl 3)])), ((.t 110), (.agg [.id, .id, (.sl 3)]))]⟩, zv 112 (.pick (.t 108) (.t 111) (.c (.bool false))), zm 0 112]
def k0f : IC := (.seq qbpn (.seq qbjs (.seq (.seq qbm6 (.cond (.t 24) (.seq qbn9 .ret) .skip)) (.seq qbst (.seq qbk8 (.seq qbmv (.seq qbqs (.seq qbq2 (.seq qbrm (.seq qbe6 (.seq q7z .ret)))))))))))
@[go_sem] def s0f : List (RV × Co) := [(.t 0, .id)]
theorem c0f : cFun Tryz.prog 8 = some (113, k0f, s0f) := by kernel_rfl

def qbmw : IC := zr [zi 2 (.box (.t 0)), zi 3 (.box (.t 1)), zv 4 (.mov (.c .nilp)), zv 5 (.mov (zc 0))]
def qbqm : IC := zr [zv 6 (.ld true 3 (.t 2)), zv 7 (.ld true 3 (.t 3)), zv 8 (.bsl 3 [((.t 6), (.agg [.id, .id, (.sl 3)])), ((.t 7), (.agg [.id, .id, (.sl 3)]))]), zi 9 (.call (.c (.fn 27 [] [])) [((.t 8), (.sl 3))]), zv 10 (.un .not (.t 9))]
def qbrw : IC := zr [zv 4 (.mov (.c .nilp)), zv 5 (.mov (zc 1))]
def qbo4 : IC := zr [zv 11 (.ld true 3 (.t 2)), zv 12 (.ld true 3 (.t 3)), zv 13 (.bld [(.str []), (.int .i64 0), .nils, (.str []), (.int .i64 0), .nils] [(0, 3, (.t 11)), (3, 3, (.t 12))]), zv 14 (.bsl 6 [((.t 13), (.agg [.id, .id, (.sl 3), .id, .id, (.sl 3)]))]), zi 15 (.call (.c (.fn 28 [] [])) [((.t 14), (.sl 6))]), zv 16 (.ext (.t 15) 0), zv 17 (.ext (.t 15) 1), zm 4 16, zm 5 17]
def k0k : IC := (.seq qbmw (.seq (.seq qbqm (.cond (.t 10) (.seq qbrw .ret) .skip)) (.seq qbo4 .ret)))
@[go_sem] def s0k : List (RV × Co) := [(.t 4, .id), (.t 5, .id)]
theorem c0k : cFun Tryz.prog 9 = some (18, k0k, s0k) := by kernel_rfl

def qbqo : IC := zr [zv 2 (.mov (.c .nils))]
def qbpa : IC := zr [zm 6 0, zv 7 (.bin .eql .ptr (.t 6) (.c .nilp))]
def qbpg : IC := zr [zv 2 (.mov (.c .nils))]
def qbm1 : IC := zr [zm 8 0, zv 9 (.nck (.t 8)), zv 10 (.fad (.t 9) 0), zv 11 (.ld false 1 (.t 10)), zv 12 (.len false (.t 11)), zi 13 (.mks 4 (.agg [(.int .i64 0), (.str []), (.int .i64 0), .nils]) 56 (.t 12) (.t 12)), zm 3 13]
def qbnx : IC := zr [zm 14 0, zv 15 (.nck (.t 14)), zv 16 (.fad (.t 15) 0), zv 17 (.ld false 1 (.t 16)), zv 18 (.len false (.t 17)), zv 19 (.mov (zc 0))]
def qbk4 : IC := zr [zv 20 (.bin .lss .no (.t 19) (.t 18))]
def qbjx : IC := zr [zm 21 19, zv 22 (.iad 4 (.t 17) (.t 19)), zv 23 (.ld true 4 (.t 22)), zi 5 (.alo [(.int .i64 0), (.str []), (.int .i64 0), .nils]), zm 4 21, zn (.st 4 (.agg [.id, .id, .id, (.sl 3)]) (.t 5) (.t 23))]
def qbo2 : IC := .drw [zp (zm 24 3), zp (zm 25 4), zp (zv 26 (.fad (.t 5) 0)), zp (zv 27 (.ld false 1 (.t 26))), zp (zv 28 (.fad (.t 5) 1)), zp (zv 29 (.ld true 3 (.t 28))), (zi 30 (.call (.c (.fn 31 [] [])) [((.t 29), (.agg [.id, .id, (.sl 3)]))]), [3]), (zv 31 (.bld [(.int .i64 0), (.str []), (.int .i64 0), .nils] [(0, 1, (.t 27)), (1, 3, (.t 30))]), []), zp (zv 32 (.iad 4 (.t 24) (.t 25))), (zn (.st 4 (.agg [.id, .id, .id, (.sl 3)]) (.t 32) (.t 31)), [])]
def qbp4 : IC := zr [zv 33 (.bin .add .no (.t 19) (zc 1)), zm 19 33]
def qbmq : IC := (.seq qbk4 (.seq (.cond (.t 20) .skip (.exit 0)) (.seq (.block 1 (.seq qbjx qbo2)) qbp4)))
def qbi1 : IC := zr [zm 34 3, zm 2 34]
def k0u : IC := (.seq qbqo (.seq (.seq qbpa (.cond (.t 7) (.seq qbpg .ret) .skip)) (.seq qbm1 (.seq (.seq qbnx (.block 0 (.loop qbmq))) (.seq qbi1 .ret)))))
@[go_sem] def s0u : List (RV × Co) := [(.t 2, (.sl 4))]
theorem c0u : cFun Tryz.prog 12 = some (35, k0u, s0u) := by kernel_rfl

def qbmd : IC := zr [zv 4 (.mov (.c .nilp)), zv 5 (.mov (zc 0))]
def qbrk : IC := zr [zm 7 0, zi 8 (.call (.c (.fn 27 [] [])) [((.t 7), (.sl 3))]), zv 9 (.un .not (.t 8)), zm 10 9, zw 10 false 11 (.mov (.t 1)), ⟨some (10, false), some 12, .call (.c (.fn 27 [] [])) [((.t 11), (.sl 3))]⟩, zw 10 false 13 (.un .not (.t 12)), zv 14 (.pick (.t 10) (.c (.bool true)) (.t 13)), zm 6 14]
def qbm3 : IC := zr [zv 4 (.mov (.c .nilp)), zv 5 (.mov (zc 1))]
def qbnk : IC := zr [zm 16 0, zv 17 (.len false (.t 16)), zm 18 1, zv 19 (.len false (.t 18)), zv 20 (.bin .neq .no (.t 17) (.t 19)), zm 15 20]
def qbr6 : IC := zr [zv 4 (.mov (.c .nilp)), zv 5 (.mov (zc 14))]
def qbph : IC := zr [zm 21 0, zm 22 1, zi 23 (.call (.c (.fn 32 [] [])) [((.t 21), (.sl 3)), ((.t 22), (.sl 3))]), zi 24 (.call (.c (.fn 28 [] [])) [((.t 23), (.sl 6))]), zv 25 (.ext (.t 24) 0), zv 26 (.ext (.t 24) 1), zm 4 25, zm 5 26]
def k0i : IC := (.seq qbmd (.seq (.block 0 (.seq qbrk (.cond (.t 6) (.seq qbm3 .ret) (.seq qbnk (.cond (.t 15) (.seq qbr6 .ret) .skip))))) (.seq qbph .ret)))
@[go_sem] def s0i : List (RV × Co) := [(.t 4, .id), (.t 5, .id)]
theorem c0i : cFun Tryz.prog 13 = some (27, k0i, s0i) := by kernel_rfl

def qbra : IC := zr [zi 2 (.box (.t 0)), zi 3 (.box (.t 1)), zv 4 zf]
def qbml : IC := zr [zv 7 (.ld true 3 (.t 2)), zv 8 (.ld true 3 (.t 3)), zv 9 (.bsl 3 [((.t 7), (.agg [.id, .id, (.sl 3)])), ((.t 8), (.agg [.id, .id, (.sl 3)]))]), zi 10 (.call (.c (.fn 27 [] [])) [((.t 9), (.sl 3))]), zv 11 (.un .not (.t 10))]
def qbkc : IC := zr [zv 4 zf]
def qbqu : IC := .drw [zp (zv 13 (.ld true 3 (.t 2))), (zi 14 (.call (.c (.fn 34 [] [])) [((.t 13), (.agg [.id, .id, (.sl 3)])), ((zc 0), .id)]), []), (zv 15 (.ld true 3 (.t 3)), [1]), (zi 16 (.call (.c (.fn 34 [] [])) [((.t 15), (.agg [.id, .id, (.sl 3)])), ((zc 1), .id)]), []), (zi 17 (.call (.c (.fn 9 [] [])) [((.t 14), (.agg [.id, .id, (.sl 3)])), ((.t 16), (.agg [.id, .id, (.sl 3)]))]), []), zp (zm 12 17), zp (zv 18 (.ext (.t 12) 0)), zp (zv 19 (.ext (.t 12) 1)), zp (zm 5 18), zp (zm 6 19)]
def qbmy : IC := zr [zm 20 6, zv 21 (.bin .eql .no (.t 20) (zc 14)), zm 22 21, zw 22 false 23 (.mov (.t 6)), zw 22 false 24 (.bin .eql .no (.t 23) (zc 15)), zv 25 (.pick (.t 22) (.c (.bool true)) (.t 24)), zm 4 25]
def k0h : IC := (.seq qbra (.seq (.seq qbml (.cond (.t 11) (.seq qbkc .ret) .skip)) (.seq qbqu (.seq qbmy .ret))))
@[go_sem] def s0h : List (RV × Co) := [(.t 4, .id)]
theorem c0h : cFun Tryz.prog 15 = some (26, k0h, s0h) := by kernel_rfl

def qbri : IC := zr [zv 2 (.mov (zc 0))]
def qbob : IC := zr [zm 5 0, zv 6 (.len false (.t 5)), zv 7 (.bin .gtr .no (.t 6) (zc 30))]
def qbnu : IC := zr [zv 2 (.mov (zc 0))]
def qbsn : IC := zr [zv 3 (.mov (.c .nils))]
def qbnj : IC := zr [zv 4 (.mov (zc 0))]
def qblr : IC := zr [zm 8 4, zm 9 0, zv 10 (.len false (.t 9)), zv 11 (.bin .lss .no (.t 8) (.t 10))]
def qbmc : IC := zr [zm 14 3, zm 15 0, zm 16 4, zv 17 (.iad 4 (.t 15) (.t 16)), zv 18 (.fad (.t 17) 1), zv 19 (.ld true 3 (.t 18)), zv 20 (.bsl 3 [((.t 19), (.agg [.id, .id, (.sl 3)]))]), zi 21 (.app 3 (.agg [(.str []), (.int .i64 0), .nils]) 48 (.sl 3) (.t 14) (.t 20)), zm 3 21]
def qbq6 : IC := zr [zm 12 4, zv 13 (.bin .add .no (.t 12) (zc 1)), zm 4 13]
def qbsc : IC := (.seq (.seq qblr (.cond (.t 11) .skip (.exit 0))) (.seq (.block 1 qbmc) qbq6))
def qbfe : IC := zr [zm 22 3, zi 23 (.call (.c (.fn 22 [] [])) [((.t 22), (.sl 3))]), zm 2 23]
def k0s : IC := (.seq qbri (.seq (.seq qbob (.cond (.t 7) (.seq qbnu .ret) .skip)) (.seq qbsn (.seq (.seq qbnj (.block 0 (.loop qbsc))) (.seq qbfe .ret)))))
@[go_sem] def s0s : List (RV × Co) := [(.t 2, .id)]
theorem c0s : cFun Tryz.prog 17 = some (24, k0s, s0s) := by kernel_rfl

def qbo5 : IC := zr [zv 2 (.mov (.c .nilp))]
def qbmx : IC := zr [zv 6 (.bld [.nils] []), zi 7 (.box (.t 6)), zm 3 7]
def qbl3 : IC := zr [zm 8 0, zv 9 (.len false (.t 8)), zv 10 (.mov (zc 0))]
def qbr5 : IC := zr [zv 11 (.bin .lss .no (.t 10) (.t 9))]
def qbqr : IC := zr [zv 12 (.iad 4 (.t 8) (.t 10)), zv 13 (.ld true 4 (.t 12)), zi 5 (.alo [(.int .i64 0), (.str []), (.int .i64 0), .nils]), zn (.st 4 (.agg [.id, .id, .id, (.sl 3)]) (.t 5) (.t 13))]
def qbqy : IC := zr [zm 14 3, zv 15 (.fad (.t 5) 0), zv 16 (.ld false 1 (.t 15)), zv 17 (.fad (.t 5) 1), zv 18 (.ld true 3 (.t 17)), zi 19 (.call (.c (.fn 36 [] [])) [((.t 14), .id), ((.t 16), .id), ((.t 18), (.agg [.id, .id, (.sl 3)]))])]
def qbky : IC := zr [zv 20 (.bin .add .no (.t 10) (zc 1)), zm 10 20]
def qbnn : IC := (.seq qbr5 (.seq (.cond (.t 11) .skip (.exit 0)) (.seq (.block 1 (.seq qbqr qbqy)) qbky)))
def qbsg : IC := zr [zm 21 3, zm 2 21]
def k0w : IC := (.seq qbo5 (.seq qbmx (.seq (.seq qbl3 (.block 0 (.loop qbnn))) (.seq qbsg .ret))))
@[go_sem] def s0w : List (RV × Co) := [(.t 2, .id)]
theorem c0w : cFun Tryz.prog 18 = some (22, k0w, s0w) := by kernel_rfl

def qboe : IC := zr [zi 3 (.box (.t 1)), zi 4 (.alo [(.str []), (.int .i64 0), .nils]), zv 5 (.mov (zc 0))]
def qbp8 : IC := zr [zv 8 (.ld true 3 (.t 3)), zi 9 (.call (.c (.fn 37 [] [])) [((.t 8), (.agg [.id, .id, (.sl 3)]))]), zv 10 (.un .not (.t 9))]
def qbk6 : IC := zr [zv 11 (.bld [(.str []), (.int .i64 0), .nils] []), zn (.st 3 (.agg [.id, .id, (.sl 3)]) (.t 4) (.t 11)), zv 5 (.mov (zc 1))]
def qbo7 : IC := zr [zm 12 0, zv 13 (.bld [.nilp, (.int .i64 0)] [(0, 1, (.t 12)), (1, 1, (zc 4096))]), zi 14 (.box (.t 13)), zm 6 14]
def qbl8 : IC := zr [zm 15 6, zv 16 (.ld true 3 (.t 3)), zi 17 (.call (.c (.fn 38 [] [])) [((.t 15), .id), ((.t 16), (.agg [.id, .id, (.sl 3)])), ((zc 1), .id)]), zi 7 (.alo [(.str []), (.int .i64 0), .nils]), zn (.st 3 (.agg [.id, .id, (.sl 3)]) (.t 7) (.t 17))]
def qbqi : IC := zr [zm 18 6, zv 19 (.nck (.t 18)), zv 20 (.fad (.t 19) 1), zv 21 (.ld false 1 (.t 20)), zv 22 (.bin .lss .no (.t 21) (zc 0))]
def qbnm : IC := zr [zv 23 (.bld [(.str []), (.int .i64 0), .nils] []), zn (.st 3 (.agg [.id, .id, (.sl 3)]) (.t 4) (.t 23)), zv 5 (.mov (zc 2))]
def qbqh : IC := zr [zv 24 (.ld true 3 (.t 7)), zn (.st 3 (.agg [.id, .id, (.sl 3)]) (.t 4) (.t 24)), zv 5 (.mov (zc 0))]
def k0v : IC := (.seq qboe (.seq (.seq qbp8 (.cond (.t 10) (.seq qbk6 .ret) .skip)) (.seq qbo7 (.seq qbl8 (.seq (.seq qbqi (.cond (.t 22) (.seq qbnm .ret) .skip)) (.seq qbqh .ret))))))
@[go_sem] def s0v : List (RV × Co) := [(.c true 3 4, (.agg [.id, .id, (.sl 3)])), (.t 5, .id)]
theorem c0v : cFun Tryz.prog 19 = some (25, k0v, s0v) := by kernel_rfl

def qbbx : IC := zr [zi 2 (.box (.t 0)), zi 3 (.box (.t 1)), zv 4 zf]
def q97 : IC := zr [zv 6 (.fad (.t 2) 0), zv 7 (.ld false 1 (.t 6)), zv 8 (.fad (.t 3) 0), zv 9 (.ld false 1 (.t 8)), zv 10 (.bin .neq .no (.t 7) (.t 9)), zm 11 10, zw 11 false 12 (.fad (.t 2) 1), zw 11 false 13 (.ld false 1 (.t 12)), zw 11 false 14 (.fad (.t 3) 1), zw 11 false 15 (.ld false 1 (.t 14)), zw 11 false 16 (.bin .neq .no (.t 13) (.t 15)), zv 17 (.pick (.t 11) (.c (.bool true)) (.t 16)), zm 18 17, zw 18 false 19 (.fad (.t 2) 2), zw 18 false 20 (.ld false 1 (.t 19)), zw 18 false 21 (.len false (.t 20)), zw 18 false 22 (.fad (.t 3) 2), zw 18 false 23 (.ld false 1 (.t 22)), zw 18 false 24 (.len false (.t 23)), zw 18 false 25 (.bin .neq .no (.t 21) (.t 24)), zv 26 (.pick (.t 18) (.c (.bool true)) (.t 25))]
def qbg4 : IC := zr [zv 4 zf]
def q6u : IC := zr [zv 5 (.mov (zc 0))]
def q71 : IC := zr [zm 27 5, zv 28 (.fad (.t 2) 2), zv 29 (.ld false 1 (.t 28)), zv 30 (.len false (.t 29)), zv 31 (.bin .lss .no (.t 27) (.t 30))]
def q9n : IC := .drw [zp (zv 34 (.fad (.t 2) 2)), zp (zv 35 (.ld false 1 (.t 34))), zp (zm 36 5), zp (zv 37 (.iad 3 (.t 35) (.t 36))), zp (zv 38 (.ld true 3 (.t 37))), zp (zv 39 (.fad (.t 3) 2)), zp (zv 40 (.ld false 1 (.t 39))), zp (zm 41 5), zp (zv 42 (.iad 3 (.t 40) (.t 41))), zp (zv 43 (.ld true 3 (.t 42))), (zi 44 (.call (.c (.fn 20 [] [])) [((.t 38), (.agg [.id, .id, (.sl 3)])), ((.t 43), (.agg [.id, .id, (.sl 3)]))]), []), zp (zv 45 (.un .not (.t 44)))]
def q9e : IC := zr [zv 4 zf]
def qbc7 : IC := zr [zm 32 5, zv 33 (.bin .add .no (.t 32) (zc 1)), zm 5 33]
def q9f : IC := (.seq (.seq q71 (.cond (.t 31) .skip (.exit 0))) (.seq (.block 1 (.seq q9n (.cond (.t 45) (.seq q9e .ret) .skip))) qbc7))
def q3l : IC := zr [zv 4 (.mov (.c (.bool true)))]
def k0cb : IC := (.seq qbbx (.seq (.seq q97 (.cond (.t 26) (.seq qbg4 .ret) .skip)) (.seq (.seq q6u (.block 0 (.loop q9f))) (.seq q3l .ret))))
@[go_sem] def s0cb : List (RV × Co) := [(.t 4, .id)]
theorem c0cb : cFun Tryz.prog 20 = some (46, k0cb, s0cb) := by kernel_rfl

def qbkh : IC := zr [zi 2 (.box (.t 0)), zi 3 (.box (.t 1)), zv 4 zf]
def qbqk : IC := zr [zv 8 (.ld true 3 (.t 2)), zv 9 (.ld true 3 (.t 3)), zi 10 (.call (.c (.fn 39 [] [])) [((.c .nils), (.sl 4)), ((.t 8), (.agg [.id, .id, (.sl 3)])), ((.t 9), (.agg [.id, .id, (.sl 3)]))]), zm 7 10, zv 11 (.ext (.t 7) 0), zv 12 (.ext (.t 7) 1), zm 5 11, zm 6 12]
def qbng : IC := zr [zm 13 6, zm 4 13]
def k0b : IC := (.seq qbkh (.seq qbqk (.seq qbng .ret)))
@[go_sem] def s0b : List (RV × Co) := [(.t 4, .id)]
theorem c0b : cFun Tryz.prog 21 = some (14, k0b, s0b) := by kernel_rfl

def q66 : IC := zr [zv 2 (.mov (zc 0))]
def qbbg : IC := zr [zv 3 (.mov (zc 20000))]
def qbgk : IC := zr [zv 4 (.mov (zc 0))]
def q7n : IC := zr [zm 5 4, zm 6 0, zv 7 (.len false (.t 6)), zv 8 (.bin .lss .no (.t 5) (.t 7))]
def qbgd : IC := zr [zm 11 0, zm 12 4, zv 13 (.iad 3 (.t 11) (.t 12)), zv 14 (.ld true 3 (.t 13)), zm 15 3, zi 16 (.call (.c (.fn 40 [] [])) [((.t 14), (.agg [.id, .id, (.sl 3)])), ((.t 15), .id), ((zc 300), .id)]), zm 3 16]
def qbaf : IC := zr [zm 9 4, zv 10 (.bin .add .no (.t 9) (zc 1)), zm 4 10]
def qbi8 : IC := (.seq (.seq q7n (.cond (.t 8) .skip (.exit 0))) (.seq (.block 1 qbgd) qbaf))
def q9x : IC := zr [zm 17 3, zv 18 (.bin .lss .no (.t 17) (zc 0))]
def q7u : IC := zr [zv 2 (.mov (zc 0))]
def q2u : IC := zr [zv 2 (.mov (zc 1))]
def k0bu : IC := (.seq q66 (.seq qbbg (.seq (.seq qbgk (.block 0 (.loop qbi8))) (.seq (.seq q9x (.cond (.t 18) (.seq q7u .ret) .skip)) (.seq q2u .ret)))))
@[go_sem] def s0bu : List (RV × Co) := [(.t 2, .id)]
theorem c0bu : cFun Tryz.prog 22 = some (19, k0bu, s0bu) := by kernel_rfl

def qbcw : IC := zr [zi 1 (.box (.t 0)), zv 2 (.mov (zc 0))]
def qbb9 : IC := zr [zv 3 (.mov (zc 1))]
def qbfl : IC := zr [zv 4 (.mov (zc 0))]
def qbck : IC := zr [zm 5 4, zv 6 (.fad (.t 1) 2), zv 7 (.ld false 1 (.t 6)), zv 8 (.len false (.t 7)), zv 9 (.bin .lss .no (.t 5) (.t 8))]
def qbfu : IC := zr [zm 12 3, zv 13 (.fad (.t 1) 2), zv 14 (.ld false 1 (.t 13)), zm 15 4, zv 16 (.iad 3 (.t 14) (.t 15)), zv 17 (.ld true 3 (.t 16)), zi 18 (.call (.c (.fn 23 [] [])) [((.t 17), (.agg [.id, .id, (.sl 3)]))]), zv 19 (.bin .add .no (.t 12) (.t 18)), zm 3 19]
def qbh0 : IC := zr [zm 10 4, zv 11 (.bin .add .no (.t 10) (zc 1)), zm 4 11]
def qbbm : IC := (.seq (.seq qbck (.cond (.t 9) .skip (.exit 0))) (.seq (.block 1 qbfu) qbh0))
def qbh9 : IC := zr [zm 20 3, zm 2 20]
def k0bq : IC := (.seq qbcw (.seq qbb9 (.seq (.seq qbfl (.block 0 (.loop qbbm))) (.seq qbh9 .ret))))
@[go_sem] def s0bq : List (RV × Co) := [(.t 2, .id)]
theorem c0bq : cFun Tryz.prog 23 = some (21, k0bq, s0bq) := by kernel_rfl

def qbmo : IC := zr [zi 2 (.alo [(.str []), (.int .i64 0), .nils])]
def qbmp : IC := zr [zm 6 0, zi 7 (.call (.c (.fn 41 [] [])) [((.t 6), .id)]), zm 5 7, zv 8 (.ext (.t 5) 0), zv 9 (.ext (.t 5) 1), zi 3 (.alo [(.str []), (.int .i64 0), .nils]), zn (.st 3 (.agg [.id, .id, (.sl 3)]) (.t 3) (.t 8)), zm 4 9]
def qbrt : IC := zr [zv 10 (.ld true 3 (.t 3)), zn (.st 3 (.agg [.id, .id, (.sl 3)]) (.t 2) (.t 10))]
def k0e : IC := (.seq qbmo (.seq qbmp (.seq qbrt .ret)))
@[go_sem] def s0e : List (RV × Co) := [(.c true 3 2, (.agg [.id, .id, (.sl 3)]))]
theorem c0e : cFun Tryz.prog 24 = some (11, k0e, s0e) := by kernel_rfl

def qbk0 : IC := zr [zi 4 (.alo [(.str []), (.int .i64 0), .nils]), zv 5 zf]
def qbmk : IC := zr [zm 8 0, zv 9 (.bin .eql .ptr (.t 8) (.c .nilp))]
def qbsv : IC := zr [zv 10 (.bld [(.str []), (.int .i64 0), .nils] []), zn (.st 3 (.agg [.id, .id, (.sl 3)]) (.t 4) (.t 10)), zv 5 zf]
def qbmu : IC := zr [zm 12 0, zm 13 1, zi 14 (.call (.c (.fn 42 [] [])) [((.t 12), .id), ((.t 13), .id)]), zm 11 14, zv 15 (.ext (.t 11) 0), zv 16 (.ext (.t 11) 1), zm 6 15, zm 7 16]
def qbqt : IC := zr [zm 17 7, zv 18 (.un .not (.t 17))]
def qbps : IC := zr [zv 19 (.bld [(.str []), (.int .i64 0), .nils] []), zn (.st 3 (.agg [.id, .id, (.sl 3)]) (.t 4) (.t 19)), zv 5 zf]
def qbkf : IC := zr [zm 20 0, zv 21 (.nck (.t 20)), zv 22 (.fad (.t 21) 0), zv 23 (.ld false 1 (.t 22)), zm 24 6, zv 25 (.iad 4 (.t 23) (.t 24)), zv 26 (.fad (.t 25) 1), zv 27 (.ld true 3 (.t 26)), zn (.st 3 (.agg [.id, .id, (.sl 3)]) (.t 4) (.t 27)), zv 5 (.mov (.c (.bool true)))]
def k0z : IC := (.seq qbk0 (.seq (.seq qbmk (.cond (.t 9) (.seq qbsv .ret) .skip)) (.seq qbmu (.seq (.seq qbqt (.cond (.t 18) (.seq qbps .ret) .skip)) (.seq qbkf .ret)))))
@[go_sem] def s0z : List (RV × Co) := [(.c true 3 4, (.agg [.id, .id, (.sl 3)])), (.t 5, .id)]
theorem c0z : cFun Tryz.prog 25 = some (28, k0z, s0z) := by kernel_rfl

def qbok : IC := zr [zi 4 (.box (.t 1)), zi 5 (.box (.t 2)), zv 6 (.mov (.c .nilp)), zv 7 (.mov (zc 0))]
def qbsr : IC := zr [zm 13 0, zv 14 (.ld true 3 (.t 4)), zi 15 (.call (.c (.fn 19 [] [])) [((.t 13), .id), ((.t 14), (.agg [.id, .id, (.sl 3)]))]), zm 12 15, zv 16 (.ext (.t 12) 0), zv 17 (.ext (.t 12) 1), zi 8 (.alo [(.str []), (.int .i64 0), .nils]), zn (.st 3 (.agg [.id, .id, (.sl 3)]) (.t 8) (.t 16)), zm 9 17]
def qbma : IC := zr [zm 18 9, zv 19 (.bin .neq .no (.t 18) (zc 0))]
def qbrs : IC := zr [zm 20 9, zv 6 (.mov (.c .nilp)), zm 7 20]
def qblt : IC := zr [zm 22 0, zv 23 (.ld true 3 (.t 5)), zi 24 (.call (.c (.fn 19 [] [])) [((.t 22), .id), ((.t 23), (.agg [.id, .id, (.sl 3)]))]), zm 21 24, zv 25 (.ext (.t 21) 0), zv 26 (.ext (.t 21) 1), zi 10 (.alo [(.str []), (.int .i64 0), .nils]), zn (.st 3 (.agg [.id, .id, (.sl 3)]) (.t 10) (.t 25)), zm 9 26]
def qbl2 : IC := zr [zm 27 9, zv 28 (.bin .neq .no (.t 27) (zc 0))]
def qbly : IC := zr [zm 29 9, zv 6 (.mov (.c .nilp)), zm 7 29]
def qbsh : IC := zr [zv 31 (.ld true 3 (.t 8)), zv 32 (.ld true 3 (.t 10)), zi 33 (.call (.c (.fn 9 [] [])) [((.t 31), (.agg [.id, .id, (.sl 3)])), ((.t 32), (.agg [.id, .id, (.sl 3)]))]), zm 30 33, zv 34 (.ext (.t 30) 0), zv 35 (.ext (.t 30) 1), zm 11 34, zm 9 35]
def qbss : IC := zr [zm 36 9, zv 37 (.bin .neq .no (.t 36) (zc 0))]
def qbj7 : IC := zr [zm 38 9, zv 6 (.mov (.c .nilp)), zm 7 38]
def q9t : IC := zr [zm 39 0, zm 40 11, zi 41 (.call (.c (.fn 43 [] [])) [((.t 39), .id), ((.t 40), .id)]), zv 42 (.ext (.t 41) 0), zv 43 (.ext (.t 41) 1), zm 6 42, zm 7 43]
def k0j : IC := (.seq qbok (.seq qbsr (.seq (.seq qbma (.cond (.t 19) (.seq qbrs .ret) .skip)) (.seq qblt (.seq (.seq qbl2 (.cond (.t 28) (.seq qbly .ret) .skip)) (.seq qbsh (.seq (.seq qbss (.cond (.t 37) (.seq qbj7 .ret) .skip)) (.seq q9t .ret))))))))
@[go_sem] def s0j : List (RV × Co) := [(.t 6, .id), (.t 7, .id)]
theorem c0j : cFun Tryz.prog 26 = some (44, k0j, s0j) := by kernel_rfl

def qbnt : IC := zr [zv 2 zf]
def qbsl : IC := zr [zm 5 0, zv 6 (.len false (.t 5)), zv 7 (.mov (zc 0))]
def qbqg : IC := zr [zv 8 (.bin .lss .no (.t 7) (.t 6))]
def qbpl : IC := zr [zv 9 (.iad 3 (.t 5) (.t 7)), zv 10 (.ld true 3 (.t 9)), zi 4 (.alo [(.str []), (.int .i64 0), .nils]), zn (.st 3 (.agg [.id, .id, (.sl 3)]) (.t 4) (.t 10))]
def qbq1 : IC := zr [zv 11 (.ld true 3 (.t 4)), zi 12 (.call (.c (.fn 37 [] [])) [((.t 11), (.agg [.id, .id, (.sl 3)]))]), zv 13 (.un .not (.t 12))]
def qboo : IC := zr [zv 2 zf]
def qblj : IC := zr [zv 14 (.bin .add .no (.t 7) (zc 1)), zm 7 14]
def qbql : IC := (.seq qbqg (.seq (.cond (.t 8) .skip (.exit 0)) (.seq (.block 1 (.seq qbpl (.seq qbq1 (.cond (.t 13) (.seq qboo .ret) .skip)))) qblj)))
def qbp2 : IC := zr [zv 2 (.mov (.c (.bool true)))]
def k0n : IC := (.seq qbnt (.seq (.seq qbsl (.block 0 (.loop qbql))) (.seq qbp2 .ret)))
@[go_sem] def s0n : List (RV × Co) := [(.t 2, .id)]
theorem c0n : cFun Tryz.prog 27 = some (15, k0n, s0n) := by kernel_rfl

def qbp9 : IC := zr [zv 2 (.mov (.c .nilp)), zv 3 (.mov (zc 0))]
def qbr1 : IC := zr [zi 9 (.call (.c (.fn 18 [] [])) [((.c .nils), (.sl 4))]), zm 4 9, zv 5 (.mov (zc 0))]
def qbm2 : IC := zr [zv 10 (.bld [.nils] []), zi 11 (.box (.t 10)), zm 6 11]
def qbms : IC := zr [zm 12 6, zm 13 0, zi 14 (.call (.c (.fn 44 [] [])) [((.t 12), .id), ((.t 13), (.sl 6))])]
def qbp1 : IC := zr [zm 16 6, zi 17 (.call (.c (.fn 45 [] [])) [((.t 16), .id)]), zm 15 17, zv 18 (.ext (.t 15) 0), zv 19 (.ext (.t 15) 1), zi 7 (.alo [(.str []), (.int .i64 0), .nils, (.str []), (.int .i64 0), .nils]), zn (.st 6 (.agg [.id, .id, (.sl 3), .id, .id, (.sl 3)]) (.t 7) (.t 18)), zm 8 19]
def qbr2 : IC := zr [zm 20 8, zv 21 (.un .not (.t 20))]
def qbm7 : IC := zr [zm 22 4, zm 2 22, zv 3 (.mov (zc 0))]
def qbkw : IC := zr [zm 24 4, zv 25 (.ld true 6 (.t 7)), zm 26 6, zi 27 (.call (.c (.fn 46 [] [])) [((.t 24), .id), ((.t 25), (.agg [.id, .id, (.sl 3), .id, .id, (.sl 3)])), ((.t 26), .id)]), zm 23 27, zv 28 (.ext (.t 23) 0), zv 29 (.ext (.t 23) 1), zm 4 28, zm 5 29]
def qblz : IC := zr [zm 30 5, zv 31 (.bin .neq .no (.t 30) (zc 0))]
def q55 : IC := zr [zm 32 5, zv 2 (.mov (.c .nilp)), zm 3 32]
def qbpc : IC := (.block 1 (.seq qbp1 (.seq (.seq qbr2 (.cond (.t 21) (.seq qbm7 .ret) .skip)) (.seq qbkw (.seq qblz (.cond (.t 31) (.seq q55 .ret) .skip))))))
def k0l : IC := (.seq qbp9 (.seq qbr1 (.seq qbm2 (.seq qbms (.block 0 (.loop qbpc))))))
@[go_sem] def s0l : List (RV × Co) := [(.t 2, .id), (.t 3, .id)]
theorem c0l : cFun Tryz.prog 28 = some (33, k0l, s0l) := by kernel_rfl

def qbak : IC := zr [zi 1 (.box (.t 0)), zv 2 zf]
def qbjb : IC := zr [zv 3 (.ld true 3 (.t 1)), zi 4 (.call (.c (.fn 23 [] [])) [((.t 3), (.agg [.id, .id, (.sl 3)]))]), zv 5 (.bin .leq .no (.t 4) (zc 4096)), zm 6 5, zw 6 true 7 (.ld true 3 (.t 1)), ⟨some (6, true), some 8, .call (.c (.fn 47 [] [])) [((.t 7), (.agg [.id, .id, (.sl 3)]))]⟩, zw 6 true 9 (.bin .leq .no (.t 8) (zc 100)), zv 10 (.pick (.t 6) (.t 9) (.c (.bool false))), zm 11 10, zw 11 true 12 (.ld true 3 (.t 1)), ⟨some (11, true), some 13, .call (.c (.fn 48 [] [])) [((.t 12), (.agg [.id, .id, (.sl 3)]))]⟩, zv 14 (.pick (.t 11) (.t 13) (.c (.bool false))), zm 2 14]
def k0bv : IC := (.seq qbak (.seq qbjb .ret))
@[go_sem] def s0bv : List (RV × Co) := [(.t 2, .id)]
theorem c0bv : cFun Tryz.prog 29 = some (15, k0bv, s0bv) := by kernel_rfl

def qbej : IC := zr [zi 1 (.box (.t 0)), zi 2 (.alo [(.str []), (.int .i64 0), .nils])]
def qbb3 : IC := zr [zv 6 (.fad (.t 1) 2), zv 7 (.ld false 1 (.t 6)), zv 8 (.len false (.t 7)), zi 9 (.mks 3 (.agg [(.str []), (.int .i64 0), .nils]) 48 (.t 8) (.t 8)), zm 3 9]
def qbfg : IC := zr [zv 10 (.fad (.t 1) 2), zv 11 (.ld false 1 (.t 10)), zv 12 (.len false (.t 11)), zv 13 (.mov (zc 0))]
def qbdv : IC := zr [zv 14 (.bin .lss .no (.t 13) (.t 12))]
def q8o : IC := zr [zm 15 13, zv 16 (.iad 3 (.t 11) (.t 13)), zv 17 (.ld true 3 (.t 16)), zi 5 (.alo [(.str []), (.int .i64 0), .nils]), zm 4 15, zn (.st 3 (.agg [.id, .id, (.sl 3)]) (.t 5) (.t 17))]
def q93 : IC := zr [zm 18 3, zm 19 4, zv 20 (.ld true 3 (.t 5)), zi 21 (.call (.c (.fn 31 [] [])) [((.t 20), (.agg [.id, .id, (.sl 3)]))]), zv 22 (.iad 3 (.t 18) (.t 19)), zn (.st 3 (.agg [.id, .id, (.sl 3)]) (.t 22) (.t 21))]
def qbfo : IC := zr [zv 23 (.bin .add .no (.t 13) (zc 1)), zm 13 23]
def q6n : IC := (.seq qbdv (.seq (.cond (.t 14) .skip (.exit 0)) (.seq (.block 1 (.seq q8o q93)) qbfo)))
def qbex : IC := zr [zm 24 3, zv 25 (.fad (.t 1) 2), zn (.st 1 (.sl 3) (.t 25) (.t 24))]
def q3y : IC := zr [zv 26 (.ld true 3 (.t 1)), zn (.st 3 (.agg [.id, .id, (.sl 3)]) (.t 2) (.t 26))]
def k0bd : IC := (.seq qbej (.seq qbb3 (.seq (.seq qbfg (.block 0 (.loop q6n))) (.seq qbex (.seq q3y .ret)))))
@[go_sem] def s0bd : List (RV × Co) := [(.c true 3 2, (.agg [.id, .id, (.sl 3)]))]
theorem c0bd : cFun Tryz.prog 31 = some (27, k0bd, s0bd) := by kernel_rfl

def qbmi : IC := zr [zv 4 (.mov (.c .nils))]
def qblp : IC := zr [zm 7 0, zv 8 (.len false (.t 7)), zi 9 (.mks 6 (.agg [(.str []), (.int .i64 0), .nils, (.str []), (.int .i64 0), .nils]) 96 (.t 8) (.t 8)), zm 5 9]
def qbrn : IC := zr [zm 10 0, zv 11 (.len false (.t 10)), zv 12 (.mov (zc 0))]
def qbsd : IC := zr [zv 13 (.bin .lss .no (.t 12) (.t 11))]
def qbo8 : IC := zr [zm 14 12, zm 6 14]
def qblf : IC := .drw [zp (zm 15 5), zp (zm 16 6), zp (zm 17 0), zp (zm 18 6), zp (zv 19 (.iad 3 (.t 17) (.t 18))), zp (zv 20 (.ld true 3 (.t 19))), zp (zm 21 1), zp (zm 22 6), zp (zv 23 (.iad 3 (.t 21) (.t 22))), zp (zv 24 (.ld true 3 (.t 23))), (zv 25 (.bld [(.str []), (.int .i64 0), .nils, (.str []), (.int .i64 0), .nils] [(0, 3, (.t 20)), (3, 3, (.t 24))]), []), zp (zv 26 (.iad 6 (.t 15) (.t 16))), (zn (.st 6 (.agg [.id, .id, (.sl 3), .id, .id, (.sl 3)]) (.t 26) (.t 25)), [])]
def qbnq : IC := zr [zv 27 (.bin .add .no (.t 12) (zc 1)), zm 12 27]
def qbjr : IC := (.seq qbsd (.seq (.cond (.t 13) .skip (.exit 0)) (.seq (.block 1 (.seq qbo8 qblf)) qbnq)))
def qbo6 : IC := zr [zm 28 5, zm 4 28]
def k0o : IC := (.seq qbmi (.seq qblp (.seq (.seq qbrn (.block 0 (.loop qbjr))) (.seq qbo6 .ret))))
@[go_sem] def s0o : List (RV × Co) := [(.t 4, (.sl 6))]
theorem c0o : cFun Tryz.prog 32 = some (29, k0o, s0o) := by kernel_rfl

def qbn1 : IC := zr [zi 2 (.box (.t 0)), zi 4 (.alo [(.str []), (.int .i64 0), .nils])]
def qbqb : IC := zr [zi 10 (.call (.c (.fn 18 [] [])) [((.c .nils), (.sl 4))]), zm 5 10]
def qbol : IC := zr [zv 11 (.ld true 3 (.t 2)), zi 12 (.call (.c (.fn 51 [] [])) [((.t 11), (.agg [.id, .id, (.sl 3)]))]), zv 13 (.len false (.t 12)), zv 14 (.mov (zc 0))]
def qbmt : IC := zr [zv 15 (.bin .lss .no (.t 14) (.t 13))]
def qbnf : IC := zr [zm 16 14, zv 17 (.iad 1 (.t 12) (.t 14)), zv 18 (.ld false 1 (.t 17)), zm 6 16, zm 7 18]
def qblo : IC := zr [zm 19 5, zm 20 7, zm 21 1, zm 22 6, zv 23 (.bin .mul .no (zc 2) (.t 22)), zv 24 (.bin .add .no (.t 21) (.t 23)), zv 25 (.bld [(.str []), (.int .i64 0), .nils] [(1, 1, (.t 24))]), zi 26 (.call (.c (.fn 36 [] [])) [((.t 19), .id), ((.t 20), .id), ((.t 25), (.agg [.id, .id, (.sl 3)]))])]
def qbj6 : IC := zr [zv 27 (.bin .add .no (.t 14) (zc 1)), zm 14 27]
def qbkv : IC := (.seq qbmt (.seq (.cond (.t 15) .skip (.exit 0)) (.seq (.block 1 (.seq qbnf qblo)) qbj6)))
def qbkx : IC := zr [zm 29 5, zv 30 (.ld true 3 (.t 2)), zi 31 (.call (.c (.fn 19 [] [])) [((.t 29), .id), ((.t 30), (.agg [.id, .id, (.sl 3)]))]), zm 28 31, zv 32 (.ext (.t 28) 0), zv 33 (.ext (.t 28) 1), zi 8 (.alo [(.str []), (.int .i64 0), .nils]), zn (.st 3 (.agg [.id, .id, (.sl 3)]) (.t 8) (.t 32)), zm 9 33]
def qbg5 : IC := zr [zv 34 (.ld true 3 (.t 8)), zn (.st 3 (.agg [.id, .id, (.sl 3)]) (.t 4) (.t 34))]
def k0g : IC := (.seq qbn1 (.seq qbqb (.seq (.seq qbol (.block 0 (.loop qbkv))) (.seq qbkx (.seq qbg5 .ret)))))
@[go_sem] def s0g : List (RV × Co) := [(.c true 3 4, (.agg [.id, .id, (.sl 3)]))]
theorem c0g : cFun Tryz.prog 34 = some (35, k0g, s0g) := by kernel_rfl

def qbse : IC := zr [zi 5 (.box (.t 2)), zv 6 (.mov (zc 0))]
def qbnc : IC := zr [zm 9 0, zv 10 (.bin .eql .ptr (.t 9) (.c .nilp)), zm 11 10, zw 11 false 12 (.ld true 3 (.t 5)), ⟨some (11, false), some 13, .call (.c (.fn 37 [] [])) [((.t 12), (.agg [.id, .id, (.sl 3)]))]⟩, zw 11 false 14 (.un .not (.t 13)), zv 15 (.pick (.t 11) (.c (.bool true)) (.t 14))]
def qbpv : IC := zr [zv 6 (.mov (zc 1))]
def qblq : IC := zr [zm 17 0, zm 18 1, zi 19 (.call (.c (.fn 42 [] [])) [((.t 17), .id), ((.t 18), .id)]), zm 16 19, zv 20 (.ext (.t 16) 0), zv 21 (.ext (.t 16) 1), zm 7 20, zm 8 21]
def qbpf : IC := zr [zm 22 8]
def qbkm : IC := zr [zv 6 (.mov (zc 6))]
def qbm9 : IC := .drw [zp (zm 23 0), zp (zm 24 0), zp (zv 25 (.nck (.t 24))), zp (zv 26 (.fad (.t 25) 0)), zp (zv 27 (.ld false 1 (.t 26))), zp (zm 28 7), zp (zm 29 1), zp (zv 30 (.ld true 3 (.t 5))), (zi 31 (.call (.c (.fn 31 [] [])) [((.t 30), (.agg [.id, .id, (.sl 3)]))]), [4]), (zv 32 (.bld [(.int .i64 0), (.str []), (.int .i64 0), .nils] [(0, 1, (.t 29)), (1, 3, (.t 31))]), []), (zv 33 (.bsl 4 [((.t 32), (.agg [.id, .id, .id, (.sl 3)]))]), []), (zi 34 (.call (.c (.fn 55 [] [])) [((.t 27), (.sl 4)), ((.t 28), .id), ((.t 33), (.sl 4))]), []), zp (zv 35 (.nck (.t 23))), zp (zv 36 (.fad (.t 35) 0)), (zn (.st 1 (.sl 4) (.t 36) (.t 34)), [])]
def qbm8 : IC := zr [zv 6 (.mov (zc 0))]
def k0y : IC := (.seq qbse (.seq (.seq qbnc (.cond (.t 15) (.seq qbpv .ret) .skip)) (.seq qblq (.seq (.seq qbpf (.cond (.t 22) (.seq qbkm .ret) .skip)) (.seq qbm9 (.seq qbm8 .ret))))))
@[go_sem] def s0y : List (RV × Co) := [(.t 6, .id)]
theorem c0y : cFun Tryz.prog 36 = some (37, k0y, s0y) := by kernel_rfl

def qbja : IC := zr [zi 1 (.box (.t 0)), zv 2 zf]
def qbek : IC := zr [zi 3 (.alo [(.int .i64 0)]), zn (.st 1 .id (.t 3) (zc 0))]
def qbje : IC := zr [zv 4 (.ld true 3 (.t 1)), zv 5 (.mfn 57 [] [(.t 3)]), zi 6 (.call (.c (.fn 56 [] [])) [((.t 4), (.agg [.id, .id, (.sl 3)])), ((zc 1), .id), ((.t 5), .id)]), zm 2 6]
def k0bn : IC := (.seq qbja (.seq qbek (.seq qbje .ret)))
@[go_sem] def s0bn : List (RV × Co) := [(.t 2, .id)]
theorem c0bn : cFun Tryz.prog 37 = some (7, k0bn, s0bn) := by kernel_rfl

def qbon : IC := zr [zi 4 (.box (.t 1)), zi 6 (.alo [(.str []), (.int .i64 0), .nils])]
def qbp0 : IC := zr [zv 11 (.fad (.t 4) 0), zv 12 (.ld false 1 (.t 11)), zv 13 (.bin .eql .no (.t 12) (.c (.str [])))]
def qbsp : IC := .drw [zp (zm 15 0), zp (zv 16 (.nck (.t 15))), zp (zv 17 (.fad (.t 16) 0)), zp (zv 18 (.ld false 1 (.t 17))), zp (zv 19 (.fad (.t 4) 1)), zp (zv 20 (.ld false 1 (.t 19))), (zi 21 (.call (.c (.fn 25 [] [])) [((.t 18), .id), ((.t 20), .id)]), []), zp (zm 14 21), zp (zv 22 (.ext (.t 14) 0)), zp (zv 23 (.ext (.t 14) 1)), (zi 7 (.alo [(.str []), (.int .i64 0), .nils]), [3, 5, 6]), (zn (.st 3 (.agg [.id, .id, (.sl 3)]) (.t 7) (.t 22)), []), zp (zm 8 23)]
def qbo9 : IC := zr [zm 24 8]
def qbkq : IC := .drw [zp (zm 25 0), zp (zv 26 (.nck (.t 25))), zp (zv 27 (.fad (.t 26) 1)), zp (zv 28 (.ld false 1 (.t 27))), zp (zv 29 (.ld true 3 (.t 7))), (zi 30 (.call (.c (.fn 60 [] [])) [((.t 29), (.agg [.id, .id, (.sl 3)]))]), [3]), zp (zv 31 (.bin .sub .no (.t 28) (.t 30))), zp (zv 32 (.nck (.t 25))), zp (zv 33 (.fad (.t 32) 1)), (zn (.st 1 .id (.t 33) (.t 31)), [])]
def qbp3 : IC := zr [zm 34 2, zv 35 (.ld true 3 (.t 7)), zi 36 (.call (.c (.fn 61 [] [])) [((.t 35), (.agg [.id, .id, (.sl 3)]))]), zv 37 (.bin .add .no (.t 34) (.t 36)), zv 38 (.bin .gtr .no (.t 37) (zc 101))]
def qbkn : IC := zr [zm 39 0, zv 40 (.nck (.t 39)), zv 41 (.fad (.t 40) 1), zn (.st 1 .id (.t 41) (zc (-1)))]
def qbpw : IC := zr [zv 42 (.ld true 3 (.t 7)), zi 43 (.call (.c (.fn 31 [] [])) [((.t 42), (.agg [.id, .id, (.sl 3)]))]), zn (.st 3 (.agg [.id, .id, (.sl 3)]) (.t 6) (.t 43))]
def qbjp : IC := zr [zm 44 0, zv 45 (.nck (.t 44)), zv 46 (.fad (.t 45) 1), zv 47 (.ld false 1 (.t 46)), zv 48 (.bin .sub .no (.t 47) (zc 1)), zv 49 (.nck (.t 44)), zv 50 (.fad (.t 49) 1), zn (.st 1 .id (.t 50) (.t 48))]
def qbkl : IC := zr [zv 51 (.fad (.t 4) 2), zv 52 (.ld false 1 (.t 51)), zv 53 (.len false (.t 52)), zi 54 (.mks 3 (.agg [(.str []), (.int .i64 0), .nils]) 48 (.t 53) (.t 53)), zm 9 54]
def qbh6 : IC := zr [zv 55 (.fad (.t 4) 2), zv 56 (.ld false 1 (.t 55)), zv 57 (.len false (.t 56)), zv 58 (.mov (zc 0))]
def qbel : IC := zr [zv 59 (.bin .lss .no (.t 58) (.t 57))]
def q6f : IC := zr [zm 60 58, zm 10 60]
def qbec : IC := zr [zm 61 0, zv 62 (.nck (.t 61)), zv 63 (.fad (.t 62) 1), zv 64 (.ld false 1 (.t 63)), zv 65 (.bin .lss .no (.t 64) (zc 0))]
def q8t : IC := zr [zv 66 (.ld true 3 (.t 4)), zn (.st 3 (.agg [.id, .id, (.sl 3)]) (.t 6) (.t 66))]
def qbap : IC := zr [zm 67 9, zm 68 10, zm 69 0, zv 70 (.fad (.t 4) 2), zv 71 (.ld false 1 (.t 70)), zm 72 10, zv 73 (.iad 3 (.t 71) (.t 72)), zv 74 (.ld true 3 (.t 73)), zm 75 2, zv 76 (.bin .add .no (.t 75) (zc 1)), zi 77 (.call (.c (.fn 38 [] [])) [((.t 69), .id), ((.t 74), (.agg [.id, .id, (.sl 3)])), ((.t 76), .id)]), zv 78 (.iad 3 (.t 67) (.t 68)), zn (.st 3 (.agg [.id, .id, (.sl 3)]) (.t 78) (.t 77))]
def qbi3 : IC := zr [zv 79 (.bin .add .no (.t 58) (zc 1)), zm 58 79]
def qba9 : IC := (.seq qbel (.seq (.cond (.t 59) .skip (.exit 0)) (.seq (.block 1 (.seq q6f (.seq (.seq qbec (.cond (.t 65) (.seq q8t .ret) .skip)) qbap))) qbi3)))
def qbdq : IC := zr [zm 80 9, zv 81 (.fad (.t 4) 2), zn (.st 1 (.sl 3) (.t 81) (.t 80))]
def q8x : IC := zr [zv 82 (.ld true 3 (.t 4)), zn (.st 3 (.agg [.id, .id, (.sl 3)]) (.t 6) (.t 82))]
def k0x : IC := (.seq qbon (.seq (.seq qbp0 (.cond (.t 13) (.seq qbsp (.seq qbo9 (.cond (.t 24) (.seq qbkq (.seq (.seq qbp3 (.cond (.t 38) qbkn .skip)) (.seq qbpw .ret))) .skip))) .skip)) (.seq qbjp (.seq qbkl (.seq (.seq qbh6 (.block 0 (.loop qba9))) (.seq qbdq (.seq q8x .ret)))))))
@[go_sem] def s0x : List (RV × Co) := [(.c true 3 6, (.agg [.id, .id, (.sl 3)]))]
theorem c0x : cFun Tryz.prog 38 = some (83, k0x, s0x) := by kernel_rfl

def qbl7 : IC := zr [zi 4 (.box (.t 1)), zi 5 (.box (.t 2)), zv 6 (.mov (.c .nils)), zv 7 zf]
def qbq5 : IC := zr [zv 16 (.fad (.t 4) 0), zv 17 (.ld false 1 (.t 16)), zv 18 (.bin .eql .no (.t 17) (.c (.str [])))]
def qblw : IC := zr [zm 20 0, zv 21 (.fad (.t 4) 1), zv 22 (.ld false 1 (.t 21)), zi 23 (.call (.c (.fn 62 [] [])) [((.t 20), (.sl 4)), ((.t 22), .id)]), zm 19 23, zv 24 (.ext (.t 19) 0), zv 25 (.ext (.t 19) 1), zi 8 (.alo [(.str []), (.int .i64 0), .nils]), zn (.st 3 (.agg [.id, .id, (.sl 3)]) (.t 8) (.t 24)), zm 9 25]
def qbrj : IC := zr [zm 26 9]
def qbnp : IC := zr [zm 27 0, zv 28 (.ld true 3 (.t 8)), zv 29 (.ld true 3 (.t 5)), zi 30 (.call (.c (.fn 20 [] [])) [((.t 28), (.agg [.id, .id, (.sl 3)])), ((.t 29), (.agg [.id, .id, (.sl 3)]))]), zm 6 27, zm 7 30]
def qbmg : IC := zr [zm 32 0, zv 33 (.fad (.t 4) 1), zv 34 (.ld false 1 (.t 33)), zv 35 (.ld true 3 (.t 5)), zi 36 (.call (.c (.fn 53 [] [])) [((.t 32), (.sl 4)), ((.t 34), .id), ((.t 35), (.agg [.id, .id, (.sl 3)]))]), zm 31 36, zv 37 (.ext (.t 31) 0), zv 38 (.ext (.t 31) 1), zm 10 37, zm 11 38]
def qbl4 : IC := zr [zm 39 10, zm 40 11, zv 41 (.bin .eql .no (.t 40) (zc 0)), zm 6 39, zm 7 41]
def qbku : IC := zr [zv 42 (.fad (.t 4) 0), zv 43 (.ld false 1 (.t 42)), zv 44 (.fad (.t 5) 0), zv 45 (.ld false 1 (.t 44)), zv 46 (.bin .eql .no (.t 43) (.t 45)), zm 47 46, zw 47 true 48 (.fad (.t 4) 2), zw 47 true 49 (.ld false 1 (.t 48)), zw 47 true 50 (.len false (.t 49)), zw 47 true 51 (.fad (.t 5) 2), zw 47 true 52 (.ld false 1 (.t 51)), zw 47 true 53 (.len false (.t 52)), zw 47 true 54 (.bin .eql .no (.t 50) (.t 53)), zv 55 (.pick (.t 47) (.t 54) (.c (.bool false))), zm 12 55]
def qbk3 : IC := zr [zv 13 (.mov (zc 0))]
def qbau : IC := zr [zm 56 13, zv 57 (.fad (.t 4) 2), zv 58 (.ld false 1 (.t 57)), zv 59 (.len false (.t 58)), zv 60 (.bin .lss .no (.t 56) (.t 59)), zm 61 60, zw 61 true 62 (.mov (.t 12)), zv 63 (.pick (.t 61) (.t 62) (.c (.bool false)))]
def qbas : IC := .drw [zp (zm 67 0), zp (zv 68 (.fad (.t 4) 2)), zp (zv 69 (.ld false 1 (.t 68))), zp (zm 70 13), zp (zv 71 (.iad 3 (.t 69) (.t 70))), zp (zv 72 (.ld true 3 (.t 71))), zp (zv 73 (.fad (.t 5) 2)), zp (zv 74 (.ld false 1 (.t 73))), zp (zm 75 13), zp (zv 76 (.iad 3 (.t 74) (.t 75))), zp (zv 77 (.ld true 3 (.t 76))), (zi 78 (.call (.c (.fn 39 [] [])) [((.t 67), (.sl 4)), ((.t 72), (.agg [.id, .id, (.sl 3)])), ((.t 77), (.agg [.id, .id, (.sl 3)]))]), []), zp (zm 66 78), zp (zv 79 (.ext (.t 66) 0)), zp (zv 80 (.ext (.t 66) 1)), zp (zm 14 79), zp (zm 15 80)]
def q6x : IC := zr [zm 81 14, zm 0 81]
def qbg8 : IC := zr [zm 82 15, zm 12 82]
def qbik : IC := zr [zm 64 13, zv 65 (.bin .add .no (.t 64) (zc 1)), zm 13 65]
def qbjy : IC := (.seq (.seq qbau (.cond (.t 63) .skip (.exit 0))) (.seq (.block 1 (.seq qbas (.seq q6x qbg8))) qbik))
def q73 : IC := zr [zm 83 0, zm 84 12, zm 6 83, zm 7 84]
def k0a : IC := (.seq qbl7 (.seq (.seq qbq5 (.cond (.t 18) (.seq qblw (.seq (.seq qbrj (.cond (.t 26) (.seq qbnp .ret) .skip)) (.seq qbmg (.seq qbl4 .ret)))) .skip)) (.seq qbku (.seq (.seq qbk3 (.block 0 (.loop qbjy))) (.seq q73 .ret)))))
@[go_sem] def s0a : List (RV × Co) := [(.t 6, (.sl 4)), (.t 7, .id)]
theorem c0a : cFun Tryz.prog 39 = some (85, k0a, s0a) := by kernel_rfl

def qbgz : IC := zr [zi 3 (.box (.t 0)), zv 6 (.mov (zc 0))]
def qbbl : IC := zr [zm 8 1, zv 9 (.bin .sub .no (.t 8) (zc 1)), zm 1 9]
def q7t : IC := zr [zm 10 2, zv 11 (.bin .lss .no (.t 10) (zc 1))]
def qbi6 : IC := zr [zv 6 (.mov (zc (-1)))]
def qbix : IC := zr [zv 7 (.mov (zc 0))]
def qbgf : IC := zr [zm 12 7, zv 13 (.fad (.t 3) 2), zv 14 (.ld false 1 (.t 13)), zv 15 (.len false (.t 14)), zv 16 (.bin .lss .no (.t 12) (.t 15)), zm 17 16, zw 17 true 18 (.mov (.t 1)), zw 17 true 19 (.bin .geq .no (.t 18) (zc 0)), zv 20 (.pick (.t 17) (.t 19) (.c (.bool false)))]
def qbc9 : IC := zr [zv 23 (.fad (.t 3) 2), zv 24 (.ld false 1 (.t 23)), zm 25 7, zv 26 (.iad 3 (.t 24) (.t 25)), zv 27 (.ld true 3 (.t 26)), zm 28 1, zm 29 2, zv 30 (.bin .sub .no (.t 29) (zc 1)), zi 31 (.call (.c (.fn 40 [] [])) [((.t 27), (.agg [.id, .id, (.sl 3)])), ((.t 28), .id), ((.t 30), .id)]), zm 1 31]
def qbgu : IC := zr [zm 21 7, zv 22 (.bin .add .no (.t 21) (zc 1)), zm 7 22]
def qbhs : IC := (.seq (.seq qbgf (.cond (.t 20) .skip (.exit 0))) (.seq (.block 1 qbc9) qbgu))
def q3s : IC := zr [zm 32 1, zm 6 32]
def k0bt : IC := (.seq qbgz (.seq qbbl (.seq (.seq q7t (.cond (.t 11) (.seq qbi6 .ret) .skip)) (.seq (.seq qbix (.block 0 (.loop qbhs))) (.seq q3s .ret)))))
@[go_sem] def s0bt : List (RV × Co) := [(.t 6, .id)]
theorem c0bt : cFun Tryz.prog 40 = some (33, k0bt, s0bt) := by kernel_rfl

def qbch : IC := zr [zi 2 (.alo [(.str []), (.int .i64 0), .nils]), zv 3 (.mov (zc 0))]
def qbaq : IC := zr [zm 6 0, zv 7 (.bld [(.str []), (.int .i64 0), (.bool false)] [(0, 1, (.t 6))]), zi 8 (.box (.t 7)), zm 4 8]
def q7y : IC := zr [zm 9 4, zi 10 (.call (.c (.fn 63 [] [])) [((.t 9), .id)]), zi 5 (.alo [(.str []), (.int .i64 0), .nils]), zn (.st 3 (.agg [.id, .id, (.sl 3)]) (.t 5) (.t 10))]
def qbjl : IC := zr [zm 11 4, zv 12 (.nck (.t 11)), zv 13 (.fad (.t 12) 2), zv 14 (.ld false 1 (.t 13)), zm 15 14, zw 15 false 16 (.mov (.t 4)), zw 15 false 17 (.nck (.t 16)), zw 15 false 18 (.fad (.t 17) 0), zw 15 false 19 (.ld false 1 (.t 18)), zw 15 false 20 (.bin .neq .no (.t 19) (.c (.str []))), zv 21 (.pick (.t 15) (.c (.bool true)) (.t 20)), zm 22 21, zw 22 false 23 (.ld true 3 (.t 5)), ⟨some (22, false), some 24, .call (.c (.fn 64 [] [])) [((.t 23), (.agg [.id, .id, (.sl 3)]))]⟩, zw 22 false 25 (.mov (.t 0)), zw 22 false 26 (.bin .neq .no (.t 24) (.t 25)), zv 27 (.pick (.t 22) (.c (.bool true)) (.t 26))]
def q7c : IC := zr [zv 28 (.bld [(.str []), (.int .i64 0), .nils] []), zn (.st 3 (.agg [.id, .id, (.sl 3)]) (.t 2) (.t 28)), zv 3 (.mov (zc 5))]
def q6z : IC := zr [zv 29 (.ld true 3 (.t 5)), zn (.st 3 (.agg [.id, .id, (.sl 3)]) (.t 2) (.t 29)), zv 3 (.mov (zc 0))]
def k0dh : IC := (.seq qbch (.seq qbaq (.seq q7y (.seq (.seq qbjl (.cond (.t 27) (.seq q7c .ret) .skip)) (.seq q6z .ret)))))
@[go_sem] def s0dh : List (RV × Co) := [(.c true 3 2, (.agg [.id, .id, (.sl 3)])), (.t 3, .id)]
theorem c0dh : cFun Tryz.prog 41 = some (30, k0dh, s0dh) := by kernel_rfl

def q6s : IC := zr [zv 4 (.mov (zc 0)), zv 5 zf]
def qbah : IC := zr [zm 6 0, zv 7 (.nck (.t 6)), zv 8 (.fad (.t 7) 0), zv 9 (.ld false 1 (.t 8)), zm 10 1, zi 11 (.call (.c (.fn 65 [] [])) [((.t 9), (.sl 4)), ((.t 10), .id), ((.c (.fn 66 [] [])), .id)]), zv 12 (.ext (.t 11) 0), zv 13 (.ext (.t 11) 1), zm 4 12, zm 5 13]
def k0bb : IC := (.seq q6s (.seq qbah .ret))
@[go_sem] def s0bb : List (RV × Co) := [(.t 4, .id), (.t 5, .id)]
theorem c0bb : cFun Tryz.prog 42 = some (14, k0bb, s0bb) := by kernel_rfl

def qbkr : IC := zr [zv 4 (.mov (.c .nilp)), zv 5 (.mov (zc 0))]
def qboy : IC := zr [zi 13 (.call (.c (.fn 18 [] [])) [((.c .nils), (.sl 4))]), zm 6 13]
def qbjq : IC := zr [zm 14 0, zi 15 (.call (.c (.fn 12 [] [])) [((.t 14), .id)]), zv 16 (.len false (.t 15)), zv 17 (.mov (zc 0))]
def qbn8 : IC := zr [zv 18 (.bin .lss .no (.t 17) (.t 16))]
def qbpu : IC := zr [zv 19 (.iad 4 (.t 15) (.t 17)), zv 20 (.ld true 4 (.t 19)), zi 8 (.alo [(.int .i64 0), (.str []), (.int .i64 0), .nils]), zn (.st 4 (.agg [.id, .id, .id, (.sl 3)]) (.t 8) (.t 20))]
def qboj : IC := zr [zm 22 1, zv 23 (.fad (.t 8) 1), zv 24 (.ld true 3 (.t 23)), zi 25 (.call (.c (.fn 19 [] [])) [((.t 22), .id), ((.t 24), (.agg [.id, .id, (.sl 3)]))]), zm 21 25, zv 26 (.ext (.t 21) 0), zv 27 (.ext (.t 21) 1), zi 9 (.alo [(.str []), (.int .i64 0), .nils]), zn (.st 3 (.agg [.id, .id, (.sl 3)]) (.t 9) (.t 26)), zm 10 27]
def qbmr : IC := zr [zm 28 10, zv 29 (.bin .neq .no (.t 28) (zc 0))]
def qbrc : IC := zr [zm 30 10, zv 4 (.mov (.c .nilp)), zm 5 30]
def qbp6 : IC := zr [zm 31 6, zv 32 (.fad (.t 8) 0), zv 33 (.ld false 1 (.t 32)), zv 34 (.ld true 3 (.t 9)), zi 35 (.call (.c (.fn 36 [] [])) [((.t 31), .id), ((.t 33), .id), ((.t 34), (.agg [.id, .id, (.sl 3)]))])]
def qbi7 : IC := zr [zv 36 (.bin .add .no (.t 17) (zc 1)), zm 17 36]
def qbnr : IC := (.seq qbn8 (.seq (.cond (.t 18) .skip (.exit 0)) (.seq (.block 1 (.seq qbpu (.seq qboj (.seq (.seq qbmr (.cond (.t 29) (.seq qbrc .ret) .skip)) qbp6)))) qbi7)))
def qbho : IC := zr [zm 37 1, zi 38 (.call (.c (.fn 12 [] [])) [((.t 37), .id)]), zv 39 (.len false (.t 38)), zv 40 (.mov (zc 0))]
def qbgq : IC := zr [zv 41 (.bin .lss .no (.t 40) (.t 39))]
def qbbp : IC := zr [zv 42 (.iad 4 (.t 38) (.t 40)), zv 43 (.ld true 4 (.t 42)), zi 12 (.alo [(.int .i64 0), (.str []), (.int .i64 0), .nils]), zn (.st 4 (.agg [.id, .id, .id, (.sl 3)]) (.t 12) (.t 43))]
def qbia : IC := zr [zm 44 6, zv 45 (.fad (.t 12) 0), zv 46 (.ld false 1 (.t 45)), zv 47 (.fad (.t 12) 1), zv 48 (.ld true 3 (.t 47)), zi 49 (.call (.c (.fn 36 [] [])) [((.t 44), .id), ((.t 46), .id), ((.t 48), (.agg [.id, .id, (.sl 3)]))])]
def qbae : IC := zr [zv 50 (.bin .add .no (.t 40) (zc 1)), zm 40 50]
def q8n : IC := (.seq qbgq (.seq (.cond (.t 41) .skip (.exit 2)) (.seq (.block 3 (.seq qbbp qbia)) qbae)))
def qbis : IC := zr [zm 51 6, zm 4 51, zv 5 (.mov (zc 0))]
def k0t : IC := (.seq qbkr (.seq qboy (.seq (.seq qbjq (.block 0 (.loop qbnr))) (.seq (.seq qbho (.block 2 (.loop q8n))) (.seq qbis .ret)))))
@[go_sem] def s0t : List (RV × Co) := [(.t 4, .id), (.t 5, .id)]
theorem c0t : cFun Tryz.prog 43 = some (52, k0t, s0t) := by kernel_rfl

def qbqz : IC := zr [zm 5 1, zv 6 (.len false (.t 5)), zv 7 (.bin .sub .no (.t 6) (zc 1)), zm 4 7]
def qbov : IC := zr [zm 8 4, zv 9 (.bin .geq .no (.t 8) (zc 0))]
def qbks : IC := .drw [zp (zm 12 0), zp (zm 13 0), zp (zv 14 (.nck (.t 13))), zp (zv 15 (.fad (.t 14) 0)), zp (zv 16 (.ld false 1 (.t 15))), zp (zm 17 1), zp (zm 18 4), zp (zv 19 (.iad 6 (.t 17) (.t 18))), zp (zv 20 (.ld true 6 (.t 19))), (zv 21 (.bsl 6 [((.t 20), (.agg [.id, .id, (.sl 3), .id, .id, (.sl 3)]))]), []), (zi 22 (.app 6 (.agg [(.str []), (.int .i64 0), .nils, (.str []), (.int .i64 0), .nils]) 96 (.sl 6) (.t 16) (.t 21)), []), zp (zv 23 (.nck (.t 12))), zp (zv 24 (.fad (.t 23) 0)), (zn (.st 1 (.sl 6) (.t 24) (.t 22)), [])]
def qbq7 : IC := zr [zm 10 4, zv 11 (.bin .sub .no (.t 10) (zc 1)), zm 4 11]
def qbpz : IC := (.seq (.seq qbov (.cond (.t 9) .skip (.exit 0))) (.seq (.block 1 qbks) qbq7))
def k0q : IC := (.seq qbqz (.block 0 (.loop qbpz)))
@[go_sem] def s0q : List (RV × Co) := []
theorem c0q : cFun Tryz.prog 44 = some (25, k0q, s0q) := by kernel_rfl

def qbof : IC := zr [zi 2 (.alo [(.str []), (.int .i64 0), .nils, (.str []), (.int .i64 0), .nils]), zv 3 zf]
def qbll : IC := zr [zi 4 (.alo [(.str []), (.int .i64 0), .nils, (.str []), (.int .i64 0), .nils])]
def qbmj : IC := zr [zm 6 0, zv 7 (.nck (.t 6)), zv 8 (.fad (.t 7) 0), zv 9 (.ld false 1 (.t 8)), zv 10 (.len false (.t 9)), zv 11 (.bin .sub .no (.t 10) (zc 1)), zm 5 11]
def qbr7 : IC := zr [zm 12 5, zv 13 (.bin .lss .no (.t 12) (zc 0))]
def qbom : IC := zr [zv 14 (.ld true 6 (.t 4)), zn (.st 6 (.agg [.id, .id, (.sl 3), .id, .id, (.sl 3)]) (.t 2) (.t 14)), zv 3 zf]
def qbn7 : IC := zr [zm 15 0, zv 16 (.nck (.t 15)), zv 17 (.fad (.t 16) 0), zv 18 (.ld false 1 (.t 17)), zm 19 5, zv 20 (.iad 6 (.t 18) (.t 19)), zv 21 (.ld true 6 (.t 20)), zn (.st 6 (.agg [.id, .id, (.sl 3), .id, .id, (.sl 3)]) (.t 4) (.t 21))]
def qbkd : IC := zr [zm 22 0, zm 23 0, zv 24 (.nck (.t 23)), zv 25 (.fad (.t 24) 0), zv 26 (.ld false 1 (.t 25)), zm 27 5, zv 28 (.slv 6 (.t 26) none (some (.t 27)) none), zv 29 (.nck (.t 22)), zv 30 (.fad (.t 29) 0), zn (.st 1 (.sl 6) (.t 30) (.t 28))]
def qbos : IC := zr [zv 31 (.ld true 6 (.t 4)), zn (.st 6 (.agg [.id, .id, (.sl 3), .id, .id, (.sl 3)]) (.t 2) (.t 31)), zv 3 (.mov (.c (.bool true)))]
def k0r : IC := (.seq qbof (.seq qbll (.seq qbmj (.seq (.seq qbr7 (.cond (.t 13) (.seq qbom .ret) .skip)) (.seq qbn7 (.seq qbkd (.seq qbos .ret)))))))
@[go_sem] def s0r : List (RV × Co) := [(.c true 6 2, (.agg [.id, .id, (.sl 3), .id, .id, (.sl 3)])), (.t 3, .id)]
theorem c0r : cFun Tryz.prog 45 = some (32, k0r, s0r) := by kernel_rfl

def qbkb : IC := zr [zi 4 (.box (.t 1)), zv 6 (.mov (.c .nilp)), zv 7 (.mov (zc 0))]
def qbk7 : IC := zr [zm 12 0, zv 13 (.fad (.t 4) 0), zv 14 (.ld true 3 (.t 13)), zi 15 (.call (.c (.fn 19 [] [])) [((.t 12), .id), ((.t 14), (.agg [.id, .id, (.sl 3)]))]), zm 11 15, zv 16 (.ext (.t 11) 0), zv 17 (.ext (.t 11) 1), zi 8 (.alo [(.str []), (.int .i64 0), .nils]), zn (.st 3 (.agg [.id, .id, (.sl 3)]) (.t 8) (.t 16)), zm 9 17]
def qbn2 : IC := zr [zm 18 9, zv 19 (.bin .neq .no (.t 18) (zc 0))]
def qboi : IC := zr [zm 20 9, zv 6 (.mov (.c .nilp)), zm 7 20]
def qbnv : IC := zr [zm 22 0, zv 23 (.fad (.t 4) 3), zv 24 (.ld true 3 (.t 23)), zi 25 (.call (.c (.fn 19 [] [])) [((.t 22), .id), ((.t 24), (.agg [.id, .id, (.sl 3)]))]), zm 21 25, zv 26 (.ext (.t 21) 0), zv 27 (.ext (.t 21) 1), zi 10 (.alo [(.str []), (.int .i64 0), .nils]), zn (.st 3 (.agg [.id, .id, (.sl 3)]) (.t 10) (.t 26)), zm 9 27]
def qbne : IC := zr [zm 29 9, zv 30 (.bin .neq .no (.t 29) (zc 0)), zm 28 30]
def qbru : IC := zr [zm 31 9, zv 6 (.mov (.c .nilp)), zm 7 31]
def qbrp : IC := zr [zv 33 (.fad (.t 8) 0), zv 34 (.ld false 1 (.t 33)), zv 35 (.bin .eql .no (.t 34) (.c (.str []))), zm 32 35]
def qbso : IC := zr [zm 36 0, zv 37 (.fad (.t 8) 1), zv 38 (.ld false 1 (.t 37)), zv 39 (.ld true 3 (.t 10)), zi 40 (.call (.c (.fn 67 [] [])) [((.t 36), .id), ((.t 38), .id), ((.t 39), (.agg [.id, .id, (.sl 3)]))]), zv 41 (.ext (.t 40) 0), zv 42 (.ext (.t 40) 1), zm 6 41, zm 7 42]
def qbrb : IC := zr [zv 44 (.fad (.t 10) 0), zv 45 (.ld false 1 (.t 44)), zv 46 (.bin .eql .no (.t 45) (.c (.str []))), zm 43 46]
def qbdi : IC := zr [zm 47 0, zv 48 (.fad (.t 10) 1), zv 49 (.ld false 1 (.t 48)), zv 50 (.ld true 3 (.t 8)), zi 51 (.call (.c (.fn 67 [] [])) [((.t 47), .id), ((.t 49), .id), ((.t 50), (.agg [.id, .id, (.sl 3)]))]), zv 52 (.ext (.t 51) 0), zv 53 (.ext (.t 51) 1), zm 6 52, zm 7 53]
def qbao : IC := zr [zv 55 (.fad (.t 8) 0), zv 56 (.ld false 1 (.t 55)), zv 57 (.fad (.t 10) 0), zv 58 (.ld false 1 (.t 57)), zv 59 (.bin .neq .no (.t 56) (.t 58)), zm 60 59, zw 60 false 61 (.fad (.t 8) 2), zw 60 false 62 (.ld false 1 (.t 61)), zw 60 false 63 (.len false (.t 62)), zw 60 false 64 (.fad (.t 10) 2), zw 60 false 65 (.ld false 1 (.t 64)), zw 60 false 66 (.len false (.t 65)), zw 60 false 67 (.bin .neq .no (.t 63) (.t 66)), zv 68 (.pick (.t 60) (.c (.bool true)) (.t 67)), zm 54 68]
def qbi9 : IC := zr [zv 6 (.mov (.c .nilp)), zv 7 (.mov (zc 14))]
def qba1 : IC := zr [zm 69 2, zv 70 (.fad (.t 8) 2), zv 71 (.ld false 1 (.t 70)), zv 72 (.fad (.t 10) 2), zv 73 (.ld false 1 (.t 72)), zi 74 (.call (.c (.fn 32 [] [])) [((.t 71), (.sl 3)), ((.t 73), (.sl 3))]), zi 75 (.call (.c (.fn 44 [] [])) [((.t 69), .id), ((.t 74), (.sl 6))])]
def qbfs : IC := zr [zm 76 0, zm 6 76, zv 7 (.mov (zc 0))]
def k0m : IC := (.seq qbkb (.seq qbk7 (.seq (.seq qbn2 (.cond (.t 19) (.seq qboi .ret) .skip)) (.seq qbnv (.seq (.block 0 (.seq qbne (.cond (.t 28) (.seq qbru .ret) (.seq qbrp (.cond (.t 32) (.seq qbso .ret) (.seq qbrb (.cond (.t 43) (.seq qbdi .ret) (.seq qbao (.cond (.t 54) (.seq qbi9 .ret) .skip))))))))) (.seq qba1 (.seq qbfs .ret)))))))
@[go_sem] def s0m : List (RV × Co) := [(.t 6, .id), (.t 7, .id)]
theorem c0m : cFun Tryz.prog 46 = some (77, k0m, s0m) := by kernel_rfl

def q6w : IC := zr [zi 1 (.box (.t 0)), zv 2 (.mov (zc 0))]
def qbai : IC := zr [zv 3 (.mov (zc 0))]
def q67 : IC := zr [zv 4 (.mov (zc 0))]
def qbhm : IC := zr [zm 5 4, zv 6 (.fad (.t 1) 2), zv 7 (.ld false 1 (.t 6)), zv 8 (.len false (.t 7)), zv 9 (.bin .lss .no (.t 5) (.t 8))]
def qbd6 : IC := zr [zm 12 3, zv 13 (.fad (.t 1) 2), zv 14 (.ld false 1 (.t 13)), zm 15 4, zv 16 (.iad 3 (.t 14) (.t 15)), zv 17 (.ld true 3 (.t 16)), zi 18 (.call (.c (.fn 47 [] [])) [((.t 17), (.agg [.id, .id, (.sl 3)]))]), zv 19 (.mm true (.t 12) (.t 18)), zm 3 19]
def q60 : IC := zr [zm 10 4, zv 11 (.bin .add .no (.t 10) (zc 1)), zm 4 11]
def qbaj : IC := (.seq (.seq qbhm (.cond (.t 9) .skip (.exit 0))) (.seq (.block 1 qbd6) q60))
def qbbd : IC := zr [zm 20 3, zv 21 (.bin .add .no (.t 20) (zc 1)), zm 2 21]
def k0br : IC := (.seq q6w (.seq qbai (.seq (.seq q67 (.block 0 (.loop qbaj))) (.seq qbbd .ret))))
@[go_sem] def s0br : List (RV × Co) := [(.t 2, .id)]
theorem c0br : cFun Tryz.prog 47 = some (22, k0br, s0br) := by kernel_rfl

def qbem : IC := zr [zi 1 (.box (.t 0)), zv 2 zf]
def qbad : IC := zr [zv 3 (.mov (zc 0))]
def qbge : IC := zr [zm 5 3, zv 6 (.fad (.t 1) 2), zv 7 (.ld false 1 (.t 6)), zv 8 (.len false (.t 7)), zv 9 (.bin .lss .no (.t 5) (.t 8))]
def q6c : IC := zr [zv 12 (.fad (.t 1) 2), zv 13 (.ld false 1 (.t 12)), zm 14 3, zv 15 (.iad 3 (.t 13) (.t 14)), zv 16 (.ld true 3 (.t 15)), zi 17 (.call (.c (.fn 48 [] [])) [((.t 16), (.agg [.id, .id, (.sl 3)]))]), zv 18 (.un .not (.t 17))]
def qbe5 : IC := zr [zv 2 zf]
def qbhw : IC := zr [zm 10 3, zv 11 (.bin .add .no (.t 10) (zc 1)), zm 3 11]
def q6q : IC := (.seq (.seq qbge (.cond (.t 9) .skip (.exit 0))) (.seq (.block 1 (.seq q6c (.cond (.t 18) (.seq qbe5 .ret) .skip))) qbhw))
def qbgt : IC := zr [zv 19 (.fad (.t 1) 2), zv 20 (.ld false 1 (.t 19)), zv 21 (.len false (.t 20)), zm 4 21]
def qbeh : IC := zr [zv 23 (.fad (.t 1) 0), zv 24 (.ld false 1 (.t 23)), zv 25 (.bin .eql .no (.t 24) (.c (.str []))), zm 22 25]
def q4q : IC := zr [zm 26 4, zv 27 (.bin .eql .no (.t 26) (zc 0)), zm 2 27]
def q2l : IC := zr [zv 29 (.fad (.t 1) 0), zv 30 (.ld false 1 (.t 29)), zv 31 (.bin .eql .no (.t 30) (.c (.str [45, 62]))), zm 28 31]
def q4m : IC := zr [zm 32 4, zv 33 (.bin .eql .no (.t 32) (zc 2)), zm 34 33, zw 34 true 35 (.fad (.t 1) 1), zw 34 true 36 (.ld false 1 (.t 35)), zw 34 true 37 (.bin .eql .no (.t 36) (zc 0)), zv 38 (.pick (.t 34) (.t 37) (.c (.bool false))), zm 2 38]
def q2t : IC := zr [zv 40 (.fad (.t 1) 0), zv 41 (.ld false 1 (.t 40)), zi 42 (.call (.c (.fn 68 [] [])) [((.t 41), .id)]), zm 39 42]
def q5b : IC := zr [zm 43 4, zv 44 (.bin .eql .no (.t 43) (zc 0)), zm 45 44, zw 45 true 46 (.fad (.t 1) 1), zw 45 true 47 (.ld false 1 (.t 46)), zw 45 true 48 (.bin .eql .no (.t 47) (zc 0)), zv 49 (.pick (.t 45) (.t 48) (.c (.bool false))), zm 2 49]
def q36 : IC := zr [zv 50 (.fad (.t 1) 0), zv 51 (.ld false 1 (.t 50)), zi 52 (.call (.c (.fn 69 [] [])) [((.t 51), .id)]), zm 53 52, zw 53 true 54 (.fad (.t 1) 1), zw 53 true 55 (.ld false 1 (.t 54)), zw 53 true 56 (.bin .eql .no (.t 55) (zc 0)), zv 57 (.pick (.t 53) (.t 56) (.c (.bool false))), zm 2 57]
def k0bs : IC := (.seq qbem (.seq (.seq qbad (.block 0 (.loop q6q))) (.seq qbgt (.seq (.block 2 (.seq qbeh (.cond (.t 22) (.seq q4q .ret) (.seq q2l (.cond (.t 28) (.seq q4m .ret) (.seq q2t (.cond (.t 39) (.seq q5b .ret) .skip))))))) (.seq q36 .ret)))))
@[go_sem] def s0bs : List (RV × Co) := [(.t 2, .id)]
theorem c0bs : cFun Tryz.prog 48 = some (58, k0bs, s0bs) := by kernel_rfl

def qbc8 : IC := zr [zi 1 (.box (.t 0)), zv 2 (.mov (.c .nils))]
def qbav : IC := zr [zi 3 (.alo [.nils])]
def qbib : IC := zr [zv 4 (.ld true 3 (.t 1)), zv 5 (.mfn 74 [] [(.t 3)]), zi 6 (.call (.c (.fn 56 [] [])) [((.t 4), (.agg [.id, .id, (.sl 3)])), ((zc 1), .id), ((.t 5), .id)])]
def q80 : IC := zr [zv 7 (.ld false 1 (.t 3)), zm 2 7]
def k0bz : IC := (.seq qbc8 (.seq qbav (.seq qbib (.seq q80 .ret))))
@[go_sem] def s0bz : List (RV × Co) := [(.t 2, (.sl 1))]
theorem c0bz : cFun Tryz.prog 51 = some (8, k0bz, s0bz) := by kernel_rfl

def qbag : IC := zr [zi 5 (.box (.t 2)), zv 6 (.mov (.c .nils)), zv 7 (.mov (zc 0))]
def q8i : IC := zr [zv 11 (.ld true 3 (.t 5)), zi 12 (.call (.c (.fn 29 [] [])) [((.t 11), (.agg [.id, .id, (.sl 3)]))]), zv 13 (.un .not (.t 12))]
def qbc2 : IC := zr [zm 14 0, zm 6 14, zv 7 (.mov (zc 1))]
def qbio : IC := zr [zm 16 0, zm 17 1, zi 18 (.call (.c (.fn 62 [] [])) [((.t 16), (.sl 4)), ((.t 17), .id)]), zm 15 18, zv 19 (.ext (.t 15) 0), zv 20 (.ext (.t 15) 1), zi 8 (.alo [(.str []), (.int .i64 0), .nils]), zn (.st 3 (.agg [.id, .id, (.sl 3)]) (.t 8) (.t 19)), zm 9 20]
def qbcx : IC := zr [zm 21 9]
def qbci : IC := zr [zm 22 0, zm 6 22, zv 7 (.mov (zc 6))]
def qbgr : IC := zr [zv 10 (.mov (zc 0))]
def qbdt : IC := zr [zm 23 10, zm 24 0, zv 25 (.len false (.t 24)), zv 26 (.bin .lss .no (.t 23) (.t 25)), zm 27 26, zw 27 true 28 (.mov (.t 0)), zw 27 true 29 (.mov (.t 10)), zw 27 true 30 (.iad 4 (.t 28) (.t 29)), zw 27 true 31 (.fad (.t 30) 0), zw 27 true 32 (.ld false 1 (.t 31)), zw 27 true 33 (.mov (.t 1)), zw 27 true 34 (.bin .lss .no (.t 32) (.t 33)), zv 35 (.pick (.t 27) (.t 34) (.c (.bool false)))]
def qbcd : IC := zr [zm 36 10, zv 37 (.bin .add .no (.t 36) (zc 1)), zm 10 37]
def qbfx : IC := (.seq (.seq qbdt (.cond (.t 35) .skip (.exit 0))) (.block 1 qbcd))
def q2m : IC := .drw [zp (zm 38 0), zp (zm 39 10), zp (zv 40 (.slv 4 (.t 38) none (some (.t 39)) none)), (zi 41 (.app 4 (.agg [(.int .i64 0), (.str []), (.int .i64 0), .nils]) 56 (.sl 4) (.c .nils) (.t 40)), []), zp (zm 42 1), (zv 43 (.ld true 3 (.t 5)), [3]), (zv 44 (.bld [(.int .i64 0), (.str []), (.int .i64 0), .nils] [(0, 1, (.t 42)), (1, 3, (.t 43))]), []), (zv 45 (.bsl 4 [((.t 44), (.agg [.id, .id, .id, (.sl 3)]))]), [3]), (zi 46 (.app 4 (.agg [(.int .i64 0), (.str []), (.int .i64 0), .nils]) 56 (.sl 4) (.t 41) (.t 45)), []), zp (zm 47 0), zp (zm 48 10), (zv 49 (.slv 4 (.t 47) (some (.t 48)) none none), [3, 8]), (zi 50 (.app 4 (.agg [(.int .i64 0), (.str []), (.int .i64 0), .nils]) 56 (.sl 4) (.t 46) (.t 49)), []), zp (zm 6 50), zp (zv 7 (.mov (zc 0)))]
def k0bf : IC := (.seq qbag (.seq (.seq q8i (.cond (.t 13) (.seq qbc2 .ret) .skip)) (.seq (.seq qbio (.seq qbcx (.cond (.t 21) (.seq qbci .ret) .skip))) (.seq qbgr (.seq (.block 0 (.loop qbfx)) (.seq q2m .ret))))))
@[go_sem] def s0bf : List (RV × Co) := [(.t 6, (.sl 4)), (.t 7, .id)]
theorem c0bf : cFun Tryz.prog 53 = some (51, k0bf, s0bf) := by kernel_rfl

def q9b : IC := zr [zi 3 (.box (.t 0)), zv 6 zf]
def qbc5 : IC := zr [zm 9 2, zv 10 (.ld true 3 (.t 3)), zm 11 1, zi 12 (.call (.t 9) [((.t 10), (.agg [.id, .id, (.sl 3)])), ((.t 11), .id)]), zv 13 (.un .not (.t 12))]
def qbh4 : IC := zr [zv 6 zf]
def qbjc : IC := zr [zv 14 (.fad (.t 3) 2), zv 15 (.ld false 1 (.t 14)), zv 16 (.len false (.t 15)), zv 17 (.mov (zc 0))]
def qbfb : IC := zr [zv 18 (.bin .lss .no (.t 17) (.t 16))]
def qbbb : IC := zr [zv 19 (.iad 3 (.t 15) (.t 17)), zv 20 (.ld true 3 (.t 19)), zi 8 (.alo [(.str []), (.int .i64 0), .nils]), zn (.st 3 (.agg [.id, .id, (.sl 3)]) (.t 8) (.t 20))]
def qbf7 : IC := zr [zv 21 (.ld true 3 (.t 8)), zm 22 1, zv 23 (.bin .add .no (.t 22) (zc 1)), zm 24 2, zi 25 (.call (.c (.fn 56 [] [])) [((.t 21), (.agg [.id, .id, (.sl 3)])), ((.t 23), .id), ((.t 24), .id)]), zv 26 (.un .not (.t 25))]
def q7v : IC := zr [zv 6 zf]
def q70 : IC := zr [zv 27 (.bin .add .no (.t 17) (zc 1)), zm 17 27]
def qbbi : IC := (.seq qbfb (.seq (.cond (.t 18) .skip (.exit 0)) (.seq (.block 1 (.seq qbbb (.seq qbf7 (.cond (.t 26) (.seq q7v .ret) .skip)))) q70)))
def q3c : IC := zr [zv 6 (.mov (.c (.bool true)))]
def k0cf : IC := (.seq q9b (.seq (.seq qbc5 (.cond (.t 13) (.seq qbh4 .ret) .skip)) (.seq (.seq qbjc (.block 0 (.loop qbbi))) (.seq q3c .ret))))
@[go_sem] def s0cf : List (RV × Co) := [(.t 6, .id)]
theorem c0cf : cFun Tryz.prog 56 = some (28, k0cf, s0cf) := by kernel_rfl

def qbf8 : IC := zr [zi 3 (.box (.t 0)), zv 5 zf]
def qbih : IC := zr [zv 6 (.ld false 1 (.t 2)), zv 7 (.bin .add .no (.t 6) (zc 1)), zn (.st 1 .id (.t 2) (.t 7))]
def qbb5 : IC := zr [zv 8 (.ld false 1 (.t 2)), zv 9 (.bin .leq .no (.t 8) (zc 4096)), zm 10 9, zw 10 true 11 (.mov (.t 1)), zw 10 true 12 (.bin .leq .no (.t 11) (zc 100)), zv 13 (.pick (.t 10) (.t 12) (.c (.bool false))), zm 14 13, zw 14 true 15 (.ld true 3 (.t 3)), ⟨some (14, true), some 16, .call (.c (.fn 58 [] [])) [((.t 15), (.agg [.id, .id, (.sl 3)]))]⟩, ⟨some (14, true), some 17, .call (.c (.fn 59 [] [])) [((.t 16), .id)]⟩, zv 18 (.pick (.t 14) (.t 17) (.c (.bool false))), zm 5 18]
def k0bk : IC := (.seq qbf8 (.seq qbih (.seq qbb5 .ret)))
@[go_sem] def s0bk : List (RV × Co) := [(.t 5, .id)]
theorem c0bk : cFun Tryz.prog 57 = some (19, k0bk, s0bk) := by kernel_rfl

def q7q : IC := zr [zi 1 (.box (.t 0)), zi 2 (.alo [(.str []), (.int .i64 0), (.int .i64 0)])]
def qbjj : IC := zr [zv 3 (.fad (.t 1) 0), zv 4 (.ld false 1 (.t 3)), zv 5 (.fad (.t 1) 1), zv 6 (.ld false 1 (.t 5)), zv 7 (.fad (.t 1) 2), zv 8 (.ld false 1 (.t 7)), zv 9 (.len false (.t 8)), zv 10 (.bld [(.str []), (.int .i64 0), (.int .i64 0)] [(0, 1, (.t 4)), (1, 1, (.t 6)), (2, 1, (.t 9))]), zn (.st 3 .id (.t 2) (.t 10))]
def k0ca : IC := (.seq q7q (.seq qbjj .ret))
@[go_sem] def s0ca : List (RV × Co) := [(.c true 3 2, .id)]
theorem c0ca : cFun Tryz.prog 58 = some (11, k0ca, s0ca) := by kernel_rfl

def qbar : IC := zr [zi 1 (.box (.t 0)), zv 2 zf]
def qbhr : IC := zr [zv 4 (.fad (.t 1) 0), zv 5 (.ld false 1 (.t 4)), zv 6 (.bin .eql .no (.t 5) (.c (.str []))), zm 3 6]
def qbdu : IC := zr [zv 7 (.fad (.t 1) 2), zv 8 (.ld false 1 (.t 7)), zv 9 (.bin .eql .no (.t 8) (zc 0)), zm 2 9]
def q68 : IC := zr [zv 11 (.fad (.t 1) 0), zv 12 (.ld false 1 (.t 11)), zv 13 (.bin .eql .no (.t 12) (.c (.str [45, 62]))), zm 10 13]
def qbg6 : IC := zr [zv 14 (.ld true 3 (.t 1)), zv 15 (.bld [(.str []), (.int .i64 0), (.int .i64 0)] [(0, 1, (.c (.str [45, 62]))), (1, 1, (zc 0)), (2, 1, (zc 2))]), zv 16 (.bin .eql (.cells [.str, (.int .i64), (.int .i64)]) (.t 14) (.t 15)), zm 2 16]
def qbg1 : IC := zr [zv 18 (.fad (.t 1) 0), zv 19 (.ld false 1 (.t 18)), zi 20 (.call (.c (.fn 80 [] [])) [((.t 19), .id)]), zm 17 20]
def q9y : IC := zr [zv 21 (.ld true 3 (.t 1)), zv 22 (.fad (.t 1) 0), zv 23 (.ld false 1 (.t 22)), zv 24 (.bld [(.str []), (.int .i64 0), (.int .i64 0)] [(0, 1, (.t 23))]), zv 25 (.bin .eql (.cells [.str, (.int .i64), (.int .i64)]) (.t 21) (.t 24)), zm 2 25]
def qbh2 : IC := zr [zv 26 (.fad (.t 1) 1), zv 27 (.ld false 1 (.t 26)), zv 28 (.bin .eql .no (.t 27) (zc 0)), zm 29 28, zw 29 true 30 (.fad (.t 1) 0), zw 29 true 31 (.ld false 1 (.t 30)), ⟨some (29, true), some 32, .call (.c (.fn 81 [] [])) [((.t 31), .id)]⟩, zv 33 (.pick (.t 29) (.t 32) (.c (.bool false))), zm 2 33]
def k0ce : IC := (.seq qbar (.seq (.block 0 (.seq qbhr (.cond (.t 3) (.seq qbdu .ret) (.seq q68 (.cond (.t 10) (.seq qbg6 .ret) (.seq qbg1 (.cond (.t 17) (.seq q9y .ret) .skip))))))) (.seq qbh2 .ret)))
@[go_sem] def s0ce : List (RV × Co) := [(.t 2, .id)]
theorem c0ce : cFun Tryz.prog 59 = some (34, k0ce, s0ce) := by kernel_rfl

def qbi5 : IC := zr [zi 1 (.box (.t 0)), zv 2 (.mov (zc 0))]
def qbhh : IC := zr [zi 3 (.alo [(.int .i64 0)]), zn (.st 1 .id (.t 3) (zc 0))]
def q61 : IC := zr [zv 4 (.ld true 3 (.t 1)), zv 5 (.mfn 82 [] [(.t 3)]), zi 6 (.call (.c (.fn 56 [] [])) [((.t 4), (.agg [.id, .id, (.sl 3)])), ((zc 1), .id), ((.t 5), .id)])]
def qbcb : IC := zr [zv 7 (.ld false 1 (.t 3)), zm 2 7]
def k0bo : IC := (.seq qbi5 (.seq qbhh (.seq q61 (.seq qbcb .ret))))
@[go_sem] def s0bo : List (RV × Co) := [(.t 2, .id)]
theorem c0bo : cFun Tryz.prog 60 = some (8, k0bo, s0bo) := by kernel_rfl

def q75 : IC := zr [zi 1 (.box (.t 0)), zv 2 (.mov (zc 0))]
def q7w : IC := zr [zi 3 (.alo [(.int .i64 0)]), zn (.st 1 .id (.t 3) (zc 0))]
def q6h : IC := zr [zv 4 (.ld true 3 (.t 1)), zv 5 (.mfn 83 [] [(.t 3)]), zi 6 (.call (.c (.fn 56 [] [])) [((.t 4), (.agg [.id, .id, (.sl 3)])), ((zc 1), .id), ((.t 5), .id)])]
def qbdz : IC := zr [zv 7 (.ld false 1 (.t 3)), zm 2 7]
def k0bp : IC := (.seq q75 (.seq q7w (.seq q6h (.seq qbdz .ret))))
@[go_sem] def s0bp : List (RV × Co) := [(.t 2, .id)]
theorem c0bp : cFun Tryz.prog 61 = some (8, k0bp, s0bp) := by kernel_rfl

def q6j : IC := zr [zi 4 (.alo [(.str []), (.int .i64 0), .nils]), zv 5 zf]
def q7r : IC := zr [zv 6 (.mov (zc 0))]
def qbhv : IC := zr [zm 7 6, zm 8 0, zv 9 (.len false (.t 8)), zv 10 (.bin .lss .no (.t 7) (.t 9))]
def qbe1 : IC := zr [zm 13 0, zm 14 6, zv 15 (.iad 4 (.t 13) (.t 14)), zv 16 (.fad (.t 15) 0), zv 17 (.ld false 1 (.t 16)), zm 18 1, zv 19 (.bin .eql .no (.t 17) (.t 18))]
def q86 : IC := zr [zm 20 0, zm 21 6, zv 22 (.iad 4 (.t 20) (.t 21)), zv 23 (.fad (.t 22) 1), zv 24 (.ld true 3 (.t 23)), zn (.st 3 (.agg [.id, .id, (.sl 3)]) (.t 4) (.t 24)), zv 5 (.mov (.c (.bool true)))]
def qbgb : IC := zr [zm 11 6, zv 12 (.bin .add .no (.t 11) (zc 1)), zm 6 12]
def qbiz : IC := (.seq (.seq qbhv (.cond (.t 10) .skip (.exit 0))) (.seq (.block 1 (.seq qbe1 (.cond (.t 19) (.seq q86 .ret) .skip))) qbgb))
def qbb1 : IC := zr [zv 25 (.bld [(.str []), (.int .i64 0), .nils] []), zn (.st 3 (.agg [.id, .id, (.sl 3)]) (.t 4) (.t 25)), zv 5 zf]
def k0be : IC := (.seq q6j (.seq (.seq q7r (.block 0 (.loop qbiz))) (.seq qbb1 .ret)))
@[go_sem] def s0be : List (RV × Co) := [(.c true 3 4, (.agg [.id, .id, (.sl 3)])), (.t 5, .id)]
theorem c0be : cFun Tryz.prog 62 = some (26, k0be, s0be) := by kernel_rfl

def qbac : IC := zr [zi 1 (.box (.t 0)), zi 2 (.alo [(.str []), (.int .i64 0), .nils])]
def q9q : IC := zr [zv 4 (.ld false 1 (.t 1)), zv 5 (.nck (.t 4)), zv 6 (.fad (.t 5) 1), zv 7 (.ld false 1 (.t 6)), zv 8 (.bin .add .no (.t 7) (zc 1)), zv 9 (.nck (.t 4)), zv 10 (.fad (.t 9) 1), zn (.st 1 .id (.t 10) (.t 8))]
def qbf2 : IC := zr [zv 11 (.ld false 1 (.t 1)), zv 12 (.nck (.t 11)), zv 13 (.fad (.t 12) 1), zv 14 (.ld false 1 (.t 13)), zv 15 (.bin .gtr .no (.t 14) (zc 200))]
def qbcs : IC := zr [zv 16 (.ld false 1 (.t 1)), zv 17 (.nck (.t 16)), zv 18 (.fad (.t 17) 2), zn (.st 1 .id (.t 18) (.c (.bool true)))]
def qbgs : IC := .dfr [zv 19 (.mfn 84 [] [(.t 1)])] (.t 19)
def q7p : IC := zr [zv 20 (.ld false 1 (.t 1)), zv 21 (.nck (.t 20)), zv 22 (.fad (.t 21) 2), zv 23 (.ld false 1 (.t 22))]
def qbbh : IC := zr [zv 24 (.bld [(.str []), (.int .i64 0), .nils] []), zn (.st 3 (.agg [.id, .id, (.sl 3)]) (.t 2) (.t 24))]
def qbh5 : IC := zr [zv 25 (.ld false 1 (.t 1)), zi 26 (.call (.c (.fn 85 [] [])) [((.t 25), .id)]), zi 3 (.alo [(.str []), (.int .i64 0), .nils]), zn (.st 3 (.agg [.id, .id, (.sl 3)]) (.t 3) (.t 26))]
def qbdl : IC := zr [zv 27 (.ld false 1 (.t 1)), zv 28 (.nck (.t 27)), zv 29 (.fad (.t 28) 2), zv 30 (.ld false 1 (.t 29)), zv 31 (.un .not (.t 30)), zm 32 31, zw 32 true 33 (.ld false 1 (.t 1)), zw 32 true 34 (.nck (.t 33)), zw 32 true 35 (.fad (.t 34) 0), zw 32 true 36 (.ld false 1 (.t 35)), ⟨some (32, true), some 37, .call (.c (.fn 86 [] [])) [((.t 36), .id), ((.c (.str [32, 45, 62, 32])), .id)]⟩, zw 32 true 38 (.un .not (.t 37)), zv 39 (.pick (.t 32) (.t 38) (.c (.bool false))), zm 40 39, zw 40 true 41 (.ld false 1 (.t 1)), ⟨some (40, true), some 42, .call (.c (.fn 87 [] [])) [((.t 41), .id), ((.c (.str [32])), .id)]⟩, zv 43 (.pick (.t 40) (.t 42) (.c (.bool false)))]
def q3i : IC := .drw [zp (zv 44 (.fad (.t 3) 2)), zp (zv 45 (.ld false 1 (.t 44))), (zi 46 (.call (.c (.fn 88 [] [])) [((.t 45), (.sl 3))]), []), (zv 47 (.ld false 1 (.t 1)), [2]), (zi 48 (.call (.c (.fn 85 [] [])) [((.t 47), .id)]), []), (zv 49 (.bsl 3 [((.t 48), (.agg [.id, .id, (.sl 3)]))]), []), (zi 50 (.app 3 (.agg [(.str []), (.int .i64 0), .nils]) 48 (.sl 3) (.t 46) (.t 49)), []), zp (zv 51 (.fad (.t 3) 2)), (zn (.st 1 (.sl 3) (.t 51) (.t 50)), [])]
def qnb : IC := (.seq (.seq qbdl (.cond (.t 43) .skip (.exit 0))) (.block 1 q3i))
def q1v : IC := zr [zv 52 (.ld false 1 (.t 1)), zv 53 (.nck (.t 52)), zv 54 (.fad (.t 53) 2), zv 55 (.ld false 1 (.t 54)), zv 56 (.un .not (.t 55)), zm 57 56, zw 57 true 58 (.ld false 1 (.t 1)), ⟨some (57, true), some 59, .call (.c (.fn 87 [] [])) [((.t 58), .id), ((.c (.str [32, 45, 62, 32])), .id)]⟩, zv 60 (.pick (.t 57) (.t 59) (.c (.bool false)))]
def q3b : IC := .drw [zp (zv 61 (.ld true 3 (.t 3))), zp (zv 62 (.ld false 1 (.t 1))), (zi 63 (.call (.c (.fn 63 [] [])) [((.t 62), .id)]), [0]), (zv 64 (.bsl 3 [((.t 61), (.agg [.id, .id, (.sl 3)])), ((.t 63), (.agg [.id, .id, (.sl 3)]))]), []), (zv 65 (.bld [(.str []), (.int .i64 0), .nils] [(0, 1, (.c (.str [45, 62]))), (2, 1, (.t 64))]), []), (zn (.st 3 (.agg [.id, .id, (.sl 3)]) (.t 2) (.t 65)), [])]
def q20 : IC := zr [zv 66 (.ld true 3 (.t 3)), zn (.st 3 (.agg [.id, .id, (.sl 3)]) (.t 2) (.t 66))]
def k0dg : IC := (.seq qbac (.seq (.seq q9q (.seq qbf2 (.cond (.t 15) qbcs .skip))) (.seq qbgs (.seq (.seq q7p (.cond (.t 23) (.seq qbbh .ret) .skip)) (.seq qbh5 (.seq (.block 0 (.loop qnb)) (.seq (.seq q1v (.cond (.t 60) (.seq q3b .ret) .skip)) (.seq q20 .ret))))))))
@[go_sem] def s0dg : List (RV × Co) := [(.c true 3 2, (.agg [.id, .id, (.sl 3)]))]
theorem c0dg : cFun Tryz.prog 63 = some (67, k0dg, s0dg) := by kernel_rfl

def q95 : IC := zr [zi 1 (.box (.t 0)), zv 2 (.mov (.c (.str [])))]
def q91 : IC := zr [zv 3 (.ld true 3 (.t 1)), zi 4 (.call (.c (.fn 37 [] [])) [((.t 3), (.agg [.id, .id, (.sl 3)]))]), zv 5 (.un .not (.t 4))]
def qbfz : IC := zr [zv 2 (.mov (.c (.str [])))]
def qbha : IC := zr [zv 6 (.ld true 3 (.t 1)), zi 7 (.call (.c (.fn 89 [] [])) [((.t 6), (.agg [.id, .id, (.sl 3)]))]), zm 2 7]
def k0bj : IC := (.seq q95 (.seq (.seq q91 (.cond (.t 5) (.seq qbfz .ret) .skip)) (.seq qbha .ret)))
@[go_sem] def s0bj : List (RV × Co) := [(.t 2, .id)]
theorem c0bj : cFun Tryz.prog 64 = some (8, k0bj, s0bj) := by kernel_rfl

def qbc1 : IC := zr [zv 6 (.mov (zc 0)), zv 7 zf]
def q6i : IC := zr [zm 12 0, zv 13 (.len false (.t 12)), zm 8 13]
def qbg2 : IC := zr [zm 14 8, zv 9 (.mov (zc 0)), zm 10 14]
def qbhb : IC := zr [zm 15 9, zm 16 10, zv 17 (.bin .lss .no (.t 15) (.t 16))]
def qbf6 : IC := zr [zm 18 9, zm 19 10, zv 20 (.bin .add .no (.t 18) (.t 19)), zv 21 (.cvi .u64 (.t 20)), zv 22 (.bin .shr .no (.t 21) (.c (.int .u64 1))), zv 23 (.cvi .i64 (.t 22)), zm 11 23]
def q8m : IC := zr [zm 24 2, zm 25 0, zm 26 11, zv 27 (.iad 4 (.t 25) (.t 26)), zv 28 (.ld true 4 (.t 27)), zm 29 1, zi 30 (.call (.t 24) [((.t 28), (.agg [.id, .id, .id, (.sl 3)])), ((.t 29), .id)]), zv 31 (.bin .lss .no (.t 30) (zc 0))]
def q8u : IC := zr [zm 32 11, zv 33 (.bin .add .no (.t 32) (zc 1)), zm 9 33]
def qbcy : IC := zr [zm 34 11, zm 10 34]
def q8q : IC := (.seq (.seq qbhb (.cond (.t 17) .skip (.exit 0))) (.block 1 (.seq qbf6 (.seq q8m (.cond (.t 31) q8u qbcy)))))
def q3m : IC := zr [zm 35 9, zm 36 9, zm 37 8, zv 38 (.bin .lss .no (.t 36) (.t 37)), zm 39 38, zw 39 true 40 (.mov (.t 2)), zw 39 true 41 (.mov (.t 0)), zw 39 true 42 (.mov (.t 9)), zw 39 true 43 (.iad 4 (.t 41) (.t 42)), zw 39 true 44 (.ld true 4 (.t 43)), zw 39 true 45 (.mov (.t 1)), ⟨some (39, true), some 46, .call (.t 40) [((.t 44), (.agg [.id, .id, .id, (.sl 3)])), ((.t 45), .id)]⟩, zw 39 true 47 (.bin .eql .no (.t 46) (zc 0)), zv 48 (.pick (.t 39) (.t 47) (.c (.bool false))), zm 6 35, zm 7 48]
def k0ba : IC := (.seq qbc1 (.seq q6i (.seq qbg2 (.seq (.block 0 (.loop q8q)) (.seq q3m .ret)))))
@[go_sem] def s0ba : List (RV × Co) := [(.t 6, .id), (.t 7, .id)]
theorem c0ba : cFun Tryz.prog 65 = some (49, k0ba, s0ba) := by kernel_rfl

def qbiw : IC := zr [zi 2 (.box (.t 0)), zv 4 (.mov (zc 0))]
def qbcl : IC := zr [zv 6 (.fad (.t 2) 0), zv 7 (.ld false 1 (.t 6)), zm 8 1, zv 9 (.bin .lss .no (.t 7) (.t 8)), zm 5 9]
def qbhn : IC := zr [zv 4 (.mov (zc (-1)))]
def qbd1 : IC := zr [zv 11 (.fad (.t 2) 0), zv 12 (.ld false 1 (.t 11)), zm 13 1, zv 14 (.bin .gtr .no (.t 12) (.t 13)), zm 10 14]
def q6l : IC := zr [zv 4 (.mov (zc 1))]
def qbcv : IC := zr [zv 4 (.mov (zc 0))]
def k0bc : IC := (.seq qbiw (.seq (.block 0 (.seq qbcl (.cond (.t 5) (.seq qbhn .ret) (.seq qbd1 (.cond (.t 10) (.seq q6l .ret) .skip))))) (.seq qbcv .ret)))
@[go_sem] def s0bc : List (RV × Co) := [(.t 4, .id)]
theorem c0bc : cFun Tryz.prog 66 = some (15, k0bc, s0bc) := by kernel_rfl

def qble : IC := zr [zi 5 (.box (.t 2)), zv 6 (.mov (.c .nilp)), zv 7 (.mov (zc 0))]
def qbrz : IC := zr [zv 9 (.fad (.t 5) 0), zv 10 (.ld false 1 (.t 9)), zv 11 (.bin .eql .no (.t 10) (.c (.str []))), zm 12 11, zw 12 true 13 (.fad (.t 5) 1), zw 12 true 14 (.ld false 1 (.t 13)), zw 12 true 15 (.mov (.t 1)), zw 12 true 16 (.bin .eql .no (.t 14) (.t 15)), zv 17 (.pick (.t 12) (.t 16) (.c (.bool false))), zm 8 17]
def qbki : IC := zr [zm 18 0, zm 6 18, zv 7 (.mov (zc 0))]
def qblb : IC := zr [zv 20 (.ld true 3 (.t 5)), zm 21 1, zi 22 (.call (.c (.fn 90 [] [])) [((.t 20), (.agg [.id, .id, (.sl 3)])), ((.t 21), .id)]), zm 19 22]
def qbqw : IC := zr [zv 6 (.mov (.c .nilp)), zv 7 (.mov (zc 15))]
def qbo3 : IC := zr [zm 23 0, zm 24 1, zv 25 (.ld true 3 (.t 5)), zv 26 (.bld [(.int .i64 0), (.str []), (.int .i64 0), .nils] [(0, 1, (.t 24)), (1, 3, (.t 25))]), zv 27 (.bsl 4 [((.t 26), (.agg [.id, .id, .id, (.sl 3)]))]), zi 28 (.call (.c (.fn 18 [] [])) [((.t 27), (.sl 4))]), zi 29 (.call (.c (.fn 43 [] [])) [((.t 23), .id), ((.t 28), .id)]), zv 30 (.ext (.t 29) 0), zv 31 (.ext (.t 29) 1), zm 6 30, zm 7 31]
def k0p : IC := (.seq qble (.seq (.block 0 (.seq qbrz (.cond (.t 8) (.seq qbki .ret) (.seq qblb (.cond (.t 19) (.seq qbqw .ret) .skip))))) (.seq qbo3 .ret)))
@[go_sem] def s0p : List (RV × Co) := [(.t 6, .id), (.t 7, .id)]
theorem c0p : cFun Tryz.prog 67 = some (32, k0p, s0p) := by kernel_rfl

def qbgm : IC := zr [zv 2 zf]
def qbfi : IC := zr [zm 5 0, zv 6 (.bin .eql .no (.t 5) (.c (.str []))), zm 7 6, zw 7 false 8 (.mov (.t 0)), zw 7 false 9 (.idx (.t 8) (zc 0)), zw 7 false 10 (.bin .neq .no (.t 9) (.c (.int .u8 33))), zv 11 (.pick (.t 7) (.c (.bool true)) (.t 10))]
def qbcu : IC := zr [zv 2 zf]
def q87 : IC := zr [zm 13 0, zv 14 (.sls (.t 13) (some (zc 1)) none), zi 15 (.call (.c (.fn 91 [] [])) [((.t 14), .id)]), zm 12 15, zv 16 (.ext (.t 12) 0), zv 17 (.ext (.t 12) 1), zm 3 16, zm 4 17]
def q58 : IC := .drw [zp (zm 18 4), zp (zv 19 (.bin .eql .no (.t 18) (zc 0))), zp (zm 20 19), zp (zw 20 true 21 (.mov (.t 3))), (⟨some (20, true), some 22, .call (.c (.fn 92 [] [])) [((.t 21), .id)]⟩, []), zp (zw 20 true 23 (.mov (.t 0))), zp (zw 20 true 24 (.sls (.t 23) (some (zc 1)) none)), zp (zw 20 true 25 (.bin .eql .no (.t 22) (.t 24))), zp (zv 26 (.pick (.t 20) (.t 25) (.c (.bool false)))), zp (zm 2 26)]
def k0cd : IC := (.seq qbgm (.seq (.seq qbfi (.cond (.t 11) (.seq qbcu .ret) .skip)) (.seq q87 (.seq q58 .ret))))
@[go_sem] def s0cd : List (RV × Co) := [(.t 2, .id)]
theorem c0cd : cFun Tryz.prog 68 = some (27, k0cd, s0cd) := by kernel_rfl

def qbaz : IC := zr [zv 2 zf]
def q8v : IC := zr [zm 3 0, zv 4 (.bin .neq .no (.t 3) (.c (.str []))), zm 5 4, zw 5 true 6 (.mov (.t 0)), zw 5 true 7 (.idx (.t 6) (zc 0)), ⟨some (5, true), some 8, .call (.c (.fn 93 [] [])) [((.t 7), .id)]⟩, zv 9 (.pick (.t 5) (.t 8) (.c (.bool false))), zm 10 9, zw 10 true 11 (.mov (.t 0)), ⟨some (10, true), some 12, .call (.c (.fn 94 [] [])) [((.t 11), .id)]⟩, zv 13 (.pick (.t 10) (.t 12) (.c (.bool false))), zm 2 13]
def k0ct : IC := (.seq qbaz (.seq q8v .ret))
@[go_sem] def s0ct : List (RV × Co) := [(.t 2, .id)]
theorem c0ct : cFun Tryz.prog 69 = some (14, k0ct, s0ct) := by kernel_rfl

def q9h : IC := zr [zi 3 (.box (.t 0)), zv 5 zf]
def qbb2 : IC := zr [zv 6 (.fad (.t 3) 0), zv 7 (.ld false 1 (.t 6)), zv 8 (.bin .eql .no (.t 7) (.c (.str []))), zm 9 8, zw 9 true 10 (.ld false 1 (.t 2)), zw 9 true 11 (.fad (.t 3) 1), zw 9 true 12 (.ld false 1 (.t 11)), ⟨some (9, true), some 13, .call (.c (.fn 75 [] [])) [((.t 10), (.sl 1)), ((.t 12), .id)]⟩, zw 9 true 14 (.un .not (.t 13)), zv 15 (.pick (.t 9) (.t 14) (.c (.bool false)))]
def qbdf : IC := zr [zv 16 (.ld false 1 (.t 2)), zv 17 (.fad (.t 3) 1), zv 18 (.ld false 1 (.t 17)), zv 19 (.bsl 1 [((.t 18), .id)]), zi 20 (.app 1 (.int .i64 0) 8 (.sl 1) (.t 16) (.t 19)), zn (.st 1 (.sl 1) (.t 2) (.t 20))]
def qbgc : IC := zr [zv 5 (.mov (.c (.bool true)))]
def k0by : IC := (.seq q9h (.seq (.seq qbb2 (.cond (.t 15) qbdf .skip)) (.seq qbgc .ret)))
@[go_sem] def s0by : List (RV × Co) := [(.t 5, .id)]
theorem c0by : cFun Tryz.prog 74 = some (21, k0by, s0by) := by kernel_rfl

def qbby : IC := zr [zv 4 zf]
def q64 : IC := zr [zm 5 0, zm 6 1, zi 7 (.call (.c (.fn 96 [] [])) [((.t 5), (.sl 1)), ((.t 6), .id)]), zv 8 (.bin .geq .no (.t 7) (zc 0)), zm 4 8]
def k0bx : IC := (.seq qbby (.seq q64 .ret))
@[go_sem] def s0bx : List (RV × Co) := [(.t 4, .id)]
theorem c0bx : cFun Tryz.prog 75 = some (9, k0bx, s0bx) := by kernel_rfl

def qbiu : IC := zr [zv 2 zf]
def qbfn : IC := zr [zm 5 0, zi 6 (.call (.c (.fn 86 [] [])) [((.t 5), .id), ((.c (.str [33])), .id)]), zv 7 (.un .not (.t 6))]
def q8w : IC := zr [zv 2 zf]
def q88 : IC := zr [zm 9 0, zv 10 (.sls (.t 9) (some (zc 1)) none), zi 11 (.call (.c (.fn 98 [] [])) [((.t 10), .id)]), zm 8 11, zv 12 (.ext (.t 8) 0), zv 13 (.ext (.t 8) 1), zm 3 12, zm 4 13]
def q65 : IC := .drw [zp (zm 14 4), zp (zv 15 (.bin .eql .no (.t 14) (zc 0))), zp (zm 16 15), zp (zw 16 true 17 (.mov (.t 3))), (⟨some (16, true), some 18, .call (.c (.fn 99 [] [])) [((.t 17), .id)]⟩, []), zp (zw 16 true 19 (.mov (.t 0))), zp (zw 16 true 20 (.sls (.t 19) (some (zc 1)) none)), zp (zw 16 true 21 (.bin .eql .no (.t 18) (.t 20))), zp (zv 22 (.pick (.t 16) (.t 21) (.c (.bool false)))), zp (zm 2 22)]
def k0cc : IC := (.seq qbiu (.seq (.seq qbfn (.cond (.t 7) (.seq q8w .ret) .skip)) (.seq q88 (.seq q65 .ret))))
@[go_sem] def s0cc : List (RV × Co) := [(.t 2, .id)]
theorem c0cc : cFun Tryz.prog 80 = some (23, k0cc, s0cc) := by kernel_rfl

def qbi2 : IC := zr [zv 2 zf]
def q7b : IC := zr [zm 3 0, zv 4 (.bin .neq .no (.t 3) (.c (.str []))), zm 5 4, zw 5 true 6 (.mov (.t 0)), zw 5 true 7 (.idx (.t 6) (zc 0)), ⟨some (5, true), some 8, .call (.c (.fn 100 [] [])) [((.t 7), .id)]⟩, zv 9 (.pick (.t 5) (.t 8) (.c (.bool false))), zm 10 9, zw 10 true 11 (.mov (.t 0)), ⟨some (10, true), some 12, .call (.c (.fn 101 [] [])) [((.t 11), .id)]⟩, zv 13 (.pick (.t 10) (.t 12) (.c (.bool false))), zm 2 13]
def k0cs : IC := (.seq qbi2 (.seq q7b .ret))
@[go_sem] def s0cs : List (RV × Co) := [(.t 2, .id)]
theorem c0cs : cFun Tryz.prog 81 = some (14, k0cs, s0cs) := by kernel_rfl

def qbdk : IC := zr [zi 3 (.box (.t 0)), zv 5 zf]
def q79 : IC := zr [zv 6 (.ld false 1 (.t 2)), zv 7 (.bin .add .no (.t 6) (zc 1)), zn (.st 1 .id (.t 2) (.t 7))]
def qbaa : IC := zr [zv 5 (.mov (.c (.bool true)))]
def k0bl : IC := (.seq qbdk (.seq q79 (.seq qbaa .ret)))
@[go_sem] def s0bl : List (RV × Co) := [(.t 5, .id)]
theorem c0bl : cFun Tryz.prog 82 = some (8, k0bl, s0bl) := by kernel_rfl

def qbiq : IC := zr [zi 3 (.box (.t 0)), zv 5 zf]
def qbgp : IC := zr [zv 6 (.ld false 1 (.t 2)), zm 7 1, zv 8 (.mm true (.t 6) (.t 7)), zn (.st 1 .id (.t 2) (.t 8))]
def qbeo : IC := zr [zv 5 (.mov (.c (.bool true)))]
def k0bm : IC := (.seq qbiq (.seq qbgp (.seq qbeo .ret)))
@[go_sem] def s0bm : List (RV × Co) := [(.t 5, .id)]
theorem c0bm : cFun Tryz.prog 83 = some (9, k0bm, s0bm) := by kernel_rfl

def qbe7 : IC := zr [zv 1 (.ld false 1 (.t 0)), zv 2 (.nck (.t 1)), zv 3 (.fad (.t 2) 1), zv 4 (.ld false 1 (.t 3)), zv 5 (.bin .sub .no (.t 4) (zc 1)), zv 6 (.nck (.t 1)), zv 7 (.fad (.t 6) 1), zn (.st 1 .id (.t 7) (.t 5))]
def k0da : IC := qbe7
@[go_sem] def s0da : List (RV × Co) := []
theorem c0da : cFun Tryz.prog 84 = some (8, k0da, s0da) := by kernel_rfl

def qbdp : IC := zr [zi 2 (.alo [(.str []), (.int .i64 0), .nils])]
def q76 : IC := zr [zm 6 0, zi 7 (.call (.c (.fn 87 [] [])) [((.t 6), .id), ((.c (.str [40])), .id)])]
def qbhu : IC := zr [zm 8 0, zi 9 (.call (.c (.fn 63 [] [])) [((.t 8), .id)]), zi 3 (.alo [(.str []), (.int .i64 0), .nils]), zn (.st 3 (.agg [.id, .id, (.sl 3)]) (.t 3) (.t 9))]
def q6g : IC := zr [zm 10 0, zm 11 0, zv 12 (.nck (.t 11)), zv 13 (.fad (.t 12) 2), zv 14 (.ld false 1 (.t 13)), zm 15 14, zw 15 false 16 (.mov (.t 0)), ⟨some (15, false), some 17, .call (.c (.fn 87 [] [])) [((.t 16), .id), ((.c (.str [41])), .id)]⟩, zw 15 false 18 (.un .not (.t 17)), zv 19 (.pick (.t 15) (.c (.bool true)) (.t 18)), zv 20 (.nck (.t 10)), zv 21 (.fad (.t 20) 2), zn (.st 1 .id (.t 21) (.t 19))]
def qbf4 : IC := zr [zv 22 (.ld true 3 (.t 3)), zn (.st 3 (.agg [.id, .id, (.sl 3)]) (.t 2) (.t 22))]
def q6b : IC := zr [zm 23 0, zv 24 (.nck (.t 23)), zv 25 (.fad (.t 24) 0), zv 26 (.ld false 1 (.t 25)), zi 27 (.call (.c (.fn 102 [] [])) [((.t 26), .id), ((.c (.str [32, 40, 41])), .id)]), zm 4 27]
def q8a : IC := zr [zm 28 4, zv 29 (.bin .lss .no (.t 28) (zc 0))]
def qbal : IC := zr [zm 30 0, zv 31 (.nck (.t 30)), zv 32 (.fad (.t 31) 0), zv 33 (.ld false 1 (.t 32)), zv 34 (.len true (.t 33)), zm 4 34]
def q83 : IC := zr [zm 35 0, zv 36 (.nck (.t 35)), zv 37 (.fad (.t 36) 0), zv 38 (.ld false 1 (.t 37)), zm 39 4, zv 40 (.sls (.t 38) none (some (.t 39))), zi 41 (.call (.c (.fn 103 [] [])) [((.t 40), .id)]), zi 5 (.alo [(.str []), (.int .i64 0), .nils]), zn (.st 3 (.agg [.id, .id, (.sl 3)]) (.t 5) (.t 41))]
def qbiy : IC := .drw [zp (zm 42 0), zp (zm 43 0), zp (zm 44 0), zp (zv 45 (.nck (.t 44))), zp (zv 46 (.fad (.t 45) 0)), zp (zv 47 (.ld false 1 (.t 46))), zp (zm 48 4), zp (zv 49 (.sls (.t 47) (some (.t 48)) none)), zp (zm 50 0), zp (zv 51 (.nck (.t 50))), zp (zv 52 (.fad (.t 51) 2)), zp (zv 53 (.ld false 1 (.t 52))), zp (zm 54 53), zp (zw 54 false 55 (.mov (.t 4))), zp (zw 54 false 56 (.bin .eql .no (.t 55) (zc 0))), zp (zv 57 (.pick (.t 54) (.c (.bool true)) (.t 56))), zp (zv 58 (.nck (.t 42))), zp (zv 59 (.fad (.t 58) 0)), (zn (.st 1 .id (.t 59) (.t 49)), []), zp (zv 60 (.nck (.t 43))), zp (zv 61 (.fad (.t 60) 2)), (zn (.st 1 .id (.t 61) (.t 57)), [])]
def q3q : IC := zr [zv 62 (.ld true 3 (.t 5)), zn (.st 3 (.agg [.id, .id, (.sl 3)]) (.t 2) (.t 62))]
def k0db : IC := (.seq qbdp (.seq (.seq q76 (.cond (.t 7) (.seq qbhu (.seq q6g (.seq qbf4 .ret))) .skip)) (.seq q6b (.seq (.seq q8a (.cond (.t 29) qbal .skip)) (.seq q83 (.seq qbiy (.seq q3q .ret)))))))
@[go_sem] def s0db : List (RV × Co) := [(.c true 3 2, (.agg [.id, .id, (.sl 3)]))]
theorem c0db : cFun Tryz.prog 85 = some (63, k0db, s0db) := by kernel_rfl

def qbfm : IC := zr [zv 4 zf]
def q69 : IC := zr [zm 5 0, zm 6 1, zi 7 (.call (.c (.fn 104 [] [])) [((.t 5), .id), ((.t 6), .id)]), zm 4 7]
def k0ch : IC := (.seq qbfm (.seq q69 .ret))
@[go_sem] def s0ch : List (RV × Co) := [(.t 4, .id)]
theorem c0ch : cFun Tryz.prog 86 = some (8, k0ch, s0ch) := by kernel_rfl

def q62 : IC := zr [zv 4 zf]
def q7f : IC := zr [zm 6 0, zv 7 (.nck (.t 6)), zv 8 (.fad (.t 7) 0), zv 9 (.ld false 1 (.t 8)), zm 10 1, zi 11 (.call (.c (.fn 86 [] [])) [((.t 9), .id), ((.t 10), .id)]), zm 5 11]
def qbct : IC := zr [zm 12 5]
def q6o : IC := zr [zm 13 0, zm 14 0, zv 15 (.nck (.t 14)), zv 16 (.fad (.t 15) 0), zv 17 (.ld false 1 (.t 16)), zm 18 1, zv 19 (.len true (.t 18)), zv 20 (.sls (.t 17) (some (.t 19)) none), zv 21 (.nck (.t 13)), zv 22 (.fad (.t 21) 0), zn (.st 1 .id (.t 22) (.t 20))]
def qbcg : IC := zr [zm 23 5, zm 4 23]
def k0de : IC := (.seq q62 (.seq q7f (.seq (.seq qbct (.cond (.t 12) q6o .skip)) (.seq qbcg .ret))))
@[go_sem] def s0de : List (RV × Co) := [(.t 4, .id)]
theorem c0de : cFun Tryz.prog 87 = some (24, k0de, s0de) := by kernel_rfl

def q9r : IC := zr [zv 2 (.mov (.c .nils))]
def qbax : IC := zr [zm 3 0, zv 4 (.bin .eql .slice (.t 3) (.c .nils))]
def qbb7 : IC := zr [zv 2 (.mov (.c .nils))]
def qbhk : IC := zr [zv 5 (.bsl 3 []), zm 6 0, zi 7 (.app 3 (.agg [(.str []), (.int .i64 0), .nils]) 48 (.sl 3) (.t 5) (.t 6)), zm 2 7]
def k0dd : IC := (.seq q9r (.seq (.seq qbax (.cond (.t 4) (.seq qbb7 .ret) .skip)) (.seq qbhk .ret)))
@[go_sem] def s0dd : List (RV × Co) := [(.t 2, (.sl 3))]
theorem c0dd : cFun Tryz.prog 88 = some (8, k0dd, s0dd) := by kernel_rfl

def qbce : IC := zr [zi 1 (.box (.t 0)), zv 2 (.mov (.c (.str [])))]
def qber : IC := zr [zv 6 (.fad (.t 1) 0), zv 7 (.ld false 1 (.t 6)), zv 8 (.bin .eql .no (.t 7) (.c (.str [45, 62])))]
def q77 : IC := .drw [zp (zv 9 (.fad (.t 1) 2)), zp (zv 10 (.ld false 1 (.t 9))), zp (zv 11 (.iad 3 (.t 10) (zc 0))), zp (zv 12 (.ld true 3 (.t 11))), zp (zv 13 (.fad (.t 1) 2)), zp (zv 14 (.ld false 1 (.t 13))), zp (zv 15 (.iad 3 (.t 14) (zc 0))), zp (zv 16 (.fad (.t 15) 0)), zp (zv 17 (.ld false 1 (.t 16))), (zv 18 (.bin .eql .no (.t 17) (.c (.str [45, 62]))), []), (zi 19 (.call (.c (.fn 105 [] [])) [((.t 12), (.agg [.id, .id, (.sl 3)])), ((.t 18), .id)]), []), (zv 20 (.bin .add .no (.t 19) (.c (.str [32, 45, 62, 32]))), []), zp (zv 21 (.fad (.t 1) 2)), (zv 22 (.ld false 1 (.t 21)), [10]), zp (zv 23 (.iad 3 (.t 22) (zc 1))), (zv 24 (.ld true 3 (.t 23)), [10]), (zi 25 (.call (.c (.fn 89 [] [])) [((.t 24), (.agg [.id, .id, (.sl 3)]))]), []), zp (zv 26 (.bin .add .no (.t 20) (.t 25))), zp (zm 2 26)]
def qbc6 : IC := zr [zi 3 (.bld 126 5)]
def q6p : IC := zr [zv 27 (.ld true 3 (.t 1)), zi 28 (.call (.c (.fn 58 [] [])) [((.t 27), (.agg [.id, .id, (.sl 3)]))]), zi 29 (.call (.c (.fn 107 [] [])) [((.t 28), .id)]), zi 30 (.call (.c (.fn 106 [] [])) [((.t 3), (.agg [.id, (.sl 1)])), ((.t 29), .id)])]
def q7l : IC := zr [zv 31 (.fad (.t 1) 2), zv 32 (.ld false 1 (.t 31)), zv 33 (.len false (.t 32)), zv 34 (.mov (zc 0))]
def qbb0 : IC := zr [zv 35 (.bin .lss .no (.t 34) (.t 33))]
def qbds : IC := zr [zv 36 (.iad 3 (.t 32) (.t 34)), zv 37 (.ld true 3 (.t 36)), zi 5 (.alo [(.str []), (.int .i64 0), .nils]), zn (.st 3 (.agg [.id, .id, (.sl 3)]) (.t 5) (.t 37))]
def qbca : IC := zr [zv 38 (.ld true 3 (.t 5)), zv 39 (.fad (.t 5) 2), zv 40 (.ld false 1 (.t 39)), zv 41 (.len false (.t 40)), zv 42 (.bin .gtr .no (.t 41) (zc 0)), zi 43 (.call (.c (.fn 105 [] [])) [((.t 38), (.agg [.id, .id, (.sl 3)])), ((.t 42), .id)]), zv 44 (.bin .add .no (.c (.str [32])) (.t 43)), zi 45 (.call (.c (.fn 106 [] [])) [((.t 3), (.agg [.id, (.sl 1)])), ((.t 44), .id)])]
def q4t : IC := zr [zv 46 (.bin .add .no (.t 34) (zc 1)), zm 34 46]
def qbg3 : IC := (.seq qbb0 (.seq (.cond (.t 35) .skip (.exit 0)) (.seq (.block 1 (.seq qbds qbca)) q4t)))
def q45 : IC := zr [zi 47 (.call (.c (.fn 108 [] [])) [((.t 3), (.agg [.id, (.sl 1)]))]), zm 2 47]
def k0bi : IC := (.seq qbce (.seq (.seq qber (.cond (.t 8) (.seq q77 .ret) .skip)) (.seq qbc6 (.seq q6p (.seq (.seq q7l (.block 0 (.loop qbg3))) (.seq q45 .ret))))))
@[go_sem] def s0bi : List (RV × Co) := [(.t 2, .id)]
theorem c0bi : cFun Tryz.prog 89 = some (48, k0bi, s0bi) := by kernel_rfl

def qbf5 : IC := zr [zi 2 (.box (.t 0)), zi 3 (.box (.t 1)), zv 4 zf]
def qbf9 : IC := zr [zv 5 (.ld true 3 (.t 2)), zv 6 (.mfn 109 [] [(.t 3)]), zi 7 (.call (.c (.fn 56 [] [])) [((.t 5), (.agg [.id, .id, (.sl 3)])), ((zc 1), .id), ((.t 6), .id)]), zv 8 (.un .not (.t 7)), zm 4 8]
def k0cz : IC := (.seq qbf5 (.seq qbf9 .ret))
@[go_sem] def s0cz : List (RV × Co) := [(.t 4, .id)]
theorem c0cz : cFun Tryz.prog 90 = some (9, k0cz, s0cz) := by kernel_rfl

def qbdm : IC := zr [zv 2 (.mov (zc 0)), zv 3 (.mov (zc 0))]
def qbcf : IC := zr [zm 8 0, zv 9 (.bin .eql .no (.t 8) (.c (.str [])))]
def q8y : IC := zr [zv 2 (.mov (zc 0)), zv 3 (.mov (zc 5))]
def qbga : IC := zr [zv 4 (.mov (zc 0))]
def q63 : IC := zr [zm 10 4, zm 11 0, zv 12 (.len true (.t 11)), zv 13 (.bin .lss .no (.t 10) (.t 12))]
def qbay : IC := zr [zm 16 0, zm 17 4, zv 18 (.idx (.t 16) (.t 17)), zv 19 (.bin .lss .no (.t 18) (.c (.int .u8 48))), zm 20 19, zw 20 false 21 (.mov (.t 0)), zw 20 false 22 (.mov (.t 4)), zw 20 false 23 (.idx (.t 21) (.t 22)), zw 20 false 24 (.bin .gtr .no (.t 23) (.c (.int .u8 57))), zv 25 (.pick (.t 20) (.c (.bool true)) (.t 24))]
def q8d : IC := zr [zv 2 (.mov (zc 0)), zv 3 (.mov (zc 5))]
def qba3 : IC := zr [zm 14 4, zv 15 (.bin .add .no (.t 14) (zc 1)), zm 4 15]
def qba4 : IC := (.seq (.seq q63 (.cond (.t 13) .skip (.exit 0))) (.seq (.block 1 (.seq qbay (.cond (.t 25) (.seq q8d .ret) .skip))) qba3))
def q1t : IC := zr [zv 5 (.mov (zc 0))]
def q3w : IC := zr [zv 6 (.mov (zc 0))]
def q4d : IC := zr [zm 26 6, zm 27 0, zv 28 (.len true (.t 27)), zv 29 (.bin .lss .no (.t 26) (.t 28))]
def q0r : IC := zr [zm 32 0, zm 33 6, zv 34 (.idx (.t 32) (.t 33)), zv 35 (.bin .sub .no (.t 34) (.c (.int .u8 48))), zv 36 (.cvi .i64 (.t 35)), zm 7 36]
def q19 : IC := zr [zm 37 5, zm 38 7, zv 39 (.bin .sub .no (zc 9223372036854775807) (.t 38)), zv 40 (.bin .quo .no (.t 39) (zc 10)), zv 41 (.bin .gtr .no (.t 37) (.t 40))]
def q2e : IC := zr [zv 2 (.mov (zc 0)), zv 3 (.mov (zc 4))]
def q1h : IC := zr [zm 42 5, zv 43 (.bin .mul .no (zc 10) (.t 42)), zm 44 7, zv 45 (.bin .add .no (.t 43) (.t 44)), zm 5 45]
def q0a : IC := zr [zm 30 6, zv 31 (.bin .add .no (.t 30) (zc 1)), zm 6 31]
def q34 : IC := (.seq (.seq q4d (.cond (.t 29) .skip (.exit 2))) (.seq (.block 3 (.seq q0r (.seq (.seq q19 (.cond (.t 41) (.seq q2e .ret) .skip)) q1h))) q0a))
def q3e : IC := zr [zm 46 5, zm 2 46, zv 3 (.mov (zc 0))]
def k0ci : IC := (.seq qbdm (.seq (.seq qbcf (.cond (.t 9) (.seq q8y .ret) .skip)) (.seq (.seq qbga (.block 0 (.loop qba4))) (.seq q1t (.seq (.seq q3w (.block 2 (.loop q34))) (.seq q3e .ret))))))
@[go_sem] def s0ci : List (RV × Co) := [(.t 2, .id), (.t 3, .id)]
theorem c0ci : cFun Tryz.prog 91 = some (47, k0ci, s0ci) := by kernel_rfl

def qbhc : IC := zr [zv 2 (.mov (.c (.str [])))]
def q57 : IC := zr [zm 5 0, zi 6 (.call (.c (.fn 110 [] [])) [((.t 5), .id)]), zm 3 6]
def qbdn : IC := zr [zv 4 (.mov (.c (.str [])))]
def qbjf : IC := zr [zm 7 3, zv 8 (.bin .gtr .no (.t 7) (.c (.int .u64 9)))]
def qbhx : IC := zr [zm 9 3, zv 10 (.bin .rem .no (.t 9) (.c (.int .u64 10))), zv 11 (.bin .add .no (.c (.int .u64 48)) (.t 10)), zv 12 (.cvi .u8 (.t 11)), zv 13 (.bsl 1 [((.t 12), .id)]), zv 14 (.cbs (.t 13)), zm 15 4, zv 16 (.bin .add .no (.t 14) (.t 15)), zm 4 16]
def qbit : IC := zr [zm 17 3, zv 18 (.bin .quo .no (.t 17) (.c (.int .u64 10))), zm 3 18]
def q9u : IC := (.seq (.seq qbjf (.cond (.t 8) .skip (.exit 0))) (.block 1 (.seq qbhx qbit)))
def qbig : IC := zr [zm 19 3, zv 20 (.bin .add .no (.c (.int .u64 48)) (.t 19)), zv 21 (.cvi .u8 (.t 20)), zv 22 (.bsl 1 [((.t 21), .id)]), zv 23 (.cbs (.t 22)), zm 24 4, zv 25 (.bin .add .no (.t 23) (.t 24)), zm 4 25]
def qbe3 : IC := zr [zm 26 0, zv 27 (.bin .lss .no (.t 26) (zc 0))]
def q3o : IC := zr [zm 28 4, zv 29 (.bin .add .no (.c (.str [45])) (.t 28)), zm 2 29]
def q3z : IC := zr [zm 30 4, zm 2 30]
def k0cv : IC := (.seq qbhc (.seq q57 (.seq qbdn (.seq (.block 0 (.loop q9u)) (.seq qbig (.seq (.seq qbe3 (.cond (.t 27) (.seq q3o .ret) .skip)) (.seq q3z .ret)))))))
@[go_sem] def s0cv : List (RV × Co) := [(.t 2, .id)]
theorem c0cv : cFun Tryz.prog 92 = some (31, k0cv, s0cv) := by kernel_rfl

def qbii : IC := zr [zv 2 zf]
def q6k : IC := zr [zm 3 0, zv 4 (.bin .geq .no (.t 3) (.c (.int .u8 65))), zm 5 4, zw 5 true 6 (.mov (.t 0)), zw 5 true 7 (.bin .leq .no (.t 6) (.c (.int .u8 90))), zv 8 (.pick (.t 5) (.t 7) (.c (.bool false))), zm 2 8]
def k0cn : IC := (.seq qbii (.seq q6k .ret))
@[go_sem] def s0cn : List (RV × Co) := [(.t 2, .id)]
theorem c0cn : cFun Tryz.prog 93 = some (9, k0cn, s0cn) := by kernel_rfl

def qbjd : IC := zr [zv 2 zf]
def q8e : IC := zr [zv 3 (.mov (zc 1))]
def q8h : IC := zr [zm 4 3, zm 5 0, zv 6 (.len true (.t 5)), zv 7 (.bin .lss .no (.t 4) (.t 6))]
def qbh3 : IC := zr [zm 10 0, zm 11 3, zv 12 (.idx (.t 10) (.t 11)), zi 13 (.call (.c (.fn 111 [] [])) [((.t 12), .id)]), zv 14 (.un .not (.t 13))]
def q7m : IC := zr [zv 2 zf]
def q7o : IC := zr [zm 8 3, zv 9 (.bin .add .no (.t 8) (zc 1)), zm 3 9]
def qbdd : IC := (.seq (.seq q8h (.cond (.t 7) .skip (.exit 0))) (.seq (.block 1 (.seq qbh3 (.cond (.t 14) (.seq q7m .ret) .skip))) q7o))
def qba8 : IC := zr [zv 2 (.mov (.c (.bool true)))]
def k0cr : IC := (.seq qbjd (.seq (.seq q8e (.block 0 (.loop qbdd))) (.seq qba8 .ret)))
@[go_sem] def s0cr : List (RV × Co) := [(.t 2, .id)]
theorem c0cr : cFun Tryz.prog 94 = some (15, k0cr, s0cr) := by kernel_rfl

def qbfa : IC := zr [zv 4 (.mov (zc 0))]
def qbh7 : IC := zr [zm 6 0, zv 7 (.len false (.t 6)), zv 8 (.mov (zc 0))]
def qbic : IC := zr [zv 9 (.bin .lss .no (.t 8) (.t 7))]
def qbdw : IC := zr [zm 10 8, zm 5 10]
def qbie : IC := zr [zm 11 1, zm 12 0, zm 13 5, zv 14 (.iad 1 (.t 12) (.t 13)), zv 15 (.ld false 1 (.t 14)), zv 16 (.bin .eql .no (.t 11) (.t 15))]
def qbd8 : IC := zr [zm 17 5, zm 4 17]
def qbew : IC := zr [zv 18 (.bin .add .no (.t 8) (zc 1)), zm 8 18]
def qbgj : IC := (.seq qbic (.seq (.cond (.t 9) .skip (.exit 0)) (.seq (.block 1 (.seq qbdw (.seq qbie (.cond (.t 16) (.seq qbd8 .ret) .skip)))) qbew)))
def qbcp : IC := zr [zv 4 (.mov (zc (-1)))]
def k0bw : IC := (.seq qbfa (.seq (.seq qbh7 (.block 0 (.loop qbgj))) (.seq qbcp .ret)))
@[go_sem] def s0bw : List (RV × Co) := [(.t 4, .id)]
theorem c0bw : cFun Tryz.prog 96 = some (19, k0bw, s0bw) := by kernel_rfl

def qbgy : IC := zr [zv 2 (.mov (zc 0)), zv 3 (.mov (zc 0))]
def qbiv : IC := zr [zm 8 0, zv 9 (.len true (.t 8)), zv 10 (.mov (zc 0))]
def qbep : IC := zr [zv 11 (.bin .lss .no (.t 10) (.t 9))]
def qbgn : IC := zr [zm 12 10, zm 4 12]
def qbhq : IC := zr [zm 13 0, zm 14 4, zv 15 (.idx (.t 13) (.t 14)), zv 16 (.bin .lss .no (.t 15) (.c (.int .u8 48))), zm 17 16, zw 17 false 18 (.mov (.t 0)), zw 17 false 19 (.mov (.t 4)), zw 17 false 20 (.idx (.t 18) (.t 19)), zw 17 false 21 (.bin .gtr .no (.t 20) (.c (.int .u8 57))), zv 22 (.pick (.t 17) (.c (.bool true)) (.t 21))]
def q9d : IC := zr [zv 2 (.mov (zc 0)), zv 3 (.mov (zc 5))]
def q9l : IC := zr [zv 23 (.bin .add .no (.t 10) (zc 1)), zm 10 23]
def qbir : IC := (.seq qbep (.seq (.cond (.t 11) .skip (.exit 0)) (.seq (.block 1 (.seq qbgn (.seq qbhq (.cond (.t 22) (.seq q9d .ret) .skip)))) q9l)))
def qbdj : IC := zr [zm 24 0, zv 25 (.bin .eql .no (.t 24) (.c (.str [])))]
def q5g : IC := zr [zv 2 (.mov (zc 0)), zv 3 (.mov (zc 5))]
def q4c : IC := zr [zv 5 (.mov (zc 0)), zv 6 (.mov (zc 0))]
def q4l : IC := zr [zm 26 0, zm 27 6, zv 28 (.idx (.t 26) (.t 27)), zv 29 (.bin .sub .no (.t 28) (.c (.int .u8 48))), zv 30 (.cvi .i64 (.t 29)), zm 7 30]
def q15 : IC := zr [zm 31 5, zm 32 7, zv 33 (.bin .sub .no (zc 9223372036854775807) (.t 32)), zv 34 (.bin .quo .no (.t 33) (zc 10)), zv 35 (.bin .gtr .no (.t 31) (.t 34))]
def q1l : IC := zr [zv 2 (.mov (zc 0)), zv 3 (.mov (zc 4))]
def q09 : IC := zr [zm 36 5, zv 37 (.bin .mul .no (zc 10) (.t 36)), zm 38 7, zv 39 (.bin .add .no (.t 37) (.t 38)), zm 5 39]
def q3g : IC := zr [zm 40 6, zv 41 (.bin .add .no (.t 40) (zc 1)), zm 6 41]
def q0z : IC := zr [zm 42 6, zm 43 0, zv 44 (.len true (.t 43)), zv 45 (.bin .lss .no (.t 42) (.t 44))]
def q06 : IC := zr [zm 46 5, zm 2 46, zv 3 (.mov (zc 0))]
def k0cj : IC := (.seq qbgy (.scope (.seq (.seq qbiv (.block 0 (.loop qbir))) (.seq (.seq qbdj (.cond (.t 25) (.seq q5g .ret) .skip)) (.seq q4c (.seq (.label 0) (.seq q4l (.seq (.seq q15 (.cond (.t 35) (.seq q1l .ret) .skip)) (.seq q09 (.seq (.seq q3g (.seq q0z (.cond (.t 45) (.goto 0) .skip))) (.seq q06 .ret)))))))))))
@[go_sem] def s0cj : List (RV × Co) := [(.t 2, .id), (.t 3, .id)]
theorem c0cj : cFun Tryz.prog 98 = some (47, k0cj, s0cj) := by kernel_rfl

def qbe0 : IC := zr [zv 2 (.mov (.c (.str [])))]
def q6d : IC := zr [zm 6 0, zv 7 (.cvi .u64 (.t 6)), zm 3 7]
def qbeb : IC := zr [zm 8 0, zv 9 (.bin .lss .no (.t 8) (zc 0))]
def qbbz : IC := zr [zm 10 3, zv 11 (.un .neg (.t 10)), zm 3 11]
def qbjk : IC := zr [zi 4 (.alo [(.int .u8 0), (.int .u8 0), (.int .u8 0), (.int .u8 0), (.int .u8 0), (.int .u8 0), (.int .u8 0), (.int .u8 0), (.int .u8 0), (.int .u8 0), (.int .u8 0), (.int .u8 0), (.int .u8 0), (.int .u8 0), (.int .u8 0), (.int .u8 0), (.int .u8 0), (.int .u8 0), (.int .u8 0), (.int .u8 0)])]
def q7h : IC := zr [zv 5 (.mov (zc 20))]
def qbde : IC := zr [zm 12 5, zv 13 (.bin .sub .no (.t 12) (zc 1)), zm 5 13]
def q98 : IC := zr [zm 14 5, zm 15 3, zv 16 (.bin .rem .no (.t 15) (.c (.int .u64 10))), zv 17 (.bin .add .no (.c (.int .u64 48)) (.t 16)), zv 18 (.cvi .u8 (.t 17)), zv 19 (.aad 1 20 (.t 4) (.t 14)), zn (.st 1 .id (.t 19) (.t 18))]
def qbbq : IC := zr [zm 20 3, zv 21 (.bin .quo .no (.t 20) (.c (.int .u64 10))), zm 3 21]
def q0k : IC := zr [zm 22 3, zv 23 (.bin .eql .no (.t 22) (.c (.int .u64 0)))]
def qbgi : IC := (.block 1 (.seq qbde (.seq q98 (.seq qbbq (.seq q0k (.cond (.t 23) (.exit 0) .skip))))))
def q1z : IC := zr [zm 24 0, zv 25 (.bin .lss .no (.t 24) (zc 0))]
def q4j : IC := zr [zm 26 5, zv 27 (.sla 20 (.t 4) (.t 26)), zv 28 (.cbs (.t 27)), zv 29 (.bin .add .no (.c (.str [45])) (.t 28)), zm 2 29]
def q0m : IC := zr [zm 30 5, zv 31 (.sla 20 (.t 4) (.t 30)), zv 32 (.cbs (.t 31)), zm 2 32]
def k0cw : IC := (.seq qbe0 (.seq q6d (.seq (.seq qbeb (.cond (.t 9) qbbz .skip)) (.seq qbjk (.seq q7h (.seq (.block 0 (.loop qbgi)) (.seq (.seq q1z (.cond (.t 25) (.seq q4j .ret) .skip)) (.seq q0m .ret))))))))
@[go_sem] def s0cw : List (RV × Co) := [(.t 2, .id)]
theorem c0cw : cFun Tryz.prog 99 = some (33, k0cw, s0cw) := by kernel_rfl

def q84 : IC := zr [zv 2 zf]
def q7k : IC := zr [zm 3 0, zv 4 (.bin .geq .no (.t 3) (.c (.int .u8 65))), zm 5 4, zw 5 true 6 (.mov (.t 0)), zw 5 true 7 (.bin .leq .no (.t 6) (.c (.int .u8 90))), zv 8 (.pick (.t 5) (.t 7) (.c (.bool false))), zm 2 8]
def k0cm : IC := (.seq q84 (.seq q7k .ret))
@[go_sem] def s0cm : List (RV × Co) := [(.t 2, .id)]
theorem c0cm : cFun Tryz.prog 100 = some (9, k0cm, s0cm) := by kernel_rfl

def q8b : IC := zr [zv 2 zf]
def q7x : IC := zr [zm 5 0, zv 6 (.len true (.t 5)), zv 7 (.mov (zc 0))]
def qbhy : IC := zr [zv 8 (.bin .lss .no (.t 7) (.t 6))]
def qbb6 : IC := zr [zm 9 7, zm 3 9]
def qbdy : IC := zr [zm 10 0, zm 11 3, zv 12 (.idx (.t 10) (.t 11)), zm 4 12]
def qbbn : IC := zr [zm 13 4, zi 14 (.call (.c (.fn 113 [] [])) [((.t 13), .id)]), zv 15 (.un .not (.t 14)), zm 16 15, zw 16 true 17 (.mov (.t 4)), ⟨some (16, true), some 18, .call (.c (.fn 100 [] [])) [((.t 17), .id)]⟩, zw 16 true 19 (.un .not (.t 18)), zv 20 (.pick (.t 16) (.t 19) (.c (.bool false))), zm 21 20, zw 21 true 22 (.mov (.t 4)), zw 21 true 23 (.bin .lss .no (.t 22) (.c (.int .u8 48))), zw 21 true 24 (.mov (.t 23)), zw 24 false 25 (.mov (.t 4)), zw 24 false 26 (.bin .gtr .no (.t 25) (.c (.int .u8 57))), zw 21 true 27 (.pick (.t 24) (.c (.bool true)) (.t 26)), zv 28 (.pick (.t 21) (.t 27) (.c (.bool false))), zm 29 28, zw 29 true 30 (.mov (.t 4)), zw 29 true 31 (.bin .neq .no (.t 30) (.c (.int .u8 39))), zv 32 (.pick (.t 29) (.t 31) (.c (.bool false)))]
def qbf1 : IC := zr [zv 2 zf]
def qbco : IC := zr [zv 33 (.bin .add .no (.t 7) (zc 1)), zm 7 33]
def q8l : IC := (.seq qbhy (.seq (.cond (.t 8) .skip (.exit 0)) (.seq (.block 1 (.seq qbb6 (.seq qbdy (.seq qbbn (.cond (.t 32) (.seq qbf1 .ret) .skip))))) qbco)))
def q05 : IC := zr [zv 2 (.mov (.c (.bool true)))]
def k0cq : IC := (.seq q8b (.seq (.seq q7x (.block 0 (.loop q8l))) (.seq q05 .ret)))
@[go_sem] def s0cq : List (RV × Co) := [(.t 2, .id)]
theorem c0cq : cFun Tryz.prog 101 = some (34, k0cq, s0cq) := by kernel_rfl

def q6a : IC := zr [zi 2 (.alo [(.str []), (.int .i64 0), .nils])]
def qben : IC := zr [zm 6 0, zi 7 (.call (.c (.fn 118 [] [])) [((.t 6), .id)]), zm 3 7]
def qba5 : IC := zr [zm 8 3, zv 9 (.bin .geq .no (.t 8) (zc 0))]
def q59 : IC := zr [zm 10 3, zv 11 (.bld [(.str []), (.int .i64 0), .nils] [(1, 1, (.t 10))]), zn (.st 3 (.agg [.id, .id, (.sl 3)]) (.t 2) (.t 11))]
def qbfk : IC := zr [zm 12 0, zi 13 (.call (.c (.fn 86 [] [])) [((.t 12), .id), ((.c (.str [63])), .id)])]
def qbgw : IC := zr [zm 15 0, zv 16 (.sls (.t 15) (some (zc 1)) none), zi 17 (.call (.c (.fn 98 [] [])) [((.t 16), .id)]), zm 14 17, zv 18 (.ext (.t 14) 0), zv 19 (.ext (.t 14) 1), zm 4 18, zm 5 19]
def qbfy : IC := zr [zm 20 5, zv 21 (.bin .eql .no (.t 20) (zc 0))]
def qbeu : IC := zr [zm 22 4, zv 23 (.bin .sub .no (zc (-1)) (.t 22)), zv 24 (.bld [(.str []), (.int .i64 0), .nils] [(1, 1, (.t 23))]), zn (.st 3 (.agg [.id, .id, (.sl 3)]) (.t 2) (.t 24))]
def qbhj : IC := zr [zm 25 0, zv 26 (.bld [(.str []), (.int .i64 0), .nils] [(0, 1, (.t 25))]), zn (.st 3 (.agg [.id, .id, (.sl 3)]) (.t 2) (.t 26))]
def k0dc : IC := (.seq q6a (.seq (.seq qben (.seq qba5 (.cond (.t 9) (.seq q59 .ret) .skip))) (.seq (.seq qbfk (.cond (.t 13) (.seq qbgw (.seq qbfy (.cond (.t 21) (.seq qbeu .ret) .skip))) .skip)) (.seq qbhj .ret))))
@[go_sem] def s0dc : List (RV × Co) := [(.c true 3 2, (.agg [.id, .id, (.sl 3)]))]
theorem c0dc : cFun Tryz.prog 103 = some (27, k0dc, s0dc) := by kernel_rfl

def qbhe : IC := zr [zv 4 zf]
def qbam : IC := zr [zm 5 0, zv 6 (.len true (.t 5)), zm 7 1, zv 8 (.len true (.t 7)), zv 9 (.bin .geq .no (.t 6) (.t 8)), zm 10 9, zw 10 true 11 (.mov (.t 0)), zw 10 true 12 (.mov (.t 1)), zw 10 true 13 (.len true (.t 12)), zw 10 true 14 (.sls (.t 11) none (some (.t 13))), zw 10 true 15 (.mov (.t 1)), zw 10 true 16 (.bin .eql .no (.t 14) (.t 15)), zv 17 (.pick (.t 10) (.t 16) (.c (.bool false))), zm 4 17]
def k0cg : IC := (.seq qbhe (.seq qbam .ret))
@[go_sem] def s0cg : List (RV × Co) := [(.t 4, .id)]
theorem c0cg : cFun Tryz.prog 104 = some (18, k0cg, s0cg) := by kernel_rfl

def qbfh : IC := zr [zi 2 (.box (.t 0)), zv 4 (.mov (.c (.str [])))]
def q6m : IC := zr [zm 5 1]
def qban : IC := zr [zv 6 (.ld true 3 (.t 2)), zi 7 (.call (.c (.fn 89 [] [])) [((.t 6), (.agg [.id, .id, (.sl 3)]))]), zv 8 (.bin .add .no (.c (.str [40])) (.t 7)), zv 9 (.bin .add .no (.t 8) (.c (.str [41]))), zm 4 9]
def qbe4 : IC := zr [zv 10 (.ld true 3 (.t 2)), zi 11 (.call (.c (.fn 89 [] [])) [((.t 10), (.agg [.id, .id, (.sl 3)]))]), zm 4 11]
def k0bh : IC := (.seq qbfh (.seq (.seq q6m (.cond (.t 5) (.seq qban .ret) .skip)) (.seq qbe4 .ret)))
@[go_sem] def s0bh : List (RV × Co) := [(.t 4, .id)]
theorem c0bh : cFun Tryz.prog 105 = some (12, k0bh, s0bh) := by kernel_rfl

def qbim : IC := zr [zi 1 (.box (.t 0)), zv 2 (.mov (.c (.str [])))]
def q9c : IC := zr [zv 4 (.fad (.t 1) 0), zv 5 (.ld false 1 (.t 4)), zv 6 (.bin .neq .no (.t 5) (.c (.str []))), zm 3 6]
def q6v : IC := zr [zv 7 (.fad (.t 1) 0), zv 8 (.ld false 1 (.t 7)), zm 2 8]
def q9z : IC := zr [zv 10 (.fad (.t 1) 1), zv 11 (.ld false 1 (.t 10)), zv 12 (.bin .geq .no (.t 11) (zc 0)), zm 9 12]
def q8f : IC := zr [zv 13 (.fad (.t 1) 1), zv 14 (.ld false 1 (.t 13)), zi 15 (.call (.c (.fn 120 [] [])) [((.t 14), .id)]), zm 2 15]
def q9i : IC := zr [zv 16 (.fad (.t 1) 1), zv 17 (.ld false 1 (.t 16)), zv 18 (.bin .sub .no (zc (-1)) (.t 17)), zi 19 (.call (.c (.fn 99 [] [])) [((.t 18), .id)]), zv 20 (.bin .add .no (.c (.str [63])) (.t 19)), zm 2 20]
def k0bg : IC := (.seq qbim (.seq (.block 0 (.seq q9c (.cond (.t 3) (.seq q6v .ret) (.seq q9z (.cond (.t 9) (.seq q8f .ret) .skip))))) (.seq q9i .ret)))
@[go_sem] def s0bg : List (RV × Co) := [(.t 2, .id)]
theorem c0bg : cFun Tryz.prog 107 = some (21, k0bg, s0bg) := by kernel_rfl

def q94 : IC := zr [zi 3 (.box (.t 0)), zv 5 zf]
def q81 : IC := zr [zv 6 (.fad (.t 3) 0), zv 7 (.ld false 1 (.t 6)), zv 8 (.bin .neq .no (.t 7) (.c (.str []))), zm 9 8, zw 9 false 10 (.fad (.t 3) 1), zw 9 false 11 (.ld false 1 (.t 10)), zw 9 false 12 (.ld false 1 (.t 2)), zw 9 false 13 (.bin .neq .no (.t 11) (.t 12)), zv 14 (.pick (.t 9) (.c (.bool true)) (.t 13)), zm 5 14]
def k0cy : IC := (.seq q94 (.seq q81 .ret))
@[go_sem] def s0cy : List (RV × Co) := [(.t 5, .id)]
theorem c0cy : cFun Tryz.prog 109 = some (15, k0cy, s0cy) := by kernel_rfl

def qbif : IC := zr [zv 2 (.mov (.c (.int .u64 0)))]
def q9o : IC := zr [zm 3 0, zv 4 (.bin .lss .no (.t 3) (zc 0))]
def qbji : IC := zr [zm 5 0, zv 6 (.cvi .u64 (.t 5)), zv 7 (.un .neg (.t 6)), zm 2 7]
def q9j : IC := zr [zm 8 0, zv 9 (.cvi .u64 (.t 8)), zm 2 9]
def k0cu : IC := (.seq qbif (.seq (.seq q9o (.cond (.t 4) (.seq qbji .ret) .skip)) (.seq q9j .ret)))
@[go_sem] def s0cu : List (RV × Co) := [(.t 2, .id)]
theorem c0cu : cFun Tryz.prog 110 = some (10, k0cu, s0cu) := by kernel_rfl

def qbh1 : IC := zr [zv 2 zf]
def q7d : IC := zr [zm 3 0, zi 4 (.call (.c (.fn 121 [] [])) [((.t 3), .id)]), zm 5 4, zw 5 false 6 (.mov (.t 0)), ⟨some (5, false), some 7, .call (.c (.fn 93 [] [])) [((.t 6), .id)]⟩, zv 8 (.pick (.t 5) (.c (.bool true)) (.t 7)), zm 9 8, zw 9 false 10 (.mov (.t 0)), ⟨some (9, false), some 11, .call (.c (.fn 122 [] [])) [((.t 10), .id)]⟩, zv 12 (.pick (.t 9) (.c (.bool true)) (.t 11)), zm 13 12, zw 13 false 14 (.mov (.t 0)), zw 13 false 15 (.bin .eql .no (.t 14) (.c (.int .u8 39))), zv 16 (.pick (.t 13) (.c (.bool true)) (.t 15)), zm 2 16]
def k0cp : IC := (.seq qbh1 (.seq q7d .ret))
@[go_sem] def s0cp : List (RV × Co) := [(.t 2, .id)]
theorem c0cp : cFun Tryz.prog 111 = some (17, k0cp, s0cp) := by kernel_rfl

def q6e : IC := zr [zv 2 zf]
def qbd2 : IC := zr [zm 3 0, zv 4 (.bin .geq .no (.t 3) (.c (.int .u8 97))), zm 5 4, zw 5 true 6 (.mov (.t 0)), zw 5 true 7 (.bin .leq .no (.t 6) (.c (.int .u8 122))), zv 8 (.pick (.t 5) (.t 7) (.c (.bool false))), zm 9 8, zw 9 false 10 (.mov (.t 0)), zw 9 false 11 (.bin .eql .no (.t 10) (.c (.int .u8 95))), zv 12 (.pick (.t 9) (.c (.bool true)) (.t 11)), zm 2 12]
def k0ck : IC := (.seq q6e (.seq qbd2 .ret))
@[go_sem] def s0ck : List (RV × Co) := [(.t 2, .id)]
theorem c0ck : cFun Tryz.prog 113 = some (13, k0ck, s0ck) := by kernel_rfl

def qbat : IC := zr [zv 2 (.mov (zc 0))]
def qbhg : IC := zr [zm 6 0, zv 7 (.bin .eql .no (.t 6) (.c (.str []))), zm 8 7, zw 8 false 9 (.mov (.t 0)), zw 8 false 10 (.idx (.t 9) (zc 0)), zw 8 false 11 (.bin .lss .no (.t 10) (.c (.int .u8 97))), zv 12 (.pick (.t 8) (.c (.bool true)) (.t 11)), zm 13 12, zw 13 false 14 (.mov (.t 0)), zw 13 false 15 (.idx (.t 14) (zc 0)), zw 13 false 16 (.bin .gtr .no (.t 15) (.c (.int .u8 122))), zv 17 (.pick (.t 13) (.c (.bool true)) (.t 16))]
def qbd7 : IC := zr [zv 2 (.mov (zc (-1)))]
def qbhi : IC := zr [zm 18 0, zv 19 (.idx (.t 18) (zc 0)), zv 20 (.bin .sub .no (.t 19) (.c (.int .u8 97))), zv 21 (.cvi .i64 (.t 20)), zm 3 21]
def qbg7 : IC := zr [zm 22 0, zv 23 (.len true (.t 22)), zv 24 (.bin .gtr .no (.t 23) (zc 1))]
def qbfp : IC := zr [zm 26 0, zv 27 (.sls (.t 26) (some (zc 1)) none), zi 28 (.call (.c (.fn 98 [] [])) [((.t 27), .id)]), zm 25 28, zv 29 (.ext (.t 25) 0), zv 30 (.ext (.t 25) 1), zm 4 29, zm 5 30]
def qbcn : IC := zr [zm 31 5, zv 32 (.bin .neq .no (.t 31) (zc 0)), zm 33 32, zw 33 false 34 (.mov (.t 4)), zw 33 false 35 (.bin .gtr .no (.t 34) (zc 177372539170284150)), zv 36 (.pick (.t 33) (.c (.bool true)) (.t 35))]
def qbee : IC := zr [zv 2 (.mov (zc (-1)))]
def qbd0 : IC := zr [zm 37 3, zm 38 4, zv 39 (.bin .mul .no (zc 26) (.t 38)), zv 40 (.bin .add .no (.t 37) (.t 39)), zm 3 40]
def qbdb : IC := zr [zm 41 3, zv 42 (.bin .gtr .no (.t 41) (zc 4611686018427387904)), zm 43 42, zw 43 false 44 (.mov (.t 3)), ⟨some (43, false), some 45, .call (.c (.fn 120 [] [])) [((.t 44), .id)]⟩, zw 43 false 46 (.mov (.t 0)), zw 43 false 47 (.bin .neq .no (.t 45) (.t 46)), zv 48 (.pick (.t 43) (.c (.bool true)) (.t 47))]
def q42 : IC := zr [zv 2 (.mov (zc (-1)))]
def q2p : IC := zr [zm 49 3, zm 2 49]
def k0df : IC := (.seq qbat (.seq (.seq qbhg (.cond (.t 17) (.seq qbd7 .ret) .skip)) (.seq qbhi (.seq (.seq qbg7 (.cond (.t 24) (.seq qbfp (.seq (.seq qbcn (.cond (.t 36) (.seq qbee .ret) .skip)) qbd0)) .skip)) (.seq (.seq qbdb (.cond (.t 48) (.seq q42 .ret) .skip)) (.seq q2p .ret))))))
@[go_sem] def s0df : List (RV × Co) := [(.t 2, .id)]
theorem c0df : cFun Tryz.prog 118 = some (50, k0df, s0df) := by kernel_rfl

def qbdc : IC := zr [zv 2 (.mov (.c (.str [])))]
def qbgx : IC := zr [zm 4 0, zv 5 (.bin .lss .no (.t 4) (zc 0))]
def qbet : IC := zr [zv 2 (.mov (.c (.str [])))]
def qbbj : IC := zr [zm 6 0, zv 7 (.bin .rem .no (.t 6) (zc 26)), zv 8 (.bin .add .no (zc 97) (.t 7)), zv 9 (.cvi .u8 (.t 8)), zv 10 (.bsl 1 [((.t 9), .id)]), zv 11 (.cbs (.t 10)), zm 3 11]
def qbcq : IC := zr [zm 12 0, zv 13 (.bin .lss .no (.t 12) (zc 26))]
def q9p : IC := zr [zm 14 3, zm 2 14]
def q7s : IC := zr [zm 15 3, zm 16 0, zv 17 (.bin .quo .no (.t 16) (zc 26)), zi 18 (.call (.c (.fn 99 [] [])) [((.t 17), .id)]), zv 19 (.bin .add .no (.t 15) (.t 18)), zm 2 19]
def k0cx : IC := (.seq qbdc (.seq (.seq qbgx (.cond (.t 5) (.seq qbet .ret) .skip)) (.seq qbbj (.seq (.seq qbcq (.cond (.t 13) (.seq q9p .ret) .skip)) (.seq q7s .ret)))))
@[go_sem] def s0cx : List (RV × Co) := [(.t 2, .id)]
theorem c0cx : cFun Tryz.prog 120 = some (20, k0cx, s0cx) := by kernel_rfl

def qbjn : IC := zr [zv 2 zf]
def qbc4 : IC := zr [zm 3 0, zv 4 (.bin .geq .no (.t 3) (.c (.int .u8 97))), zm 5 4, zw 5 true 6 (.mov (.t 0)), zw 5 true 7 (.bin .leq .no (.t 6) (.c (.int .u8 122))), zv 8 (.pick (.t 5) (.t 7) (.c (.bool false))), zm 9 8, zw 9 false 10 (.mov (.t 0)), zw 9 false 11 (.bin .eql .no (.t 10) (.c (.int .u8 95))), zv 12 (.pick (.t 9) (.c (.bool true)) (.t 11)), zm 2 12]
def k0cl : IC := (.seq qbjn (.seq qbc4 .ret))
@[go_sem] def s0cl : List (RV × Co) := [(.t 2, .id)]
theorem c0cl : cFun Tryz.prog 121 = some (13, k0cl, s0cl) := by kernel_rfl

def q72 : IC := zr [zv 2 zf]
def qbef : IC := zr [zm 3 0, zv 4 (.bin .geq .no (.t 3) (.c (.int .u8 48))), zm 5 4, zw 5 true 6 (.mov (.t 0)), zw 5 true 7 (.bin .leq .no (.t 6) (.c (.int .u8 57))), zv 8 (.pick (.t 5) (.t 7) (.c (.bool false))), zm 2 8]
def k0co : IC := (.seq q72 (.seq qbef .ret))
@[go_sem] def s0co : List (RV × Co) := [(.t 2, .id)]
theorem c0co : cFun Tryz.prog 122 = some (9, k0co, s0co) := by kernel_rfl

end Go.Proofs.YtlahgbhhejkgbaaGreat
