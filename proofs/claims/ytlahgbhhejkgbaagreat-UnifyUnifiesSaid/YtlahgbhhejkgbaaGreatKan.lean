/- A text of this proof. -/
import Derived.Test.YtlahgbhhejkgbaaGreatKaf
import Derived.Test.YtlahgbhhejkgbaaGreatProg
/- The compiled code of the functions. -/
namespace Go.Proofs.YtlahgbhhejkgbaaGreat
open Go Go.V
@[reducible] def zm (d s : Nat) : GI := ⟨none, some d, .v (.mov (.t s))⟩
@[reducible] def zv (d : Nat) (x : IV) : GI := ⟨none, some d, .v x⟩
@[reducible] def zi (d : Nat) (i : I) : GI := ⟨none, some d, i⟩
@[reducible] def zn (i : I) : GI := ⟨none, none, i⟩
@[reducible] def zw (j : Nat) (b : Bool) (d : Nat) (x : IV) : GI := ⟨some (j, b), some d, .v x⟩
@[reducible] def zp (g : GI) : GI × List Nat := (g, [])
@[reducible] def zN : Co := .agg [.id, .id, .id, .id, (.sl 5)]
@[reducible] def zC : Co := .agg [(.sl 4), .id, .id, .id, .id, .id, .id, .id]
@[reducible] def zaN : I := .alo [(.int .i64 0), (.int .i64 0), (.int .i64 0), (.str []), .nils]
@[reducible] def zaC : I := .alo [.nils, (.int .i64 0), (.int .i64 0), (.int .i64 0), (.str []), (.int .i64 0), (.int .i64 0), (.int .i64 0)]
@[reducible] def zaT : I := .alo [(.int .i64 0), (.int .i64 0), (.int .i64 0), (.str [])]
@[reducible] def zZ : AV := .agg [(.int .i64 0), (.int .i64 0), (.int .i64 0), (.str []), .nils]
@[reducible] def zc (n : Int) : Opd := .c (.int .i64 n)
@[reducible] def zf : IV := .mov (.c (.bool false))
@[reducible] def zr (l : List GI) : IC := .reg false l
def qbno : IC := zr [zi 2 (.box (.t 0)), zi 3 (.box (.t 1)), zv 4 zf]
def qbof : IC := zr [zv 9 (.ld true 3 (.t 2)), zv 10 (.ld true 3 (.t 3)), zv 11 (.bsl 3 [((.t 9), (.agg [.id, .id, (.sl 3)])), ((.t 10), (.agg [.id, .id, (.sl 3)]))]), zi 12 (.call (.c (.fn 7 [] [])) [((.t 11), (.sl 3))]), zv 13 (.un .not (.t 12))]
def qbte : IC := zr [zi 14 (.call (.c (.fn 8 [] [])) []), zm 4 14]
def qbop : IC := zr [zv 16 (.ld true 3 (.t 2)), zv 17 (.ld true 3 (.t 3)), zi 18 (.call (.c (.fn 9 [] [])) [((.t 16), (.agg [.id, .id, (.sl 3)])), ((.t 17), (.agg [.id, .id, (.sl 3)]))]), zm 15 18, zv 19 (.ext (.t 15) 0), zv 20 (.ext (.t 15) 1), zm 5 19, zm 6 20]
def qbrz : IC := zr [zv 22 (.ld true 3 (.t 2)), zv 23 (.ld true 3 (.t 3)), zi 24 (.call (.c (.fn 10 [] [])) [((.t 22), (.agg [.id, .id, (.sl 3)])), ((.t 23), (.agg [.id, .id, (.sl 3)]))]), zm 21 24, zv 25 (.ext (.t 21) 0), zv 26 (.ext (.t 21) 1), zm 7 25, zm 8 26]
def qbsi : IC := zr [zm 27 6, zm 28 8, zv 29 (.bin .eql .no (.t 27) (.t 28)), zm 30 29, zw 30 true 31 (.mov (.t 5)), zw 30 true 32 (.bin .eql .ptr (.t 31) (.c .nilp)), zw 30 true 33 (.mov (.t 8)), zw 30 true 34 (.bin .neq .no (.t 33) (zc 0)), zw 30 true 35 (.bin .eql .bool (.t 32) (.t 34)), zv 36 (.pick (.t 30) (.t 35) (.c (.bool false))), zm 37 36, zw 37 true 38 (.mov (.t 5)), ⟨some (37, true), some 39, .call (.c (.fn 12 [] [])) [((.t 38), .id)]⟩, zw 37 true 40 (.mov (.t 7)), ⟨some (37, true), some 41, .call (.c (.fn 11 [] [])) [((.t 39), (.sl 4)), ((.t 40), (.sl 4))]⟩, zv 42 (.pick (.t 37) (.t 41) (.c (.bool false))), zm 43 42, ⟨some (43, true), some 44, .call (.c (.fn 8 [] [])) []⟩, zv 45 (.pick (.t 43) (.t 44) (.c (.bool false))), zm 4 45]
def k0a : IC := (.seq qbno (.seq (.seq qbof (.cond (.t 13) (.seq qbte .ret) .skip)) (.seq qbop (.seq qbrz (.seq qbsi .ret)))))
@[go_sem] def s0a : List (RV × Co) := [(.t 4, .id)]
theorem c0a : cFun Tryz.prog 3 = some (46, k0a, s0a) := by kernel_rfl

def qbnb : IC := zr [zv 2 zf]
def qbq0 : IC := zr [zv 3 (.mov (zc 0))]
def qbm7 : IC := zr [zv 4 (.mov (zc 0))]
def qbq5 : IC := zr [zm 5 4, zm 6 0, zv 7 (.len false (.t 6)), zv 8 (.bin .lss .no (.t 5) (.t 7))]
def qbs6 : IC := zr [zm 11 0, zm 12 4, zv 13 (.iad 3 (.t 11) (.t 12)), zv 14 (.ld true 3 (.t 13)), zv 15 (.bsl 3 [((.t 14), (.agg [.id, .id, (.sl 3)]))]), zi 16 (.call (.c (.fn 22 [] [])) [((.t 15), (.sl 3))]), zv 17 (.bin .eql .no (.t 16) (zc 0))]
def qbng : IC := zr [zv 2 zf]
def qbrk : IC := zr [zm 18 3, zm 19 0, zm 20 4, zv 21 (.iad 3 (.t 19) (.t 20)), zv 22 (.ld true 3 (.t 21)), zi 23 (.call (.c (.fn 23 [] [])) [((.t 22), (.agg [.id, .id, (.sl 3)]))]), zv 24 (.bin .add .no (.t 18) (.t 23)), zm 3 24]
def qbrn : IC := zr [zm 25 3, zv 26 (.bin .gtr .no (.t 25) (zc 600))]
def qbp3 : IC := zr [zv 2 zf]
def qbf7 : IC := zr [zm 9 4, zv 10 (.bin .add .no (.t 9) (zc 1)), zm 4 10]
def qbqc : IC := (.seq (.seq qbq5 (.cond (.t 8) .skip (.exit 0))) (.seq (.block 1 (.seq (.seq qbs6 (.cond (.t 17) (.seq qbng .ret) .skip)) (.seq qbrk (.seq qbrn (.cond (.t 26) (.seq qbp3 .ret) .skip))))) qbf7))
def qbk8 : IC := zr [zv 2 (.mov (.c (.bool true)))]
def k0b : IC := (.seq qbnb (.seq qbq0 (.seq (.seq qbm7 (.block 0 (.loop qbqc))) (.seq qbk8 .ret))))
@[go_sem] def s0b : List (RV × Co) := [(.t 2, .id)]
theorem c0b : cFun Tryz.prog 7 = some (27, k0b, s0b) := by kernel_rfl

def qbou : IC := zr [zv 0 zf]
def qbmv : IC := zr [zi 18 (.call (.c (.fn 24 [] [])) [((.c (.str [97, 32, 45, 62, 32, 84])), .id)]), zi 19 (.call (.c (.fn 24 [] [])) [((.c (.str [85, 32, 45, 62, 32, 98])), .id)]), zi 20 (.call (.c (.fn 9 [] [])) [((.t 18), (.agg [.id, .id, (.sl 3)])), ((.t 19), (.agg [.id, .id, (.sl 3)]))]), zm 17 20, zv 21 (.ext (.t 17) 0), zv 22 (.ext (.t 17) 1), zm 1 21, zm 2 22]
def qbqm : IC := zr [zm 23 1, zv 24 (.bin .eql .ptr (.t 23) (.c .nilp))]
def qbsb : IC := zr [zv 0 zf]
def qbn5 : IC := zr [zm 26 1, zi 27 (.call (.c (.fn 25 [] [])) [((.t 26), .id), ((zc 0), .id)]), zm 25 27, zv 28 (.ext (.t 25) 0), zv 29 (.ext (.t 25) 1), zi 3 (.alo [(.str []), (.int .i64 0), .nils]), zn (.st 3 (.agg [.id, .id, (.sl 3)]) (.t 3) (.t 28)), zm 4 29]
def qbmr : IC := zr [zm 31 1, zi 32 (.call (.c (.fn 25 [] [])) [((.t 31), .id), ((zc 1), .id)]), zm 30 32, zv 33 (.ext (.t 30) 0), zv 34 (.ext (.t 30) 1), zi 5 (.alo [(.str []), (.int .i64 0), .nils]), zn (.st 3 (.agg [.id, .id, (.sl 3)]) (.t 5) (.t 33)), zm 6 34]
def qbuw : IC := zr [zi 36 (.call (.c (.fn 24 [] [])) [((.c (.str [97, 32, 45, 62, 32, 84])), .id)]), zi 37 (.call (.c (.fn 24 [] [])) [((.c (.str [84])), .id)]), zi 38 (.call (.c (.fn 9 [] [])) [((.t 36), (.agg [.id, .id, (.sl 3)])), ((.t 37), (.agg [.id, .id, (.sl 3)]))]), zm 35 38, zv 39 (.ext (.t 35) 0), zv 40 (.ext (.t 35) 1), zm 7 39, zm 8 40]
def qbra : IC := zr [zi 42 (.call (.c (.fn 24 [] [])) [((.c (.str [97])), .id)]), zi 43 (.call (.c (.fn 24 [] [])) [((.c (.str [84, 32, 97])), .id)]), zi 44 (.call (.c (.fn 9 [] [])) [((.t 42), (.agg [.id, .id, (.sl 3)])), ((.t 43), (.agg [.id, .id, (.sl 3)]))]), zm 41 44, zv 45 (.ext (.t 41) 0), zv 46 (.ext (.t 41) 1), zm 9 45, zm 10 46]
def qbpw : IC := zr [zi 48 (.call (.c (.fn 24 [] [])) [((.c (.str [97])), .id)]), zi 49 (.call (.c (.fn 24 [] [])) [((.c (.str [97])), .id)]), zv 50 (.bsl 3 [((.t 48), (.agg [.id, .id, (.sl 3)])), ((.t 49), (.agg [.id, .id, (.sl 3)]))]), zi 51 (.call (.c (.fn 24 [] [])) [((.c (.str [84])), .id)]), zi 52 (.call (.c (.fn 24 [] [])) [((.c (.str [85])), .id)]), zv 53 (.bsl 3 [((.t 51), (.agg [.id, .id, (.sl 3)])), ((.t 52), (.agg [.id, .id, (.sl 3)]))]), zi 54 (.call (.c (.fn 13 [] [])) [((.t 50), (.sl 3)), ((.t 53), (.sl 3))]), zm 47 54, zv 55 (.ext (.t 47) 0), zv 56 (.ext (.t 47) 1), zm 11 55, zm 12 56]
def qbtx : IC := zr [zm 58 1, zi 59 (.call (.c (.fn 24 [] [])) [((.c (.str [97, 32, 45, 62, 32, 99])), .id)]), zi 60 (.call (.c (.fn 24 [] [])) [((.c (.str [99, 32, 45, 62, 32, 85])), .id)]), zi 61 (.call (.c (.fn 26 [] [])) [((.t 58), .id), ((.t 59), (.agg [.id, .id, (.sl 3)])), ((.t 60), (.agg [.id, .id, (.sl 3)]))]), zm 57 61, zv 62 (.ext (.t 57) 0), zv 63 (.ext (.t 57) 1), zm 13 62, zm 14 63]
def qbf6 : IC := zr [zm 65 13, zi 66 (.call (.c (.fn 25 [] [])) [((.t 65), .id), ((zc 2), .id)]), zm 64 66, zv 67 (.ext (.t 64) 0), zv 68 (.ext (.t 64) 1), zi 15 (.alo [(.str []), (.int .i64 0), .nils]), zn (.st 3 (.agg [.id, .id, (.sl 3)]) (.t 15) (.t 67)), zm 16 68]
def qbki : IC := zr [zm 69 2, zv 70 (.bin .eql .no (.t 69) (zc 0)), zm 71 70, zw 71 true 72 (.fad (.t 3) 0), zw 71 true 73 (.ld false 1 (.t 72)), zw 71 true 74 (.bin .eql .no (.t 73) (.c (.str [85]))), zv 75 (.pick (.t 71) (.t 74) (.c (.bool false))), zm 76 75, zw 76 true 77 (.fad (.t 5) 0), zw 76 true 78 (.ld false 1 (.t 77)), zw 76 true 79 (.bin .eql .no (.t 78) (.c (.str [84]))), zv 80 (.pick (.t 76) (.t 79) (.c (.bool false))), zm 81 80, zw 81 true 82 (.mov (.t 8)), zw 81 true 83 (.bin .eql .no (.t 82) (zc 14)), zv 84 (.pick (.t 81) (.t 83) (.c (.bool false))), zm 85 84, zw 85 true 86 (.mov (.t 10)), zw 85 true 87 (.bin .eql .no (.t 86) (zc 15)), zv 88 (.pick (.t 85) (.t 87) (.c (.bool false))), zm 89 88, zw 89 true 90 (.mov (.t 12)), zw 89 true 91 (.bin .eql .no (.t 90) (zc 14)), zv 92 (.pick (.t 89) (.t 91) (.c (.bool false))), zm 93 92, zw 93 true 94 (.mov (.t 14)), zw 93 true 95 (.bin .eql .no (.t 94) (zc 0)), zv 96 (.pick (.t 93) (.t 95) (.c (.bool false))), zm 97 96, zw 97 true 98 (.fad (.t 15) 0), zw 97 true 99 (.ld false 1 (.t 98)), zw 97 true 100 (.bin .eql .no (.t 99) (.c (.str [85]))), zv 101 (.pick (.t 97) (.t 100) (.c (.bool false))), zm 102 101, ⟨some (102, true), some 103, .call (.c (.fn 24 [] [])) [((.c (.str [97])), .id)]⟩, ⟨some (102, true), some 104, .call (.c (.fn 24 [] [])) [((.c (.str [84, 32, 97])), .id)]⟩, ⟨some (102, true), some 105, .call (.c (.fn 15 [] [])) [((.t 103), (.agg [.id, .id, (.sl 3)])), ((.t 104), (.agg [.id, .id, (.sl 3)]))]⟩, zw 102 true 106 (.un .not (.t 105)), zv 107 (.pick (.t 102) (.t 106) (.c (.bool false))), zm 108 107, ⟨some (108, true), some 109, .call (.c (.fn 24 [] [])) [((.c (.str [84, 32, 97])), .id)]⟩, ⟨some (108, true), some 110, .call (.c (.fn 24 [] [])) [((.c (.str [85])), .id)]⟩, ⟨some (108, true), some 111, .call (.c (.fn 15 [] [])) [((.t 109), (.agg [.id, .id, (.sl 3)])), ((.t 110), (.agg [.id, .id, (.sl 3)]))]⟩, zv 112 (.pick (.t 108) (.t 111) (.c (.bool false))), zm 0 112]
def k0d : IC := (.seq qbou (.seq qbmv (.seq (.seq qbqm (.cond (.t 24) (.seq qbsb .ret) .skip)) (.seq qbn5 (.seq qbmr (.seq qbuw (.seq qbra (.seq qbpw (.seq qbtx (.seq qbf6 (.seq qbki .ret)))))))))))
@[go_sem] def s0d : List (RV × Co) := [(.t 0, .id)]
theorem c0d : cFun Tryz.prog 8 = some (113, k0d, s0d) := by kernel_rfl

def qbpv : IC := zr [zi 2 (.box (.t 0)), zi 3 (.box (.t 1)), zv 4 (.mov (.c .nilp)), zv 5 (.mov (zc 0))]
def qbor : IC := zr [zv 6 (.ld true 3 (.t 2)), zv 7 (.ld true 3 (.t 3)), zv 8 (.bsl 3 [((.t 6), (.agg [.id, .id, (.sl 3)])), ((.t 7), (.agg [.id, .id, (.sl 3)]))]), zi 9 (.call (.c (.fn 27 [] [])) [((.t 8), (.sl 3))]), zv 10 (.un .not (.t 9))]
def qbn2 : IC := zr [zv 4 (.mov (.c .nilp)), zv 5 (.mov (zc 1))]
def qbnj : IC := zr [zv 11 (.ld true 3 (.t 2)), zv 12 (.ld true 3 (.t 3)), zv 13 (.bld [(.str []), (.int .i64 0), .nils, (.str []), (.int .i64 0), .nils] [(0, 3, (.t 11)), (3, 3, (.t 12))]), zv 14 (.bsl 6 [((.t 13), (.agg [.id, .id, (.sl 3), .id, .id, (.sl 3)]))]), zi 15 (.call (.c (.fn 28 [] [])) [((.t 14), (.sl 6))]), zv 16 (.ext (.t 15) 0), zv 17 (.ext (.t 15) 1), zm 4 16, zm 5 17]
def k0i : IC := (.seq qbpv (.seq (.seq qbor (.cond (.t 10) (.seq qbn2 .ret) .skip)) (.seq qbnj .ret)))
@[go_sem] def s0i : List (RV × Co) := [(.t 4, .id), (.t 5, .id)]
theorem c0i : cFun Tryz.prog 9 = some (18, k0i, s0i) := by kernel_rfl

def qbhm : IC := zr [zi 2 (.box (.t 0)), zi 3 (.box (.t 1)), zv 4 (.mov (.c .nils)), zv 5 (.mov (zc 0))]
def qbda : IC := zr [zv 6 (.ld true 3 (.t 2)), zi 7 (.call (.c (.fn 29 [] [])) [((.t 6), (.agg [.id, .id, (.sl 3)]))]), zv 8 (.un .not (.t 7)), zm 9 8, zw 9 false 10 (.ld true 3 (.t 3)), ⟨some (9, false), some 11, .call (.c (.fn 29 [] [])) [((.t 10), (.agg [.id, .id, (.sl 3)]))]⟩, zw 9 false 12 (.un .not (.t 11)), zv 13 (.pick (.t 9) (.c (.bool true)) (.t 12))]
def qbck : IC := zr [zv 4 (.mov (.c .nils)), zv 5 (.mov (zc 1))]
def qbh9 : IC := zr [zv 14 (.ld true 3 (.t 2)), zv 15 (.ld true 3 (.t 3)), zi 16 (.call (.c (.fn 30 [] [])) [((.c .nils), (.sl 4)), ((.t 14), (.agg [.id, .id, (.sl 3)])), ((.t 15), (.agg [.id, .id, (.sl 3)]))]), zv 17 (.ext (.t 16) 0), zv 18 (.ext (.t 16) 1), zm 4 17, zm 5 18]
def k0dp : IC := (.seq qbhm (.seq (.seq qbda (.cond (.t 13) (.seq qbck .ret) .skip)) (.seq qbh9 .ret)))
@[go_sem] def s0dp : List (RV × Co) := [(.t 4, (.sl 4)), (.t 5, .id)]
theorem c0dp : cFun Tryz.prog 10 = some (19, k0dp, s0dp) := by kernel_rfl

def qbdj : IC := zr [zv 4 zf]
def qbi8 : IC := zr [zm 6 0, zv 7 (.len false (.t 6)), zm 8 1, zv 9 (.len false (.t 8)), zv 10 (.bin .neq .no (.t 7) (.t 9))]
def qbjh : IC := zr [zv 4 zf]
def qbmo : IC := zr [zv 5 (.mov (zc 0))]
def qbgr : IC := zr [zm 11 5, zm 12 0, zv 13 (.len false (.t 12)), zv 14 (.bin .lss .no (.t 11) (.t 13))]
def qbjp : IC := .drw [zp (zm 17 0), zp (zm 18 5), zp (zv 19 (.iad 4 (.t 17) (.t 18))), zp (zv 20 (.fad (.t 19) 0)), zp (zv 21 (.ld false 1 (.t 20))), zp (zm 22 1), zp (zm 23 5), zp (zv 24 (.iad 4 (.t 22) (.t 23))), zp (zv 25 (.fad (.t 24) 0)), zp (zv 26 (.ld false 1 (.t 25))), zp (zv 27 (.bin .neq .no (.t 21) (.t 26))), zp (zm 28 27), zp (zw 28 false 29 (.mov (.t 0))), zp (zw 28 false 30 (.mov (.t 5))), zp (zw 28 false 31 (.iad 4 (.t 29) (.t 30))), zp (zw 28 false 32 (.fad (.t 31) 1)), zp (zw 28 false 33 (.ld true 3 (.t 32))), zp (zw 28 false 34 (.mov (.t 1))), zp (zw 28 false 35 (.mov (.t 5))), zp (zw 28 false 36 (.iad 4 (.t 34) (.t 35))), zp (zw 28 false 37 (.fad (.t 36) 1)), zp (zw 28 false 38 (.ld true 3 (.t 37))), (⟨some (28, false), some 39, .call (.c (.fn 20 [] [])) [((.t 33), (.agg [.id, .id, (.sl 3)])), ((.t 38), (.agg [.id, .id, (.sl 3)]))]⟩, []), zp (zw 28 false 40 (.un .not (.t 39))), zp (zv 41 (.pick (.t 28) (.c (.bool true)) (.t 40)))]
def qbfc : IC := zr [zv 4 zf]
def q9y : IC := zr [zm 15 5, zv 16 (.bin .add .no (.t 15) (zc 1)), zm 5 16]
def qbmm : IC := (.seq (.seq qbgr (.cond (.t 14) .skip (.exit 0))) (.seq (.block 1 (.seq qbjp (.cond (.t 41) (.seq qbfc .ret) .skip))) q9y))
def q6k : IC := zr [zv 4 (.mov (.c (.bool true)))]
def k0da : IC := (.seq qbdj (.seq (.seq qbi8 (.cond (.t 10) (.seq qbjh .ret) .skip)) (.seq (.seq qbmo (.block 0 (.loop qbmm))) (.seq q6k .ret))))
@[go_sem] def s0da : List (RV × Co) := [(.t 4, .id)]
theorem c0da : cFun Tryz.prog 11 = some (42, k0da, s0da) := by kernel_rfl

def qbmu : IC := zr [zv 2 (.mov (.c .nils))]
def qbqh : IC := zr [zm 6 0, zv 7 (.bin .eql .ptr (.t 6) (.c .nilp))]
def qbsr : IC := zr [zv 2 (.mov (.c .nils))]
def qbsq : IC := zr [zm 8 0, zv 9 (.nck (.t 8)), zv 10 (.fad (.t 9) 0), zv 11 (.ld false 1 (.t 10)), zv 12 (.len false (.t 11)), zi 13 (.mks 4 (.agg [(.int .i64 0), (.str []), (.int .i64 0), .nils]) 56 (.t 12) (.t 12)), zm 3 13]
def qbtv : IC := zr [zm 14 0, zv 15 (.nck (.t 14)), zv 16 (.fad (.t 15) 0), zv 17 (.ld false 1 (.t 16)), zv 18 (.len false (.t 17)), zv 19 (.mov (zc 0))]
def qbuq : IC := zr [zv 20 (.bin .lss .no (.t 19) (.t 18))]
def qbu8 : IC := zr [zm 21 19, zv 22 (.iad 4 (.t 17) (.t 19)), zv 23 (.ld true 4 (.t 22)), zi 5 (.alo [(.int .i64 0), (.str []), (.int .i64 0), .nils]), zm 4 21, zn (.st 4 (.agg [.id, .id, .id, (.sl 3)]) (.t 5) (.t 23))]
def qbro : IC := .drw [zp (zm 24 3), zp (zm 25 4), zp (zv 26 (.fad (.t 5) 0)), zp (zv 27 (.ld false 1 (.t 26))), zp (zv 28 (.fad (.t 5) 1)), zp (zv 29 (.ld true 3 (.t 28))), (zi 30 (.call (.c (.fn 31 [] [])) [((.t 29), (.agg [.id, .id, (.sl 3)]))]), [3]), (zv 31 (.bld [(.int .i64 0), (.str []), (.int .i64 0), .nils] [(0, 1, (.t 27)), (1, 3, (.t 30))]), []), zp (zv 32 (.iad 4 (.t 24) (.t 25))), (zn (.st 4 (.agg [.id, .id, .id, (.sl 3)]) (.t 32) (.t 31)), [])]
def qbtf : IC := zr [zv 33 (.bin .add .no (.t 19) (zc 1)), zm 19 33]
def qbsx : IC := (.seq qbuq (.seq (.cond (.t 20) .skip (.exit 0)) (.seq (.block 1 (.seq qbu8 qbro)) qbtf)))
def qbdn : IC := zr [zm 34 3, zm 2 34]
def k0r : IC := (.seq qbmu (.seq (.seq qbqh (.cond (.t 7) (.seq qbsr .ret) .skip)) (.seq qbsq (.seq (.seq qbtv (.block 0 (.loop qbsx))) (.seq qbdn .ret)))))
@[go_sem] def s0r : List (RV × Co) := [(.t 2, (.sl 4))]
theorem c0r : cFun Tryz.prog 12 = some (35, k0r, s0r) := by kernel_rfl

def qbsj : IC := zr [zv 4 (.mov (.c .nilp)), zv 5 (.mov (zc 0))]
def qbsg : IC := zr [zm 7 0, zi 8 (.call (.c (.fn 27 [] [])) [((.t 7), (.sl 3))]), zv 9 (.un .not (.t 8)), zm 10 9, zw 10 false 11 (.mov (.t 1)), ⟨some (10, false), some 12, .call (.c (.fn 27 [] [])) [((.t 11), (.sl 3))]⟩, zw 10 false 13 (.un .not (.t 12)), zv 14 (.pick (.t 10) (.c (.bool true)) (.t 13)), zm 6 14]
def qbt9 : IC := zr [zv 4 (.mov (.c .nilp)), zv 5 (.mov (zc 1))]
def qbvc : IC := zr [zm 16 0, zv 17 (.len false (.t 16)), zm 18 1, zv 19 (.len false (.t 18)), zv 20 (.bin .neq .no (.t 17) (.t 19)), zm 15 20]
def qbt2 : IC := zr [zv 4 (.mov (.c .nilp)), zv 5 (.mov (zc 14))]
def qbtk : IC := zr [zm 21 0, zm 22 1, zi 23 (.call (.c (.fn 32 [] [])) [((.t 21), (.sl 3)), ((.t 22), (.sl 3))]), zi 24 (.call (.c (.fn 28 [] [])) [((.t 23), (.sl 6))]), zv 25 (.ext (.t 24) 0), zv 26 (.ext (.t 24) 1), zm 4 25, zm 5 26]
def k0g : IC := (.seq qbsj (.seq (.block 0 (.seq qbsg (.cond (.t 6) (.seq qbt9 .ret) (.seq qbvc (.cond (.t 15) (.seq qbt2 .ret) .skip))))) (.seq qbtk .ret)))
@[go_sem] def s0g : List (RV × Co) := [(.t 4, .id), (.t 5, .id)]
theorem c0g : cFun Tryz.prog 13 = some (27, k0g, s0g) := by kernel_rfl

def qbt5 : IC := zr [zi 2 (.box (.t 0)), zi 3 (.box (.t 1)), zv 4 zf]
def qbtc : IC := zr [zv 7 (.ld true 3 (.t 2)), zv 8 (.ld true 3 (.t 3)), zv 9 (.bsl 3 [((.t 7), (.agg [.id, .id, (.sl 3)])), ((.t 8), (.agg [.id, .id, (.sl 3)]))]), zi 10 (.call (.c (.fn 27 [] [])) [((.t 9), (.sl 3))]), zv 11 (.un .not (.t 10))]
def qbvb : IC := zr [zv 4 zf]
def qbnx : IC := .drw [zp (zv 13 (.ld true 3 (.t 2))), (zi 14 (.call (.c (.fn 34 [] [])) [((.t 13), (.agg [.id, .id, (.sl 3)])), ((zc 0), .id)]), []), (zv 15 (.ld true 3 (.t 3)), [1]), (zi 16 (.call (.c (.fn 34 [] [])) [((.t 15), (.agg [.id, .id, (.sl 3)])), ((zc 1), .id)]), []), (zi 17 (.call (.c (.fn 9 [] [])) [((.t 14), (.agg [.id, .id, (.sl 3)])), ((.t 16), (.agg [.id, .id, (.sl 3)]))]), []), zp (zm 12 17), zp (zv 18 (.ext (.t 12) 0)), zp (zv 19 (.ext (.t 12) 1)), zp (zm 5 18), zp (zm 6 19)]
def qbu1 : IC := zr [zm 20 6, zv 21 (.bin .eql .no (.t 20) (zc 14)), zm 22 21, zw 22 false 23 (.mov (.t 6)), zw 22 false 24 (.bin .eql .no (.t 23) (zc 15)), zv 25 (.pick (.t 22) (.c (.bool true)) (.t 24)), zm 4 25]
def k0f : IC := (.seq qbt5 (.seq (.seq qbtc (.cond (.t 11) (.seq qbvb .ret) .skip)) (.seq qbnx (.seq qbu1 .ret))))
@[go_sem] def s0f : List (RV × Co) := [(.t 4, .id)]
theorem c0f : cFun Tryz.prog 15 = some (26, k0f, s0f) := by kernel_rfl

def qbs9 : IC := zr [zv 2 (.mov (.c .nilp))]
def qbqw : IC := zr [zv 6 (.bld [.nils] []), zi 7 (.box (.t 6)), zm 3 7]
def qbsl : IC := zr [zm 8 0, zv 9 (.len false (.t 8)), zv 10 (.mov (zc 0))]
def qbuv : IC := zr [zv 11 (.bin .lss .no (.t 10) (.t 9))]
def qbto : IC := zr [zv 12 (.iad 4 (.t 8) (.t 10)), zv 13 (.ld true 4 (.t 12)), zi 5 (.alo [(.int .i64 0), (.str []), (.int .i64 0), .nils]), zn (.st 4 (.agg [.id, .id, .id, (.sl 3)]) (.t 5) (.t 13))]
def qbtl : IC := zr [zm 14 3, zv 15 (.fad (.t 5) 0), zv 16 (.ld false 1 (.t 15)), zv 17 (.fad (.t 5) 1), zv 18 (.ld true 3 (.t 17)), zi 19 (.call (.c (.fn 36 [] [])) [((.t 14), .id), ((.t 16), .id), ((.t 18), (.agg [.id, .id, (.sl 3)]))])]
def qbm9 : IC := zr [zv 20 (.bin .add .no (.t 10) (zc 1)), zm 10 20]
def qbup : IC := (.seq qbuv (.seq (.cond (.t 11) .skip (.exit 0)) (.seq (.block 1 (.seq qbto qbtl)) qbm9)))
def qbok : IC := zr [zm 21 3, zm 2 21]
def k0t : IC := (.seq qbs9 (.seq qbqw (.seq (.seq qbsl (.block 0 (.loop qbup))) (.seq qbok .ret))))
@[go_sem] def s0t : List (RV × Co) := [(.t 2, .id)]
theorem c0t : cFun Tryz.prog 18 = some (22, k0t, s0t) := by kernel_rfl

def qbqq : IC := zr [zi 3 (.box (.t 1)), zi 4 (.alo [(.str []), (.int .i64 0), .nils]), zv 5 (.mov (zc 0))]
def qbry : IC := zr [zv 8 (.ld true 3 (.t 3)), zi 9 (.call (.c (.fn 37 [] [])) [((.t 8), (.agg [.id, .id, (.sl 3)]))]), zv 10 (.un .not (.t 9))]
def qbtg : IC := zr [zv 11 (.bld [(.str []), (.int .i64 0), .nils] []), zn (.st 3 (.agg [.id, .id, (.sl 3)]) (.t 4) (.t 11)), zv 5 (.mov (zc 1))]
def qbnt : IC := zr [zm 12 0, zv 13 (.bld [.nilp, (.int .i64 0)] [(0, 1, (.t 12)), (1, 1, (zc 4096))]), zi 14 (.box (.t 13)), zm 6 14]
def qbuo : IC := zr [zm 15 6, zv 16 (.ld true 3 (.t 3)), zi 17 (.call (.c (.fn 38 [] [])) [((.t 15), .id), ((.t 16), (.agg [.id, .id, (.sl 3)])), ((zc 1), .id)]), zi 7 (.alo [(.str []), (.int .i64 0), .nils]), zn (.st 3 (.agg [.id, .id, (.sl 3)]) (.t 7) (.t 17))]
def qbq4 : IC := zr [zm 18 6, zv 19 (.nck (.t 18)), zv 20 (.fad (.t 19) 1), zv 21 (.ld false 1 (.t 20)), zv 22 (.bin .lss .no (.t 21) (zc 0))]
def qbo2 : IC := zr [zv 23 (.bld [(.str []), (.int .i64 0), .nils] []), zn (.st 3 (.agg [.id, .id, (.sl 3)]) (.t 4) (.t 23)), zv 5 (.mov (zc 2))]
def qbnf : IC := zr [zv 24 (.ld true 3 (.t 7)), zn (.st 3 (.agg [.id, .id, (.sl 3)]) (.t 4) (.t 24)), zv 5 (.mov (zc 0))]
def k0s : IC := (.seq qbqq (.seq (.seq qbry (.cond (.t 10) (.seq qbtg .ret) .skip)) (.seq qbnt (.seq qbuo (.seq (.seq qbq4 (.cond (.t 22) (.seq qbo2 .ret) .skip)) (.seq qbnf .ret))))))
@[go_sem] def s0s : List (RV × Co) := [(.c true 3 4, (.agg [.id, .id, (.sl 3)])), (.t 5, .id)]
theorem c0s : cFun Tryz.prog 19 = some (25, k0s, s0s) := by kernel_rfl

def qbhx : IC := zr [zi 2 (.box (.t 0)), zi 3 (.box (.t 1)), zv 4 zf]
def qbcc : IC := zr [zv 6 (.fad (.t 2) 0), zv 7 (.ld false 1 (.t 6)), zv 8 (.fad (.t 3) 0), zv 9 (.ld false 1 (.t 8)), zv 10 (.bin .neq .no (.t 7) (.t 9)), zm 11 10, zw 11 false 12 (.fad (.t 2) 1), zw 11 false 13 (.ld false 1 (.t 12)), zw 11 false 14 (.fad (.t 3) 1), zw 11 false 15 (.ld false 1 (.t 14)), zw 11 false 16 (.bin .neq .no (.t 13) (.t 15)), zv 17 (.pick (.t 11) (.c (.bool true)) (.t 16)), zm 18 17, zw 18 false 19 (.fad (.t 2) 2), zw 18 false 20 (.ld false 1 (.t 19)), zw 18 false 21 (.len false (.t 20)), zw 18 false 22 (.fad (.t 3) 2), zw 18 false 23 (.ld false 1 (.t 22)), zw 18 false 24 (.len false (.t 23)), zw 18 false 25 (.bin .neq .no (.t 21) (.t 24)), zv 26 (.pick (.t 18) (.c (.bool true)) (.t 25))]
def qba9 : IC := zr [zv 4 zf]
def qbl9 : IC := zr [zv 5 (.mov (zc 0))]
def q8m : IC := zr [zm 27 5, zv 28 (.fad (.t 2) 2), zv 29 (.ld false 1 (.t 28)), zv 30 (.len false (.t 29)), zv 31 (.bin .lss .no (.t 27) (.t 30))]
def qbbt : IC := .drw [zp (zv 34 (.fad (.t 2) 2)), zp (zv 35 (.ld false 1 (.t 34))), zp (zm 36 5), zp (zv 37 (.iad 3 (.t 35) (.t 36))), zp (zv 38 (.ld true 3 (.t 37))), zp (zv 39 (.fad (.t 3) 2)), zp (zv 40 (.ld false 1 (.t 39))), zp (zm 41 5), zp (zv 42 (.iad 3 (.t 40) (.t 41))), zp (zv 43 (.ld true 3 (.t 42))), (zi 44 (.call (.c (.fn 20 [] [])) [((.t 38), (.agg [.id, .id, (.sl 3)])), ((.t 43), (.agg [.id, .id, (.sl 3)]))]), []), zp (zv 45 (.un .not (.t 44)))]
def qbf0 : IC := zr [zv 4 zf]
def qbb0 : IC := zr [zm 32 5, zv 33 (.bin .add .no (.t 32) (zc 1)), zm 5 33]
def qbdu : IC := (.seq (.seq q8m (.cond (.t 31) .skip (.exit 0))) (.seq (.block 1 (.seq qbbt (.cond (.t 45) (.seq qbf0 .ret) .skip))) qbb0))
def q3f : IC := zr [zv 4 (.mov (.c (.bool true)))]
def k0cb : IC := (.seq qbhx (.seq (.seq qbcc (.cond (.t 26) (.seq qba9 .ret) .skip)) (.seq (.seq qbl9 (.block 0 (.loop qbdu))) (.seq q3f .ret))))
@[go_sem] def s0cb : List (RV × Co) := [(.t 4, .id)]
theorem c0cb : cFun Tryz.prog 20 = some (46, k0cb, s0cb) := by kernel_rfl

def q9v : IC := zr [zv 2 (.mov (zc 0))]
def qbfz : IC := zr [zv 3 (.mov (zc 20000))]
def qbff : IC := zr [zv 4 (.mov (zc 0))]
def q8c : IC := zr [zm 5 4, zm 6 0, zv 7 (.len false (.t 6)), zv 8 (.bin .lss .no (.t 5) (.t 7))]
def qbe5 : IC := zr [zm 11 0, zm 12 4, zv 13 (.iad 3 (.t 11) (.t 12)), zv 14 (.ld true 3 (.t 13)), zm 15 3, zi 16 (.call (.c (.fn 40 [] [])) [((.t 14), (.agg [.id, .id, (.sl 3)])), ((.t 15), .id), ((zc 300), .id)]), zm 3 16]
def qbeh : IC := zr [zm 9 4, zv 10 (.bin .add .no (.t 9) (zc 1)), zm 4 10]
def qbmf : IC := (.seq (.seq q8c (.cond (.t 8) .skip (.exit 0))) (.seq (.block 1 qbe5) qbeh))
def q7w : IC := zr [zm 17 3, zv 18 (.bin .lss .no (.t 17) (zc 0))]
def qbft : IC := zr [zv 2 (.mov (zc 0))]
def q3q : IC := zr [zv 2 (.mov (zc 1))]
def k0br : IC := (.seq q9v (.seq qbfz (.seq (.seq qbff (.block 0 (.loop qbmf))) (.seq (.seq q7w (.cond (.t 18) (.seq qbft .ret) .skip)) (.seq q3q .ret)))))
@[go_sem] def s0br : List (RV × Co) := [(.t 2, .id)]
theorem c0br : cFun Tryz.prog 22 = some (19, k0br, s0br) := by kernel_rfl

def qbbi : IC := zr [zi 1 (.box (.t 0)), zv 2 (.mov (zc 0))]
def qbk9 : IC := zr [zv 3 (.mov (zc 1))]
def qbbh : IC := zr [zv 4 (.mov (zc 0))]
def qblo : IC := zr [zm 5 4, zv 6 (.fad (.t 1) 2), zv 7 (.ld false 1 (.t 6)), zv 8 (.len false (.t 7)), zv 9 (.bin .lss .no (.t 5) (.t 8))]
def qbb7 : IC := zr [zm 12 3, zv 13 (.fad (.t 1) 2), zv 14 (.ld false 1 (.t 13)), zm 15 4, zv 16 (.iad 3 (.t 14) (.t 15)), zv 17 (.ld true 3 (.t 16)), zi 18 (.call (.c (.fn 23 [] [])) [((.t 17), (.agg [.id, .id, (.sl 3)]))]), zv 19 (.bin .add .no (.t 12) (.t 18)), zm 3 19]
def qbjr : IC := zr [zm 10 4, zv 11 (.bin .add .no (.t 10) (zc 1)), zm 4 11]
def q8l : IC := (.seq (.seq qblo (.cond (.t 9) .skip (.exit 0))) (.seq (.block 1 qbb7) qbjr))
def q88 : IC := zr [zm 20 3, zm 2 20]
def k0bn : IC := (.seq qbbi (.seq qbk9 (.seq (.seq qbbh (.block 0 (.loop q8l))) (.seq q88 .ret))))
@[go_sem] def s0bn : List (RV × Co) := [(.t 2, .id)]
theorem c0bn : cFun Tryz.prog 23 = some (21, k0bn, s0bn) := by kernel_rfl

def qbo8 : IC := zr [zi 2 (.alo [(.str []), (.int .i64 0), .nils])]
def qboe : IC := zr [zm 6 0, zi 7 (.call (.c (.fn 41 [] [])) [((.t 6), .id)]), zm 5 7, zv 8 (.ext (.t 5) 0), zv 9 (.ext (.t 5) 1), zi 3 (.alo [(.str []), (.int .i64 0), .nils]), zn (.st 3 (.agg [.id, .id, (.sl 3)]) (.t 3) (.t 8)), zm 4 9]
def qbr3 : IC := zr [zv 10 (.ld true 3 (.t 3)), zn (.st 3 (.agg [.id, .id, (.sl 3)]) (.t 2) (.t 10))]
def k0c : IC := (.seq qbo8 (.seq qboe (.seq qbr3 .ret)))
@[go_sem] def s0c : List (RV × Co) := [(.c true 3 2, (.agg [.id, .id, (.sl 3)]))]
theorem c0c : cFun Tryz.prog 24 = some (11, k0c, s0c) := by kernel_rfl

def qbst : IC := zr [zi 4 (.alo [(.str []), (.int .i64 0), .nils]), zv 5 zf]
def qbr8 : IC := zr [zm 8 0, zv 9 (.bin .eql .ptr (.t 8) (.c .nilp))]
def qbnw : IC := zr [zv 10 (.bld [(.str []), (.int .i64 0), .nils] []), zn (.st 3 (.agg [.id, .id, (.sl 3)]) (.t 4) (.t 10)), zv 5 zf]
def qbpa : IC := zr [zm 12 0, zm 13 1, zi 14 (.call (.c (.fn 42 [] [])) [((.t 12), .id), ((.t 13), .id)]), zm 11 14, zv 15 (.ext (.t 11) 0), zv 16 (.ext (.t 11) 1), zm 6 15, zm 7 16]
def qbsz : IC := zr [zm 17 7, zv 18 (.un .not (.t 17))]
def qbns : IC := zr [zv 19 (.bld [(.str []), (.int .i64 0), .nils] []), zn (.st 3 (.agg [.id, .id, (.sl 3)]) (.t 4) (.t 19)), zv 5 zf]
def qbqe : IC := zr [zm 20 0, zv 21 (.nck (.t 20)), zv 22 (.fad (.t 21) 0), zv 23 (.ld false 1 (.t 22)), zm 24 6, zv 25 (.iad 4 (.t 23) (.t 24)), zv 26 (.fad (.t 25) 1), zv 27 (.ld true 3 (.t 26)), zn (.st 3 (.agg [.id, .id, (.sl 3)]) (.t 4) (.t 27)), zv 5 (.mov (.c (.bool true)))]
def k0w : IC := (.seq qbst (.seq (.seq qbr8 (.cond (.t 9) (.seq qbnw .ret) .skip)) (.seq qbpa (.seq (.seq qbsz (.cond (.t 18) (.seq qbns .ret) .skip)) (.seq qbqe .ret)))))
@[go_sem] def s0w : List (RV × Co) := [(.c true 3 4, (.agg [.id, .id, (.sl 3)])), (.t 5, .id)]
theorem c0w : cFun Tryz.prog 25 = some (28, k0w, s0w) := by kernel_rfl

def qbn1 : IC := zr [zi 4 (.box (.t 1)), zi 5 (.box (.t 2)), zv 6 (.mov (.c .nilp)), zv 7 (.mov (zc 0))]
def qbp1 : IC := zr [zm 13 0, zv 14 (.ld true 3 (.t 4)), zi 15 (.call (.c (.fn 19 [] [])) [((.t 13), .id), ((.t 14), (.agg [.id, .id, (.sl 3)]))]), zm 12 15, zv 16 (.ext (.t 12) 0), zv 17 (.ext (.t 12) 1), zi 8 (.alo [(.str []), (.int .i64 0), .nils]), zn (.st 3 (.agg [.id, .id, (.sl 3)]) (.t 8) (.t 16)), zm 9 17]
def qbts : IC := zr [zm 18 9, zv 19 (.bin .neq .no (.t 18) (zc 0))]
def qbnc : IC := zr [zm 20 9, zv 6 (.mov (.c .nilp)), zm 7 20]
def qbrr : IC := zr [zm 22 0, zv 23 (.ld true 3 (.t 5)), zi 24 (.call (.c (.fn 19 [] [])) [((.t 22), .id), ((.t 23), (.agg [.id, .id, (.sl 3)]))]), zm 21 24, zv 25 (.ext (.t 21) 0), zv 26 (.ext (.t 21) 1), zi 10 (.alo [(.str []), (.int .i64 0), .nils]), zn (.st 3 (.agg [.id, .id, (.sl 3)]) (.t 10) (.t 25)), zm 9 26]
def qbtp : IC := zr [zm 27 9, zv 28 (.bin .neq .no (.t 27) (zc 0))]
def qbs3 : IC := zr [zm 29 9, zv 6 (.mov (.c .nilp)), zm 7 29]
def qbn4 : IC := zr [zv 31 (.ld true 3 (.t 8)), zv 32 (.ld true 3 (.t 10)), zi 33 (.call (.c (.fn 9 [] [])) [((.t 31), (.agg [.id, .id, (.sl 3)])), ((.t 32), (.agg [.id, .id, (.sl 3)]))]), zm 30 33, zv 34 (.ext (.t 30) 0), zv 35 (.ext (.t 30) 1), zm 11 34, zm 9 35]
def qbnm : IC := zr [zm 36 9, zv 37 (.bin .neq .no (.t 36) (zc 0))]
def qbqt : IC := zr [zm 38 9, zv 6 (.mov (.c .nilp)), zm 7 38]
def qbmh : IC := zr [zm 39 0, zm 40 11, zi 41 (.call (.c (.fn 43 [] [])) [((.t 39), .id), ((.t 40), .id)]), zv 42 (.ext (.t 41) 0), zv 43 (.ext (.t 41) 1), zm 6 42, zm 7 43]
def k0h : IC := (.seq qbn1 (.seq qbp1 (.seq (.seq qbts (.cond (.t 19) (.seq qbnc .ret) .skip)) (.seq qbrr (.seq (.seq qbtp (.cond (.t 28) (.seq qbs3 .ret) .skip)) (.seq qbn4 (.seq (.seq qbnm (.cond (.t 37) (.seq qbqt .ret) .skip)) (.seq qbmh .ret))))))))
@[go_sem] def s0h : List (RV × Co) := [(.t 6, .id), (.t 7, .id)]
theorem c0h : cFun Tryz.prog 26 = some (44, k0h, s0h) := by kernel_rfl

def qbun : IC := zr [zv 2 zf]
def qbrm : IC := zr [zm 5 0, zv 6 (.len false (.t 5)), zv 7 (.mov (zc 0))]
def qbm2 : IC := zr [zv 8 (.bin .lss .no (.t 7) (.t 6))]
def qbu9 : IC := zr [zv 9 (.iad 3 (.t 5) (.t 7)), zv 10 (.ld true 3 (.t 9)), zi 4 (.alo [(.str []), (.int .i64 0), .nils]), zn (.st 3 (.agg [.id, .id, (.sl 3)]) (.t 4) (.t 10))]
def qbt8 : IC := zr [zv 11 (.ld true 3 (.t 4)), zi 12 (.call (.c (.fn 37 [] [])) [((.t 11), (.agg [.id, .id, (.sl 3)]))]), zv 13 (.un .not (.t 12))]
def qbt1 : IC := zr [zv 2 zf]
def qboa : IC := zr [zv 14 (.bin .add .no (.t 7) (zc 1)), zm 7 14]
def qbpl : IC := (.seq qbm2 (.seq (.cond (.t 8) .skip (.exit 0)) (.seq (.block 1 (.seq qbu9 (.seq qbt8 (.cond (.t 13) (.seq qbt1 .ret) .skip)))) qboa)))
def qbp7 : IC := zr [zv 2 (.mov (.c (.bool true)))]
def k0l : IC := (.seq qbun (.seq (.seq qbrm (.block 0 (.loop qbpl))) (.seq qbp7 .ret)))
@[go_sem] def s0l : List (RV × Co) := [(.t 2, .id)]
theorem c0l : cFun Tryz.prog 27 = some (15, k0l, s0l) := by kernel_rfl

def qbpm : IC := zr [zv 2 (.mov (.c .nilp)), zv 3 (.mov (zc 0))]
def qbnu : IC := zr [zi 9 (.call (.c (.fn 18 [] [])) [((.c .nils), (.sl 4))]), zm 4 9, zv 5 (.mov (zc 0))]
def qbut : IC := zr [zv 10 (.bld [.nils] []), zi 11 (.box (.t 10)), zm 6 11]
def qbrg : IC := zr [zm 12 6, zm 13 0, zi 14 (.call (.c (.fn 44 [] [])) [((.t 12), .id), ((.t 13), (.sl 6))])]
def qbvf : IC := zr [zm 16 6, zi 17 (.call (.c (.fn 45 [] [])) [((.t 16), .id)]), zm 15 17, zv 18 (.ext (.t 15) 0), zv 19 (.ext (.t 15) 1), zi 7 (.alo [(.str []), (.int .i64 0), .nils, (.str []), (.int .i64 0), .nils]), zn (.st 6 (.agg [.id, .id, (.sl 3), .id, .id, (.sl 3)]) (.t 7) (.t 18)), zm 8 19]
def qbs0 : IC := zr [zm 20 8, zv 21 (.un .not (.t 20))]
def qbus : IC := zr [zm 22 4, zm 2 22, zv 3 (.mov (zc 0))]
def qbsa : IC := zr [zm 24 4, zv 25 (.ld true 6 (.t 7)), zm 26 6, zi 27 (.call (.c (.fn 46 [] [])) [((.t 24), .id), ((.t 25), (.agg [.id, .id, (.sl 3), .id, .id, (.sl 3)])), ((.t 26), .id)]), zm 23 27, zv 28 (.ext (.t 23) 0), zv 29 (.ext (.t 23) 1), zm 4 28, zm 5 29]
def qbnn : IC := zr [zm 30 5, zv 31 (.bin .neq .no (.t 30) (zc 0))]
def qbgy : IC := zr [zm 32 5, zv 2 (.mov (.c .nilp)), zm 3 32]
def qbsm : IC := (.block 1 (.seq qbvf (.seq (.seq qbs0 (.cond (.t 21) (.seq qbus .ret) .skip)) (.seq qbsa (.seq qbnn (.cond (.t 31) (.seq qbgy .ret) .skip))))))
def k0j : IC := (.seq qbpm (.seq qbnu (.seq qbut (.seq qbrg (.block 0 (.loop qbsm))))))
@[go_sem] def s0j : List (RV × Co) := [(.t 2, .id), (.t 3, .id)]
theorem c0j : cFun Tryz.prog 28 = some (33, k0j, s0j) := by kernel_rfl

def qbjt : IC := zr [zi 1 (.box (.t 0)), zv 2 zf]
def q9b : IC := zr [zv 3 (.ld true 3 (.t 1)), zi 4 (.call (.c (.fn 23 [] [])) [((.t 3), (.agg [.id, .id, (.sl 3)]))]), zv 5 (.bin .leq .no (.t 4) (zc 4096)), zm 6 5, zw 6 true 7 (.ld true 3 (.t 1)), ⟨some (6, true), some 8, .call (.c (.fn 47 [] [])) [((.t 7), (.agg [.id, .id, (.sl 3)]))]⟩, zw 6 true 9 (.bin .leq .no (.t 8) (zc 100)), zv 10 (.pick (.t 6) (.t 9) (.c (.bool false))), zm 11 10, zw 11 true 12 (.ld true 3 (.t 1)), ⟨some (11, true), some 13, .call (.c (.fn 48 [] [])) [((.t 12), (.agg [.id, .id, (.sl 3)]))]⟩, zv 14 (.pick (.t 11) (.t 13) (.c (.bool false))), zm 2 14]
def k0bs : IC := (.seq qbjt (.seq q9b .ret))
@[go_sem] def s0bs : List (RV × Co) := [(.t 2, .id)]
theorem c0bs : cFun Tryz.prog 29 = some (15, k0bs, s0bs) := by kernel_rfl

def qbi7 : IC := zr [zi 4 (.box (.t 1)), zi 5 (.box (.t 2)), zv 6 (.mov (.c .nils)), zv 7 (.mov (zc 0))]
def qbfq : IC := zr [zm 13 0, zv 14 (.ld true 3 (.t 4)), zi 15 (.call (.c (.fn 49 [] [])) [((.t 13), (.sl 4)), ((.t 14), (.agg [.id, .id, (.sl 3)]))]), zm 12 15, zv 16 (.ext (.t 12) 0), zv 17 (.ext (.t 12) 1), zn (.st 3 (.agg [.id, .id, (.sl 3)]) (.t 4) (.t 16)), zm 8 17]
def qbdg : IC := zr [zm 18 8, zv 19 (.bin .neq .no (.t 18) (zc 0))]
def qbad : IC := zr [zm 20 8, zv 6 (.mov (.c .nils)), zm 7 20]
def qbb1 : IC := zr [zm 22 0, zv 23 (.ld true 3 (.t 5)), zi 24 (.call (.c (.fn 49 [] [])) [((.t 22), (.sl 4)), ((.t 23), (.agg [.id, .id, (.sl 3)]))]), zm 21 24, zv 25 (.ext (.t 21) 0), zv 26 (.ext (.t 21) 1), zn (.st 3 (.agg [.id, .id, (.sl 3)]) (.t 5) (.t 25)), zm 8 26]
def qbku : IC := zr [zm 28 8, zv 29 (.bin .neq .no (.t 28) (zc 0)), zm 27 29]
def qbkh : IC := zr [zm 30 8, zv 6 (.mov (.c .nils)), zm 7 30]
def qbf1 : IC := zr [zv 32 (.fad (.t 4) 0), zv 33 (.ld false 1 (.t 32)), zv 34 (.bin .eql .no (.t 33) (.c (.str []))), zm 31 34]
def qbjy : IC := zr [zm 35 0, zv 36 (.fad (.t 4) 1), zv 37 (.ld false 1 (.t 36)), zv 38 (.ld true 3 (.t 5)), zi 39 (.call (.c (.fn 50 [] [])) [((.t 35), (.sl 4)), ((.t 37), .id), ((.t 38), (.agg [.id, .id, (.sl 3)]))]), zv 40 (.ext (.t 39) 0), zv 41 (.ext (.t 39) 1), zm 6 40, zm 7 41]
def qbdk : IC := zr [zv 43 (.fad (.t 5) 0), zv 44 (.ld false 1 (.t 43)), zv 45 (.bin .eql .no (.t 44) (.c (.str []))), zm 42 45]
def q3d : IC := zr [zm 46 0, zv 47 (.fad (.t 5) 1), zv 48 (.ld false 1 (.t 47)), zv 49 (.ld true 3 (.t 4)), zi 50 (.call (.c (.fn 50 [] [])) [((.t 46), (.sl 4)), ((.t 48), .id), ((.t 49), (.agg [.id, .id, (.sl 3)]))]), zv 51 (.ext (.t 50) 0), zv 52 (.ext (.t 50) 1), zm 6 51, zm 7 52]
def q3v : IC := zr [zv 54 (.fad (.t 4) 0), zv 55 (.ld false 1 (.t 54)), zv 56 (.fad (.t 5) 0), zv 57 (.ld false 1 (.t 56)), zv 58 (.bin .neq .no (.t 55) (.t 57)), zm 59 58, zw 59 false 60 (.fad (.t 4) 2), zw 59 false 61 (.ld false 1 (.t 60)), zw 59 false 62 (.len false (.t 61)), zw 59 false 63 (.fad (.t 5) 2), zw 59 false 64 (.ld false 1 (.t 63)), zw 59 false 65 (.len false (.t 64)), zw 59 false 66 (.bin .neq .no (.t 62) (.t 65)), zv 67 (.pick (.t 59) (.c (.bool true)) (.t 66)), zm 53 67]
def q3l : IC := zr [zv 6 (.mov (.c .nils)), zv 7 (.mov (zc 14))]
def q0u : IC := zr [zv 9 (.mov (zc 0))]
def q2t : IC := zr [zm 68 9, zv 69 (.fad (.t 4) 2), zv 70 (.ld false 1 (.t 69)), zv 71 (.len false (.t 70)), zv 72 (.bin .lss .no (.t 68) (.t 71))]
def q4w : IC := .drw [zp (zm 76 0), zp (zv 77 (.fad (.t 4) 2)), zp (zv 78 (.ld false 1 (.t 77))), zp (zm 79 9), zp (zv 80 (.iad 3 (.t 78) (.t 79))), zp (zv 81 (.ld true 3 (.t 80))), zp (zv 82 (.fad (.t 5) 2)), zp (zv 83 (.ld false 1 (.t 82))), zp (zm 84 9), zp (zv 85 (.iad 3 (.t 83) (.t 84))), zp (zv 86 (.ld true 3 (.t 85))), (zi 87 (.call (.c (.fn 30 [] [])) [((.t 76), (.sl 4)), ((.t 81), (.agg [.id, .id, (.sl 3)])), ((.t 86), (.agg [.id, .id, (.sl 3)]))]), []), zp (zm 75 87), zp (zv 88 (.ext (.t 75) 0)), zp (zv 89 (.ext (.t 75) 1)), zp (zm 10 88), zp (zm 11 89)]
def q4q : IC := zr [zm 90 11, zv 91 (.bin .neq .no (.t 90) (zc 0))]
def q2n : IC := zr [zm 92 11, zv 6 (.mov (.c .nils)), zm 7 92]
def q3x : IC := zr [zm 93 10, zm 0 93]
def q42 : IC := zr [zm 73 9, zv 74 (.bin .add .no (.t 73) (zc 1)), zm 9 74]
def q2i : IC := (.seq (.seq q2t (.cond (.t 72) .skip (.exit 1))) (.seq (.block 2 (.seq q4w (.seq (.seq q4q (.cond (.t 91) (.seq q2n .ret) .skip)) q3x))) q42))
def q1u : IC := zr [zm 94 0, zm 6 94, zv 7 (.mov (zc 0))]
def k0do : IC := (.seq qbi7 (.seq qbfq (.seq (.seq qbdg (.cond (.t 19) (.seq qbad .ret) .skip)) (.seq qbb1 (.seq (.block 0 (.seq qbku (.cond (.t 27) (.seq qbkh .ret) (.seq qbf1 (.cond (.t 31) (.seq qbjy .ret) (.seq qbdk (.cond (.t 42) (.seq q3d .ret) (.seq q3v (.cond (.t 53) (.seq q3l .ret) .skip))))))))) (.seq (.seq q0u (.block 1 (.loop q2i))) (.seq q1u .ret)))))))
@[go_sem] def s0do : List (RV × Co) := [(.t 6, (.sl 4)), (.t 7, .id)]
theorem c0do : cFun Tryz.prog 30 = some (95, k0do, s0do) := by kernel_rfl

def qbhw : IC := zr [zi 1 (.box (.t 0)), zi 2 (.alo [(.str []), (.int .i64 0), .nils])]
def qbfp : IC := zr [zv 6 (.fad (.t 1) 2), zv 7 (.ld false 1 (.t 6)), zv 8 (.len false (.t 7)), zi 9 (.mks 3 (.agg [(.str []), (.int .i64 0), .nils]) 48 (.t 8) (.t 8)), zm 3 9]
def qbfx : IC := zr [zv 10 (.fad (.t 1) 2), zv 11 (.ld false 1 (.t 10)), zv 12 (.len false (.t 11)), zv 13 (.mov (zc 0))]
def qbg7 : IC := zr [zv 14 (.bin .lss .no (.t 13) (.t 12))]
def qbb8 : IC := zr [zm 15 13, zv 16 (.iad 3 (.t 11) (.t 13)), zv 17 (.ld true 3 (.t 16)), zi 5 (.alo [(.str []), (.int .i64 0), .nils]), zm 4 15, zn (.st 3 (.agg [.id, .id, (.sl 3)]) (.t 5) (.t 17))]
def qblx : IC := zr [zm 18 3, zm 19 4, zv 20 (.ld true 3 (.t 5)), zi 21 (.call (.c (.fn 31 [] [])) [((.t 20), (.agg [.id, .id, (.sl 3)]))]), zv 22 (.iad 3 (.t 18) (.t 19)), zn (.st 3 (.agg [.id, .id, (.sl 3)]) (.t 22) (.t 21))]
def q8k : IC := zr [zv 23 (.bin .add .no (.t 13) (zc 1)), zm 13 23]
def q9l : IC := (.seq qbg7 (.seq (.cond (.t 14) .skip (.exit 0)) (.seq (.block 1 (.seq qbb8 qblx)) q8k)))
def q73 : IC := zr [zm 24 3, zv 25 (.fad (.t 1) 2), zn (.st 1 (.sl 3) (.t 25) (.t 24))]
def q28 : IC := zr [zv 26 (.ld true 3 (.t 1)), zn (.st 3 (.agg [.id, .id, (.sl 3)]) (.t 2) (.t 26))]
def k0ba : IC := (.seq qbhw (.seq qbfp (.seq (.seq qbfx (.block 0 (.loop q9l))) (.seq q73 (.seq q28 .ret)))))
@[go_sem] def s0ba : List (RV × Co) := [(.c true 3 2, (.agg [.id, .id, (.sl 3)]))]
theorem c0ba : cFun Tryz.prog 31 = some (27, k0ba, s0ba) := by kernel_rfl

def qbu4 : IC := zr [zv 4 (.mov (.c .nils))]
def qbov : IC := zr [zm 7 0, zv 8 (.len false (.t 7)), zi 9 (.mks 6 (.agg [(.str []), (.int .i64 0), .nils, (.str []), (.int .i64 0), .nils]) 96 (.t 8) (.t 8)), zm 5 9]
def qbse : IC := zr [zm 10 0, zv 11 (.len false (.t 10)), zv 12 (.mov (zc 0))]
def qbt3 : IC := zr [zv 13 (.bin .lss .no (.t 12) (.t 11))]
def qbrl : IC := zr [zm 14 12, zm 6 14]
def qbr5 : IC := .drw [zp (zm 15 5), zp (zm 16 6), zp (zm 17 0), zp (zm 18 6), zp (zv 19 (.iad 3 (.t 17) (.t 18))), zp (zv 20 (.ld true 3 (.t 19))), zp (zm 21 1), zp (zm 22 6), zp (zv 23 (.iad 3 (.t 21) (.t 22))), zp (zv 24 (.ld true 3 (.t 23))), (zv 25 (.bld [(.str []), (.int .i64 0), .nils, (.str []), (.int .i64 0), .nils] [(0, 3, (.t 20)), (3, 3, (.t 24))]), []), zp (zv 26 (.iad 6 (.t 15) (.t 16))), (zn (.st 6 (.agg [.id, .id, (.sl 3), .id, .id, (.sl 3)]) (.t 26) (.t 25)), [])]
def qbsu : IC := zr [zv 27 (.bin .add .no (.t 12) (zc 1)), zm 12 27]
def qbqi : IC := (.seq qbt3 (.seq (.cond (.t 13) .skip (.exit 0)) (.seq (.block 1 (.seq qbrl qbr5)) qbsu)))
def qbt7 : IC := zr [zm 28 5, zm 4 28]
def k0m : IC := (.seq qbu4 (.seq qbov (.seq (.seq qbse (.block 0 (.loop qbqi))) (.seq qbt7 .ret))))
@[go_sem] def s0m : List (RV × Co) := [(.t 4, (.sl 6))]
theorem c0m : cFun Tryz.prog 32 = some (29, k0m, s0m) := by kernel_rfl

def qbsw : IC := zr [zi 2 (.box (.t 0)), zi 4 (.alo [(.str []), (.int .i64 0), .nils])]
def qbrw : IC := zr [zi 10 (.call (.c (.fn 18 [] [])) [((.c .nils), (.sl 4))]), zm 5 10]
def qbpz : IC := zr [zv 11 (.ld true 3 (.t 2)), zi 12 (.call (.c (.fn 51 [] [])) [((.t 11), (.agg [.id, .id, (.sl 3)]))]), zv 13 (.len false (.t 12)), zv 14 (.mov (zc 0))]
def qbuf : IC := zr [zv 15 (.bin .lss .no (.t 14) (.t 13))]
def qbss : IC := zr [zm 16 14, zv 17 (.iad 1 (.t 12) (.t 14)), zv 18 (.ld false 1 (.t 17)), zm 6 16, zm 7 18]
def qbny : IC := zr [zm 19 5, zm 20 7, zm 21 1, zm 22 6, zv 23 (.bin .mul .no (zc 2) (.t 22)), zv 24 (.bin .add .no (.t 21) (.t 23)), zv 25 (.bld [(.str []), (.int .i64 0), .nils] [(1, 1, (.t 24))]), zi 26 (.call (.c (.fn 36 [] [])) [((.t 19), .id), ((.t 20), .id), ((.t 25), (.agg [.id, .id, (.sl 3)]))])]
def qbos : IC := zr [zv 27 (.bin .add .no (.t 14) (zc 1)), zm 14 27]
def qbps : IC := (.seq qbuf (.seq (.cond (.t 15) .skip (.exit 0)) (.seq (.block 1 (.seq qbss qbny)) qbos)))
def qbpp : IC := zr [zm 29 5, zv 30 (.ld true 3 (.t 2)), zi 31 (.call (.c (.fn 19 [] [])) [((.t 29), .id), ((.t 30), (.agg [.id, .id, (.sl 3)]))]), zm 28 31, zv 32 (.ext (.t 28) 0), zv 33 (.ext (.t 28) 1), zi 8 (.alo [(.str []), (.int .i64 0), .nils]), zn (.st 3 (.agg [.id, .id, (.sl 3)]) (.t 8) (.t 32)), zm 9 33]
def qbiv : IC := zr [zv 34 (.ld true 3 (.t 8)), zn (.st 3 (.agg [.id, .id, (.sl 3)]) (.t 4) (.t 34))]
def k0e : IC := (.seq qbsw (.seq qbrw (.seq (.seq qbpz (.block 0 (.loop qbps))) (.seq qbpp (.seq qbiv .ret)))))
@[go_sem] def s0e : List (RV × Co) := [(.c true 3 4, (.agg [.id, .id, (.sl 3)]))]
theorem c0e : cFun Tryz.prog 34 = some (35, k0e, s0e) := by kernel_rfl

def qbuh : IC := zr [zi 5 (.box (.t 2)), zv 6 (.mov (zc 0))]
def qbo5 : IC := zr [zm 9 0, zv 10 (.bin .eql .ptr (.t 9) (.c .nilp)), zm 11 10, zw 11 false 12 (.ld true 3 (.t 5)), ⟨some (11, false), some 13, .call (.c (.fn 37 [] [])) [((.t 12), (.agg [.id, .id, (.sl 3)]))]⟩, zw 11 false 14 (.un .not (.t 13)), zv 15 (.pick (.t 11) (.c (.bool true)) (.t 14))]
def qbne : IC := zr [zv 6 (.mov (zc 1))]
def qboj : IC := zr [zm 17 0, zm 18 1, zi 19 (.call (.c (.fn 42 [] [])) [((.t 17), .id), ((.t 18), .id)]), zm 16 19, zv 20 (.ext (.t 16) 0), zv 21 (.ext (.t 16) 1), zm 7 20, zm 8 21]
def qbt6 : IC := zr [zm 22 8]
def qbpj : IC := zr [zv 6 (.mov (zc 6))]
def qbtr : IC := .drw [zp (zm 23 0), zp (zm 24 0), zp (zv 25 (.nck (.t 24))), zp (zv 26 (.fad (.t 25) 0)), zp (zv 27 (.ld false 1 (.t 26))), zp (zm 28 7), zp (zm 29 1), zp (zv 30 (.ld true 3 (.t 5))), (zi 31 (.call (.c (.fn 31 [] [])) [((.t 30), (.agg [.id, .id, (.sl 3)]))]), [4]), (zv 32 (.bld [(.int .i64 0), (.str []), (.int .i64 0), .nils] [(0, 1, (.t 29)), (1, 3, (.t 31))]), []), (zv 33 (.bsl 4 [((.t 32), (.agg [.id, .id, .id, (.sl 3)]))]), []), (zi 34 (.call (.c (.fn 55 [] [])) [((.t 27), (.sl 4)), ((.t 28), .id), ((.t 33), (.sl 4))]), []), zp (zv 35 (.nck (.t 23))), zp (zv 36 (.fad (.t 35) 0)), (zn (.st 1 (.sl 4) (.t 36) (.t 34)), [])]
def qbnp : IC := zr [zv 6 (.mov (zc 0))]
def k0v : IC := (.seq qbuh (.seq (.seq qbo5 (.cond (.t 15) (.seq qbne .ret) .skip)) (.seq qboj (.seq (.seq qbt6 (.cond (.t 22) (.seq qbpj .ret) .skip)) (.seq qbtr (.seq qbnp .ret))))))
@[go_sem] def s0v : List (RV × Co) := [(.t 6, .id)]
theorem c0v : cFun Tryz.prog 36 = some (37, k0v, s0v) := by kernel_rfl

def qbg8 : IC := zr [zi 1 (.box (.t 0)), zv 2 zf]
def qbhp : IC := zr [zi 3 (.alo [(.int .i64 0)]), zn (.st 1 .id (.t 3) (zc 0))]
def qbgs : IC := zr [zv 4 (.ld true 3 (.t 1)), zv 5 (.mfn 57 [] [(.t 3)]), zi 6 (.call (.c (.fn 56 [] [])) [((.t 4), (.agg [.id, .id, (.sl 3)])), ((zc 1), .id), ((.t 5), .id)]), zm 2 6]
def k0bk : IC := (.seq qbg8 (.seq qbhp (.seq qbgs .ret)))
@[go_sem] def s0bk : List (RV × Co) := [(.t 2, .id)]
theorem c0bk : cFun Tryz.prog 37 = some (7, k0bk, s0bk) := by kernel_rfl

def qbpk : IC := zr [zi 4 (.box (.t 1)), zi 6 (.alo [(.str []), (.int .i64 0), .nils])]
def qboz : IC := zr [zv 11 (.fad (.t 4) 0), zv 12 (.ld false 1 (.t 11)), zv 13 (.bin .eql .no (.t 12) (.c (.str [])))]
def qbqx : IC := .drw [zp (zm 15 0), zp (zv 16 (.nck (.t 15))), zp (zv 17 (.fad (.t 16) 0)), zp (zv 18 (.ld false 1 (.t 17))), zp (zv 19 (.fad (.t 4) 1)), zp (zv 20 (.ld false 1 (.t 19))), (zi 21 (.call (.c (.fn 25 [] [])) [((.t 18), .id), ((.t 20), .id)]), []), zp (zm 14 21), zp (zv 22 (.ext (.t 14) 0)), zp (zv 23 (.ext (.t 14) 1)), (zi 7 (.alo [(.str []), (.int .i64 0), .nils]), [3, 5, 6]), (zn (.st 3 (.agg [.id, .id, (.sl 3)]) (.t 7) (.t 22)), []), zp (zm 8 23)]
def qbtn : IC := zr [zm 24 8]
def qbva : IC := .drw [zp (zm 25 0), zp (zv 26 (.nck (.t 25))), zp (zv 27 (.fad (.t 26) 1)), zp (zv 28 (.ld false 1 (.t 27))), zp (zv 29 (.ld true 3 (.t 7))), (zi 30 (.call (.c (.fn 60 [] [])) [((.t 29), (.agg [.id, .id, (.sl 3)]))]), [3]), zp (zv 31 (.bin .sub .no (.t 28) (.t 30))), zp (zv 32 (.nck (.t 25))), zp (zv 33 (.fad (.t 32) 1)), (zn (.st 1 .id (.t 33) (.t 31)), [])]
def qbnk : IC := zr [zm 34 2, zv 35 (.ld true 3 (.t 7)), zi 36 (.call (.c (.fn 61 [] [])) [((.t 35), (.agg [.id, .id, (.sl 3)]))]), zv 37 (.bin .add .no (.t 34) (.t 36)), zv 38 (.bin .gtr .no (.t 37) (zc 101))]
def qbrx : IC := zr [zm 39 0, zv 40 (.nck (.t 39)), zv 41 (.fad (.t 40) 1), zn (.st 1 .id (.t 41) (zc (-1)))]
def qbp2 : IC := zr [zv 42 (.ld true 3 (.t 7)), zi 43 (.call (.c (.fn 31 [] [])) [((.t 42), (.agg [.id, .id, (.sl 3)]))]), zn (.st 3 (.agg [.id, .id, (.sl 3)]) (.t 6) (.t 43))]
def qbpt : IC := zr [zm 44 0, zv 45 (.nck (.t 44)), zv 46 (.fad (.t 45) 1), zv 47 (.ld false 1 (.t 46)), zv 48 (.bin .sub .no (.t 47) (zc 1)), zv 49 (.nck (.t 44)), zv 50 (.fad (.t 49) 1), zn (.st 1 .id (.t 50) (.t 48))]
def qbpb : IC := zr [zv 51 (.fad (.t 4) 2), zv 52 (.ld false 1 (.t 51)), zv 53 (.len false (.t 52)), zi 54 (.mks 3 (.agg [(.str []), (.int .i64 0), .nils]) 48 (.t 53) (.t 53)), zm 9 54]
def qblt : IC := zr [zv 55 (.fad (.t 4) 2), zv 56 (.ld false 1 (.t 55)), zv 57 (.len false (.t 56)), zv 58 (.mov (zc 0))]
def q80 : IC := zr [zv 59 (.bin .lss .no (.t 58) (.t 57))]
def qbit : IC := zr [zm 60 58, zm 10 60]
def q8d : IC := zr [zm 61 0, zv 62 (.nck (.t 61)), zv 63 (.fad (.t 62) 1), zv 64 (.ld false 1 (.t 63)), zv 65 (.bin .lss .no (.t 64) (zc 0))]
def qbgq : IC := zr [zv 66 (.ld true 3 (.t 4)), zn (.st 3 (.agg [.id, .id, (.sl 3)]) (.t 6) (.t 66))]
def qbaq : IC := zr [zm 67 9, zm 68 10, zm 69 0, zv 70 (.fad (.t 4) 2), zv 71 (.ld false 1 (.t 70)), zm 72 10, zv 73 (.iad 3 (.t 71) (.t 72)), zv 74 (.ld true 3 (.t 73)), zm 75 2, zv 76 (.bin .add .no (.t 75) (zc 1)), zi 77 (.call (.c (.fn 38 [] [])) [((.t 69), .id), ((.t 74), (.agg [.id, .id, (.sl 3)])), ((.t 76), .id)]), zv 78 (.iad 3 (.t 67) (.t 68)), zn (.st 3 (.agg [.id, .id, (.sl 3)]) (.t 78) (.t 77))]
def qbea : IC := zr [zv 79 (.bin .add .no (.t 58) (zc 1)), zm 58 79]
def qbgx : IC := (.seq q80 (.seq (.cond (.t 59) .skip (.exit 0)) (.seq (.block 1 (.seq qbit (.seq (.seq q8d (.cond (.t 65) (.seq qbgq .ret) .skip)) qbaq))) qbea)))
def q95 : IC := zr [zm 80 9, zv 81 (.fad (.t 4) 2), zn (.st 1 (.sl 3) (.t 81) (.t 80))]
def qbcv : IC := zr [zv 82 (.ld true 3 (.t 4)), zn (.st 3 (.agg [.id, .id, (.sl 3)]) (.t 6) (.t 82))]
def k0u : IC := (.seq qbpk (.seq (.seq qboz (.cond (.t 13) (.seq qbqx (.seq qbtn (.cond (.t 24) (.seq qbva (.seq (.seq qbnk (.cond (.t 38) qbrx .skip)) (.seq qbp2 .ret))) .skip))) .skip)) (.seq qbpt (.seq qbpb (.seq (.seq qblt (.block 0 (.loop qbgx))) (.seq q95 (.seq qbcv .ret)))))))
@[go_sem] def s0u : List (RV × Co) := [(.c true 3 6, (.agg [.id, .id, (.sl 3)]))]
theorem c0u : cFun Tryz.prog 38 = some (83, k0u, s0u) := by kernel_rfl

def qba8 : IC := zr [zi 3 (.box (.t 0)), zv 6 (.mov (zc 0))]
def qbkp : IC := zr [zm 8 1, zv 9 (.bin .sub .no (.t 8) (zc 1)), zm 1 9]
def qbkd : IC := zr [zm 10 2, zv 11 (.bin .lss .no (.t 10) (zc 1))]
def qber : IC := zr [zv 6 (.mov (zc (-1)))]
def qbmp : IC := zr [zv 7 (.mov (zc 0))]
def qbiw : IC := zr [zm 12 7, zv 13 (.fad (.t 3) 2), zv 14 (.ld false 1 (.t 13)), zv 15 (.len false (.t 14)), zv 16 (.bin .lss .no (.t 12) (.t 15)), zm 17 16, zw 17 true 18 (.mov (.t 1)), zw 17 true 19 (.bin .geq .no (.t 18) (zc 0)), zv 20 (.pick (.t 17) (.t 19) (.c (.bool false)))]
def qbkm : IC := zr [zv 23 (.fad (.t 3) 2), zv 24 (.ld false 1 (.t 23)), zm 25 7, zv 26 (.iad 3 (.t 24) (.t 25)), zv 27 (.ld true 3 (.t 26)), zm 28 1, zm 29 2, zv 30 (.bin .sub .no (.t 29) (zc 1)), zi 31 (.call (.c (.fn 40 [] [])) [((.t 27), (.agg [.id, .id, (.sl 3)])), ((.t 28), .id), ((.t 30), .id)]), zm 1 31]
def qbbc : IC := zr [zm 21 7, zv 22 (.bin .add .no (.t 21) (zc 1)), zm 7 22]
def qbdz : IC := (.seq (.seq qbiw (.cond (.t 20) .skip (.exit 0))) (.seq (.block 1 qbkm) qbbc))
def q2w : IC := zr [zm 32 1, zm 6 32]
def k0bq : IC := (.seq qba8 (.seq qbkp (.seq (.seq qbkd (.cond (.t 11) (.seq qber .ret) .skip)) (.seq (.seq qbmp (.block 0 (.loop qbdz))) (.seq q2w .ret)))))
@[go_sem] def s0bq : List (RV × Co) := [(.t 6, .id)]
theorem c0bq : cFun Tryz.prog 40 = some (33, k0bq, s0bq) := by kernel_rfl

def q8w : IC := zr [zi 2 (.alo [(.str []), (.int .i64 0), .nils]), zv 3 (.mov (zc 0))]
def qbi2 : IC := zr [zm 6 0, zv 7 (.bld [(.str []), (.int .i64 0), (.bool false)] [(0, 1, (.t 6))]), zi 8 (.box (.t 7)), zm 4 8]
def qbg5 : IC := zr [zm 9 4, zi 10 (.call (.c (.fn 63 [] [])) [((.t 9), .id)]), zi 5 (.alo [(.str []), (.int .i64 0), .nils]), zn (.st 3 (.agg [.id, .id, (.sl 3)]) (.t 5) (.t 10))]
def qbfo : IC := zr [zm 11 4, zv 12 (.nck (.t 11)), zv 13 (.fad (.t 12) 2), zv 14 (.ld false 1 (.t 13)), zm 15 14, zw 15 false 16 (.mov (.t 4)), zw 15 false 17 (.nck (.t 16)), zw 15 false 18 (.fad (.t 17) 0), zw 15 false 19 (.ld false 1 (.t 18)), zw 15 false 20 (.bin .neq .no (.t 19) (.c (.str []))), zv 21 (.pick (.t 15) (.c (.bool true)) (.t 20)), zm 22 21, zw 22 false 23 (.ld true 3 (.t 5)), ⟨some (22, false), some 24, .call (.c (.fn 64 [] [])) [((.t 23), (.agg [.id, .id, (.sl 3)]))]⟩, zw 22 false 25 (.mov (.t 0)), zw 22 false 26 (.bin .neq .no (.t 24) (.t 25)), zv 27 (.pick (.t 22) (.c (.bool true)) (.t 26))]
def qbl6 : IC := zr [zv 28 (.bld [(.str []), (.int .i64 0), .nils] []), zn (.st 3 (.agg [.id, .id, (.sl 3)]) (.t 2) (.t 28)), zv 3 (.mov (zc 5))]
def qbkz : IC := zr [zv 29 (.ld true 3 (.t 5)), zn (.st 3 (.agg [.id, .id, (.sl 3)]) (.t 2) (.t 29)), zv 3 (.mov (zc 0))]
def k0dm : IC := (.seq q8w (.seq qbi2 (.seq qbg5 (.seq (.seq qbfo (.cond (.t 27) (.seq qbl6 .ret) .skip)) (.seq qbkz .ret)))))
@[go_sem] def s0dm : List (RV × Co) := [(.c true 3 2, (.agg [.id, .id, (.sl 3)])), (.t 3, .id)]
theorem c0dm : cFun Tryz.prog 41 = some (30, k0dm, s0dm) := by kernel_rfl

def qbum : IC := zr [zv 4 (.mov (zc 0)), zv 5 zf]
def qbtm : IC := zr [zm 6 0, zv 7 (.nck (.t 6)), zv 8 (.fad (.t 7) 0), zv 9 (.ld false 1 (.t 8)), zm 10 1, zi 11 (.call (.c (.fn 65 [] [])) [((.t 9), (.sl 4)), ((.t 10), .id), ((.c (.fn 66 [] [])), .id)]), zv 12 (.ext (.t 11) 0), zv 13 (.ext (.t 11) 1), zm 4 12, zm 5 13]
def k0y : IC := (.seq qbum (.seq qbtm .ret))
@[go_sem] def s0y : List (RV × Co) := [(.t 4, .id), (.t 5, .id)]
theorem c0y : cFun Tryz.prog 42 = some (14, k0y, s0y) := by kernel_rfl

def qbu0 : IC := zr [zv 4 (.mov (.c .nilp)), zv 5 (.mov (zc 0))]
def qbod : IC := zr [zi 13 (.call (.c (.fn 18 [] [])) [((.c .nils), (.sl 4))]), zm 6 13]
def qbt0 : IC := zr [zm 14 0, zi 15 (.call (.c (.fn 12 [] [])) [((.t 14), .id)]), zv 16 (.len false (.t 15)), zv 17 (.mov (zc 0))]
def qboo : IC := zr [zv 18 (.bin .lss .no (.t 17) (.t 16))]
def qbu2 : IC := zr [zv 19 (.iad 4 (.t 15) (.t 17)), zv 20 (.ld true 4 (.t 19)), zi 8 (.alo [(.int .i64 0), (.str []), (.int .i64 0), .nils]), zn (.st 4 (.agg [.id, .id, .id, (.sl 3)]) (.t 8) (.t 20))]
def qboh : IC := zr [zm 22 1, zv 23 (.fad (.t 8) 1), zv 24 (.ld true 3 (.t 23)), zi 25 (.call (.c (.fn 19 [] [])) [((.t 22), .id), ((.t 24), (.agg [.id, .id, (.sl 3)]))]), zm 21 25, zv 26 (.ext (.t 21) 0), zv 27 (.ext (.t 21) 1), zi 9 (.alo [(.str []), (.int .i64 0), .nils]), zn (.st 3 (.agg [.id, .id, (.sl 3)]) (.t 9) (.t 26)), zm 10 27]
def qbpi : IC := zr [zm 28 10, zv 29 (.bin .neq .no (.t 28) (zc 0))]
def qbuz : IC := zr [zm 30 10, zv 4 (.mov (.c .nilp)), zm 5 30]
def qbo1 : IC := zr [zm 31 6, zv 32 (.fad (.t 8) 0), zv 33 (.ld false 1 (.t 32)), zv 34 (.ld true 3 (.t 9)), zi 35 (.call (.c (.fn 36 [] [])) [((.t 31), .id), ((.t 33), .id), ((.t 34), (.agg [.id, .id, (.sl 3)]))])]
def q9j : IC := zr [zv 36 (.bin .add .no (.t 17) (zc 1)), zm 17 36]
def qbqo : IC := (.seq qboo (.seq (.cond (.t 18) .skip (.exit 0)) (.seq (.block 1 (.seq qbu2 (.seq qboh (.seq (.seq qbpi (.cond (.t 29) (.seq qbuz .ret) .skip)) qbo1)))) q9j)))
def qbd5 : IC := zr [zm 37 1, zi 38 (.call (.c (.fn 12 [] [])) [((.t 37), .id)]), zv 39 (.len false (.t 38)), zv 40 (.mov (zc 0))]
def qbf4 : IC := zr [zv 41 (.bin .lss .no (.t 40) (.t 39))]
def qbhz : IC := zr [zv 42 (.iad 4 (.t 38) (.t 40)), zv 43 (.ld true 4 (.t 42)), zi 12 (.alo [(.int .i64 0), (.str []), (.int .i64 0), .nils]), zn (.st 4 (.agg [.id, .id, .id, (.sl 3)]) (.t 12) (.t 43))]
def qbf9 : IC := zr [zm 44 6, zv 45 (.fad (.t 12) 0), zv 46 (.ld false 1 (.t 45)), zv 47 (.fad (.t 12) 1), zv 48 (.ld true 3 (.t 47)), zi 49 (.call (.c (.fn 36 [] [])) [((.t 44), .id), ((.t 46), .id), ((.t 48), (.agg [.id, .id, (.sl 3)]))])]
def q7s : IC := zr [zv 50 (.bin .add .no (.t 40) (zc 1)), zm 40 50]
def qbay : IC := (.seq qbf4 (.seq (.cond (.t 41) .skip (.exit 2)) (.seq (.block 3 (.seq qbhz qbf9)) q7s)))
def qbmn : IC := zr [zm 51 6, zm 4 51, zv 5 (.mov (zc 0))]
def k0q : IC := (.seq qbu0 (.seq qbod (.seq (.seq qbt0 (.block 0 (.loop qbqo))) (.seq (.seq qbd5 (.block 2 (.loop qbay))) (.seq qbmn .ret)))))
@[go_sem] def s0q : List (RV × Co) := [(.t 4, .id), (.t 5, .id)]
theorem c0q : cFun Tryz.prog 43 = some (52, k0q, s0q) := by kernel_rfl

def qbqa : IC := zr [zm 5 1, zv 6 (.len false (.t 5)), zv 7 (.bin .sub .no (.t 6) (zc 1)), zm 4 7]
def qboc : IC := zr [zm 8 4, zv 9 (.bin .geq .no (.t 8) (zc 0))]
def qbo3 : IC := .drw [zp (zm 12 0), zp (zm 13 0), zp (zv 14 (.nck (.t 13))), zp (zv 15 (.fad (.t 14) 0)), zp (zv 16 (.ld false 1 (.t 15))), zp (zm 17 1), zp (zm 18 4), zp (zv 19 (.iad 6 (.t 17) (.t 18))), zp (zv 20 (.ld true 6 (.t 19))), (zv 21 (.bsl 6 [((.t 20), (.agg [.id, .id, (.sl 3), .id, .id, (.sl 3)]))]), []), (zi 22 (.app 6 (.agg [(.str []), (.int .i64 0), .nils, (.str []), (.int .i64 0), .nils]) 96 (.sl 6) (.t 16) (.t 21)), []), zp (zv 23 (.nck (.t 12))), zp (zv 24 (.fad (.t 23) 0)), (zn (.st 1 (.sl 6) (.t 24) (.t 22)), [])]
def qbrc : IC := zr [zm 10 4, zv 11 (.bin .sub .no (.t 10) (zc 1)), zm 4 11]
def qbtb : IC := (.seq (.seq qboc (.cond (.t 9) .skip (.exit 0))) (.seq (.block 1 qbo3) qbrc))
def k0o : IC := (.seq qbqa (.block 0 (.loop qbtb)))
@[go_sem] def s0o : List (RV × Co) := []
theorem c0o : cFun Tryz.prog 44 = some (25, k0o, s0o) := by kernel_rfl

def qbm8 : IC := zr [zi 2 (.alo [(.str []), (.int .i64 0), .nils, (.str []), (.int .i64 0), .nils]), zv 3 zf]
def qbsy : IC := zr [zi 4 (.alo [(.str []), (.int .i64 0), .nils, (.str []), (.int .i64 0), .nils])]
def qbur : IC := zr [zm 6 0, zv 7 (.nck (.t 6)), zv 8 (.fad (.t 7) 0), zv 9 (.ld false 1 (.t 8)), zv 10 (.len false (.t 9)), zv 11 (.bin .sub .no (.t 10) (zc 1)), zm 5 11]
def qbna : IC := zr [zm 12 5, zv 13 (.bin .lss .no (.t 12) (zc 0))]
def qbua : IC := zr [zv 14 (.ld true 6 (.t 4)), zn (.st 6 (.agg [.id, .id, (.sl 3), .id, .id, (.sl 3)]) (.t 2) (.t 14)), zv 3 zf]
def qbso : IC := zr [zm 15 0, zv 16 (.nck (.t 15)), zv 17 (.fad (.t 16) 0), zv 18 (.ld false 1 (.t 17)), zm 19 5, zv 20 (.iad 6 (.t 18) (.t 19)), zv 21 (.ld true 6 (.t 20)), zn (.st 6 (.agg [.id, .id, (.sl 3), .id, .id, (.sl 3)]) (.t 4) (.t 21))]
def qbmw : IC := zr [zm 22 0, zm 23 0, zv 24 (.nck (.t 23)), zv 25 (.fad (.t 24) 0), zv 26 (.ld false 1 (.t 25)), zm 27 5, zv 28 (.slv 6 (.t 26) none (some (.t 27)) none), zv 29 (.nck (.t 22)), zv 30 (.fad (.t 29) 0), zn (.st 1 (.sl 6) (.t 30) (.t 28))]
def qbsc : IC := zr [zv 31 (.ld true 6 (.t 4)), zn (.st 6 (.agg [.id, .id, (.sl 3), .id, .id, (.sl 3)]) (.t 2) (.t 31)), zv 3 (.mov (.c (.bool true)))]
def k0p : IC := (.seq qbm8 (.seq qbsy (.seq qbur (.seq (.seq qbna (.cond (.t 13) (.seq qbua .ret) .skip)) (.seq qbso (.seq qbmw (.seq qbsc .ret)))))))
@[go_sem] def s0p : List (RV × Co) := [(.c true 6 2, (.agg [.id, .id, (.sl 3), .id, .id, (.sl 3)])), (.t 3, .id)]
theorem c0p : cFun Tryz.prog 45 = some (32, k0p, s0p) := by kernel_rfl

def qbm3 : IC := zr [zi 4 (.box (.t 1)), zv 6 (.mov (.c .nilp)), zv 7 (.mov (zc 0))]
def qbp5 : IC := zr [zm 12 0, zv 13 (.fad (.t 4) 0), zv 14 (.ld true 3 (.t 13)), zi 15 (.call (.c (.fn 19 [] [])) [((.t 12), .id), ((.t 14), (.agg [.id, .id, (.sl 3)]))]), zm 11 15, zv 16 (.ext (.t 11) 0), zv 17 (.ext (.t 11) 1), zi 8 (.alo [(.str []), (.int .i64 0), .nils]), zn (.st 3 (.agg [.id, .id, (.sl 3)]) (.t 8) (.t 16)), zm 9 17]
def qbsf : IC := zr [zm 18 9, zv 19 (.bin .neq .no (.t 18) (zc 0))]
def qbmz : IC := zr [zm 20 9, zv 6 (.mov (.c .nilp)), zm 7 20]
def qbrs : IC := zr [zm 22 0, zv 23 (.fad (.t 4) 3), zv 24 (.ld true 3 (.t 23)), zi 25 (.call (.c (.fn 19 [] [])) [((.t 22), .id), ((.t 24), (.agg [.id, .id, (.sl 3)]))]), zm 21 25, zv 26 (.ext (.t 21) 0), zv 27 (.ext (.t 21) 1), zi 10 (.alo [(.str []), (.int .i64 0), .nils]), zn (.st 3 (.agg [.id, .id, (.sl 3)]) (.t 10) (.t 26)), zm 9 27]
def qbp0 : IC := zr [zm 29 9, zv 30 (.bin .neq .no (.t 29) (zc 0)), zm 28 30]
def qbn3 : IC := zr [zm 31 9, zv 6 (.mov (.c .nilp)), zm 7 31]
def qbux : IC := zr [zv 33 (.fad (.t 8) 0), zv 34 (.ld false 1 (.t 33)), zv 35 (.bin .eql .no (.t 34) (.c (.str []))), zm 32 35]
def qbvd : IC := zr [zm 36 0, zv 37 (.fad (.t 8) 1), zv 38 (.ld false 1 (.t 37)), zv 39 (.ld true 3 (.t 10)), zi 40 (.call (.c (.fn 67 [] [])) [((.t 36), .id), ((.t 38), .id), ((.t 39), (.agg [.id, .id, (.sl 3)]))]), zv 41 (.ext (.t 40) 0), zv 42 (.ext (.t 40) 1), zm 6 41, zm 7 42]
def qbsd : IC := zr [zv 44 (.fad (.t 10) 0), zv 45 (.ld false 1 (.t 44)), zv 46 (.bin .eql .no (.t 45) (.c (.str []))), zm 43 46]
def q8j : IC := zr [zm 47 0, zv 48 (.fad (.t 10) 1), zv 49 (.ld false 1 (.t 48)), zv 50 (.ld true 3 (.t 8)), zi 51 (.call (.c (.fn 67 [] [])) [((.t 47), .id), ((.t 49), .id), ((.t 50), (.agg [.id, .id, (.sl 3)]))]), zv 52 (.ext (.t 51) 0), zv 53 (.ext (.t 51) 1), zm 6 52, zm 7 53]
def q99 : IC := zr [zv 55 (.fad (.t 8) 0), zv 56 (.ld false 1 (.t 55)), zv 57 (.fad (.t 10) 0), zv 58 (.ld false 1 (.t 57)), zv 59 (.bin .neq .no (.t 56) (.t 58)), zm 60 59, zw 60 false 61 (.fad (.t 8) 2), zw 60 false 62 (.ld false 1 (.t 61)), zw 60 false 63 (.len false (.t 62)), zw 60 false 64 (.fad (.t 10) 2), zw 60 false 65 (.ld false 1 (.t 64)), zw 60 false 66 (.len false (.t 65)), zw 60 false 67 (.bin .neq .no (.t 63) (.t 66)), zv 68 (.pick (.t 60) (.c (.bool true)) (.t 67)), zm 54 68]
def qbgz : IC := zr [zv 6 (.mov (.c .nilp)), zv 7 (.mov (zc 14))]
def q9a : IC := zr [zm 69 2, zv 70 (.fad (.t 8) 2), zv 71 (.ld false 1 (.t 70)), zv 72 (.fad (.t 10) 2), zv 73 (.ld false 1 (.t 72)), zi 74 (.call (.c (.fn 32 [] [])) [((.t 71), (.sl 3)), ((.t 73), (.sl 3))]), zi 75 (.call (.c (.fn 44 [] [])) [((.t 69), .id), ((.t 74), (.sl 6))])]
def qbhg : IC := zr [zm 76 0, zm 6 76, zv 7 (.mov (zc 0))]
def k0k : IC := (.seq qbm3 (.seq qbp5 (.seq (.seq qbsf (.cond (.t 19) (.seq qbmz .ret) .skip)) (.seq qbrs (.seq (.block 0 (.seq qbp0 (.cond (.t 28) (.seq qbn3 .ret) (.seq qbux (.cond (.t 32) (.seq qbvd .ret) (.seq qbsd (.cond (.t 43) (.seq q8j .ret) (.seq q99 (.cond (.t 54) (.seq qbgz .ret) .skip))))))))) (.seq q9a (.seq qbhg .ret)))))))
@[go_sem] def s0k : List (RV × Co) := [(.t 6, .id), (.t 7, .id)]
theorem c0k : cFun Tryz.prog 46 = some (77, k0k, s0k) := by kernel_rfl

def qbfk : IC := zr [zi 1 (.box (.t 0)), zv 2 (.mov (zc 0))]
def qbdt : IC := zr [zv 3 (.mov (zc 0))]
def qbh7 : IC := zr [zv 4 (.mov (zc 0))]
def qbe7 : IC := zr [zm 5 4, zv 6 (.fad (.t 1) 2), zv 7 (.ld false 1 (.t 6)), zv 8 (.len false (.t 7)), zv 9 (.bin .lss .no (.t 5) (.t 8))]
def qbjv : IC := zr [zm 12 3, zv 13 (.fad (.t 1) 2), zv 14 (.ld false 1 (.t 13)), zm 15 4, zv 16 (.iad 3 (.t 14) (.t 15)), zv 17 (.ld true 3 (.t 16)), zi 18 (.call (.c (.fn 47 [] [])) [((.t 17), (.agg [.id, .id, (.sl 3)]))]), zv 19 (.mm true (.t 12) (.t 18)), zm 3 19]
def q7j : IC := zr [zm 10 4, zv 11 (.bin .add .no (.t 10) (zc 1)), zm 4 11]
def qbaa : IC := (.seq (.seq qbe7 (.cond (.t 9) .skip (.exit 0))) (.seq (.block 1 qbjv) q7j))
def qbc0 : IC := zr [zm 20 3, zv 21 (.bin .add .no (.t 20) (zc 1)), zm 2 21]
def k0bo : IC := (.seq qbfk (.seq qbdt (.seq (.seq qbh7 (.block 0 (.loop qbaa))) (.seq qbc0 .ret))))
@[go_sem] def s0bo : List (RV × Co) := [(.t 2, .id)]
theorem c0bo : cFun Tryz.prog 47 = some (22, k0bo, s0bo) := by kernel_rfl

def qbbr : IC := zr [zi 1 (.box (.t 0)), zv 2 zf]
def qbfm : IC := zr [zv 3 (.mov (zc 0))]
def qbaz : IC := zr [zm 5 3, zv 6 (.fad (.t 1) 2), zv 7 (.ld false 1 (.t 6)), zv 8 (.len false (.t 7)), zv 9 (.bin .lss .no (.t 5) (.t 8))]
def qbba : IC := zr [zv 12 (.fad (.t 1) 2), zv 13 (.ld false 1 (.t 12)), zm 14 3, zv 15 (.iad 3 (.t 13) (.t 14)), zv 16 (.ld true 3 (.t 15)), zi 17 (.call (.c (.fn 48 [] [])) [((.t 16), (.agg [.id, .id, (.sl 3)]))]), zv 18 (.un .not (.t 17))]
def qbbz : IC := zr [zv 2 zf]
def q9t : IC := zr [zm 10 3, zv 11 (.bin .add .no (.t 10) (zc 1)), zm 3 11]
def qbjs : IC := (.seq (.seq qbaz (.cond (.t 9) .skip (.exit 0))) (.seq (.block 1 (.seq qbba (.cond (.t 18) (.seq qbbz .ret) .skip))) q9t))
def qblk : IC := zr [zv 19 (.fad (.t 1) 2), zv 20 (.ld false 1 (.t 19)), zv 21 (.len false (.t 20)), zm 4 21]
def q8e : IC := zr [zv 23 (.fad (.t 1) 0), zv 24 (.ld false 1 (.t 23)), zv 25 (.bin .eql .no (.t 24) (.c (.str []))), zm 22 25]
def q0l : IC := zr [zm 26 4, zv 27 (.bin .eql .no (.t 26) (zc 0)), zm 2 27]
def q2p : IC := zr [zv 29 (.fad (.t 1) 0), zv 30 (.ld false 1 (.t 29)), zv 31 (.bin .eql .no (.t 30) (.c (.str [45, 62]))), zm 28 31]
def q2r : IC := zr [zm 32 4, zv 33 (.bin .eql .no (.t 32) (zc 2)), zm 34 33, zw 34 true 35 (.fad (.t 1) 1), zw 34 true 36 (.ld false 1 (.t 35)), zw 34 true 37 (.bin .eql .no (.t 36) (zc 0)), zv 38 (.pick (.t 34) (.t 37) (.c (.bool false))), zm 2 38]
def q1x : IC := zr [zv 40 (.fad (.t 1) 0), zv 41 (.ld false 1 (.t 40)), zi 42 (.call (.c (.fn 68 [] [])) [((.t 41), .id)]), zm 39 42]
def q6p : IC := zr [zm 43 4, zv 44 (.bin .eql .no (.t 43) (zc 0)), zm 45 44, zw 45 true 46 (.fad (.t 1) 1), zw 45 true 47 (.ld false 1 (.t 46)), zw 45 true 48 (.bin .eql .no (.t 47) (zc 0)), zv 49 (.pick (.t 45) (.t 48) (.c (.bool false))), zm 2 49]
def q2x : IC := zr [zv 50 (.fad (.t 1) 0), zv 51 (.ld false 1 (.t 50)), zi 52 (.call (.c (.fn 69 [] [])) [((.t 51), .id)]), zm 53 52, zw 53 true 54 (.fad (.t 1) 1), zw 53 true 55 (.ld false 1 (.t 54)), zw 53 true 56 (.bin .eql .no (.t 55) (zc 0)), zv 57 (.pick (.t 53) (.t 56) (.c (.bool false))), zm 2 57]
def k0bp : IC := (.seq qbbr (.seq (.seq qbfm (.block 0 (.loop qbjs))) (.seq qblk (.seq (.block 2 (.seq q8e (.cond (.t 22) (.seq q0l .ret) (.seq q2p (.cond (.t 28) (.seq q2r .ret) (.seq q1x (.cond (.t 39) (.seq q6p .ret) .skip))))))) (.seq q2x .ret)))))
@[go_sem] def s0bp : List (RV × Co) := [(.t 2, .id)]
theorem c0bp : cFun Tryz.prog 48 = some (58, k0bp, s0bp) := by kernel_rfl

def qbgn : IC := zr [zi 3 (.box (.t 1)), zi 4 (.alo [(.str []), (.int .i64 0), .nils]), zv 5 (.mov (zc 0))]
def qbah : IC := zr [zv 7 (.ld true 3 (.t 3)), zi 8 (.call (.c (.fn 29 [] [])) [((.t 7), (.agg [.id, .id, (.sl 3)]))]), zv 9 (.un .not (.t 8))]
def qbkq : IC := zr [zv 10 (.bld [(.str []), (.int .i64 0), .nils] []), zn (.st 3 (.agg [.id, .id, (.sl 3)]) (.t 4) (.t 10)), zv 5 (.mov (zc 1))]
def qbh1 : IC := zr [zm 11 0, zv 12 (.ld true 3 (.t 3)), zi 13 (.call (.c (.fn 70 [] [])) [((.t 11), (.sl 4)), ((.t 12), (.agg [.id, .id, (.sl 3)]))]), zv 14 (.bin .gtr .no (.t 13) (zc 4096))]
def q9z : IC := zr [zv 15 (.bld [(.str []), (.int .i64 0), .nils] []), zn (.st 3 (.agg [.id, .id, (.sl 3)]) (.t 4) (.t 15)), zv 5 (.mov (zc 2))]
def qbas : IC := zr [zm 16 0, zv 17 (.ld true 3 (.t 3)), zi 18 (.call (.c (.fn 71 [] [])) [((.t 16), (.sl 4)), ((.t 17), (.agg [.id, .id, (.sl 3)]))]), zi 6 (.alo [(.str []), (.int .i64 0), .nils]), zn (.st 3 (.agg [.id, .id, (.sl 3)]) (.t 6) (.t 18))]
def qbet : IC := zr [zv 19 (.ld true 3 (.t 6)), zi 20 (.call (.c (.fn 29 [] [])) [((.t 19), (.agg [.id, .id, (.sl 3)]))]), zv 21 (.un .not (.t 20))]
def qblb : IC := zr [zv 22 (.bld [(.str []), (.int .i64 0), .nils] []), zn (.st 3 (.agg [.id, .id, (.sl 3)]) (.t 4) (.t 22)), zv 5 (.mov (zc 2))]
def qbid : IC := zr [zv 23 (.ld true 3 (.t 6)), zn (.st 3 (.agg [.id, .id, (.sl 3)]) (.t 4) (.t 23)), zv 5 (.mov (zc 0))]
def k0cz : IC := (.seq qbgn (.seq (.seq qbah (.cond (.t 9) (.seq qbkq .ret) .skip)) (.seq (.seq qbh1 (.cond (.t 14) (.seq q9z .ret) .skip)) (.seq qbas (.seq (.seq qbet (.cond (.t 21) (.seq qblb .ret) .skip)) (.seq qbid .ret))))))
@[go_sem] def s0cz : List (RV × Co) := [(.c true 3 4, (.agg [.id, .id, (.sl 3)])), (.t 5, .id)]
theorem c0cz : cFun Tryz.prog 49 = some (24, k0cz, s0cz) := by kernel_rfl

def qbam : IC := zr [zi 5 (.box (.t 2)), zv 6 (.mov (.c .nils)), zv 7 (.mov (zc 0))]
def qbf5 : IC := zr [zv 8 (.fad (.t 5) 0), zv 9 (.ld false 1 (.t 8)), zv 10 (.bin .eql .no (.t 9) (.c (.str []))), zm 11 10, zw 11 true 12 (.fad (.t 5) 1), zw 11 true 13 (.ld false 1 (.t 12)), zw 11 true 14 (.mov (.t 1)), zw 11 true 15 (.bin .eql .no (.t 13) (.t 14)), zv 16 (.pick (.t 11) (.t 15) (.c (.bool false)))]
def qbia : IC := zr [zm 17 0, zm 6 17, zv 7 (.mov (zc 0))]
def qbj8 : IC := zr [zv 18 (.ld true 3 (.t 5)), zm 19 1, zi 20 (.call (.c (.fn 72 [] [])) [((.t 18), (.agg [.id, .id, (.sl 3)])), ((.t 19), .id)])]
def q8r : IC := zr [zv 6 (.mov (.c .nils)), zv 7 (.mov (zc 15))]
def qbhq : IC := zr [zm 21 0, zm 22 1, zv 23 (.ld true 3 (.t 5)), zv 24 (.bld [(.int .i64 0), (.str []), (.int .i64 0), .nils] [(0, 1, (.t 22)), (1, 3, (.t 23))]), zv 25 (.bsl 4 [((.t 24), (.agg [.id, .id, .id, (.sl 3)]))]), zi 26 (.call (.c (.fn 73 [] [])) [((.t 21), (.sl 4)), ((.t 25), (.sl 4))]), zv 27 (.ext (.t 26) 0), zv 28 (.ext (.t 26) 1), zm 6 27, zm 7 28]
def k0dn : IC := (.seq qbam (.seq (.seq qbf5 (.cond (.t 16) (.seq qbia .ret) .skip)) (.seq (.seq qbj8 (.cond (.t 20) (.seq q8r .ret) .skip)) (.seq qbhq .ret))))
@[go_sem] def s0dn : List (RV × Co) := [(.t 6, (.sl 4)), (.t 7, .id)]
theorem c0dn : cFun Tryz.prog 50 = some (29, k0dn, s0dn) := by kernel_rfl

def q7z : IC := zr [zi 1 (.box (.t 0)), zv 2 (.mov (.c .nils))]
def qbkk : IC := zr [zi 3 (.alo [.nils])]
def qbd7 : IC := zr [zv 4 (.ld true 3 (.t 1)), zv 5 (.mfn 74 [] [(.t 3)]), zi 6 (.call (.c (.fn 56 [] [])) [((.t 4), (.agg [.id, .id, (.sl 3)])), ((zc 1), .id), ((.t 5), .id)])]
def q9d : IC := zr [zv 7 (.ld false 1 (.t 3)), zm 2 7]
def k0bz : IC := (.seq q7z (.seq qbkk (.seq qbd7 (.seq q9d .ret))))
@[go_sem] def s0bz : List (RV × Co) := [(.t 2, (.sl 1))]
theorem c0bz : cFun Tryz.prog 51 = some (8, k0bz, s0bz) := by kernel_rfl

def qbdq : IC := zr [zi 5 (.box (.t 2)), zv 6 (.mov (.c .nils)), zv 7 (.mov (zc 0))]
def q7h : IC := zr [zv 11 (.ld true 3 (.t 5)), zi 12 (.call (.c (.fn 29 [] [])) [((.t 11), (.agg [.id, .id, (.sl 3)]))]), zv 13 (.un .not (.t 12))]
def q9k : IC := zr [zm 14 0, zm 6 14, zv 7 (.mov (zc 1))]
def qbbb : IC := zr [zm 16 0, zm 17 1, zi 18 (.call (.c (.fn 62 [] [])) [((.t 16), (.sl 4)), ((.t 17), .id)]), zm 15 18, zv 19 (.ext (.t 15) 0), zv 20 (.ext (.t 15) 1), zi 8 (.alo [(.str []), (.int .i64 0), .nils]), zn (.st 3 (.agg [.id, .id, (.sl 3)]) (.t 8) (.t 19)), zm 9 20]
def qbhv : IC := zr [zm 21 9]
def q9w : IC := zr [zm 22 0, zm 6 22, zv 7 (.mov (zc 6))]
def qbib : IC := zr [zv 10 (.mov (zc 0))]
def qbdc : IC := zr [zm 23 10, zm 24 0, zv 25 (.len false (.t 24)), zv 26 (.bin .lss .no (.t 23) (.t 25)), zm 27 26, zw 27 true 28 (.mov (.t 0)), zw 27 true 29 (.mov (.t 10)), zw 27 true 30 (.iad 4 (.t 28) (.t 29)), zw 27 true 31 (.fad (.t 30) 0), zw 27 true 32 (.ld false 1 (.t 31)), zw 27 true 33 (.mov (.t 1)), zw 27 true 34 (.bin .lss .no (.t 32) (.t 33)), zv 35 (.pick (.t 27) (.t 34) (.c (.bool false)))]
def q8b : IC := zr [zm 36 10, zv 37 (.bin .add .no (.t 36) (zc 1)), zm 10 37]
def qbil : IC := (.seq (.seq qbdc (.cond (.t 35) .skip (.exit 0))) (.block 1 q8b))
def q1m : IC := .drw [zp (zm 38 0), zp (zm 39 10), zp (zv 40 (.slv 4 (.t 38) none (some (.t 39)) none)), (zi 41 (.app 4 (.agg [(.int .i64 0), (.str []), (.int .i64 0), .nils]) 56 (.sl 4) (.c .nils) (.t 40)), []), zp (zm 42 1), (zv 43 (.ld true 3 (.t 5)), [3]), (zv 44 (.bld [(.int .i64 0), (.str []), (.int .i64 0), .nils] [(0, 1, (.t 42)), (1, 3, (.t 43))]), []), (zv 45 (.bsl 4 [((.t 44), (.agg [.id, .id, .id, (.sl 3)]))]), [3]), (zi 46 (.app 4 (.agg [(.int .i64 0), (.str []), (.int .i64 0), .nils]) 56 (.sl 4) (.t 41) (.t 45)), []), zp (zm 47 0), zp (zm 48 10), (zv 49 (.slv 4 (.t 47) (some (.t 48)) none none), [3, 8]), (zi 50 (.app 4 (.agg [(.int .i64 0), (.str []), (.int .i64 0), .nils]) 56 (.sl 4) (.t 46) (.t 49)), []), zp (zm 6 50), zp (zv 7 (.mov (zc 0)))]
def k0bc : IC := (.seq qbdq (.seq (.seq q7h (.cond (.t 13) (.seq q9k .ret) .skip)) (.seq (.seq qbbb (.seq qbhv (.cond (.t 21) (.seq q9w .ret) .skip))) (.seq qbib (.seq (.block 0 (.loop qbil)) (.seq q1m .ret))))))
@[go_sem] def s0bc : List (RV × Co) := [(.t 6, (.sl 4)), (.t 7, .id)]
theorem c0bc : cFun Tryz.prog 53 = some (51, k0bc, s0bc) := by kernel_rfl

def qbd8 : IC := zr [zi 3 (.box (.t 0)), zv 6 zf]
def qbli : IC := zr [zm 9 2, zv 10 (.ld true 3 (.t 3)), zm 11 1, zi 12 (.call (.t 9) [((.t 10), (.agg [.id, .id, (.sl 3)])), ((.t 11), .id)]), zv 13 (.un .not (.t 12))]
def qbg3 : IC := zr [zv 6 zf]
def q75 : IC := zr [zv 14 (.fad (.t 3) 2), zv 15 (.ld false 1 (.t 14)), zv 16 (.len false (.t 15)), zv 17 (.mov (zc 0))]
def qbal : IC := zr [zv 18 (.bin .lss .no (.t 17) (.t 16))]
def qbcr : IC := zr [zv 19 (.iad 3 (.t 15) (.t 17)), zv 20 (.ld true 3 (.t 19)), zi 8 (.alo [(.str []), (.int .i64 0), .nils]), zn (.st 3 (.agg [.id, .id, (.sl 3)]) (.t 8) (.t 20))]
def qbdo : IC := zr [zv 21 (.ld true 3 (.t 8)), zm 22 1, zv 23 (.bin .add .no (.t 22) (zc 1)), zm 24 2, zi 25 (.call (.c (.fn 56 [] [])) [((.t 21), (.agg [.id, .id, (.sl 3)])), ((.t 23), .id), ((.t 24), .id)]), zv 26 (.un .not (.t 25))]
def qbfy : IC := zr [zv 6 zf]
def qbg9 : IC := zr [zv 27 (.bin .add .no (.t 17) (zc 1)), zm 17 27]
def qbhc : IC := (.seq qbal (.seq (.cond (.t 18) .skip (.exit 0)) (.seq (.block 1 (.seq qbcr (.seq qbdo (.cond (.t 26) (.seq qbfy .ret) .skip)))) qbg9)))
def q2f : IC := zr [zv 6 (.mov (.c (.bool true)))]
def k0cf : IC := (.seq qbd8 (.seq (.seq qbli (.cond (.t 13) (.seq qbg3 .ret) .skip)) (.seq (.seq q75 (.block 0 (.loop qbhc))) (.seq q2f .ret))))
@[go_sem] def s0cf : List (RV × Co) := [(.t 6, .id)]
theorem c0cf : cFun Tryz.prog 56 = some (28, k0cf, s0cf) := by kernel_rfl

def qbcp : IC := zr [zi 3 (.box (.t 0)), zv 5 zf]
def q81 : IC := zr [zv 6 (.ld false 1 (.t 2)), zv 7 (.bin .add .no (.t 6) (zc 1)), zn (.st 1 .id (.t 2) (.t 7))]
def qbj6 : IC := zr [zv 8 (.ld false 1 (.t 2)), zv 9 (.bin .leq .no (.t 8) (zc 4096)), zm 10 9, zw 10 true 11 (.mov (.t 1)), zw 10 true 12 (.bin .leq .no (.t 11) (zc 100)), zv 13 (.pick (.t 10) (.t 12) (.c (.bool false))), zm 14 13, zw 14 true 15 (.ld true 3 (.t 3)), ⟨some (14, true), some 16, .call (.c (.fn 58 [] [])) [((.t 15), (.agg [.id, .id, (.sl 3)]))]⟩, ⟨some (14, true), some 17, .call (.c (.fn 59 [] [])) [((.t 16), .id)]⟩, zv 18 (.pick (.t 14) (.t 17) (.c (.bool false))), zm 5 18]
def k0bh : IC := (.seq qbcp (.seq q81 (.seq qbj6 .ret)))
@[go_sem] def s0bh : List (RV × Co) := [(.t 5, .id)]
theorem c0bh : cFun Tryz.prog 57 = some (19, k0bh, s0bh) := by kernel_rfl

def qbko : IC := zr [zi 1 (.box (.t 0)), zi 2 (.alo [(.str []), (.int .i64 0), (.int .i64 0)])]
def qbdi : IC := zr [zv 3 (.fad (.t 1) 0), zv 4 (.ld false 1 (.t 3)), zv 5 (.fad (.t 1) 1), zv 6 (.ld false 1 (.t 5)), zv 7 (.fad (.t 1) 2), zv 8 (.ld false 1 (.t 7)), zv 9 (.len false (.t 8)), zv 10 (.bld [(.str []), (.int .i64 0), (.int .i64 0)] [(0, 1, (.t 4)), (1, 1, (.t 6)), (2, 1, (.t 9))]), zn (.st 3 .id (.t 2) (.t 10))]
def k0ca : IC := (.seq qbko (.seq qbdi .ret))
@[go_sem] def s0ca : List (RV × Co) := [(.c true 3 2, .id)]
theorem c0ca : cFun Tryz.prog 58 = some (11, k0ca, s0ca) := by kernel_rfl

def q82 : IC := zr [zi 1 (.box (.t 0)), zv 2 zf]
def qbdd : IC := zr [zv 4 (.fad (.t 1) 0), zv 5 (.ld false 1 (.t 4)), zv 6 (.bin .eql .no (.t 5) (.c (.str []))), zm 3 6]
def qbi5 : IC := zr [zv 7 (.fad (.t 1) 2), zv 8 (.ld false 1 (.t 7)), zv 9 (.bin .eql .no (.t 8) (zc 0)), zm 2 9]
def qbkj : IC := zr [zv 11 (.fad (.t 1) 0), zv 12 (.ld false 1 (.t 11)), zv 13 (.bin .eql .no (.t 12) (.c (.str [45, 62]))), zm 10 13]
def q72 : IC := zr [zv 14 (.ld true 3 (.t 1)), zv 15 (.bld [(.str []), (.int .i64 0), (.int .i64 0)] [(0, 1, (.c (.str [45, 62]))), (1, 1, (zc 0)), (2, 1, (zc 2))]), zv 16 (.bin .eql (.cells [.str, (.int .i64), (.int .i64)]) (.t 14) (.t 15)), zm 2 16]
def q9o : IC := zr [zv 18 (.fad (.t 1) 0), zv 19 (.ld false 1 (.t 18)), zi 20 (.call (.c (.fn 80 [] [])) [((.t 19), .id)]), zm 17 20]
def qbg6 : IC := zr [zv 21 (.ld true 3 (.t 1)), zv 22 (.fad (.t 1) 0), zv 23 (.ld false 1 (.t 22)), zv 24 (.bld [(.str []), (.int .i64 0), (.int .i64 0)] [(0, 1, (.t 23))]), zv 25 (.bin .eql (.cells [.str, (.int .i64), (.int .i64)]) (.t 21) (.t 24)), zm 2 25]
def qbjn : IC := zr [zv 26 (.fad (.t 1) 1), zv 27 (.ld false 1 (.t 26)), zv 28 (.bin .eql .no (.t 27) (zc 0)), zm 29 28, zw 29 true 30 (.fad (.t 1) 0), zw 29 true 31 (.ld false 1 (.t 30)), ⟨some (29, true), some 32, .call (.c (.fn 81 [] [])) [((.t 31), .id)]⟩, zv 33 (.pick (.t 29) (.t 32) (.c (.bool false))), zm 2 33]
def k0ce : IC := (.seq q82 (.seq (.block 0 (.seq qbdd (.cond (.t 3) (.seq qbi5 .ret) (.seq qbkj (.cond (.t 10) (.seq q72 .ret) (.seq q9o (.cond (.t 17) (.seq qbg6 .ret) .skip))))))) (.seq qbjn .ret)))
@[go_sem] def s0ce : List (RV × Co) := [(.t 2, .id)]
theorem c0ce : cFun Tryz.prog 59 = some (34, k0ce, s0ce) := by kernel_rfl

def qbkg : IC := zr [zi 1 (.box (.t 0)), zv 2 (.mov (zc 0))]
def qbgo : IC := zr [zi 3 (.alo [(.int .i64 0)]), zn (.st 1 .id (.t 3) (zc 0))]
def qben : IC := zr [zv 4 (.ld true 3 (.t 1)), zv 5 (.mfn 82 [] [(.t 3)]), zi 6 (.call (.c (.fn 56 [] [])) [((.t 4), (.agg [.id, .id, (.sl 3)])), ((zc 1), .id), ((.t 5), .id)])]
def qblv : IC := zr [zv 7 (.ld false 1 (.t 3)), zm 2 7]
def k0bl : IC := (.seq qbkg (.seq qbgo (.seq qben (.seq qblv .ret))))
@[go_sem] def s0bl : List (RV × Co) := [(.t 2, .id)]
theorem c0bl : cFun Tryz.prog 60 = some (8, k0bl, s0bl) := by kernel_rfl

def q7m : IC := zr [zi 1 (.box (.t 0)), zv 2 (.mov (zc 0))]
def qbd6 : IC := zr [zi 3 (.alo [(.int .i64 0)]), zn (.st 1 .id (.t 3) (zc 0))]
def qbkx : IC := zr [zv 4 (.ld true 3 (.t 1)), zv 5 (.mfn 83 [] [(.t 3)]), zi 6 (.call (.c (.fn 56 [] [])) [((.t 4), (.agg [.id, .id, (.sl 3)])), ((zc 1), .id), ((.t 5), .id)])]
def qbhk : IC := zr [zv 7 (.ld false 1 (.t 3)), zm 2 7]
def k0bm : IC := (.seq q7m (.seq qbd6 (.seq qbkx (.seq qbhk .ret))))
@[go_sem] def s0bm : List (RV × Co) := [(.t 2, .id)]
theorem c0bm : cFun Tryz.prog 61 = some (8, k0bm, s0bm) := by kernel_rfl

def qbly : IC := zr [zi 4 (.alo [(.str []), (.int .i64 0), .nils]), zv 5 zf]
def qbcw : IC := zr [zv 6 (.mov (zc 0))]
def qbcm : IC := zr [zm 7 6, zm 8 0, zv 9 (.len false (.t 8)), zv 10 (.bin .lss .no (.t 7) (.t 9))]
def qbik : IC := zr [zm 13 0, zm 14 6, zv 15 (.iad 4 (.t 13) (.t 14)), zv 16 (.fad (.t 15) 0), zv 17 (.ld false 1 (.t 16)), zm 18 1, zv 19 (.bin .eql .no (.t 17) (.t 18))]
def qbgk : IC := zr [zm 20 0, zm 21 6, zv 22 (.iad 4 (.t 20) (.t 21)), zv 23 (.fad (.t 22) 1), zv 24 (.ld true 3 (.t 23)), zn (.st 3 (.agg [.id, .id, (.sl 3)]) (.t 4) (.t 24)), zv 5 (.mov (.c (.bool true)))]
def qbaf : IC := zr [zm 11 6, zv 12 (.bin .add .no (.t 11) (zc 1)), zm 6 12]
def qbd2 : IC := (.seq (.seq qbcm (.cond (.t 10) .skip (.exit 0))) (.seq (.block 1 (.seq qbik (.cond (.t 19) (.seq qbgk .ret) .skip))) qbaf))
def qbfa : IC := zr [zv 25 (.bld [(.str []), (.int .i64 0), .nils] []), zn (.st 3 (.agg [.id, .id, (.sl 3)]) (.t 4) (.t 25)), zv 5 zf]
def k0bb : IC := (.seq qbly (.seq (.seq qbcw (.block 0 (.loop qbd2))) (.seq qbfa .ret)))
@[go_sem] def s0bb : List (RV × Co) := [(.c true 3 4, (.agg [.id, .id, (.sl 3)])), (.t 5, .id)]
theorem c0bb : cFun Tryz.prog 62 = some (26, k0bb, s0bb) := by kernel_rfl

def qbfg : IC := zr [zi 1 (.box (.t 0)), zi 2 (.alo [(.str []), (.int .i64 0), .nils])]
def q76 : IC := zr [zv 4 (.ld false 1 (.t 1)), zv 5 (.nck (.t 4)), zv 6 (.fad (.t 5) 1), zv 7 (.ld false 1 (.t 6)), zv 8 (.bin .add .no (.t 7) (zc 1)), zv 9 (.nck (.t 4)), zv 10 (.fad (.t 9) 1), zn (.st 1 .id (.t 10) (.t 8))]
def q7o : IC := zr [zv 11 (.ld false 1 (.t 1)), zv 12 (.nck (.t 11)), zv 13 (.fad (.t 12) 1), zv 14 (.ld false 1 (.t 13)), zv 15 (.bin .gtr .no (.t 14) (zc 200))]
def qbb5 : IC := zr [zv 16 (.ld false 1 (.t 1)), zv 17 (.nck (.t 16)), zv 18 (.fad (.t 17) 2), zn (.st 1 .id (.t 18) (.c (.bool true)))]
def qbf8 : IC := .dfr [zv 19 (.mfn 84 [] [(.t 1)])] (.t 19)
def qbfu : IC := zr [zv 20 (.ld false 1 (.t 1)), zv 21 (.nck (.t 20)), zv 22 (.fad (.t 21) 2), zv 23 (.ld false 1 (.t 22))]
def qbc8 : IC := zr [zv 24 (.bld [(.str []), (.int .i64 0), .nils] []), zn (.st 3 (.agg [.id, .id, (.sl 3)]) (.t 2) (.t 24))]
def qbb4 : IC := zr [zv 25 (.ld false 1 (.t 1)), zi 26 (.call (.c (.fn 85 [] [])) [((.t 25), .id)]), zi 3 (.alo [(.str []), (.int .i64 0), .nils]), zn (.st 3 (.agg [.id, .id, (.sl 3)]) (.t 3) (.t 26))]
def q9n : IC := zr [zv 27 (.ld false 1 (.t 1)), zv 28 (.nck (.t 27)), zv 29 (.fad (.t 28) 2), zv 30 (.ld false 1 (.t 29)), zv 31 (.un .not (.t 30)), zm 32 31, zw 32 true 33 (.ld false 1 (.t 1)), zw 32 true 34 (.nck (.t 33)), zw 32 true 35 (.fad (.t 34) 0), zw 32 true 36 (.ld false 1 (.t 35)), ⟨some (32, true), some 37, .call (.c (.fn 86 [] [])) [((.t 36), .id), ((.c (.str [32, 45, 62, 32])), .id)]⟩, zw 32 true 38 (.un .not (.t 37)), zv 39 (.pick (.t 32) (.t 38) (.c (.bool false))), zm 40 39, zw 40 true 41 (.ld false 1 (.t 1)), ⟨some (40, true), some 42, .call (.c (.fn 87 [] [])) [((.t 41), .id), ((.c (.str [32])), .id)]⟩, zv 43 (.pick (.t 40) (.t 42) (.c (.bool false)))]
def q6n : IC := .drw [zp (zv 44 (.fad (.t 3) 2)), zp (zv 45 (.ld false 1 (.t 44))), (zi 46 (.call (.c (.fn 88 [] [])) [((.t 45), (.sl 3))]), []), (zv 47 (.ld false 1 (.t 1)), [2]), (zi 48 (.call (.c (.fn 85 [] [])) [((.t 47), .id)]), []), (zv 49 (.bsl 3 [((.t 48), (.agg [.id, .id, (.sl 3)]))]), []), (zi 50 (.app 3 (.agg [(.str []), (.int .i64 0), .nils]) 48 (.sl 3) (.t 46) (.t 49)), []), zp (zv 51 (.fad (.t 3) 2)), (zn (.st 1 (.sl 3) (.t 51) (.t 50)), [])]
def qm6 : IC := (.seq (.seq q9n (.cond (.t 43) .skip (.exit 0))) (.block 1 q6n))
def q3a : IC := zr [zv 52 (.ld false 1 (.t 1)), zv 53 (.nck (.t 52)), zv 54 (.fad (.t 53) 2), zv 55 (.ld false 1 (.t 54)), zv 56 (.un .not (.t 55)), zm 57 56, zw 57 true 58 (.ld false 1 (.t 1)), ⟨some (57, true), some 59, .call (.c (.fn 87 [] [])) [((.t 58), .id), ((.c (.str [32, 45, 62, 32])), .id)]⟩, zv 60 (.pick (.t 57) (.t 59) (.c (.bool false)))]
def q0t : IC := .drw [zp (zv 61 (.ld true 3 (.t 3))), zp (zv 62 (.ld false 1 (.t 1))), (zi 63 (.call (.c (.fn 63 [] [])) [((.t 62), .id)]), [0]), (zv 64 (.bsl 3 [((.t 61), (.agg [.id, .id, (.sl 3)])), ((.t 63), (.agg [.id, .id, (.sl 3)]))]), []), (zv 65 (.bld [(.str []), (.int .i64 0), .nils] [(0, 1, (.c (.str [45, 62]))), (2, 1, (.t 64))]), []), (zn (.st 3 (.agg [.id, .id, (.sl 3)]) (.t 2) (.t 65)), [])]
def q6m : IC := zr [zv 66 (.ld true 3 (.t 3)), zn (.st 3 (.agg [.id, .id, (.sl 3)]) (.t 2) (.t 66))]
def k0dl : IC := (.seq qbfg (.seq (.seq q76 (.seq q7o (.cond (.t 15) qbb5 .skip))) (.seq qbf8 (.seq (.seq qbfu (.cond (.t 23) (.seq qbc8 .ret) .skip)) (.seq qbb4 (.seq (.block 0 (.loop qm6)) (.seq (.seq q3a (.cond (.t 60) (.seq q0t .ret) .skip)) (.seq q6m .ret))))))))
@[go_sem] def s0dl : List (RV × Co) := [(.c true 3 2, (.agg [.id, .id, (.sl 3)]))]
theorem c0dl : cFun Tryz.prog 63 = some (67, k0dl, s0dl) := by kernel_rfl

def qbks : IC := zr [zi 1 (.box (.t 0)), zv 2 (.mov (.c (.str [])))]
def qbgt : IC := zr [zv 3 (.ld true 3 (.t 1)), zi 4 (.call (.c (.fn 37 [] [])) [((.t 3), (.agg [.id, .id, (.sl 3)]))]), zv 5 (.un .not (.t 4))]
def qbfh : IC := zr [zv 2 (.mov (.c (.str [])))]
def qbj4 : IC := zr [zv 6 (.ld true 3 (.t 1)), zi 7 (.call (.c (.fn 89 [] [])) [((.t 6), (.agg [.id, .id, (.sl 3)]))]), zm 2 7]
def k0bg : IC := (.seq qbks (.seq (.seq qbgt (.cond (.t 5) (.seq qbfh .ret) .skip)) (.seq qbj4 .ret)))
@[go_sem] def s0bg : List (RV × Co) := [(.t 2, .id)]
theorem c0bg : cFun Tryz.prog 64 = some (8, k0bg, s0bg) := by kernel_rfl

def qbty : IC := zr [zv 6 (.mov (zc 0)), zv 7 zf]
def qbue : IC := zr [zm 12 0, zv 13 (.len false (.t 12)), zm 8 13]
def qbr9 : IC := zr [zm 14 8, zv 9 (.mov (zc 0)), zm 10 14]
def qbqz : IC := zr [zm 15 9, zm 16 10, zv 17 (.bin .lss .no (.t 15) (.t 16))]
def qbtu : IC := zr [zm 18 9, zm 19 10, zv 20 (.bin .add .no (.t 18) (.t 19)), zv 21 (.cvi .u64 (.t 20)), zv 22 (.bin .shr .no (.t 21) (.c (.int .u64 1))), zv 23 (.cvi .i64 (.t 22)), zm 11 23]
def qbtt : IC := zr [zm 24 2, zm 25 0, zm 26 11, zv 27 (.iad 4 (.t 25) (.t 26)), zv 28 (.ld true 4 (.t 27)), zm 29 1, zi 30 (.call (.t 24) [((.t 28), (.agg [.id, .id, .id, (.sl 3)])), ((.t 29), .id)]), zv 31 (.bin .lss .no (.t 30) (zc 0))]
def qbt4 : IC := zr [zm 32 11, zv 33 (.bin .add .no (.t 32) (zc 1)), zm 9 33]
def qbm5 : IC := zr [zm 34 11, zm 10 34]
def qbo6 : IC := (.seq (.seq qbqz (.cond (.t 17) .skip (.exit 0))) (.block 1 (.seq qbtu (.seq qbtt (.cond (.t 31) qbt4 qbm5)))))
def q8h : IC := zr [zm 35 9, zm 36 9, zm 37 8, zv 38 (.bin .lss .no (.t 36) (.t 37)), zm 39 38, zw 39 true 40 (.mov (.t 2)), zw 39 true 41 (.mov (.t 0)), zw 39 true 42 (.mov (.t 9)), zw 39 true 43 (.iad 4 (.t 41) (.t 42)), zw 39 true 44 (.ld true 4 (.t 43)), zw 39 true 45 (.mov (.t 1)), ⟨some (39, true), some 46, .call (.t 40) [((.t 44), (.agg [.id, .id, .id, (.sl 3)])), ((.t 45), .id)]⟩, zw 39 true 47 (.bin .eql .no (.t 46) (zc 0)), zv 48 (.pick (.t 39) (.t 47) (.c (.bool false))), zm 6 35, zm 7 48]
def k0x : IC := (.seq qbty (.seq qbue (.seq qbr9 (.seq (.block 0 (.loop qbo6)) (.seq q8h .ret)))))
@[go_sem] def s0x : List (RV × Co) := [(.t 6, .id), (.t 7, .id)]
theorem c0x : cFun Tryz.prog 65 = some (49, k0x, s0x) := by kernel_rfl

def qboy : IC := zr [zi 2 (.box (.t 0)), zv 4 (.mov (zc 0))]
def qbn9 : IC := zr [zv 6 (.fad (.t 2) 0), zv 7 (.ld false 1 (.t 6)), zm 8 1, zv 9 (.bin .lss .no (.t 7) (.t 8)), zm 5 9]
def qbub : IC := zr [zv 4 (.mov (zc (-1)))]
def qbn8 : IC := zr [zv 11 (.fad (.t 2) 0), zv 12 (.ld false 1 (.t 11)), zm 13 1, zv 14 (.bin .gtr .no (.t 12) (.t 13)), zm 10 14]
def qbu6 : IC := zr [zv 4 (.mov (zc 1))]
def qbq9 : IC := zr [zv 4 (.mov (zc 0))]
def k0z : IC := (.seq qboy (.seq (.block 0 (.seq qbn9 (.cond (.t 5) (.seq qbub .ret) (.seq qbn8 (.cond (.t 10) (.seq qbu6 .ret) .skip))))) (.seq qbq9 .ret)))
@[go_sem] def s0z : List (RV × Co) := [(.t 4, .id)]
theorem c0z : cFun Tryz.prog 66 = some (15, k0z, s0z) := by kernel_rfl

def qbsv : IC := zr [zi 5 (.box (.t 2)), zv 6 (.mov (.c .nilp)), zv 7 (.mov (zc 0))]
def qbr0 : IC := zr [zv 9 (.fad (.t 5) 0), zv 10 (.ld false 1 (.t 9)), zv 11 (.bin .eql .no (.t 10) (.c (.str []))), zm 12 11, zw 12 true 13 (.fad (.t 5) 1), zw 12 true 14 (.ld false 1 (.t 13)), zw 12 true 15 (.mov (.t 1)), zw 12 true 16 (.bin .eql .no (.t 14) (.t 15)), zv 17 (.pick (.t 12) (.t 16) (.c (.bool false))), zm 8 17]
def qbq2 : IC := zr [zm 18 0, zm 6 18, zv 7 (.mov (zc 0))]
def qbnh : IC := zr [zv 20 (.ld true 3 (.t 5)), zm 21 1, zi 22 (.call (.c (.fn 90 [] [])) [((.t 20), (.agg [.id, .id, (.sl 3)])), ((.t 21), .id)]), zm 19 22]
def qbmy : IC := zr [zv 6 (.mov (.c .nilp)), zv 7 (.mov (zc 15))]
def qbuj : IC := zr [zm 23 0, zm 24 1, zv 25 (.ld true 3 (.t 5)), zv 26 (.bld [(.int .i64 0), (.str []), (.int .i64 0), .nils] [(0, 1, (.t 24)), (1, 3, (.t 25))]), zv 27 (.bsl 4 [((.t 26), (.agg [.id, .id, .id, (.sl 3)]))]), zi 28 (.call (.c (.fn 18 [] [])) [((.t 27), (.sl 4))]), zi 29 (.call (.c (.fn 43 [] [])) [((.t 23), .id), ((.t 28), .id)]), zv 30 (.ext (.t 29) 0), zv 31 (.ext (.t 29) 1), zm 6 30, zm 7 31]
def k0n : IC := (.seq qbsv (.seq (.block 0 (.seq qbr0 (.cond (.t 8) (.seq qbq2 .ret) (.seq qbnh (.cond (.t 19) (.seq qbmy .ret) .skip))))) (.seq qbuj .ret)))
@[go_sem] def s0n : List (RV × Co) := [(.t 6, .id), (.t 7, .id)]
theorem c0n : cFun Tryz.prog 67 = some (32, k0n, s0n) := by kernel_rfl

def q7k : IC := zr [zv 2 zf]
def q9q : IC := zr [zm 5 0, zv 6 (.bin .eql .no (.t 5) (.c (.str []))), zm 7 6, zw 7 false 8 (.mov (.t 0)), zw 7 false 9 (.idx (.t 8) (zc 0)), zw 7 false 10 (.bin .neq .no (.t 9) (.c (.int .u8 33))), zv 11 (.pick (.t 7) (.c (.bool true)) (.t 10))]
def qbep : IC := zr [zv 2 zf]
def q8y : IC := zr [zm 13 0, zv 14 (.sls (.t 13) (some (zc 1)) none), zi 15 (.call (.c (.fn 91 [] [])) [((.t 14), .id)]), zm 12 15, zv 16 (.ext (.t 12) 0), zv 17 (.ext (.t 12) 1), zm 3 16, zm 4 17]
def qbfj : IC := .drw [zp (zm 18 4), zp (zv 19 (.bin .eql .no (.t 18) (zc 0))), zp (zm 20 19), zp (zw 20 true 21 (.mov (.t 3))), (⟨some (20, true), some 22, .call (.c (.fn 92 [] [])) [((.t 21), .id)]⟩, []), zp (zw 20 true 23 (.mov (.t 0))), zp (zw 20 true 24 (.sls (.t 23) (some (zc 1)) none)), zp (zw 20 true 25 (.bin .eql .no (.t 22) (.t 24))), zp (zv 26 (.pick (.t 20) (.t 25) (.c (.bool false)))), zp (zm 2 26)]
def k0cd : IC := (.seq q7k (.seq (.seq q9q (.cond (.t 11) (.seq qbep .ret) .skip)) (.seq q8y (.seq qbfj .ret))))
@[go_sem] def s0cd : List (RV × Co) := [(.t 2, .id)]
theorem c0cd : cFun Tryz.prog 68 = some (27, k0cd, s0cd) := by kernel_rfl

def qbee : IC := zr [zv 2 zf]
def qbbe : IC := zr [zm 3 0, zv 4 (.bin .neq .no (.t 3) (.c (.str []))), zm 5 4, zw 5 true 6 (.mov (.t 0)), zw 5 true 7 (.idx (.t 6) (zc 0)), ⟨some (5, true), some 8, .call (.c (.fn 93 [] [])) [((.t 7), .id)]⟩, zv 9 (.pick (.t 5) (.t 8) (.c (.bool false))), zm 10 9, zw 10 true 11 (.mov (.t 0)), ⟨some (10, true), some 12, .call (.c (.fn 94 [] [])) [((.t 11), .id)]⟩, zv 13 (.pick (.t 10) (.t 12) (.c (.bool false))), zm 2 13]
def k0ct : IC := (.seq qbee (.seq qbbe .ret))
@[go_sem] def s0ct : List (RV × Co) := [(.t 2, .id)]
theorem c0ct : cFun Tryz.prog 69 = some (14, k0ct, s0ct) := by kernel_rfl

def qbcl : IC := zr [zi 3 (.box (.t 1)), zv 4 (.mov (zc 0))]
def qbgd : IC := zr [zv 9 (.fad (.t 3) 0), zv 10 (.ld false 1 (.t 9)), zv 11 (.bin .eql .no (.t 10) (.c (.str [])))]
def q7x : IC := zr [zm 13 0, zv 14 (.fad (.t 3) 1), zv 15 (.ld false 1 (.t 14)), zi 16 (.call (.c (.fn 62 [] [])) [((.t 13), (.sl 4)), ((.t 15), .id)]), zm 12 16, zv 17 (.ext (.t 12) 0), zv 18 (.ext (.t 12) 1), zi 5 (.alo [(.str []), (.int .i64 0), .nils]), zn (.st 3 (.agg [.id, .id, (.sl 3)]) (.t 5) (.t 17)), zm 6 18]
def qbao : IC := zr [zm 19 6]
def q77 : IC := zr [zv 20 (.ld true 3 (.t 5)), zi 21 (.call (.c (.fn 23 [] [])) [((.t 20), (.agg [.id, .id, (.sl 3)]))]), zm 4 21]
def qbgp : IC := zr [zv 4 (.mov (zc 1))]
def qbkr : IC := zr [zv 7 (.mov (zc 1))]
def qbg1 : IC := zr [zv 8 (.mov (zc 0))]
def qbic : IC := zr [zm 22 8, zv 23 (.fad (.t 3) 2), zv 24 (.ld false 1 (.t 23)), zv 25 (.len false (.t 24)), zv 26 (.bin .lss .no (.t 22) (.t 25))]
def q0p : IC := zr [zm 29 7, zm 30 0, zv 31 (.fad (.t 3) 2), zv 32 (.ld false 1 (.t 31)), zm 33 8, zv 34 (.iad 3 (.t 32) (.t 33)), zv 35 (.ld true 3 (.t 34)), zi 36 (.call (.c (.fn 70 [] [])) [((.t 30), (.sl 4)), ((.t 35), (.agg [.id, .id, (.sl 3)]))]), zv 37 (.bin .add .no (.t 29) (.t 36)), zm 7 37]
def q4x : IC := zr [zm 27 8, zv 28 (.bin .add .no (.t 27) (zc 1)), zm 8 28]
def qba3 : IC := (.seq (.seq qbic (.cond (.t 26) .skip (.exit 0))) (.seq (.block 1 q0p) q4x))
def q3b : IC := zr [zm 38 7, zm 4 38]
def k0db : IC := (.seq qbcl (.seq (.seq qbgd (.cond (.t 11) (.seq q7x (.seq (.seq qbao (.cond (.t 19) (.seq q77 .ret) .skip)) (.seq qbgp .ret))) .skip)) (.seq qbkr (.seq (.seq qbg1 (.block 0 (.loop qba3))) (.seq q3b .ret)))))
@[go_sem] def s0db : List (RV × Co) := [(.t 4, .id)]
theorem c0db : cFun Tryz.prog 70 = some (39, k0db, s0db) := by kernel_rfl

def qbfv : IC := zr [zi 3 (.box (.t 1)), zi 4 (.alo [(.str []), (.int .i64 0), .nils])]
def qbgc : IC := zr [zv 9 (.fad (.t 3) 0), zv 10 (.ld false 1 (.t 9)), zv 11 (.bin .eql .no (.t 10) (.c (.str [])))]
def qbe9 : IC := zr [zm 13 0, zv 14 (.fad (.t 3) 1), zv 15 (.ld false 1 (.t 14)), zi 16 (.call (.c (.fn 62 [] [])) [((.t 13), (.sl 4)), ((.t 15), .id)]), zm 12 16, zv 17 (.ext (.t 12) 0), zv 18 (.ext (.t 12) 1), zi 5 (.alo [(.str []), (.int .i64 0), .nils]), zn (.st 3 (.agg [.id, .id, (.sl 3)]) (.t 5) (.t 17)), zm 6 18]
def q71 : IC := zr [zm 19 6]
def q9c : IC := zr [zv 20 (.ld true 3 (.t 5)), zn (.st 3 (.agg [.id, .id, (.sl 3)]) (.t 4) (.t 20))]
def qbfi : IC := zr [zv 21 (.ld true 3 (.t 3)), zn (.st 3 (.agg [.id, .id, (.sl 3)]) (.t 4) (.t 21))]
def qbbv : IC := zr [zv 7 (.mov (.c .nils))]
def q8t : IC := zr [zv 8 (.mov (zc 0))]
def qbj9 : IC := zr [zm 22 8, zv 23 (.fad (.t 3) 2), zv 24 (.ld false 1 (.t 23)), zv 25 (.len false (.t 24)), zv 26 (.bin .lss .no (.t 22) (.t 25))]
def q00 : IC := zr [zm 29 7, zm 30 0, zv 31 (.fad (.t 3) 2), zv 32 (.ld false 1 (.t 31)), zm 33 8, zv 34 (.iad 3 (.t 32) (.t 33)), zv 35 (.ld true 3 (.t 34)), zi 36 (.call (.c (.fn 71 [] [])) [((.t 30), (.sl 4)), ((.t 35), (.agg [.id, .id, (.sl 3)]))]), zv 37 (.bsl 3 [((.t 36), (.agg [.id, .id, (.sl 3)]))]), zi 38 (.app 3 (.agg [(.str []), (.int .i64 0), .nils]) 48 (.sl 3) (.t 29) (.t 37)), zm 7 38]
def q2m : IC := zr [zm 27 8, zv 28 (.bin .add .no (.t 27) (zc 1)), zm 8 28]
def qbhb : IC := (.seq (.seq qbj9 (.cond (.t 26) .skip (.exit 0))) (.seq (.block 1 q00) q2m))
def q4p : IC := zr [zm 39 7, zv 40 (.fad (.t 3) 2), zn (.st 1 (.sl 3) (.t 40) (.t 39))]
def q2q : IC := zr [zv 41 (.ld true 3 (.t 3)), zn (.st 3 (.agg [.id, .id, (.sl 3)]) (.t 4) (.t 41))]
def k0dc : IC := (.seq qbfv (.seq (.seq qbgc (.cond (.t 11) (.seq qbe9 (.seq (.seq q71 (.cond (.t 19) (.seq q9c .ret) .skip)) (.seq qbfi .ret))) .skip)) (.seq qbbv (.seq (.seq q8t (.block 0 (.loop qbhb))) (.seq q4p (.seq q2q .ret))))))
@[go_sem] def s0dc : List (RV × Co) := [(.c true 3 4, (.agg [.id, .id, (.sl 3)]))]
theorem c0dc : cFun Tryz.prog 71 = some (42, k0dc, s0dc) := by kernel_rfl

def q9m : IC := zr [zi 2 (.box (.t 0)), zv 4 zf]
def qbmb : IC := zr [zv 5 (.ld true 3 (.t 2)), zi 6 (.call (.c (.fn 77 [] [])) [((.t 5), (.agg [.id, .id, (.sl 3)]))]), zm 7 1, zi 8 (.call (.c (.fn 95 [] [])) [((.t 6), (.sl 1)), ((.t 7), .id)]), zm 4 8]
def k0bx : IC := (.seq q9m (.seq qbmb .ret))
@[go_sem] def s0bx : List (RV × Co) := [(.t 4, .id)]
theorem c0bx : cFun Tryz.prog 72 = some (9, k0bx, s0bx) := by kernel_rfl

def q8f : IC := zr [zv 4 (.mov (.c .nils)), zv 5 (.mov (zc 0))]
def qbab : IC := zr [zv 6 (.mov (.c .nils))]
def q8u : IC := zr [zv 7 (.mov (zc 0))]
def qbl4 : IC := zr [zm 13 7, zm 14 0, zv 15 (.len false (.t 14)), zv 16 (.bin .lss .no (.t 13) (.t 15))]
def qbl5 : IC := zr [zm 20 1, zm 21 0, zm 22 7, zv 23 (.iad 4 (.t 21) (.t 22)), zv 24 (.fad (.t 23) 1), zv 25 (.ld true 3 (.t 24)), zi 26 (.call (.c (.fn 49 [] [])) [((.t 20), (.sl 4)), ((.t 25), (.agg [.id, .id, (.sl 3)]))]), zm 19 26, zv 27 (.ext (.t 19) 0), zv 28 (.ext (.t 19) 1), zi 8 (.alo [(.str []), (.int .i64 0), .nils]), zn (.st 3 (.agg [.id, .id, (.sl 3)]) (.t 8) (.t 27)), zm 9 28]
def qbb9 : IC := zr [zm 29 9, zv 30 (.bin .neq .no (.t 29) (zc 0))]
def qbc9 : IC := zr [zm 31 9, zv 4 (.mov (.c .nils)), zm 5 31]
def qbbp : IC := .drw [zp (zm 32 6), zp (zm 33 0), zp (zm 34 7), zp (zv 35 (.iad 4 (.t 33) (.t 34))), zp (zv 36 (.fad (.t 35) 0)), zp (zv 37 (.ld false 1 (.t 36))), zp (zv 38 (.ld true 3 (.t 8))), (zv 39 (.bld [(.int .i64 0), (.str []), (.int .i64 0), .nils] [(0, 1, (.t 37)), (1, 3, (.t 38))]), []), (zv 40 (.bsl 4 [((.t 39), (.agg [.id, .id, .id, (.sl 3)]))]), []), (zi 41 (.app 4 (.agg [(.int .i64 0), (.str []), (.int .i64 0), .nils]) 56 (.sl 4) (.t 32) (.t 40)), []), zp (zm 6 41)]
def q9h : IC := zr [zm 17 7, zv 18 (.bin .add .no (.t 17) (zc 1)), zm 7 18]
def qbhl : IC := (.seq (.seq qbl4 (.cond (.t 16) .skip (.exit 0))) (.seq (.block 1 (.seq qbl5 (.seq (.seq qbb9 (.cond (.t 30) (.seq qbc9 .ret) .skip)) qbbp))) q9h))
def q5r : IC := zr [zv 10 (.mov (zc 0))]
def q5v : IC := zr [zm 42 10, zm 43 1, zv 44 (.len false (.t 43)), zv 45 (.bin .lss .no (.t 42) (.t 44))]
def q10 : IC := .drw [zp (zm 49 6), zp (zm 50 1), zp (zm 51 10), zp (zv 52 (.iad 4 (.t 50) (.t 51))), zp (zv 53 (.fad (.t 52) 0)), zp (zv 54 (.ld false 1 (.t 53))), zp (zm 55 1), zp (zm 56 10), zp (zv 57 (.iad 4 (.t 55) (.t 56))), zp (zv 58 (.fad (.t 57) 1)), zp (zv 59 (.ld true 3 (.t 58))), (zi 60 (.call (.c (.fn 53 [] [])) [((.t 49), (.sl 4)), ((.t 54), .id), ((.t 59), (.agg [.id, .id, (.sl 3)]))]), []), zp (zm 48 60), zp (zv 61 (.ext (.t 48) 0)), zp (zv 62 (.ext (.t 48) 1)), zp (zm 11 61), zp (zm 12 62)]
def q2l : IC := zr [zm 63 11, zm 6 63]
def q1g : IC := zr [zm 46 10, zv 47 (.bin .add .no (.t 46) (zc 1)), zm 10 47]
def qr3 : IC := (.seq (.seq q5v (.cond (.t 45) .skip (.exit 2))) (.seq (.block 3 (.seq q10 q2l)) q1g))
def k0cy_r18 : IC := zr [zm 64 6, zm 4 64, zv 5 (.mov (zc 0))]
def k0cy : IC := (.seq q8f (.seq qbab (.seq (.seq q8u (.block 0 (.loop qbhl))) (.seq (.seq q5r (.block 2 (.loop qr3))) (.seq k0cy_r18 .ret)))))
@[go_sem] def s0cy : List (RV × Co) := [(.t 4, (.sl 4)), (.t 5, .id)]
theorem c0cy : cFun Tryz.prog 73 = some (65, k0cy, s0cy) := by kernel_rfl

def qbhs : IC := zr [zi 3 (.box (.t 0)), zv 5 zf]
def qbl3 : IC := zr [zv 6 (.fad (.t 3) 0), zv 7 (.ld false 1 (.t 6)), zv 8 (.bin .eql .no (.t 7) (.c (.str []))), zm 9 8, zw 9 true 10 (.ld false 1 (.t 2)), zw 9 true 11 (.fad (.t 3) 1), zw 9 true 12 (.ld false 1 (.t 11)), ⟨some (9, true), some 13, .call (.c (.fn 75 [] [])) [((.t 10), (.sl 1)), ((.t 12), .id)]⟩, zw 9 true 14 (.un .not (.t 13)), zv 15 (.pick (.t 9) (.t 14) (.c (.bool false)))]
def qbd4 : IC := zr [zv 16 (.ld false 1 (.t 2)), zv 17 (.fad (.t 3) 1), zv 18 (.ld false 1 (.t 17)), zv 19 (.bsl 1 [((.t 18), .id)]), zi 20 (.app 1 (.int .i64 0) 8 (.sl 1) (.t 16) (.t 19)), zn (.st 1 (.sl 1) (.t 2) (.t 20))]
def qbml : IC := zr [zv 5 (.mov (.c (.bool true)))]
def k0by : IC := (.seq qbhs (.seq (.seq qbl3 (.cond (.t 15) qbd4 .skip)) (.seq qbml .ret)))
@[go_sem] def s0by : List (RV × Co) := [(.t 5, .id)]
theorem c0by : cFun Tryz.prog 74 = some (21, k0by, s0by) := by kernel_rfl

def q9s : IC := zr [zv 4 zf]
def qbjf : IC := zr [zm 5 0, zm 6 1, zi 7 (.call (.c (.fn 96 [] [])) [((.t 5), (.sl 1)), ((.t 6), .id)]), zv 8 (.bin .geq .no (.t 7) (zc 0)), zm 4 8]
def k0bu : IC := (.seq q9s (.seq qbjf .ret))
@[go_sem] def s0bu : List (RV × Co) := [(.t 4, .id)]
theorem c0bu : cFun Tryz.prog 75 = some (9, k0bu, s0bu) := by kernel_rfl

def qbbd : IC := zr [zi 1 (.box (.t 0)), zv 2 (.mov (.c .nils))]
def q8o : IC := zr [zv 3 (.mov (.c .nils))]
def qbax : IC := zr [zv 5 (.fad (.t 1) 0), zv 6 (.ld false 1 (.t 5)), zv 7 (.bin .eql .no (.t 6) (.c (.str [])))]
def qbij : IC := zr [zv 8 (.fad (.t 1) 1), zv 9 (.ld false 1 (.t 8)), zv 10 (.bsl 1 [((.t 9), .id)]), zm 3 10]
def qbgw : IC := zr [zv 4 (.mov (zc 0))]
def q9i : IC := zr [zm 11 4, zv 12 (.fad (.t 1) 2), zv 13 (.ld false 1 (.t 12)), zv 14 (.len false (.t 13)), zv 15 (.bin .lss .no (.t 11) (.t 14))]
def qblp : IC := zr [zm 18 3, zv 19 (.fad (.t 1) 2), zv 20 (.ld false 1 (.t 19)), zm 21 4, zv 22 (.iad 3 (.t 20) (.t 21)), zv 23 (.ld true 3 (.t 22)), zi 24 (.call (.c (.fn 77 [] [])) [((.t 23), (.agg [.id, .id, (.sl 3)]))]), zi 25 (.app 1 (.int .i64 0) 8 (.sl 1) (.t 18) (.t 24)), zm 3 25]
def qba4 : IC := zr [zm 16 4, zv 17 (.bin .add .no (.t 16) (zc 1)), zm 4 17]
def qbch : IC := (.seq (.seq q9i (.cond (.t 15) .skip (.exit 0))) (.seq (.block 1 qblp) qba4))
def q20 : IC := zr [zm 26 3, zm 2 26]
def k0bw : IC := (.seq qbbd (.seq q8o (.seq (.seq qbax (.cond (.t 7) qbij .skip)) (.seq (.seq qbgw (.block 0 (.loop qbch))) (.seq q20 .ret)))))
@[go_sem] def s0bw : List (RV × Co) := [(.t 2, (.sl 1))]
theorem c0bw : cFun Tryz.prog 77 = some (27, k0bw, s0bw) := by kernel_rfl

def q8i : IC := zr [zv 2 zf]
def qbcb : IC := zr [zm 5 0, zi 6 (.call (.c (.fn 86 [] [])) [((.t 5), .id), ((.c (.str [33])), .id)]), zv 7 (.un .not (.t 6))]
def q8p : IC := zr [zv 2 zf]
def q89 : IC := zr [zm 9 0, zv 10 (.sls (.t 9) (some (zc 1)) none), zi 11 (.call (.c (.fn 98 [] [])) [((.t 10), .id)]), zm 8 11, zv 12 (.ext (.t 8) 0), zv 13 (.ext (.t 8) 1), zm 3 12, zm 4 13]
def q7g : IC := .drw [zp (zm 14 4), zp (zv 15 (.bin .eql .no (.t 14) (zc 0))), zp (zm 16 15), zp (zw 16 true 17 (.mov (.t 3))), (⟨some (16, true), some 18, .call (.c (.fn 99 [] [])) [((.t 17), .id)]⟩, []), zp (zw 16 true 19 (.mov (.t 0))), zp (zw 16 true 20 (.sls (.t 19) (some (zc 1)) none)), zp (zw 16 true 21 (.bin .eql .no (.t 18) (.t 20))), zp (zv 22 (.pick (.t 16) (.t 21) (.c (.bool false)))), zp (zm 2 22)]
def k0cc : IC := (.seq q8i (.seq (.seq qbcb (.cond (.t 7) (.seq q8p .ret) .skip)) (.seq q89 (.seq q7g .ret))))
@[go_sem] def s0cc : List (RV × Co) := [(.t 2, .id)]
theorem c0cc : cFun Tryz.prog 80 = some (23, k0cc, s0cc) := by kernel_rfl

def qbak : IC := zr [zv 2 zf]
def q9f : IC := zr [zm 3 0, zv 4 (.bin .neq .no (.t 3) (.c (.str []))), zm 5 4, zw 5 true 6 (.mov (.t 0)), zw 5 true 7 (.idx (.t 6) (zc 0)), ⟨some (5, true), some 8, .call (.c (.fn 100 [] [])) [((.t 7), .id)]⟩, zv 9 (.pick (.t 5) (.t 8) (.c (.bool false))), zm 10 9, zw 10 true 11 (.mov (.t 0)), ⟨some (10, true), some 12, .call (.c (.fn 101 [] [])) [((.t 11), .id)]⟩, zv 13 (.pick (.t 10) (.t 12) (.c (.bool false))), zm 2 13]
def k0cs : IC := (.seq qbak (.seq q9f .ret))
@[go_sem] def s0cs : List (RV × Co) := [(.t 2, .id)]
theorem c0cs : cFun Tryz.prog 81 = some (14, k0cs, s0cs) := by kernel_rfl

def qbeg : IC := zr [zi 3 (.box (.t 0)), zv 5 zf]
def qbh0 : IC := zr [zv 6 (.ld false 1 (.t 2)), zv 7 (.bin .add .no (.t 6) (zc 1)), zn (.st 1 .id (.t 2) (.t 7))]
def qbgj : IC := zr [zv 5 (.mov (.c (.bool true)))]
def k0bi : IC := (.seq qbeg (.seq qbh0 (.seq qbgj .ret)))
@[go_sem] def s0bi : List (RV × Co) := [(.t 5, .id)]
theorem c0bi : cFun Tryz.prog 82 = some (8, k0bi, s0bi) := by kernel_rfl

def qbjx : IC := zr [zi 3 (.box (.t 0)), zv 5 zf]
def q9u : IC := zr [zv 6 (.ld false 1 (.t 2)), zm 7 1, zv 8 (.mm true (.t 6) (.t 7)), zn (.st 1 .id (.t 2) (.t 8))]
def qbk3 : IC := zr [zv 5 (.mov (.c (.bool true)))]
def k0bj : IC := (.seq qbjx (.seq q9u (.seq qbk3 .ret)))
@[go_sem] def s0bj : List (RV × Co) := [(.t 5, .id)]
theorem c0bj : cFun Tryz.prog 83 = some (9, k0bj, s0bj) := by kernel_rfl

def qbis : IC := zr [zv 1 (.ld false 1 (.t 0)), zv 2 (.nck (.t 1)), zv 3 (.fad (.t 2) 1), zv 4 (.ld false 1 (.t 3)), zv 5 (.bin .sub .no (.t 4) (zc 1)), zv 6 (.nck (.t 1)), zv 7 (.fad (.t 6) 1), zn (.st 1 .id (.t 7) (.t 5))]
def k0df : IC := qbis
@[go_sem] def s0df : List (RV × Co) := []
theorem c0df : cFun Tryz.prog 84 = some (8, k0df, s0df) := by kernel_rfl

def qba7 : IC := zr [zi 2 (.alo [(.str []), (.int .i64 0), .nils])]
def qbev : IC := zr [zm 6 0, zi 7 (.call (.c (.fn 87 [] [])) [((.t 6), .id), ((.c (.str [40])), .id)])]
def qbmi : IC := zr [zm 8 0, zi 9 (.call (.c (.fn 63 [] [])) [((.t 8), .id)]), zi 3 (.alo [(.str []), (.int .i64 0), .nils]), zn (.st 3 (.agg [.id, .id, (.sl 3)]) (.t 3) (.t 9))]
def qbek : IC := zr [zm 10 0, zm 11 0, zv 12 (.nck (.t 11)), zv 13 (.fad (.t 12) 2), zv 14 (.ld false 1 (.t 13)), zm 15 14, zw 15 false 16 (.mov (.t 0)), ⟨some (15, false), some 17, .call (.c (.fn 87 [] [])) [((.t 16), .id), ((.c (.str [41])), .id)]⟩, zw 15 false 18 (.un .not (.t 17)), zv 19 (.pick (.t 15) (.c (.bool true)) (.t 18)), zv 20 (.nck (.t 10)), zv 21 (.fad (.t 20) 2), zn (.st 1 .id (.t 21) (.t 19))]
def qbe8 : IC := zr [zv 22 (.ld true 3 (.t 3)), zn (.st 3 (.agg [.id, .id, (.sl 3)]) (.t 2) (.t 22))]
def qbj3 : IC := zr [zm 23 0, zv 24 (.nck (.t 23)), zv 25 (.fad (.t 24) 0), zv 26 (.ld false 1 (.t 25)), zi 27 (.call (.c (.fn 102 [] [])) [((.t 26), .id), ((.c (.str [32, 40, 41])), .id)]), zm 4 27]
def qbkn : IC := zr [zm 28 4, zv 29 (.bin .lss .no (.t 28) (zc 0))]
def qbgl : IC := zr [zm 30 0, zv 31 (.nck (.t 30)), zv 32 (.fad (.t 31) 0), zv 33 (.ld false 1 (.t 32)), zv 34 (.len true (.t 33)), zm 4 34]
def qbma : IC := zr [zm 35 0, zv 36 (.nck (.t 35)), zv 37 (.fad (.t 36) 0), zv 38 (.ld false 1 (.t 37)), zm 39 4, zv 40 (.sls (.t 38) none (some (.t 39))), zi 41 (.call (.c (.fn 103 [] [])) [((.t 40), .id)]), zi 5 (.alo [(.str []), (.int .i64 0), .nils]), zn (.st 3 (.agg [.id, .id, (.sl 3)]) (.t 5) (.t 41))]
def q79 : IC := .drw [zp (zm 42 0), zp (zm 43 0), zp (zm 44 0), zp (zv 45 (.nck (.t 44))), zp (zv 46 (.fad (.t 45) 0)), zp (zv 47 (.ld false 1 (.t 46))), zp (zm 48 4), zp (zv 49 (.sls (.t 47) (some (.t 48)) none)), zp (zm 50 0), zp (zv 51 (.nck (.t 50))), zp (zv 52 (.fad (.t 51) 2)), zp (zv 53 (.ld false 1 (.t 52))), zp (zm 54 53), zp (zw 54 false 55 (.mov (.t 4))), zp (zw 54 false 56 (.bin .eql .no (.t 55) (zc 0))), zp (zv 57 (.pick (.t 54) (.c (.bool true)) (.t 56))), zp (zv 58 (.nck (.t 42))), zp (zv 59 (.fad (.t 58) 0)), (zn (.st 1 .id (.t 59) (.t 49)), []), zp (zv 60 (.nck (.t 43))), zp (zv 61 (.fad (.t 60) 2)), (zn (.st 1 .id (.t 61) (.t 57)), [])]
def q5k : IC := zr [zv 62 (.ld true 3 (.t 5)), zn (.st 3 (.agg [.id, .id, (.sl 3)]) (.t 2) (.t 62))]
def k0dg : IC := (.seq qba7 (.seq (.seq qbev (.cond (.t 7) (.seq qbmi (.seq qbek (.seq qbe8 .ret))) .skip)) (.seq qbj3 (.seq (.seq qbkn (.cond (.t 29) qbgl .skip)) (.seq qbma (.seq q79 (.seq q5k .ret)))))))
@[go_sem] def s0dg : List (RV × Co) := [(.c true 3 2, (.agg [.id, .id, (.sl 3)]))]
theorem c0dg : cFun Tryz.prog 85 = some (63, k0dg, s0dg) := by kernel_rfl

def qbif : IC := zr [zv 4 zf]
def qbc4 : IC := zr [zm 5 0, zm 6 1, zi 7 (.call (.c (.fn 104 [] [])) [((.t 5), .id), ((.t 6), .id)]), zm 4 7]
def k0ch : IC := (.seq qbif (.seq qbc4 .ret))
@[go_sem] def s0ch : List (RV × Co) := [(.t 4, .id)]
theorem c0ch : cFun Tryz.prog 86 = some (8, k0ch, s0ch) := by kernel_rfl

def qbfr : IC := zr [zv 4 zf]
def qbai : IC := zr [zm 6 0, zv 7 (.nck (.t 6)), zv 8 (.fad (.t 7) 0), zv 9 (.ld false 1 (.t 8)), zm 10 1, zi 11 (.call (.c (.fn 86 [] [])) [((.t 9), .id), ((.t 10), .id)]), zm 5 11]
def qbk0 : IC := zr [zm 12 5]
def qbc7 : IC := zr [zm 13 0, zm 14 0, zv 15 (.nck (.t 14)), zv 16 (.fad (.t 15) 0), zv 17 (.ld false 1 (.t 16)), zm 18 1, zv 19 (.len true (.t 18)), zv 20 (.sls (.t 17) (some (.t 19)) none), zv 21 (.nck (.t 13)), zv 22 (.fad (.t 21) 0), zn (.st 1 .id (.t 22) (.t 20))]
def qbgh : IC := zr [zm 23 5, zm 4 23]
def k0dj : IC := (.seq qbfr (.seq qbai (.seq (.seq qbk0 (.cond (.t 12) qbc7 .skip)) (.seq qbgh .ret))))
@[go_sem] def s0dj : List (RV × Co) := [(.t 4, .id)]
theorem c0dj : cFun Tryz.prog 87 = some (24, k0dj, s0dj) := by kernel_rfl

def qbem : IC := zr [zv 2 (.mov (.c .nils))]
def q7t : IC := zr [zm 3 0, zv 4 (.bin .eql .slice (.t 3) (.c .nils))]
def qbkc : IC := zr [zv 2 (.mov (.c .nils))]
def qbei : IC := zr [zv 5 (.bsl 3 []), zm 6 0, zi 7 (.app 3 (.agg [(.str []), (.int .i64 0), .nils]) 48 (.sl 3) (.t 5) (.t 6)), zm 2 7]
def k0di : IC := (.seq qbem (.seq (.seq q7t (.cond (.t 4) (.seq qbkc .ret) .skip)) (.seq qbei .ret)))
@[go_sem] def s0di : List (RV × Co) := [(.t 2, (.sl 3))]
theorem c0di : cFun Tryz.prog 88 = some (8, k0di, s0di) := by kernel_rfl

def q92 : IC := zr [zi 1 (.box (.t 0)), zv 2 (.mov (.c (.str [])))]
def qbac : IC := zr [zv 6 (.fad (.t 1) 0), zv 7 (.ld false 1 (.t 6)), zv 8 (.bin .eql .no (.t 7) (.c (.str [45, 62])))]
def qbjz : IC := .drw [zp (zv 9 (.fad (.t 1) 2)), zp (zv 10 (.ld false 1 (.t 9))), zp (zv 11 (.iad 3 (.t 10) (zc 0))), zp (zv 12 (.ld true 3 (.t 11))), zp (zv 13 (.fad (.t 1) 2)), zp (zv 14 (.ld false 1 (.t 13))), zp (zv 15 (.iad 3 (.t 14) (zc 0))), zp (zv 16 (.fad (.t 15) 0)), zp (zv 17 (.ld false 1 (.t 16))), (zv 18 (.bin .eql .no (.t 17) (.c (.str [45, 62]))), []), (zi 19 (.call (.c (.fn 105 [] [])) [((.t 12), (.agg [.id, .id, (.sl 3)])), ((.t 18), .id)]), []), (zv 20 (.bin .add .no (.t 19) (.c (.str [32, 45, 62, 32]))), []), zp (zv 21 (.fad (.t 1) 2)), (zv 22 (.ld false 1 (.t 21)), [10]), zp (zv 23 (.iad 3 (.t 22) (zc 1))), (zv 24 (.ld true 3 (.t 23)), [10]), (zi 25 (.call (.c (.fn 89 [] [])) [((.t 24), (.agg [.id, .id, (.sl 3)]))]), []), zp (zv 26 (.bin .add .no (.t 20) (.t 25))), zp (zm 2 26)]
def qbez : IC := zr [zi 3 (.bld 126 5)]
def qbg0 : IC := zr [zv 27 (.ld true 3 (.t 1)), zi 28 (.call (.c (.fn 58 [] [])) [((.t 27), (.agg [.id, .id, (.sl 3)]))]), zi 29 (.call (.c (.fn 107 [] [])) [((.t 28), .id)]), zi 30 (.call (.c (.fn 106 [] [])) [((.t 3), (.agg [.id, (.sl 1)])), ((.t 29), .id)])]
def qbjq : IC := zr [zv 31 (.fad (.t 1) 2), zv 32 (.ld false 1 (.t 31)), zv 33 (.len false (.t 32)), zv 34 (.mov (zc 0))]
def qbew : IC := zr [zv 35 (.bin .lss .no (.t 34) (.t 33))]
def qbl2 : IC := zr [zv 36 (.iad 3 (.t 32) (.t 34)), zv 37 (.ld true 3 (.t 36)), zi 5 (.alo [(.str []), (.int .i64 0), .nils]), zn (.st 3 (.agg [.id, .id, (.sl 3)]) (.t 5) (.t 37))]
def qbih : IC := zr [zv 38 (.ld true 3 (.t 5)), zv 39 (.fad (.t 5) 2), zv 40 (.ld false 1 (.t 39)), zv 41 (.len false (.t 40)), zv 42 (.bin .gtr .no (.t 41) (zc 0)), zi 43 (.call (.c (.fn 105 [] [])) [((.t 38), (.agg [.id, .id, (.sl 3)])), ((.t 42), .id)]), zv 44 (.bin .add .no (.c (.str [32])) (.t 43)), zi 45 (.call (.c (.fn 106 [] [])) [((.t 3), (.agg [.id, (.sl 1)])), ((.t 44), .id)])]
def q1p : IC := zr [zv 46 (.bin .add .no (.t 34) (zc 1)), zm 34 46]
def qbja : IC := (.seq qbew (.seq (.cond (.t 35) .skip (.exit 0)) (.seq (.block 1 (.seq qbl2 qbih)) q1p)))
def q5q : IC := zr [zi 47 (.call (.c (.fn 108 [] [])) [((.t 3), (.agg [.id, (.sl 1)]))]), zm 2 47]
def k0bf : IC := (.seq q92 (.seq (.seq qbac (.cond (.t 8) (.seq qbjz .ret) .skip)) (.seq qbez (.seq qbg0 (.seq (.seq qbjq (.block 0 (.loop qbja))) (.seq q5q .ret))))))
@[go_sem] def s0bf : List (RV × Co) := [(.t 2, .id)]
theorem c0bf : cFun Tryz.prog 89 = some (48, k0bf, s0bf) := by kernel_rfl

def qbd3 : IC := zr [zi 2 (.box (.t 0)), zi 3 (.box (.t 1)), zv 4 zf]
def qbjd : IC := zr [zv 5 (.ld true 3 (.t 2)), zv 6 (.mfn 109 [] [(.t 3)]), zi 7 (.call (.c (.fn 56 [] [])) [((.t 5), (.agg [.id, .id, (.sl 3)])), ((zc 1), .id), ((.t 6), .id)]), zv 8 (.un .not (.t 7)), zm 4 8]
def k0de : IC := (.seq qbd3 (.seq qbjd .ret))
@[go_sem] def s0de : List (RV × Co) := [(.t 4, .id)]
theorem c0de : cFun Tryz.prog 90 = some (9, k0de, s0de) := by kernel_rfl

def qbcd : IC := zr [zv 2 (.mov (zc 0)), zv 3 (.mov (zc 0))]
def qbdy : IC := zr [zm 8 0, zv 9 (.bin .eql .no (.t 8) (.c (.str [])))]
def qba5 : IC := zr [zv 2 (.mov (zc 0)), zv 3 (.mov (zc 5))]
def qbc3 : IC := zr [zv 4 (.mov (zc 0))]
def qbi9 : IC := zr [zm 10 4, zm 11 0, zv 12 (.len true (.t 11)), zv 13 (.bin .lss .no (.t 10) (.t 12))]
def qbd1 : IC := zr [zm 16 0, zm 17 4, zv 18 (.idx (.t 16) (.t 17)), zv 19 (.bin .lss .no (.t 18) (.c (.int .u8 48))), zm 20 19, zw 20 false 21 (.mov (.t 0)), zw 20 false 22 (.mov (.t 4)), zw 20 false 23 (.idx (.t 21) (.t 22)), zw 20 false 24 (.bin .gtr .no (.t 23) (.c (.int .u8 57))), zv 25 (.pick (.t 20) (.c (.bool true)) (.t 24))]
def qbji : IC := zr [zv 2 (.mov (zc 0)), zv 3 (.mov (zc 5))]
def qblz : IC := zr [zm 14 4, zv 15 (.bin .add .no (.t 14) (zc 1)), zm 4 15]
def qbci : IC := (.seq (.seq qbi9 (.cond (.t 13) .skip (.exit 0))) (.seq (.block 1 (.seq qbd1 (.cond (.t 25) (.seq qbji .ret) .skip))) qblz))
def q40 : IC := zr [zv 5 (.mov (zc 0))]
def q3i : IC := zr [zv 6 (.mov (zc 0))]
def q57 : IC := zr [zm 26 6, zm 27 0, zv 28 (.len true (.t 27)), zv 29 (.bin .lss .no (.t 26) (.t 28))]
def q6i : IC := zr [zm 32 0, zm 33 6, zv 34 (.idx (.t 32) (.t 33)), zv 35 (.bin .sub .no (.t 34) (.c (.int .u8 48))), zv 36 (.cvi .i64 (.t 35)), zm 7 36]
def q2e : IC := zr [zm 37 5, zm 38 7, zv 39 (.bin .sub .no (zc 9223372036854775807) (.t 38)), zv 40 (.bin .quo .no (.t 39) (zc 10)), zv 41 (.bin .gtr .no (.t 37) (.t 40))]
def q3h : IC := zr [zv 2 (.mov (zc 0)), zv 3 (.mov (zc 4))]
def q0w : IC := zr [zm 42 5, zv 43 (.bin .mul .no (zc 10) (.t 42)), zm 44 7, zv 45 (.bin .add .no (.t 43) (.t 44)), zm 5 45]
def q13 : IC := zr [zm 30 6, zv 31 (.bin .add .no (.t 30) (zc 1)), zm 6 31]
def q44 : IC := (.seq (.seq q57 (.cond (.t 29) .skip (.exit 2))) (.seq (.block 3 (.seq q6i (.seq (.seq q2e (.cond (.t 41) (.seq q3h .ret) .skip)) q0w))) q13))
def q1f : IC := zr [zm 46 5, zm 2 46, zv 3 (.mov (zc 0))]
def k0ci : IC := (.seq qbcd (.seq (.seq qbdy (.cond (.t 9) (.seq qba5 .ret) .skip)) (.seq (.seq qbc3 (.block 0 (.loop qbci))) (.seq q40 (.seq (.seq q3i (.block 2 (.loop q44))) (.seq q1f .ret))))))
@[go_sem] def s0ci : List (RV × Co) := [(.t 2, .id), (.t 3, .id)]
theorem c0ci : cFun Tryz.prog 91 = some (47, k0ci, s0ci) := by kernel_rfl

def qbdw : IC := zr [zv 2 (.mov (.c (.str [])))]
def qbix : IC := zr [zm 5 0, zi 6 (.call (.c (.fn 110 [] [])) [((.t 5), .id)]), zm 3 6]
def qbl8 : IC := zr [zv 4 (.mov (.c (.str [])))]
def q7e : IC := zr [zm 7 3, zv 8 (.bin .gtr .no (.t 7) (.c (.int .u64 9)))]
def qbc5 : IC := zr [zm 9 3, zv 10 (.bin .rem .no (.t 9) (.c (.int .u64 10))), zv 11 (.bin .add .no (.c (.int .u64 48)) (.t 10)), zv 12 (.cvi .u8 (.t 11)), zv 13 (.bsl 1 [((.t 12), .id)]), zv 14 (.cbs (.t 13)), zm 15 4, zv 16 (.bin .add .no (.t 14) (.t 15)), zm 4 16]
def qbbw : IC := zr [zm 17 3, zv 18 (.bin .quo .no (.t 17) (.c (.int .u64 10))), zm 3 18]
def qbk6 : IC := (.seq (.seq q7e (.cond (.t 8) .skip (.exit 0))) (.block 1 (.seq qbc5 qbbw)))
def qbdb : IC := zr [zm 19 3, zv 20 (.bin .add .no (.c (.int .u64 48)) (.t 19)), zv 21 (.cvi .u8 (.t 20)), zv 22 (.bsl 1 [((.t 21), .id)]), zv 23 (.cbs (.t 22)), zm 24 4, zv 25 (.bin .add .no (.t 23) (.t 24)), zm 4 25]
def qbcg : IC := zr [zm 26 0, zv 27 (.bin .lss .no (.t 26) (zc 0))]
def q4e : IC := zr [zm 28 4, zv 29 (.bin .add .no (.c (.str [45])) (.t 28)), zm 2 29]
def q43 : IC := zr [zm 30 4, zm 2 30]
def k0cv : IC := (.seq qbdw (.seq qbix (.seq qbl8 (.seq (.block 0 (.loop qbk6)) (.seq qbdb (.seq (.seq qbcg (.cond (.t 27) (.seq q4e .ret) .skip)) (.seq q43 .ret)))))))
@[go_sem] def s0cv : List (RV × Co) := [(.t 2, .id)]
theorem c0cv : cFun Tryz.prog 92 = some (31, k0cv, s0cv) := by kernel_rfl

def qbar : IC := zr [zv 2 zf]
def qbe6 : IC := zr [zm 3 0, zv 4 (.bin .geq .no (.t 3) (.c (.int .u8 65))), zm 5 4, zw 5 true 6 (.mov (.t 0)), zw 5 true 7 (.bin .leq .no (.t 6) (.c (.int .u8 90))), zv 8 (.pick (.t 5) (.t 7) (.c (.bool false))), zm 2 8]
def k0cn : IC := (.seq qbar (.seq qbe6 .ret))
@[go_sem] def s0cn : List (RV × Co) := [(.t 2, .id)]
theorem c0cn : cFun Tryz.prog 93 = some (9, k0cn, s0cn) := by kernel_rfl

def qbdr : IC := zr [zv 2 zf]
def qbcz : IC := zr [zv 3 (.mov (zc 1))]
def qbiu : IC := zr [zm 4 3, zm 5 0, zv 6 (.len true (.t 5)), zv 7 (.bin .lss .no (.t 4) (.t 6))]
def qbgm : IC := zr [zm 10 0, zm 11 3, zv 12 (.idx (.t 10) (.t 11)), zi 13 (.call (.c (.fn 111 [] [])) [((.t 12), .id)]), zv 14 (.un .not (.t 13))]
def qbje : IC := zr [zv 2 zf]
def qbln : IC := zr [zm 8 3, zv 9 (.bin .add .no (.t 8) (zc 1)), zm 3 9]
def qbed : IC := (.seq (.seq qbiu (.cond (.t 7) .skip (.exit 0))) (.seq (.block 1 (.seq qbgm (.cond (.t 14) (.seq qbje .ret) .skip))) qbln))
def q7n : IC := zr [zv 2 (.mov (.c (.bool true)))]
def k0cr : IC := (.seq qbdr (.seq (.seq qbcz (.block 0 (.loop qbed))) (.seq q7n .ret)))
@[go_sem] def s0cr : List (RV × Co) := [(.t 2, .id)]
theorem c0cr : cFun Tryz.prog 94 = some (15, k0cr, s0cr) := by kernel_rfl

def qbbg : IC := zr [zv 4 zf]
def qbeo : IC := zr [zv 5 (.mov (zc 0))]
def qbky : IC := zr [zm 6 5, zm 7 0, zv 8 (.len false (.t 7)), zv 9 (.bin .lss .no (.t 6) (.t 8))]
def qbd0 : IC := zr [zm 12 0, zm 13 5, zv 14 (.iad 1 (.t 12) (.t 13)), zv 15 (.ld false 1 (.t 14)), zm 16 1, zv 17 (.bin .eql .no (.t 15) (.t 16))]
def qblf : IC := zr [zv 4 (.mov (.c (.bool true)))]
def qbfs : IC := zr [zm 10 5, zv 11 (.bin .add .no (.t 10) (zc 1)), zm 5 11]
def q9r : IC := (.seq (.seq qbky (.cond (.t 9) .skip (.exit 0))) (.seq (.block 1 (.seq qbd0 (.cond (.t 17) (.seq qblf .ret) .skip))) qbfs))
def qbel : IC := zr [zv 4 zf]
def k0bv : IC := (.seq qbbg (.seq (.seq qbeo (.block 0 (.loop q9r))) (.seq qbel .ret)))
@[go_sem] def s0bv : List (RV × Co) := [(.t 4, .id)]
theorem c0bv : cFun Tryz.prog 95 = some (18, k0bv, s0bv) := by kernel_rfl

def qbap : IC := zr [zv 4 (.mov (zc 0))]
def qbim : IC := zr [zm 6 0, zv 7 (.len false (.t 6)), zv 8 (.mov (zc 0))]
def qbb2 : IC := zr [zv 9 (.bin .lss .no (.t 8) (.t 7))]
def qbg2 : IC := zr [zm 10 8, zm 5 10]
def qbju : IC := zr [zm 11 1, zm 12 0, zm 13 5, zv 14 (.iad 1 (.t 12) (.t 13)), zv 15 (.ld false 1 (.t 14)), zv 16 (.bin .eql .no (.t 11) (.t 15))]
def qbi4 : IC := zr [zm 17 5, zm 4 17]
def qblr : IC := zr [zv 18 (.bin .add .no (.t 8) (zc 1)), zm 8 18]
def q70 : IC := (.seq qbb2 (.seq (.cond (.t 9) .skip (.exit 0)) (.seq (.block 1 (.seq qbg2 (.seq qbju (.cond (.t 16) (.seq qbi4 .ret) .skip)))) qblr)))
def qbcx : IC := zr [zv 4 (.mov (zc (-1)))]
def k0bt : IC := (.seq qbap (.seq (.seq qbim (.block 0 (.loop q70))) (.seq qbcx .ret)))
@[go_sem] def s0bt : List (RV × Co) := [(.t 4, .id)]
theorem c0bt : cFun Tryz.prog 96 = some (19, k0bt, s0bt) := by kernel_rfl

def qbbo : IC := zr [zv 2 (.mov (zc 0)), zv 3 (.mov (zc 0))]
def qbgi : IC := zr [zm 8 0, zv 9 (.len true (.t 8)), zv 10 (.mov (zc 0))]
def qbh3 : IC := zr [zv 11 (.bin .lss .no (.t 10) (.t 9))]
def qban : IC := zr [zm 12 10, zm 4 12]
def qbfe : IC := zr [zm 13 0, zm 14 4, zv 15 (.idx (.t 13) (.t 14)), zv 16 (.bin .lss .no (.t 15) (.c (.int .u8 48))), zm 17 16, zw 17 false 18 (.mov (.t 0)), zw 17 false 19 (.mov (.t 4)), zw 17 false 20 (.idx (.t 18) (.t 19)), zw 17 false 21 (.bin .gtr .no (.t 20) (.c (.int .u8 57))), zv 22 (.pick (.t 17) (.c (.bool true)) (.t 21))]
def qbcj : IC := zr [zv 2 (.mov (zc 0)), zv 3 (.mov (zc 5))]
def qbhd : IC := zr [zv 23 (.bin .add .no (.t 10) (zc 1)), zm 10 23]
def q78 : IC := (.seq qbh3 (.seq (.cond (.t 11) .skip (.exit 0)) (.seq (.block 1 (.seq qban (.seq qbfe (.cond (.t 22) (.seq qbcj .ret) .skip)))) qbhd)))
def qbdf : IC := zr [zm 24 0, zv 25 (.bin .eql .no (.t 24) (.c (.str [])))]
def q4d : IC := zr [zv 2 (.mov (zc 0)), zv 3 (.mov (zc 5))]
def q4z : IC := zr [zv 5 (.mov (zc 0)), zv 6 (.mov (zc 0))]
def q58 : IC := zr [zm 26 0, zm 27 6, zv 28 (.idx (.t 26) (.t 27)), zv 29 (.bin .sub .no (.t 28) (.c (.int .u8 48))), zv 30 (.cvi .i64 (.t 29)), zm 7 30]
def q5s : IC := zr [zm 31 5, zm 32 7, zv 33 (.bin .sub .no (zc 9223372036854775807) (.t 32)), zv 34 (.bin .quo .no (.t 33) (zc 10)), zv 35 (.bin .gtr .no (.t 31) (.t 34))]
def q50 : IC := zr [zv 2 (.mov (zc 0)), zv 3 (.mov (zc 4))]
def q3e : IC := zr [zm 36 5, zv 37 (.bin .mul .no (zc 10) (.t 36)), zm 38 7, zv 39 (.bin .add .no (.t 37) (.t 38)), zm 5 39]
def q1n : IC := zr [zm 40 6, zv 41 (.bin .add .no (.t 40) (zc 1)), zm 6 41]
def q5t : IC := zr [zm 42 6, zm 43 0, zv 44 (.len true (.t 43)), zv 45 (.bin .lss .no (.t 42) (.t 44))]
def q5c : IC := zr [zm 46 5, zm 2 46, zv 3 (.mov (zc 0))]
def k0cj : IC := (.seq qbbo (.scope (.seq (.seq qbgi (.block 0 (.loop q78))) (.seq (.seq qbdf (.cond (.t 25) (.seq q4d .ret) .skip)) (.seq q4z (.seq (.label 0) (.seq q58 (.seq (.seq q5s (.cond (.t 35) (.seq q50 .ret) .skip)) (.seq q3e (.seq (.seq q1n (.seq q5t (.cond (.t 45) (.goto 0) .skip))) (.seq q5c .ret)))))))))))
@[go_sem] def s0cj : List (RV × Co) := [(.t 2, .id), (.t 3, .id)]
theorem c0cj : cFun Tryz.prog 98 = some (47, k0cj, s0cj) := by kernel_rfl

def q74 : IC := zr [zv 2 (.mov (.c (.str [])))]
def qbh4 : IC := zr [zm 6 0, zv 7 (.cvi .u64 (.t 6)), zm 3 7]
def qbk7 : IC := zr [zm 8 0, zv 9 (.bin .lss .no (.t 8) (zc 0))]
def qbj0 : IC := zr [zm 10 3, zv 11 (.un .neg (.t 10)), zm 3 11]
def qba1 : IC := zr [zi 4 (.alo [(.int .u8 0), (.int .u8 0), (.int .u8 0), (.int .u8 0), (.int .u8 0), (.int .u8 0), (.int .u8 0), (.int .u8 0), (.int .u8 0), (.int .u8 0), (.int .u8 0), (.int .u8 0), (.int .u8 0), (.int .u8 0), (.int .u8 0), (.int .u8 0), (.int .u8 0), (.int .u8 0), (.int .u8 0), (.int .u8 0)])]
def qbiz : IC := zr [zv 5 (.mov (zc 20))]
def qbds : IC := zr [zm 12 5, zv 13 (.bin .sub .no (.t 12) (zc 1)), zm 5 13]
def qbb6 : IC := zr [zm 14 5, zm 15 3, zv 16 (.bin .rem .no (.t 15) (.c (.int .u64 10))), zv 17 (.bin .add .no (.c (.int .u64 48)) (.t 16)), zv 18 (.cvi .u8 (.t 17)), zv 19 (.aad 1 20 (.t 4) (.t 14)), zn (.st 1 .id (.t 19) (.t 18))]
def q84 : IC := zr [zm 20 3, zv 21 (.bin .quo .no (.t 20) (.c (.int .u64 10))), zm 3 21]
def q1l : IC := zr [zm 22 3, zv 23 (.bin .eql .no (.t 22) (.c (.int .u64 0)))]
def qbbl : IC := (.block 1 (.seq qbds (.seq qbb6 (.seq q84 (.seq q1l (.cond (.t 23) (.exit 0) .skip))))))
def q5u : IC := zr [zm 24 0, zv 25 (.bin .lss .no (.t 24) (zc 0))]
def q4c : IC := zr [zm 26 5, zv 27 (.sla 20 (.t 4) (.t 26)), zv 28 (.cbs (.t 27)), zv 29 (.bin .add .no (.c (.str [45])) (.t 28)), zm 2 29]
def q3g : IC := zr [zm 30 5, zv 31 (.sla 20 (.t 4) (.t 30)), zv 32 (.cbs (.t 31)), zm 2 32]
def k0cw : IC := (.seq q74 (.seq qbh4 (.seq (.seq qbk7 (.cond (.t 9) qbj0 .skip)) (.seq qba1 (.seq qbiz (.seq (.block 0 (.loop qbbl)) (.seq (.seq q5u (.cond (.t 25) (.seq q4c .ret) .skip)) (.seq q3g .ret))))))))
@[go_sem] def s0cw : List (RV × Co) := [(.t 2, .id)]
theorem c0cw : cFun Tryz.prog 99 = some (33, k0cw, s0cw) := by kernel_rfl

def qbh8 : IC := zr [zv 2 zf]
def qba0 : IC := zr [zm 3 0, zv 4 (.bin .geq .no (.t 3) (.c (.int .u8 65))), zm 5 4, zw 5 true 6 (.mov (.t 0)), zw 5 true 7 (.bin .leq .no (.t 6) (.c (.int .u8 90))), zv 8 (.pick (.t 5) (.t 7) (.c (.bool false))), zm 2 8]
def k0cm : IC := (.seq qbh8 (.seq qba0 .ret))
@[go_sem] def s0cm : List (RV × Co) := [(.t 2, .id)]
theorem c0cm : cFun Tryz.prog 100 = some (9, k0cm, s0cm) := by kernel_rfl

def q7r : IC := zr [zv 2 zf]
def qbc1 : IC := zr [zm 5 0, zv 6 (.len true (.t 5)), zv 7 (.mov (zc 0))]
def qbha : IC := zr [zv 8 (.bin .lss .no (.t 7) (.t 6))]
def qbhu : IC := zr [zm 9 7, zm 3 9]
def qbii : IC := zr [zm 10 0, zm 11 3, zv 12 (.idx (.t 10) (.t 11)), zm 4 12]
def q7p : IC := zr [zm 13 4, zi 14 (.call (.c (.fn 113 [] [])) [((.t 13), .id)]), zv 15 (.un .not (.t 14)), zm 16 15, zw 16 true 17 (.mov (.t 4)), ⟨some (16, true), some 18, .call (.c (.fn 100 [] [])) [((.t 17), .id)]⟩, zw 16 true 19 (.un .not (.t 18)), zv 20 (.pick (.t 16) (.t 19) (.c (.bool false))), zm 21 20, zw 21 true 22 (.mov (.t 4)), zw 21 true 23 (.bin .lss .no (.t 22) (.c (.int .u8 48))), zw 21 true 24 (.mov (.t 23)), zw 24 false 25 (.mov (.t 4)), zw 24 false 26 (.bin .gtr .no (.t 25) (.c (.int .u8 57))), zw 21 true 27 (.pick (.t 24) (.c (.bool true)) (.t 26)), zv 28 (.pick (.t 21) (.t 27) (.c (.bool false))), zm 29 28, zw 29 true 30 (.mov (.t 4)), zw 29 true 31 (.bin .neq .no (.t 30) (.c (.int .u8 39))), zv 32 (.pick (.t 29) (.t 31) (.c (.bool false)))]
def qbka : IC := zr [zv 2 zf]
def qbgf : IC := zr [zv 33 (.bin .add .no (.t 7) (zc 1)), zm 7 33]
def q94 : IC := (.seq qbha (.seq (.cond (.t 8) .skip (.exit 0)) (.seq (.block 1 (.seq qbhu (.seq qbii (.seq q7p (.cond (.t 32) (.seq qbka .ret) .skip))))) qbgf)))
def q53 : IC := zr [zv 2 (.mov (.c (.bool true)))]
def k0cq : IC := (.seq q7r (.seq (.seq qbc1 (.block 0 (.loop q94))) (.seq q53 .ret)))
@[go_sem] def s0cq : List (RV × Co) := [(.t 2, .id)]
theorem c0cq : cFun Tryz.prog 101 = some (34, k0cq, s0cq) := by kernel_rfl

def qbae : IC := zr [zi 2 (.alo [(.str []), (.int .i64 0), .nils])]
def qbe0 : IC := zr [zm 6 0, zi 7 (.call (.c (.fn 118 [] [])) [((.t 6), .id)]), zm 3 7]
def qbio : IC := zr [zm 8 3, zv 9 (.bin .geq .no (.t 8) (zc 0))]
def qbjg : IC := zr [zm 10 3, zv 11 (.bld [(.str []), (.int .i64 0), .nils] [(1, 1, (.t 10))]), zn (.st 3 (.agg [.id, .id, (.sl 3)]) (.t 2) (.t 11))]
def qbk2 : IC := zr [zm 12 0, zi 13 (.call (.c (.fn 86 [] [])) [((.t 12), .id), ((.c (.str [63])), .id)])]
def qbkf : IC := zr [zm 15 0, zv 16 (.sls (.t 15) (some (zc 1)) none), zi 17 (.call (.c (.fn 98 [] [])) [((.t 16), .id)]), zm 14 17, zv 18 (.ext (.t 14) 0), zv 19 (.ext (.t 14) 1), zm 4 18, zm 5 19]
def qbgb : IC := zr [zm 20 5, zv 21 (.bin .eql .no (.t 20) (zc 0))]
def qbla : IC := zr [zm 22 4, zv 23 (.bin .sub .no (zc (-1)) (.t 22)), zv 24 (.bld [(.str []), (.int .i64 0), .nils] [(1, 1, (.t 23))]), zn (.st 3 (.agg [.id, .id, (.sl 3)]) (.t 2) (.t 24))]
def qbie : IC := zr [zm 25 0, zv 26 (.bld [(.str []), (.int .i64 0), .nils] [(0, 1, (.t 25))]), zn (.st 3 (.agg [.id, .id, (.sl 3)]) (.t 2) (.t 26))]
def k0dh : IC := (.seq qbae (.seq (.seq qbe0 (.seq qbio (.cond (.t 9) (.seq qbjg .ret) .skip))) (.seq (.seq qbk2 (.cond (.t 13) (.seq qbkf (.seq qbgb (.cond (.t 21) (.seq qbla .ret) .skip))) .skip)) (.seq qbie .ret))))
@[go_sem] def s0dh : List (RV × Co) := [(.c true 3 2, (.agg [.id, .id, (.sl 3)]))]
theorem c0dh : cFun Tryz.prog 103 = some (27, k0dh, s0dh) := by kernel_rfl

def qbjj : IC := zr [zv 4 zf]
def qbey : IC := zr [zm 5 0, zv 6 (.len true (.t 5)), zm 7 1, zv 8 (.len true (.t 7)), zv 9 (.bin .geq .no (.t 6) (.t 8)), zm 10 9, zw 10 true 11 (.mov (.t 0)), zw 10 true 12 (.mov (.t 1)), zw 10 true 13 (.len true (.t 12)), zw 10 true 14 (.sls (.t 11) none (some (.t 13))), zw 10 true 15 (.mov (.t 1)), zw 10 true 16 (.bin .eql .no (.t 14) (.t 15)), zv 17 (.pick (.t 10) (.t 16) (.c (.bool false))), zm 4 17]
def k0cg : IC := (.seq qbjj (.seq qbey .ret))
@[go_sem] def s0cg : List (RV × Co) := [(.t 4, .id)]
theorem c0cg : cFun Tryz.prog 104 = some (18, k0cg, s0cg) := by kernel_rfl

def qbhh : IC := zr [zi 2 (.box (.t 0)), zv 4 (.mov (.c (.str [])))]
def qbhi : IC := zr [zm 5 1]
def q83 : IC := zr [zv 6 (.ld true 3 (.t 2)), zi 7 (.call (.c (.fn 89 [] [])) [((.t 6), (.agg [.id, .id, (.sl 3)]))]), zv 8 (.bin .add .no (.c (.str [40])) (.t 7)), zv 9 (.bin .add .no (.t 8) (.c (.str [41]))), zm 4 9]
def q8n : IC := zr [zv 10 (.ld true 3 (.t 2)), zi 11 (.call (.c (.fn 89 [] [])) [((.t 10), (.agg [.id, .id, (.sl 3)]))]), zm 4 11]
def k0be : IC := (.seq qbhh (.seq (.seq qbhi (.cond (.t 5) (.seq q83 .ret) .skip)) (.seq q8n .ret)))
@[go_sem] def s0be : List (RV × Co) := [(.t 4, .id)]
theorem c0be : cFun Tryz.prog 105 = some (12, k0be, s0be) := by kernel_rfl

def qbcy : IC := zr [zi 1 (.box (.t 0)), zv 2 (.mov (.c (.str [])))]
def qbbk : IC := zr [zv 4 (.fad (.t 1) 0), zv 5 (.ld false 1 (.t 4)), zv 6 (.bin .neq .no (.t 5) (.c (.str []))), zm 3 6]
def qbj7 : IC := zr [zv 7 (.fad (.t 1) 0), zv 8 (.ld false 1 (.t 7)), zm 2 8]
def qbe3 : IC := zr [zv 10 (.fad (.t 1) 1), zv 11 (.ld false 1 (.t 10)), zv 12 (.bin .geq .no (.t 11) (zc 0)), zm 9 12]
def qbeb : IC := zr [zv 13 (.fad (.t 1) 1), zv 14 (.ld false 1 (.t 13)), zi 15 (.call (.c (.fn 120 [] [])) [((.t 14), .id)]), zm 2 15]
def qbgv : IC := zr [zv 16 (.fad (.t 1) 1), zv 17 (.ld false 1 (.t 16)), zv 18 (.bin .sub .no (zc (-1)) (.t 17)), zi 19 (.call (.c (.fn 99 [] [])) [((.t 18), .id)]), zv 20 (.bin .add .no (.c (.str [63])) (.t 19)), zm 2 20]
def k0bd : IC := (.seq qbcy (.seq (.block 0 (.seq qbbk (.cond (.t 3) (.seq qbj7 .ret) (.seq qbe3 (.cond (.t 9) (.seq qbeb .ret) .skip))))) (.seq qbgv .ret)))
@[go_sem] def s0bd : List (RV × Co) := [(.t 2, .id)]
theorem c0bd : cFun Tryz.prog 107 = some (21, k0bd, s0bd) := by kernel_rfl

def q85 : IC := zr [zi 3 (.box (.t 0)), zv 5 zf]
def q97 : IC := zr [zv 6 (.fad (.t 3) 0), zv 7 (.ld false 1 (.t 6)), zv 8 (.bin .neq .no (.t 7) (.c (.str []))), zm 9 8, zw 9 false 10 (.fad (.t 3) 1), zw 9 false 11 (.ld false 1 (.t 10)), zw 9 false 12 (.ld false 1 (.t 2)), zw 9 false 13 (.bin .neq .no (.t 11) (.t 12)), zv 14 (.pick (.t 9) (.c (.bool true)) (.t 13)), zm 5 14]
def k0dd : IC := (.seq q85 (.seq q97 .ret))
@[go_sem] def s0dd : List (RV × Co) := [(.t 5, .id)]
theorem c0dd : cFun Tryz.prog 109 = some (15, k0dd, s0dd) := by kernel_rfl

def q93 : IC := zr [zv 2 (.mov (.c (.int .u64 0)))]
def qbg4 : IC := zr [zm 3 0, zv 4 (.bin .lss .no (.t 3) (zc 0))]
def qbf3 : IC := zr [zm 5 0, zv 6 (.cvi .u64 (.t 5)), zv 7 (.un .neg (.t 6)), zm 2 7]
def qblw : IC := zr [zm 8 0, zv 9 (.cvi .u64 (.t 8)), zm 2 9]
def k0cu : IC := (.seq q93 (.seq (.seq qbg4 (.cond (.t 4) (.seq qbf3 .ret) .skip)) (.seq qblw .ret)))
@[go_sem] def s0cu : List (RV × Co) := [(.t 2, .id)]
theorem c0cu : cFun Tryz.prog 110 = some (10, k0cu, s0cu) := by kernel_rfl

def qbi6 : IC := zr [zv 2 zf]
def qbj2 : IC := zr [zm 3 0, zi 4 (.call (.c (.fn 121 [] [])) [((.t 3), .id)]), zm 5 4, zw 5 false 6 (.mov (.t 0)), ⟨some (5, false), some 7, .call (.c (.fn 93 [] [])) [((.t 6), .id)]⟩, zv 8 (.pick (.t 5) (.c (.bool true)) (.t 7)), zm 9 8, zw 9 false 10 (.mov (.t 0)), ⟨some (9, false), some 11, .call (.c (.fn 122 [] [])) [((.t 10), .id)]⟩, zv 12 (.pick (.t 9) (.c (.bool true)) (.t 11)), zm 13 12, zw 13 false 14 (.mov (.t 0)), zw 13 false 15 (.bin .eql .no (.t 14) (.c (.int .u8 39))), zv 16 (.pick (.t 13) (.c (.bool true)) (.t 15)), zm 2 16]
def k0cp : IC := (.seq qbi6 (.seq qbj2 .ret))
@[go_sem] def s0cp : List (RV × Co) := [(.t 2, .id)]
theorem c0cp : cFun Tryz.prog 111 = some (17, k0cp, s0cp) := by kernel_rfl

def qbcn : IC := zr [zv 2 zf]
def qbl1 : IC := zr [zm 3 0, zv 4 (.bin .geq .no (.t 3) (.c (.int .u8 97))), zm 5 4, zw 5 true 6 (.mov (.t 0)), zw 5 true 7 (.bin .leq .no (.t 6) (.c (.int .u8 122))), zv 8 (.pick (.t 5) (.t 7) (.c (.bool false))), zm 9 8, zw 9 false 10 (.mov (.t 0)), zw 9 false 11 (.bin .eql .no (.t 10) (.c (.int .u8 95))), zv 12 (.pick (.t 9) (.c (.bool true)) (.t 11)), zm 2 12]
def k0ck : IC := (.seq qbcn (.seq qbl1 .ret))
@[go_sem] def s0ck : List (RV × Co) := [(.t 2, .id)]
theorem c0ck : cFun Tryz.prog 113 = some (13, k0ck, s0ck) := by kernel_rfl

def qbc2 : IC := zr [zv 2 (.mov (zc 0))]
def qbbm : IC := zr [zm 6 0, zv 7 (.bin .eql .no (.t 6) (.c (.str []))), zm 8 7, zw 8 false 9 (.mov (.t 0)), zw 8 false 10 (.idx (.t 9) (zc 0)), zw 8 false 11 (.bin .lss .no (.t 10) (.c (.int .u8 97))), zv 12 (.pick (.t 8) (.c (.bool true)) (.t 11)), zm 13 12, zw 13 false 14 (.mov (.t 0)), zw 13 false 15 (.idx (.t 14) (zc 0)), zw 13 false 16 (.bin .gtr .no (.t 15) (.c (.int .u8 122))), zv 17 (.pick (.t 13) (.c (.bool true)) (.t 16))]
def qbmc : IC := zr [zv 2 (.mov (zc (-1)))]
def q9e : IC := zr [zm 18 0, zv 19 (.idx (.t 18) (zc 0)), zv 20 (.bin .sub .no (.t 19) (.c (.int .u8 97))), zv 21 (.cvi .i64 (.t 20)), zm 3 21]
def qbl0 : IC := zr [zm 22 0, zv 23 (.len true (.t 22)), zv 24 (.bin .gtr .no (.t 23) (zc 1))]
def qbbx : IC := zr [zm 26 0, zv 27 (.sls (.t 26) (some (zc 1)) none), zi 28 (.call (.c (.fn 98 [] [])) [((.t 27), .id)]), zm 25 28, zv 29 (.ext (.t 25) 0), zv 30 (.ext (.t 25) 1), zm 4 29, zm 5 30]
def qbav : IC := zr [zm 31 5, zv 32 (.bin .neq .no (.t 31) (zc 0)), zm 33 32, zw 33 false 34 (.mov (.t 4)), zw 33 false 35 (.bin .gtr .no (.t 34) (zc 177372539170284150)), zv 36 (.pick (.t 33) (.c (.bool true)) (.t 35))]
def q7i : IC := zr [zv 2 (.mov (zc (-1)))]
def qbho : IC := zr [zm 37 3, zm 38 4, zv 39 (.bin .mul .no (zc 26) (.t 38)), zv 40 (.bin .add .no (.t 37) (.t 39)), zm 3 40]
def q96 : IC := zr [zm 41 3, zv 42 (.bin .gtr .no (.t 41) (zc 4611686018427387904)), zm 43 42, zw 43 false 44 (.mov (.t 3)), ⟨some (43, false), some 45, .call (.c (.fn 120 [] [])) [((.t 44), .id)]⟩, zw 43 false 46 (.mov (.t 0)), zw 43 false 47 (.bin .neq .no (.t 45) (.t 46)), zv 48 (.pick (.t 43) (.c (.bool true)) (.t 47))]
def q6d : IC := zr [zv 2 (.mov (zc (-1)))]
def q6j : IC := zr [zm 49 3, zm 2 49]
def k0dk : IC := (.seq qbc2 (.seq (.seq qbbm (.cond (.t 17) (.seq qbmc .ret) .skip)) (.seq q9e (.seq (.seq qbl0 (.cond (.t 24) (.seq qbbx (.seq (.seq qbav (.cond (.t 36) (.seq q7i .ret) .skip)) qbho)) .skip)) (.seq (.seq q96 (.cond (.t 48) (.seq q6d .ret) .skip)) (.seq q6j .ret))))))
@[go_sem] def s0dk : List (RV × Co) := [(.t 2, .id)]
theorem c0dk : cFun Tryz.prog 118 = some (50, k0dk, s0dk) := by kernel_rfl

def q7q : IC := zr [zv 2 (.mov (.c (.str [])))]
def q9p : IC := zr [zm 4 0, zv 5 (.bin .lss .no (.t 4) (zc 0))]
def qbk1 : IC := zr [zv 2 (.mov (.c (.str [])))]
def qbex : IC := zr [zm 6 0, zv 7 (.bin .rem .no (.t 6) (zc 26)), zv 8 (.bin .add .no (zc 97) (.t 7)), zv 9 (.cvi .u8 (.t 8)), zv 10 (.bsl 1 [((.t 9), .id)]), zv 11 (.cbs (.t 10)), zm 3 11]
def qbj5 : IC := zr [zm 12 0, zv 13 (.bin .lss .no (.t 12) (zc 26))]
def q8v : IC := zr [zm 14 3, zm 2 14]
def qbkv : IC := zr [zm 15 3, zm 16 0, zv 17 (.bin .quo .no (.t 16) (zc 26)), zi 18 (.call (.c (.fn 99 [] [])) [((.t 17), .id)]), zv 19 (.bin .add .no (.t 15) (.t 18)), zm 2 19]
def k0cx : IC := (.seq q7q (.seq (.seq q9p (.cond (.t 5) (.seq qbk1 .ret) .skip)) (.seq qbex (.seq (.seq qbj5 (.cond (.t 13) (.seq q8v .ret) .skip)) (.seq qbkv .ret)))))
@[go_sem] def s0cx : List (RV × Co) := [(.t 2, .id)]
theorem c0cx : cFun Tryz.prog 120 = some (20, k0cx, s0cx) := by kernel_rfl

def qbaj : IC := zr [zv 2 zf]
def qbgg : IC := zr [zm 3 0, zv 4 (.bin .geq .no (.t 3) (.c (.int .u8 97))), zm 5 4, zw 5 true 6 (.mov (.t 0)), zw 5 true 7 (.bin .leq .no (.t 6) (.c (.int .u8 122))), zv 8 (.pick (.t 5) (.t 7) (.c (.bool false))), zm 9 8, zw 9 false 10 (.mov (.t 0)), zw 9 false 11 (.bin .eql .no (.t 10) (.c (.int .u8 95))), zv 12 (.pick (.t 9) (.c (.bool true)) (.t 11)), zm 2 12]
def k0cl : IC := (.seq qbaj (.seq qbgg .ret))
@[go_sem] def s0cl : List (RV × Co) := [(.t 2, .id)]
theorem c0cl : cFun Tryz.prog 121 = some (13, k0cl, s0cl) := by kernel_rfl

def qbjw : IC := zr [zv 2 zf]
def qbkl : IC := zr [zm 3 0, zv 4 (.bin .geq .no (.t 3) (.c (.int .u8 48))), zm 5 4, zw 5 true 6 (.mov (.t 0)), zw 5 true 7 (.bin .leq .no (.t 6) (.c (.int .u8 57))), zv 8 (.pick (.t 5) (.t 7) (.c (.bool false))), zm 2 8]
def k0co : IC := (.seq qbjw (.seq qbkl .ret))
@[go_sem] def s0co : List (RV × Co) := [(.t 2, .id)]
theorem c0co : cFun Tryz.prog 122 = some (9, k0co, s0co) := by kernel_rfl

end Go.Proofs.YtlahgbhhejkgbaaGreat
