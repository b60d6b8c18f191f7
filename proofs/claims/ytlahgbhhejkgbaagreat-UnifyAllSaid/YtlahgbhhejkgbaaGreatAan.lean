/- A text of this proof. -/
import Derived.Test.YtlahgbhhejkgbaaGreatAaf
import Derived.Test.YtlahgbhhejkgbaaGreatProg
/- The compiled code of the functions. -/
namespace Go.Proofs.YtlahgbhhejkgbaaGreat
open Go Go.V
@[reducible] def zm (d s : Nat) : GI := ⟨none, some d, .v (.mov (.t s))⟩
@[reducible] def zv (d : Nat) (x : IV) : GI := ⟨none, some d, .v x⟩
@[reducible] def zi (d : Nat) (i : I) : GI := ⟨none, some d, i⟩
@[reducible] def zn (i : I) : GI := ⟨none, none, i⟩
@[reducible] def zw (j : Nat) (b : Bool) (d : Nat) (x : IV) : GI := ⟨some (j, b), some d, .v x⟩
@[reducible] def zp (g : GI) : GI × List Nat := (g, [])
@[reducible] def zN : Co := .agg [.id, .id, .id, .id, (.sl 5)]
@[reducible] def zC : Co := .agg [(.sl 4), .id, .id, .id, .id, .id, .id, .id]
@[reducible] def zaN : I := .alo [(.int .i64 0), (.int .i64 0), (.int .i64 0), (.str []), .nils]
@[reducible] def zaC : I := .alo [.nils, (.int .i64 0), (.int .i64 0), (.int .i64 0), (.str []), (.int .i64 0), (.int .i64 0), (.int .i64 0)]
@[reducible] def zaT : I := .alo [(.int .i64 0), (.int .i64 0), (.int .i64 0), (.str [])]
@[reducible] def zZ : AV := .agg [(.int .i64 0), (.int .i64 0), (.int .i64 0), (.str []), .nils]
@[reducible] def zc (n : Int) : Opd := .c (.int .i64 n)
@[reducible] def zf : IV := .mov (.c (.bool false))
@[reducible] def zr (l : List GI) : IC := .reg false l
def qbri : IC := zr [zv 4 zf]
def qbvy : IC := zr [zm 9 0, zv 10 (.len false (.t 9)), zv 11 (.bin .gtr .no (.t 10) (zc 10)), zm 12 11, zw 12 false 13 (.mov (.t 1)), zw 12 false 14 (.len false (.t 13)), zw 12 false 15 (.bin .gtr .no (.t 14) (zc 10)), zv 16 (.pick (.t 12) (.c (.bool true)) (.t 15)), zm 17 16, zw 17 false 18 (.mov (.t 0)), ⟨some (17, false), some 19, .app 3 (.agg [(.str []), (.int .i64 0), .nils]) 48 (.sl 3) (.c .nils) (.t 18)⟩, zw 17 false 20 (.mov (.t 1)), ⟨some (17, false), some 21, .app 3 (.agg [(.str []), (.int .i64 0), .nils]) 48 (.sl 3) (.t 19) (.t 20)⟩, ⟨some (17, false), some 22, .call (.c (.fn 7 [] [])) [((.t 21), (.sl 3))]⟩, zw 17 false 23 (.un .not (.t 22)), zv 24 (.pick (.t 17) (.c (.bool true)) (.t 23))]
def qbwm : IC := zr [zi 25 (.call (.c (.fn 8 [] [])) []), zm 4 25]
def qbuv : IC := zr [zm 27 0, zm 28 1, zi 29 (.call (.c (.fn 13 [] [])) [((.t 27), (.sl 3)), ((.t 28), (.sl 3))]), zm 26 29, zv 30 (.ext (.t 26) 0), zv 31 (.ext (.t 26) 1), zm 5 30, zm 6 31]
def qbra : IC := zr [zm 33 0, zm 34 1, zi 35 (.call (.c (.fn 14 [] [])) [((.t 33), (.sl 3)), ((.t 34), (.sl 3))]), zm 32 35, zv 36 (.ext (.t 32) 0), zv 37 (.ext (.t 32) 1), zm 7 36, zm 8 37]
def qbo4 : IC := .drw [zp (zm 38 0), zp (zv 39 (.len false (.t 38))), zp (zv 40 (.bin .gtr .no (.t 39) (zc 0))), zp (zm 41 40), zp (zw 41 true 42 (.mov (.t 1))), zp (zw 41 true 43 (.len false (.t 42))), zp (zw 41 true 44 (.bin .gtr .no (.t 43) (zc 0))), zp (zv 45 (.pick (.t 41) (.t 44) (.c (.bool false)))), zp (zm 46 45), zp (zw 46 true 47 (.mov (.t 0))), zp (zw 46 true 48 (.iad 3 (.t 47) (zc 0))), zp (zw 46 true 49 (.ld true 3 (.t 48))), zp (zw 46 true 50 (.mov (.t 1))), zp (zw 46 true 51 (.iad 3 (.t 50) (zc 0))), zp (zw 46 true 52 (.ld true 3 (.t 51))), (⟨some (46, true), some 53, .call (.c (.fn 15 [] [])) [((.t 49), (.agg [.id, .id, (.sl 3)])), ((.t 52), (.agg [.id, .id, (.sl 3)]))]⟩, []), zp (zw 46 true 54 (.mov (.t 0))), zp (zw 46 true 55 (.iad 3 (.t 54) (zc 0))), (zw 46 true 56 (.ld true 3 (.t 55)), [15]), zp (zw 46 true 57 (.mov (.t 1))), zp (zw 46 true 58 (.iad 3 (.t 57) (zc 0))), (zw 46 true 59 (.ld true 3 (.t 58)), [15]), (⟨some (46, true), some 60, .call (.c (.fn 16 [] [])) [((.t 56), (.agg [.id, .id, (.sl 3)])), ((.t 59), (.agg [.id, .id, (.sl 3)]))]⟩, []), zp (zw 46 true 61 (.bin .neq .bool (.t 53) (.t 60))), zp (zv 62 (.pick (.t 46) (.t 61) (.c (.bool false))))]
def qbw7 : IC := zr [zv 4 zf]
def qbqj : IC := zr [zm 63 6, zm 64 8, zv 65 (.bin .eql .no (.t 63) (.t 64)), zm 66 65, zw 66 true 67 (.mov (.t 5)), zw 66 true 68 (.bin .eql .ptr (.t 67) (.c .nilp)), zw 66 true 69 (.mov (.t 8)), zw 66 true 70 (.bin .neq .no (.t 69) (zc 0)), zw 66 true 71 (.bin .eql .bool (.t 68) (.t 70)), zv 72 (.pick (.t 66) (.t 71) (.c (.bool false))), zm 73 72, zw 73 true 74 (.mov (.t 5)), ⟨some (73, true), some 75, .call (.c (.fn 12 [] [])) [((.t 74), .id)]⟩, zw 73 true 76 (.mov (.t 7)), ⟨some (73, true), some 77, .call (.c (.fn 11 [] [])) [((.t 75), (.sl 4)), ((.t 76), (.sl 4))]⟩, zv 78 (.pick (.t 73) (.t 77) (.c (.bool false))), zm 79 78, ⟨some (79, true), some 80, .call (.c (.fn 8 [] [])) []⟩, zv 81 (.pick (.t 79) (.t 80) (.c (.bool false))), zm 4 81]
def k0a : IC := (.seq qbri (.seq (.seq qbvy (.cond (.t 24) (.seq qbwm .ret) .skip)) (.seq qbuv (.seq qbra (.seq (.seq qbo4 (.cond (.t 62) (.seq qbw7 .ret) .skip)) (.seq qbqj .ret))))))
@[go_sem] def s0a : List (RV × Co) := [(.t 4, .id)]
theorem c0a : cFun Tryz.prog 4 = some (82, k0a, s0a) := by kernel_rfl

def qbtl : IC := zr [zv 2 zf]
def qbrv : IC := zr [zv 3 (.mov (zc 0))]
def qbp3 : IC := zr [zv 4 (.mov (zc 0))]
def qbtp : IC := zr [zm 5 4, zm 6 0, zv 7 (.len false (.t 6)), zv 8 (.bin .lss .no (.t 5) (.t 7))]
def qbqy : IC := zr [zm 11 0, zm 12 4, zv 13 (.iad 3 (.t 11) (.t 12)), zv 14 (.ld true 3 (.t 13)), zv 15 (.bsl 3 [((.t 14), (.agg [.id, .id, (.sl 3)]))]), zi 16 (.call (.c (.fn 22 [] [])) [((.t 15), (.sl 3))]), zv 17 (.bin .eql .no (.t 16) (zc 0))]
def qbt4 : IC := zr [zv 2 zf]
def qbtt : IC := zr [zm 18 3, zm 19 0, zm 20 4, zv 21 (.iad 3 (.t 19) (.t 20)), zv 22 (.ld true 3 (.t 21)), zi 23 (.call (.c (.fn 23 [] [])) [((.t 22), (.agg [.id, .id, (.sl 3)]))]), zv 24 (.bin .add .no (.t 18) (.t 23)), zm 3 24]
def qbpo : IC := zr [zm 25 3, zv 26 (.bin .gtr .no (.t 25) (zc 600))]
def qbug : IC := zr [zv 2 zf]
def qbgg : IC := zr [zm 9 4, zv 10 (.bin .add .no (.t 9) (zc 1)), zm 4 10]
def qbtb : IC := (.seq (.seq qbtp (.cond (.t 8) .skip (.exit 0))) (.seq (.block 1 (.seq (.seq qbqy (.cond (.t 17) (.seq qbt4 .ret) .skip)) (.seq qbtt (.seq qbpo (.cond (.t 26) (.seq qbug .ret) .skip))))) qbgg))
def q9v : IC := zr [zv 2 (.mov (.c (.bool true)))]
def k0b : IC := (.seq qbtl (.seq qbrv (.seq (.seq qbp3 (.block 0 (.loop qbtb))) (.seq q9v .ret))))
@[go_sem] def s0b : List (RV × Co) := [(.t 2, .id)]
theorem c0b : cFun Tryz.prog 7 = some (27, k0b, s0b) := by kernel_rfl

def qbpz : IC := zr [zv 0 zf]
def qbq2 : IC := zr [zi 18 (.call (.c (.fn 24 [] [])) [((.c (.str [97, 32, 45, 62, 32, 84])), .id)]), zi 19 (.call (.c (.fn 24 [] [])) [((.c (.str [85, 32, 45, 62, 32, 98])), .id)]), zi 20 (.call (.c (.fn 9 [] [])) [((.t 18), (.agg [.id, .id, (.sl 3)])), ((.t 19), (.agg [.id, .id, (.sl 3)]))]), zm 17 20, zv 21 (.ext (.t 17) 0), zv 22 (.ext (.t 17) 1), zm 1 21, zm 2 22]
def qbpb : IC := zr [zm 23 1, zv 24 (.bin .eql .ptr (.t 23) (.c .nilp))]
def qbq9 : IC := zr [zv 0 zf]
def qbwd : IC := zr [zm 26 1, zi 27 (.call (.c (.fn 25 [] [])) [((.t 26), .id), ((zc 0), .id)]), zm 25 27, zv 28 (.ext (.t 25) 0), zv 29 (.ext (.t 25) 1), zi 3 (.alo [(.str []), (.int .i64 0), .nils]), zn (.st 3 (.agg [.id, .id, (.sl 3)]) (.t 3) (.t 28)), zm 4 29]
def qbtm : IC := zr [zm 31 1, zi 32 (.call (.c (.fn 25 [] [])) [((.t 31), .id), ((zc 1), .id)]), zm 30 32, zv 33 (.ext (.t 30) 0), zv 34 (.ext (.t 30) 1), zi 5 (.alo [(.str []), (.int .i64 0), .nils]), zn (.st 3 (.agg [.id, .id, (.sl 3)]) (.t 5) (.t 33)), zm 6 34]
def qbwu : IC := zr [zi 36 (.call (.c (.fn 24 [] [])) [((.c (.str [97, 32, 45, 62, 32, 84])), .id)]), zi 37 (.call (.c (.fn 24 [] [])) [((.c (.str [84])), .id)]), zi 38 (.call (.c (.fn 9 [] [])) [((.t 36), (.agg [.id, .id, (.sl 3)])), ((.t 37), (.agg [.id, .id, (.sl 3)]))]), zm 35 38, zv 39 (.ext (.t 35) 0), zv 40 (.ext (.t 35) 1), zm 7 39, zm 8 40]
def qbvr : IC := zr [zi 42 (.call (.c (.fn 24 [] [])) [((.c (.str [97])), .id)]), zi 43 (.call (.c (.fn 24 [] [])) [((.c (.str [84, 32, 97])), .id)]), zi 44 (.call (.c (.fn 9 [] [])) [((.t 42), (.agg [.id, .id, (.sl 3)])), ((.t 43), (.agg [.id, .id, (.sl 3)]))]), zm 41 44, zv 45 (.ext (.t 41) 0), zv 46 (.ext (.t 41) 1), zm 9 45, zm 10 46]
def qbs1 : IC := zr [zi 48 (.call (.c (.fn 24 [] [])) [((.c (.str [97])), .id)]), zi 49 (.call (.c (.fn 24 [] [])) [((.c (.str [97])), .id)]), zv 50 (.bsl 3 [((.t 48), (.agg [.id, .id, (.sl 3)])), ((.t 49), (.agg [.id, .id, (.sl 3)]))]), zi 51 (.call (.c (.fn 24 [] [])) [((.c (.str [84])), .id)]), zi 52 (.call (.c (.fn 24 [] [])) [((.c (.str [85])), .id)]), zv 53 (.bsl 3 [((.t 51), (.agg [.id, .id, (.sl 3)])), ((.t 52), (.agg [.id, .id, (.sl 3)]))]), zi 54 (.call (.c (.fn 13 [] [])) [((.t 50), (.sl 3)), ((.t 53), (.sl 3))]), zm 47 54, zv 55 (.ext (.t 47) 0), zv 56 (.ext (.t 47) 1), zm 11 55, zm 12 56]
def qbpe : IC := zr [zm 58 1, zi 59 (.call (.c (.fn 24 [] [])) [((.c (.str [97, 32, 45, 62, 32, 99])), .id)]), zi 60 (.call (.c (.fn 24 [] [])) [((.c (.str [99, 32, 45, 62, 32, 85])), .id)]), zi 61 (.call (.c (.fn 26 [] [])) [((.t 58), .id), ((.t 59), (.agg [.id, .id, (.sl 3)])), ((.t 60), (.agg [.id, .id, (.sl 3)]))]), zm 57 61, zv 62 (.ext (.t 57) 0), zv 63 (.ext (.t 57) 1), zm 13 62, zm 14 63]
def qbai : IC := zr [zm 65 13, zi 66 (.call (.c (.fn 25 [] [])) [((.t 65), .id), ((zc 2), .id)]), zm 64 66, zv 67 (.ext (.t 64) 0), zv 68 (.ext (.t 64) 1), zi 15 (.alo [(.str []), (.int .i64 0), .nils]), zn (.st 3 (.agg [.id, .id, (.sl 3)]) (.t 15) (.t 67)), zm 16 68]
def qbfz : IC := zr [zm 69 2, zv 70 (.bin .eql .no (.t 69) (zc 0)), zm 71 70, zw 71 true 72 (.fad (.t 3) 0), zw 71 true 73 (.ld false 1 (.t 72)), zw 71 true 74 (.bin .eql .no (.t 73) (.c (.str [85]))), zv 75 (.pick (.t 71) (.t 74) (.c (.bool false))), zm 76 75, zw 76 true 77 (.fad (.t 5) 0), zw 76 true 78 (.ld false 1 (.t 77)), zw 76 true 79 (.bin .eql .no (.t 78) (.c (.str [84]))), zv 80 (.pick (.t 76) (.t 79) (.c (.bool false))), zm 81 80, zw 81 true 82 (.mov (.t 8)), zw 81 true 83 (.bin .eql .no (.t 82) (zc 14)), zv 84 (.pick (.t 81) (.t 83) (.c (.bool false))), zm 85 84, zw 85 true 86 (.mov (.t 10)), zw 85 true 87 (.bin .eql .no (.t 86) (zc 15)), zv 88 (.pick (.t 85) (.t 87) (.c (.bool false))), zm 89 88, zw 89 true 90 (.mov (.t 12)), zw 89 true 91 (.bin .eql .no (.t 90) (zc 14)), zv 92 (.pick (.t 89) (.t 91) (.c (.bool false))), zm 93 92, zw 93 true 94 (.mov (.t 14)), zw 93 true 95 (.bin .eql .no (.t 94) (zc 0)), zv 96 (.pick (.t 93) (.t 95) (.c (.bool false))), zm 97 96, zw 97 true 98 (.fad (.t 15) 0), zw 97 true 99 (.ld false 1 (.t 98)), zw 97 true 100 (.bin .eql .no (.t 99) (.c (.str [85]))), zv 101 (.pick (.t 97) (.t 100) (.c (.bool false))), zm 102 101, ⟨some (102, true), some 103, .call (.c (.fn 24 [] [])) [((.c (.str [97])), .id)]⟩, ⟨some (102, true), some 104, .call (.c (.fn 24 [] [])) [((.c (.str [84, 32, 97])), .id)]⟩, ⟨some (102, true), some 105, .call (.c (.fn 15 [] [])) [((.t 103), (.agg [.id, .id, (.sl 3)])), ((.t 104), (.agg [.id, .id, (.sl 3)]))]⟩, zw 102 true 106 (.un .not (.t 105)), zv 107 (.pick (.t 102) (.t 106) (.c (.bool false))), zm 108 107, ⟨some (108, true), some 109, .call (.c (.fn 24 [] [])) [((.c (.str [84, 32, 97])), .id)]⟩, ⟨some (108, true), some 110, .call (.c (.fn 24 [] [])) [((.c (.str [85])), .id)]⟩, ⟨some (108, true), some 111, .call (.c (.fn 15 [] [])) [((.t 109), (.agg [.id, .id, (.sl 3)])), ((.t 110), (.agg [.id, .id, (.sl 3)]))]⟩, zv 112 (.pick (.t 108) (.t 111) (.c (.bool false))), zm 0 112]
def k0d : IC := (.seq qbpz (.seq qbq2 (.seq (.seq qbpb (.cond (.t 24) (.seq qbq9 .ret) .skip)) (.seq qbwd (.seq qbtm (.seq qbwu (.seq qbvr (.seq qbs1 (.seq qbpe (.seq qbai (.seq qbfz .ret)))))))))))
@[go_sem] def s0d : List (RV × Co) := [(.t 0, .id)]
theorem c0d : cFun Tryz.prog 8 = some (113, k0d, s0d) := by kernel_rfl

def qbvj : IC := zr [zi 2 (.box (.t 0)), zi 3 (.box (.t 1)), zv 4 (.mov (.c .nilp)), zv 5 (.mov (zc 0))]
def qbqq : IC := zr [zv 6 (.ld true 3 (.t 2)), zv 7 (.ld true 3 (.t 3)), zv 8 (.bsl 3 [((.t 6), (.agg [.id, .id, (.sl 3)])), ((.t 7), (.agg [.id, .id, (.sl 3)]))]), zi 9 (.call (.c (.fn 27 [] [])) [((.t 8), (.sl 3))]), zv 10 (.un .not (.t 9))]
def qbpl : IC := zr [zv 4 (.mov (.c .nilp)), zv 5 (.mov (zc 1))]
def qbwz : IC := zr [zv 11 (.ld true 3 (.t 2)), zv 12 (.ld true 3 (.t 3)), zv 13 (.bld [(.str []), (.int .i64 0), .nils, (.str []), (.int .i64 0), .nils] [(0, 3, (.t 11)), (3, 3, (.t 12))]), zv 14 (.bsl 6 [((.t 13), (.agg [.id, .id, (.sl 3), .id, .id, (.sl 3)]))]), zi 15 (.call (.c (.fn 28 [] [])) [((.t 14), (.sl 6))]), zv 16 (.ext (.t 15) 0), zv 17 (.ext (.t 15) 1), zm 4 16, zm 5 17]
def k0i : IC := (.seq qbvj (.seq (.seq qbqq (.cond (.t 10) (.seq qbpl .ret) .skip)) (.seq qbwz .ret)))
@[go_sem] def s0i : List (RV × Co) := [(.t 4, .id), (.t 5, .id)]
theorem c0i : cFun Tryz.prog 9 = some (18, k0i, s0i) := by kernel_rfl

def qbcj : IC := zr [zi 2 (.box (.t 0)), zi 3 (.box (.t 1)), zv 4 (.mov (.c .nils)), zv 5 (.mov (zc 0))]
def qbog : IC := zr [zv 6 (.ld true 3 (.t 2)), zi 7 (.call (.c (.fn 29 [] [])) [((.t 6), (.agg [.id, .id, (.sl 3)]))]), zv 8 (.un .not (.t 7)), zm 9 8, zw 9 false 10 (.ld true 3 (.t 3)), ⟨some (9, false), some 11, .call (.c (.fn 29 [] [])) [((.t 10), (.agg [.id, .id, (.sl 3)]))]⟩, zw 9 false 12 (.un .not (.t 11)), zv 13 (.pick (.t 9) (.c (.bool true)) (.t 12))]
def qbfx : IC := zr [zv 4 (.mov (.c .nils)), zv 5 (.mov (zc 1))]
def qbkm : IC := zr [zv 14 (.ld true 3 (.t 2)), zv 15 (.ld true 3 (.t 3)), zi 16 (.call (.c (.fn 30 [] [])) [((.c .nils), (.sl 4)), ((.t 14), (.agg [.id, .id, (.sl 3)])), ((.t 15), (.agg [.id, .id, (.sl 3)]))]), zv 17 (.ext (.t 16) 0), zv 18 (.ext (.t 16) 1), zm 4 17, zm 5 18]
def k0dr : IC := (.seq qbcj (.seq (.seq qbog (.cond (.t 13) (.seq qbfx .ret) .skip)) (.seq qbkm .ret)))
@[go_sem] def s0dr : List (RV × Co) := [(.t 4, (.sl 4)), (.t 5, .id)]
theorem c0dr : cFun Tryz.prog 10 = some (19, k0dr, s0dr) := by kernel_rfl

def qbl3 : IC := zr [zv 4 zf]
def qbe8 : IC := zr [zm 6 0, zv 7 (.len false (.t 6)), zm 8 1, zv 9 (.len false (.t 8)), zv 10 (.bin .neq .no (.t 7) (.t 9))]
def qbmx : IC := zr [zv 4 zf]
def qbgw : IC := zr [zv 5 (.mov (zc 0))]
def qbip : IC := zr [zm 11 5, zm 12 0, zv 13 (.len false (.t 12)), zv 14 (.bin .lss .no (.t 11) (.t 13))]
def qbj7 : IC := .drw [zp (zm 17 0), zp (zm 18 5), zp (zv 19 (.iad 4 (.t 17) (.t 18))), zp (zv 20 (.fad (.t 19) 0)), zp (zv 21 (.ld false 1 (.t 20))), zp (zm 22 1), zp (zm 23 5), zp (zv 24 (.iad 4 (.t 22) (.t 23))), zp (zv 25 (.fad (.t 24) 0)), zp (zv 26 (.ld false 1 (.t 25))), zp (zv 27 (.bin .neq .no (.t 21) (.t 26))), zp (zm 28 27), zp (zw 28 false 29 (.mov (.t 0))), zp (zw 28 false 30 (.mov (.t 5))), zp (zw 28 false 31 (.iad 4 (.t 29) (.t 30))), zp (zw 28 false 32 (.fad (.t 31) 1)), zp (zw 28 false 33 (.ld true 3 (.t 32))), zp (zw 28 false 34 (.mov (.t 1))), zp (zw 28 false 35 (.mov (.t 5))), zp (zw 28 false 36 (.iad 4 (.t 34) (.t 35))), zp (zw 28 false 37 (.fad (.t 36) 1)), zp (zw 28 false 38 (.ld true 3 (.t 37))), (⟨some (28, false), some 39, .call (.c (.fn 20 [] [])) [((.t 33), (.agg [.id, .id, (.sl 3)])), ((.t 38), (.agg [.id, .id, (.sl 3)]))]⟩, []), zp (zw 28 false 40 (.un .not (.t 39))), zp (zv 41 (.pick (.t 28) (.c (.bool true)) (.t 40)))]
def qbld : IC := zr [zv 4 zf]
def qbka : IC := zr [zm 15 5, zv 16 (.bin .add .no (.t 15) (zc 1)), zm 5 16]
def qbb5 : IC := (.seq (.seq qbip (.cond (.t 14) .skip (.exit 0))) (.seq (.block 1 (.seq qbj7 (.cond (.t 41) (.seq qbld .ret) .skip))) qbka))
def q5t : IC := zr [zv 4 (.mov (.c (.bool true)))]
def k0dc : IC := (.seq qbl3 (.seq (.seq qbe8 (.cond (.t 10) (.seq qbmx .ret) .skip)) (.seq (.seq qbgw (.block 0 (.loop qbb5))) (.seq q5t .ret))))
@[go_sem] def s0dc : List (RV × Co) := [(.t 4, .id)]
theorem c0dc : cFun Tryz.prog 11 = some (42, k0dc, s0dc) := by kernel_rfl

def qbrl : IC := zr [zv 2 (.mov (.c .nils))]
def qbpg : IC := zr [zm 6 0, zv 7 (.bin .eql .ptr (.t 6) (.c .nilp))]
def qbqb : IC := zr [zv 2 (.mov (.c .nils))]
def qbw2 : IC := zr [zm 8 0, zv 9 (.nck (.t 8)), zv 10 (.fad (.t 9) 0), zv 11 (.ld false 1 (.t 10)), zv 12 (.len false (.t 11)), zi 13 (.mks 4 (.agg [(.int .i64 0), (.str []), (.int .i64 0), .nils]) 56 (.t 12) (.t 12)), zm 3 13]
def qbwq : IC := zr [zm 14 0, zv 15 (.nck (.t 14)), zv 16 (.fad (.t 15) 0), zv 17 (.ld false 1 (.t 16)), zv 18 (.len false (.t 17)), zv 19 (.mov (zc 0))]
def qbtu : IC := zr [zv 20 (.bin .lss .no (.t 19) (.t 18))]
def qbqd : IC := zr [zm 21 19, zv 22 (.iad 4 (.t 17) (.t 19)), zv 23 (.ld true 4 (.t 22)), zi 5 (.alo [(.int .i64 0), (.str []), (.int .i64 0), .nils]), zm 4 21, zn (.st 4 (.agg [.id, .id, .id, (.sl 3)]) (.t 5) (.t 23))]
def qbuk : IC := .drw [zp (zm 24 3), zp (zm 25 4), zp (zv 26 (.fad (.t 5) 0)), zp (zv 27 (.ld false 1 (.t 26))), zp (zv 28 (.fad (.t 5) 1)), zp (zv 29 (.ld true 3 (.t 28))), (zi 30 (.call (.c (.fn 31 [] [])) [((.t 29), (.agg [.id, .id, (.sl 3)]))]), [3]), (zv 31 (.bld [(.int .i64 0), (.str []), (.int .i64 0), .nils] [(0, 1, (.t 27)), (1, 3, (.t 30))]), []), zp (zv 32 (.iad 4 (.t 24) (.t 25))), (zn (.st 4 (.agg [.id, .id, .id, (.sl 3)]) (.t 32) (.t 31)), [])]
def qbq8 : IC := zr [zv 33 (.bin .add .no (.t 19) (zc 1)), zm 19 33]
def qbph : IC := (.seq qbtu (.seq (.cond (.t 20) .skip (.exit 0)) (.seq (.block 1 (.seq qbqd qbuk)) qbq8)))
def qbnt : IC := zr [zm 34 3, zm 2 34]
def k0r : IC := (.seq qbrl (.seq (.seq qbpg (.cond (.t 7) (.seq qbqb .ret) .skip)) (.seq qbw2 (.seq (.seq qbwq (.block 0 (.loop qbph))) (.seq qbnt .ret)))))
@[go_sem] def s0r : List (RV × Co) := [(.t 2, (.sl 4))]
theorem c0r : cFun Tryz.prog 12 = some (35, k0r, s0r) := by kernel_rfl

def qbp9 : IC := zr [zv 4 (.mov (.c .nilp)), zv 5 (.mov (zc 0))]
def qbt8 : IC := zr [zm 7 0, zi 8 (.call (.c (.fn 27 [] [])) [((.t 7), (.sl 3))]), zv 9 (.un .not (.t 8)), zm 10 9, zw 10 false 11 (.mov (.t 1)), ⟨some (10, false), some 12, .call (.c (.fn 27 [] [])) [((.t 11), (.sl 3))]⟩, zw 10 false 13 (.un .not (.t 12)), zv 14 (.pick (.t 10) (.c (.bool true)) (.t 13)), zm 6 14]
def qbv0 : IC := zr [zv 4 (.mov (.c .nilp)), zv 5 (.mov (zc 1))]
def qbr5 : IC := zr [zm 16 0, zv 17 (.len false (.t 16)), zm 18 1, zv 19 (.len false (.t 18)), zv 20 (.bin .neq .no (.t 17) (.t 19)), zm 15 20]
def qbt9 : IC := zr [zv 4 (.mov (.c .nilp)), zv 5 (.mov (zc 14))]
def qbr4 : IC := zr [zm 21 0, zm 22 1, zi 23 (.call (.c (.fn 32 [] [])) [((.t 21), (.sl 3)), ((.t 22), (.sl 3))]), zi 24 (.call (.c (.fn 28 [] [])) [((.t 23), (.sl 6))]), zv 25 (.ext (.t 24) 0), zv 26 (.ext (.t 24) 1), zm 4 25, zm 5 26]
def k0g : IC := (.seq qbp9 (.seq (.block 0 (.seq qbt8 (.cond (.t 6) (.seq qbv0 .ret) (.seq qbr5 (.cond (.t 15) (.seq qbt9 .ret) .skip))))) (.seq qbr4 .ret)))
@[go_sem] def s0g : List (RV × Co) := [(.t 4, .id), (.t 5, .id)]
theorem c0g : cFun Tryz.prog 13 = some (27, k0g, s0g) := by kernel_rfl

def q8s : IC := zr [zv 4 (.mov (.c .nils)), zv 5 (.mov (zc 0))]
def qbno : IC := zr [zm 10 0, zi 11 (.call (.c (.fn 33 [] [])) [((.t 10), (.sl 3))]), zv 12 (.un .not (.t 11)), zm 13 12, zw 13 false 14 (.mov (.t 1)), ⟨some (13, false), some 15, .call (.c (.fn 33 [] [])) [((.t 14), (.sl 3))]⟩, zw 13 false 16 (.un .not (.t 15)), zv 17 (.pick (.t 13) (.c (.bool true)) (.t 16))]
def qbna : IC := zr [zv 4 (.mov (.c .nils)), zv 5 (.mov (zc 1))]
def qbg7 : IC := zr [zm 18 0, zv 19 (.len false (.t 18)), zm 20 1, zv 21 (.len false (.t 20)), zv 22 (.bin .neq .no (.t 19) (.t 21))]
def qbaz : IC := zr [zv 4 (.mov (.c .nils)), zv 5 (.mov (zc 14))]
def qbbp : IC := zr [zv 6 (.mov (.c .nils))]
def q8k : IC := zr [zv 7 (.mov (zc 0))]
def qble : IC := zr [zm 23 7, zm 24 0, zv 25 (.len false (.t 24)), zv 26 (.bin .lss .no (.t 23) (.t 25))]
def qbgi : IC := .drw [zp (zm 30 6), zp (zm 31 0), zp (zm 32 7), zp (zv 33 (.iad 3 (.t 31) (.t 32))), zp (zv 34 (.ld true 3 (.t 33))), zp (zm 35 1), zp (zm 36 7), zp (zv 37 (.iad 3 (.t 35) (.t 36))), zp (zv 38 (.ld true 3 (.t 37))), (zi 39 (.call (.c (.fn 30 [] [])) [((.t 30), (.sl 4)), ((.t 34), (.agg [.id, .id, (.sl 3)])), ((.t 38), (.agg [.id, .id, (.sl 3)]))]), []), zp (zm 29 39), zp (zv 40 (.ext (.t 29) 0)), zp (zv 41 (.ext (.t 29) 1)), zp (zm 8 40), zp (zm 9 41)]
def q09 : IC := zr [zm 42 9, zv 43 (.bin .neq .no (.t 42) (zc 0))]
def q40 : IC := zr [zm 44 9, zv 4 (.mov (.c .nils)), zm 5 44]
def q5m : IC := zr [zm 45 8, zm 6 45]
def q5u : IC := zr [zm 27 7, zv 28 (.bin .add .no (.t 27) (zc 1)), zm 7 28]
def qbks : IC := (.seq (.seq qble (.cond (.t 26) .skip (.exit 0))) (.seq (.block 1 (.seq qbgi (.seq (.seq q09 (.cond (.t 43) (.seq q40 .ret) .skip)) q5m))) q5u))
def q6s : IC := zr [zm 46 6, zm 4 46, zv 5 (.mov (zc 0))]
def k0dt : IC := (.seq q8s (.seq (.seq qbno (.cond (.t 17) (.seq qbna .ret) .skip)) (.seq (.seq qbg7 (.cond (.t 22) (.seq qbaz .ret) .skip)) (.seq qbbp (.seq (.seq q8k (.block 0 (.loop qbks))) (.seq q6s .ret))))))
@[go_sem] def s0dt : List (RV × Co) := [(.t 4, (.sl 4)), (.t 5, .id)]
theorem c0dt : cFun Tryz.prog 14 = some (47, k0dt, s0dt) := by kernel_rfl

def qbvn : IC := zr [zi 2 (.box (.t 0)), zi 3 (.box (.t 1)), zv 4 zf]
def qbuz : IC := zr [zv 7 (.ld true 3 (.t 2)), zv 8 (.ld true 3 (.t 3)), zv 9 (.bsl 3 [((.t 7), (.agg [.id, .id, (.sl 3)])), ((.t 8), (.agg [.id, .id, (.sl 3)]))]), zi 10 (.call (.c (.fn 27 [] [])) [((.t 9), (.sl 3))]), zv 11 (.un .not (.t 10))]
def qbql : IC := zr [zv 4 zf]
def qbsr : IC := .drw [zp (zv 13 (.ld true 3 (.t 2))), (zi 14 (.call (.c (.fn 34 [] [])) [((.t 13), (.agg [.id, .id, (.sl 3)])), ((zc 0), .id)]), []), (zv 15 (.ld true 3 (.t 3)), [1]), (zi 16 (.call (.c (.fn 34 [] [])) [((.t 15), (.agg [.id, .id, (.sl 3)])), ((zc 1), .id)]), []), (zi 17 (.call (.c (.fn 9 [] [])) [((.t 14), (.agg [.id, .id, (.sl 3)])), ((.t 16), (.agg [.id, .id, (.sl 3)]))]), []), zp (zm 12 17), zp (zv 18 (.ext (.t 12) 0)), zp (zv 19 (.ext (.t 12) 1)), zp (zm 5 18), zp (zm 6 19)]
def qbpt : IC := zr [zm 20 6, zv 21 (.bin .eql .no (.t 20) (zc 14)), zm 22 21, zw 22 false 23 (.mov (.t 6)), zw 22 false 24 (.bin .eql .no (.t 23) (zc 15)), zv 25 (.pick (.t 22) (.c (.bool true)) (.t 24)), zm 4 25]
def k0f : IC := (.seq qbvn (.seq (.seq qbuz (.cond (.t 11) (.seq qbql .ret) .skip)) (.seq qbsr (.seq qbpt .ret))))
@[go_sem] def s0f : List (RV × Co) := [(.t 4, .id)]
theorem c0f : cFun Tryz.prog 15 = some (26, k0f, s0f) := by kernel_rfl

def qbk3 : IC := zr [zi 2 (.box (.t 0)), zi 3 (.box (.t 1)), zv 4 zf]
def q9o : IC := zr [zv 7 (.ld true 3 (.t 2)), zi 8 (.call (.c (.fn 29 [] [])) [((.t 7), (.agg [.id, .id, (.sl 3)]))]), zv 9 (.un .not (.t 8)), zm 10 9, zw 10 false 11 (.ld true 3 (.t 3)), ⟨some (10, false), some 12, .call (.c (.fn 29 [] [])) [((.t 11), (.agg [.id, .id, (.sl 3)]))]⟩, zw 10 false 13 (.un .not (.t 12)), zv 14 (.pick (.t 10) (.c (.bool true)) (.t 13))]
def qbek : IC := zr [zv 4 zf]
def q9f : IC := .drw [zp (zv 16 (.ld true 3 (.t 2))), (zi 17 (.call (.c (.fn 35 [] [])) [((.t 16), (.agg [.id, .id, (.sl 3)])), ((zc 0), .id)]), []), (zv 18 (.ld true 3 (.t 3)), [1]), (zi 19 (.call (.c (.fn 35 [] [])) [((.t 18), (.agg [.id, .id, (.sl 3)])), ((zc 1), .id)]), []), (zi 20 (.call (.c (.fn 10 [] [])) [((.t 17), (.agg [.id, .id, (.sl 3)])), ((.t 19), (.agg [.id, .id, (.sl 3)]))]), []), zp (zm 15 20), zp (zv 21 (.ext (.t 15) 0)), zp (zv 22 (.ext (.t 15) 1)), zp (zm 5 21), zp (zm 6 22)]
def qbd5 : IC := zr [zm 23 6, zv 24 (.bin .eql .no (.t 23) (zc 14)), zm 25 24, zw 25 false 26 (.mov (.t 6)), zw 25 false 27 (.bin .eql .no (.t 26) (zc 15)), zv 28 (.pick (.t 25) (.c (.bool true)) (.t 27)), zm 4 28]
def k0dw : IC := (.seq qbk3 (.seq (.seq q9o (.cond (.t 14) (.seq qbek .ret) .skip)) (.seq q9f (.seq qbd5 .ret))))
@[go_sem] def s0dw : List (RV × Co) := [(.t 4, .id)]
theorem c0dw : cFun Tryz.prog 16 = some (29, k0dw, s0dw) := by kernel_rfl

def qbux : IC := zr [zv 2 (.mov (.c .nilp))]
def qbqg : IC := zr [zv 6 (.bld [.nils] []), zi 7 (.box (.t 6)), zm 3 7]
def qbsa : IC := zr [zm 8 0, zv 9 (.len false (.t 8)), zv 10 (.mov (zc 0))]
def qbw0 : IC := zr [zv 11 (.bin .lss .no (.t 10) (.t 9))]
def qboo : IC := zr [zv 12 (.iad 4 (.t 8) (.t 10)), zv 13 (.ld true 4 (.t 12)), zi 5 (.alo [(.int .i64 0), (.str []), (.int .i64 0), .nils]), zn (.st 4 (.agg [.id, .id, .id, (.sl 3)]) (.t 5) (.t 13))]
def qbu8 : IC := zr [zm 14 3, zv 15 (.fad (.t 5) 0), zv 16 (.ld false 1 (.t 15)), zv 17 (.fad (.t 5) 1), zv 18 (.ld true 3 (.t 17)), zi 19 (.call (.c (.fn 36 [] [])) [((.t 14), .id), ((.t 16), .id), ((.t 18), (.agg [.id, .id, (.sl 3)]))])]
def qbsw : IC := zr [zv 20 (.bin .add .no (.t 10) (zc 1)), zm 10 20]
def qbua : IC := (.seq qbw0 (.seq (.cond (.t 11) .skip (.exit 0)) (.seq (.block 1 (.seq qboo qbu8)) qbsw)))
def qbqc : IC := zr [zm 21 3, zm 2 21]
def k0t : IC := (.seq qbux (.seq qbqg (.seq (.seq qbsa (.block 0 (.loop qbua))) (.seq qbqc .ret))))
@[go_sem] def s0t : List (RV × Co) := [(.t 2, .id)]
theorem c0t : cFun Tryz.prog 18 = some (22, k0t, s0t) := by kernel_rfl

def qbry : IC := zr [zi 3 (.box (.t 1)), zi 4 (.alo [(.str []), (.int .i64 0), .nils]), zv 5 (.mov (zc 0))]
def qbst : IC := zr [zv 8 (.ld true 3 (.t 3)), zi 9 (.call (.c (.fn 37 [] [])) [((.t 8), (.agg [.id, .id, (.sl 3)]))]), zv 10 (.un .not (.t 9))]
def qbrd : IC := zr [zv 11 (.bld [(.str []), (.int .i64 0), .nils] []), zn (.st 3 (.agg [.id, .id, (.sl 3)]) (.t 4) (.t 11)), zv 5 (.mov (zc 1))]
def qbpd : IC := zr [zm 12 0, zv 13 (.bld [.nilp, (.int .i64 0)] [(0, 1, (.t 12)), (1, 1, (zc 4096))]), zi 14 (.box (.t 13)), zm 6 14]
def qbwo : IC := zr [zm 15 6, zv 16 (.ld true 3 (.t 3)), zi 17 (.call (.c (.fn 38 [] [])) [((.t 15), .id), ((.t 16), (.agg [.id, .id, (.sl 3)])), ((zc 1), .id)]), zi 7 (.alo [(.str []), (.int .i64 0), .nils]), zn (.st 3 (.agg [.id, .id, (.sl 3)]) (.t 7) (.t 17))]
def qbsi : IC := zr [zm 18 6, zv 19 (.nck (.t 18)), zv 20 (.fad (.t 19) 1), zv 21 (.ld false 1 (.t 20)), zv 22 (.bin .lss .no (.t 21) (zc 0))]
def qbt6 : IC := zr [zv 23 (.bld [(.str []), (.int .i64 0), .nils] []), zn (.st 3 (.agg [.id, .id, (.sl 3)]) (.t 4) (.t 23)), zv 5 (.mov (zc 2))]
def qbu4 : IC := zr [zv 24 (.ld true 3 (.t 7)), zn (.st 3 (.agg [.id, .id, (.sl 3)]) (.t 4) (.t 24)), zv 5 (.mov (zc 0))]
def k0s : IC := (.seq qbry (.seq (.seq qbst (.cond (.t 10) (.seq qbrd .ret) .skip)) (.seq qbpd (.seq qbwo (.seq (.seq qbsi (.cond (.t 22) (.seq qbt6 .ret) .skip)) (.seq qbu4 .ret))))))
@[go_sem] def s0s : List (RV × Co) := [(.c true 3 4, (.agg [.id, .id, (.sl 3)])), (.t 5, .id)]
theorem c0s : cFun Tryz.prog 19 = some (25, k0s, s0s) := by kernel_rfl

def qbf9 : IC := zr [zi 2 (.box (.t 0)), zi 3 (.box (.t 1)), zv 4 zf]
def qbjz : IC := zr [zv 6 (.fad (.t 2) 0), zv 7 (.ld false 1 (.t 6)), zv 8 (.fad (.t 3) 0), zv 9 (.ld false 1 (.t 8)), zv 10 (.bin .neq .no (.t 7) (.t 9)), zm 11 10, zw 11 false 12 (.fad (.t 2) 1), zw 11 false 13 (.ld false 1 (.t 12)), zw 11 false 14 (.fad (.t 3) 1), zw 11 false 15 (.ld false 1 (.t 14)), zw 11 false 16 (.bin .neq .no (.t 13) (.t 15)), zv 17 (.pick (.t 11) (.c (.bool true)) (.t 16)), zm 18 17, zw 18 false 19 (.fad (.t 2) 2), zw 18 false 20 (.ld false 1 (.t 19)), zw 18 false 21 (.len false (.t 20)), zw 18 false 22 (.fad (.t 3) 2), zw 18 false 23 (.ld false 1 (.t 22)), zw 18 false 24 (.len false (.t 23)), zw 18 false 25 (.bin .neq .no (.t 21) (.t 24)), zv 26 (.pick (.t 18) (.c (.bool true)) (.t 25))]
def qbel : IC := zr [zv 4 zf]
def qbm3 : IC := zr [zv 5 (.mov (zc 0))]
def qba6 : IC := zr [zm 27 5, zv 28 (.fad (.t 2) 2), zv 29 (.ld false 1 (.t 28)), zv 30 (.len false (.t 29)), zv 31 (.bin .lss .no (.t 27) (.t 30))]
def qbhg : IC := .drw [zp (zv 34 (.fad (.t 2) 2)), zp (zv 35 (.ld false 1 (.t 34))), zp (zm 36 5), zp (zv 37 (.iad 3 (.t 35) (.t 36))), zp (zv 38 (.ld true 3 (.t 37))), zp (zv 39 (.fad (.t 3) 2)), zp (zv 40 (.ld false 1 (.t 39))), zp (zm 41 5), zp (zv 42 (.iad 3 (.t 40) (.t 41))), zp (zv 43 (.ld true 3 (.t 42))), (zi 44 (.call (.c (.fn 20 [] [])) [((.t 38), (.agg [.id, .id, (.sl 3)])), ((.t 43), (.agg [.id, .id, (.sl 3)]))]), []), zp (zv 45 (.un .not (.t 44)))]
def qbge : IC := zr [zv 4 zf]
def q8i : IC := zr [zm 32 5, zv 33 (.bin .add .no (.t 32) (zc 1)), zm 5 33]
def q76 : IC := (.seq (.seq qba6 (.cond (.t 31) .skip (.exit 0))) (.seq (.block 1 (.seq qbhg (.cond (.t 45) (.seq qbge .ret) .skip))) q8i))
def q7b : IC := zr [zv 4 (.mov (.c (.bool true)))]
def k0cd : IC := (.seq qbf9 (.seq (.seq qbjz (.cond (.t 26) (.seq qbel .ret) .skip)) (.seq (.seq qbm3 (.block 0 (.loop q76))) (.seq q7b .ret))))
@[go_sem] def s0cd : List (RV × Co) := [(.t 4, .id)]
theorem c0cd : cFun Tryz.prog 20 = some (46, k0cd, s0cd) := by kernel_rfl

def qbk9 : IC := zr [zv 2 (.mov (zc 0))]
def qbg9 : IC := zr [zv 3 (.mov (zc 20000))]
def qbi4 : IC := zr [zv 4 (.mov (zc 0))]
def qba9 : IC := zr [zm 5 4, zm 6 0, zv 7 (.len false (.t 6)), zv 8 (.bin .lss .no (.t 5) (.t 7))]
def q8d : IC := zr [zm 11 0, zm 12 4, zv 13 (.iad 3 (.t 11) (.t 12)), zv 14 (.ld true 3 (.t 13)), zm 15 3, zi 16 (.call (.c (.fn 40 [] [])) [((.t 14), (.agg [.id, .id, (.sl 3)])), ((.t 15), .id), ((zc 300), .id)]), zm 3 16]
def qbfs : IC := zr [zm 9 4, zv 10 (.bin .add .no (.t 9) (zc 1)), zm 4 10]
def qbdy : IC := (.seq (.seq qba9 (.cond (.t 8) .skip (.exit 0))) (.seq (.block 1 q8d) qbfs))
def q9s : IC := zr [zm 17 3, zv 18 (.bin .lss .no (.t 17) (zc 0))]
def qbdz : IC := zr [zv 2 (.mov (zc 0))]
def q2x : IC := zr [zv 2 (.mov (zc 1))]
def k0br : IC := (.seq qbk9 (.seq qbg9 (.seq (.seq qbi4 (.block 0 (.loop qbdy))) (.seq (.seq q9s (.cond (.t 18) (.seq qbdz .ret) .skip)) (.seq q2x .ret)))))
@[go_sem] def s0br : List (RV × Co) := [(.t 2, .id)]
theorem c0br : cFun Tryz.prog 22 = some (19, k0br, s0br) := by kernel_rfl

def q8x : IC := zr [zi 1 (.box (.t 0)), zv 2 (.mov (zc 0))]
def qbba : IC := zr [zv 3 (.mov (zc 1))]
def qbfb : IC := zr [zv 4 (.mov (zc 0))]
def qbky : IC := zr [zm 5 4, zv 6 (.fad (.t 1) 2), zv 7 (.ld false 1 (.t 6)), zv 8 (.len false (.t 7)), zv 9 (.bin .lss .no (.t 5) (.t 8))]
def qbbj : IC := zr [zm 12 3, zv 13 (.fad (.t 1) 2), zv 14 (.ld false 1 (.t 13)), zm 15 4, zv 16 (.iad 3 (.t 14) (.t 15)), zv 17 (.ld true 3 (.t 16)), zi 18 (.call (.c (.fn 23 [] [])) [((.t 17), (.agg [.id, .id, (.sl 3)]))]), zv 19 (.bin .add .no (.t 12) (.t 18)), zm 3 19]
def q97 : IC := zr [zm 10 4, zv 11 (.bin .add .no (.t 10) (zc 1)), zm 4 11]
def qbbt : IC := (.seq (.seq qbky (.cond (.t 9) .skip (.exit 0))) (.seq (.block 1 qbbj) q97))
def qbjp : IC := zr [zm 20 3, zm 2 20]
def k0bn : IC := (.seq q8x (.seq qbba (.seq (.seq qbfb (.block 0 (.loop qbbt))) (.seq qbjp .ret))))
@[go_sem] def s0bn : List (RV × Co) := [(.t 2, .id)]
theorem c0bn : cFun Tryz.prog 23 = some (21, k0bn, s0bn) := by kernel_rfl

def qbs3 : IC := zr [zi 2 (.alo [(.str []), (.int .i64 0), .nils])]
def qbsv : IC := zr [zm 6 0, zi 7 (.call (.c (.fn 41 [] [])) [((.t 6), .id)]), zm 5 7, zv 8 (.ext (.t 5) 0), zv 9 (.ext (.t 5) 1), zi 3 (.alo [(.str []), (.int .i64 0), .nils]), zn (.st 3 (.agg [.id, .id, (.sl 3)]) (.t 3) (.t 8)), zm 4 9]
def qbop : IC := zr [zv 10 (.ld true 3 (.t 3)), zn (.st 3 (.agg [.id, .id, (.sl 3)]) (.t 2) (.t 10))]
def k0c : IC := (.seq qbs3 (.seq qbsv (.seq qbop .ret)))
@[go_sem] def s0c : List (RV × Co) := [(.c true 3 2, (.agg [.id, .id, (.sl 3)]))]
theorem c0c : cFun Tryz.prog 24 = some (11, k0c, s0c) := by kernel_rfl

def qbq5 : IC := zr [zi 4 (.alo [(.str []), (.int .i64 0), .nils]), zv 5 zf]
def qbor : IC := zr [zm 8 0, zv 9 (.bin .eql .ptr (.t 8) (.c .nilp))]
def qbuw : IC := zr [zv 10 (.bld [(.str []), (.int .i64 0), .nils] []), zn (.st 3 (.agg [.id, .id, (.sl 3)]) (.t 4) (.t 10)), zv 5 zf]
def qbwj : IC := zr [zm 12 0, zm 13 1, zi 14 (.call (.c (.fn 42 [] [])) [((.t 12), .id), ((.t 13), .id)]), zm 11 14, zv 15 (.ext (.t 11) 0), zv 16 (.ext (.t 11) 1), zm 6 15, zm 7 16]
def qbp4 : IC := zr [zm 17 7, zv 18 (.un .not (.t 17))]
def qbpq : IC := zr [zv 19 (.bld [(.str []), (.int .i64 0), .nils] []), zn (.st 3 (.agg [.id, .id, (.sl 3)]) (.t 4) (.t 19)), zv 5 zf]
def qbqr : IC := zr [zm 20 0, zv 21 (.nck (.t 20)), zv 22 (.fad (.t 21) 0), zv 23 (.ld false 1 (.t 22)), zm 24 6, zv 25 (.iad 4 (.t 23) (.t 24)), zv 26 (.fad (.t 25) 1), zv 27 (.ld true 3 (.t 26)), zn (.st 3 (.agg [.id, .id, (.sl 3)]) (.t 4) (.t 27)), zv 5 (.mov (.c (.bool true)))]
def k0w : IC := (.seq qbq5 (.seq (.seq qbor (.cond (.t 9) (.seq qbuw .ret) .skip)) (.seq qbwj (.seq (.seq qbp4 (.cond (.t 18) (.seq qbpq .ret) .skip)) (.seq qbqr .ret)))))
@[go_sem] def s0w : List (RV × Co) := [(.c true 3 4, (.agg [.id, .id, (.sl 3)])), (.t 5, .id)]
theorem c0w : cFun Tryz.prog 25 = some (28, k0w, s0w) := by kernel_rfl

def qbw9 : IC := zr [zi 4 (.box (.t 1)), zi 5 (.box (.t 2)), zv 6 (.mov (.c .nilp)), zv 7 (.mov (zc 0))]
def qbq7 : IC := zr [zm 13 0, zv 14 (.ld true 3 (.t 4)), zi 15 (.call (.c (.fn 19 [] [])) [((.t 13), .id), ((.t 14), (.agg [.id, .id, (.sl 3)]))]), zm 12 15, zv 16 (.ext (.t 12) 0), zv 17 (.ext (.t 12) 1), zi 8 (.alo [(.str []), (.int .i64 0), .nils]), zn (.st 3 (.agg [.id, .id, (.sl 3)]) (.t 8) (.t 16)), zm 9 17]
def qbrc : IC := zr [zm 18 9, zv 19 (.bin .neq .no (.t 18) (zc 0))]
def qbqh : IC := zr [zm 20 9, zv 6 (.mov (.c .nilp)), zm 7 20]
def qbox : IC := zr [zm 22 0, zv 23 (.ld true 3 (.t 5)), zi 24 (.call (.c (.fn 19 [] [])) [((.t 22), .id), ((.t 23), (.agg [.id, .id, (.sl 3)]))]), zm 21 24, zv 25 (.ext (.t 21) 0), zv 26 (.ext (.t 21) 1), zi 10 (.alo [(.str []), (.int .i64 0), .nils]), zn (.st 3 (.agg [.id, .id, (.sl 3)]) (.t 10) (.t 25)), zm 9 26]
def qbr2 : IC := zr [zm 27 9, zv 28 (.bin .neq .no (.t 27) (zc 0))]
def qbol : IC := zr [zm 29 9, zv 6 (.mov (.c .nilp)), zm 7 29]
def qbov : IC := zr [zv 31 (.ld true 3 (.t 8)), zv 32 (.ld true 3 (.t 10)), zi 33 (.call (.c (.fn 9 [] [])) [((.t 31), (.agg [.id, .id, (.sl 3)])), ((.t 32), (.agg [.id, .id, (.sl 3)]))]), zm 30 33, zv 34 (.ext (.t 30) 0), zv 35 (.ext (.t 30) 1), zm 11 34, zm 9 35]
def qbpj : IC := zr [zm 36 9, zv 37 (.bin .neq .no (.t 36) (zc 0))]
def qbqo : IC := zr [zm 38 9, zv 6 (.mov (.c .nilp)), zm 7 38]
def qbiy : IC := zr [zm 39 0, zm 40 11, zi 41 (.call (.c (.fn 43 [] [])) [((.t 39), .id), ((.t 40), .id)]), zv 42 (.ext (.t 41) 0), zv 43 (.ext (.t 41) 1), zm 6 42, zm 7 43]
def k0h : IC := (.seq qbw9 (.seq qbq7 (.seq (.seq qbrc (.cond (.t 19) (.seq qbqh .ret) .skip)) (.seq qbox (.seq (.seq qbr2 (.cond (.t 28) (.seq qbol .ret) .skip)) (.seq qbov (.seq (.seq qbpj (.cond (.t 37) (.seq qbqo .ret) .skip)) (.seq qbiy .ret))))))))
@[go_sem] def s0h : List (RV × Co) := [(.t 6, .id), (.t 7, .id)]
theorem c0h : cFun Tryz.prog 26 = some (44, k0h, s0h) := by kernel_rfl

def qbsl : IC := zr [zv 2 zf]
def qbsn : IC := zr [zm 5 0, zv 6 (.len false (.t 5)), zv 7 (.mov (zc 0))]
def qbta : IC := zr [zv 8 (.bin .lss .no (.t 7) (.t 6))]
def qbss : IC := zr [zv 9 (.iad 3 (.t 5) (.t 7)), zv 10 (.ld true 3 (.t 9)), zi 4 (.alo [(.str []), (.int .i64 0), .nils]), zn (.st 3 (.agg [.id, .id, (.sl 3)]) (.t 4) (.t 10))]
def qbqn : IC := zr [zv 11 (.ld true 3 (.t 4)), zi 12 (.call (.c (.fn 37 [] [])) [((.t 11), (.agg [.id, .id, (.sl 3)]))]), zv 13 (.un .not (.t 12))]
def qbq1 : IC := zr [zv 2 zf]
def qbpr : IC := zr [zv 14 (.bin .add .no (.t 7) (zc 1)), zm 7 14]
def qbu7 : IC := (.seq qbta (.seq (.cond (.t 8) .skip (.exit 0)) (.seq (.block 1 (.seq qbss (.seq qbqn (.cond (.t 13) (.seq qbq1 .ret) .skip)))) qbpr)))
def qbsk : IC := zr [zv 2 (.mov (.c (.bool true)))]
def k0l : IC := (.seq qbsl (.seq (.seq qbsn (.block 0 (.loop qbu7))) (.seq qbsk .ret)))
@[go_sem] def s0l : List (RV × Co) := [(.t 2, .id)]
theorem c0l : cFun Tryz.prog 27 = some (15, k0l, s0l) := by kernel_rfl

def qbud : IC := zr [zv 2 (.mov (.c .nilp)), zv 3 (.mov (zc 0))]
def qbro : IC := zr [zi 9 (.call (.c (.fn 18 [] [])) [((.c .nils), (.sl 4))]), zm 4 9, zv 5 (.mov (zc 0))]
def qbqu : IC := zr [zv 10 (.bld [.nils] []), zi 11 (.box (.t 10)), zm 6 11]
def qbrg : IC := zr [zm 12 6, zm 13 0, zi 14 (.call (.c (.fn 44 [] [])) [((.t 12), .id), ((.t 13), (.sl 6))])]
def qbpf : IC := zr [zm 16 6, zi 17 (.call (.c (.fn 45 [] [])) [((.t 16), .id)]), zm 15 17, zv 18 (.ext (.t 15) 0), zv 19 (.ext (.t 15) 1), zi 7 (.alo [(.str []), (.int .i64 0), .nils, (.str []), (.int .i64 0), .nils]), zn (.st 6 (.agg [.id, .id, (.sl 3), .id, .id, (.sl 3)]) (.t 7) (.t 18)), zm 8 19]
def qbo6 : IC := zr [zm 20 8, zv 21 (.un .not (.t 20))]
def qbru : IC := zr [zm 22 4, zm 2 22, zv 3 (.mov (zc 0))]
def qbw3 : IC := zr [zm 24 4, zv 25 (.ld true 6 (.t 7)), zm 26 6, zi 27 (.call (.c (.fn 46 [] [])) [((.t 24), .id), ((.t 25), (.agg [.id, .id, (.sl 3), .id, .id, (.sl 3)])), ((.t 26), .id)]), zm 23 27, zv 28 (.ext (.t 23) 0), zv 29 (.ext (.t 23) 1), zm 4 28, zm 5 29]
def qbq3 : IC := zr [zm 30 5, zv 31 (.bin .neq .no (.t 30) (zc 0))]
def qbax : IC := zr [zm 32 5, zv 2 (.mov (.c .nilp)), zm 3 32]
def qbtq : IC := (.block 1 (.seq qbpf (.seq (.seq qbo6 (.cond (.t 21) (.seq qbru .ret) .skip)) (.seq qbw3 (.seq qbq3 (.cond (.t 31) (.seq qbax .ret) .skip))))))
def k0j : IC := (.seq qbud (.seq qbro (.seq qbqu (.seq qbrg (.block 0 (.loop qbtq))))))
@[go_sem] def s0j : List (RV × Co) := [(.t 2, .id), (.t 3, .id)]
theorem c0j : cFun Tryz.prog 28 = some (33, k0j, s0j) := by kernel_rfl

def qbkx : IC := zr [zi 1 (.box (.t 0)), zv 2 zf]
def qbn1 : IC := zr [zv 3 (.ld true 3 (.t 1)), zi 4 (.call (.c (.fn 23 [] [])) [((.t 3), (.agg [.id, .id, (.sl 3)]))]), zv 5 (.bin .leq .no (.t 4) (zc 4096)), zm 6 5, zw 6 true 7 (.ld true 3 (.t 1)), ⟨some (6, true), some 8, .call (.c (.fn 47 [] [])) [((.t 7), (.agg [.id, .id, (.sl 3)]))]⟩, zw 6 true 9 (.bin .leq .no (.t 8) (zc 100)), zv 10 (.pick (.t 6) (.t 9) (.c (.bool false))), zm 11 10, zw 11 true 12 (.ld true 3 (.t 1)), ⟨some (11, true), some 13, .call (.c (.fn 48 [] [])) [((.t 12), (.agg [.id, .id, (.sl 3)]))]⟩, zv 14 (.pick (.t 11) (.t 13) (.c (.bool false))), zm 2 14]
def k0bs : IC := (.seq qbkx (.seq qbn1 .ret))
@[go_sem] def s0bs : List (RV × Co) := [(.t 2, .id)]
theorem c0bs : cFun Tryz.prog 29 = some (15, k0bs, s0bs) := by kernel_rfl

def qbnx : IC := zr [zi 4 (.box (.t 1)), zi 5 (.box (.t 2)), zv 6 (.mov (.c .nils)), zv 7 (.mov (zc 0))]
def qbho : IC := zr [zm 13 0, zv 14 (.ld true 3 (.t 4)), zi 15 (.call (.c (.fn 49 [] [])) [((.t 13), (.sl 4)), ((.t 14), (.agg [.id, .id, (.sl 3)]))]), zm 12 15, zv 16 (.ext (.t 12) 0), zv 17 (.ext (.t 12) 1), zn (.st 3 (.agg [.id, .id, (.sl 3)]) (.t 4) (.t 16)), zm 8 17]
def qbbv : IC := zr [zm 18 8, zv 19 (.bin .neq .no (.t 18) (zc 0))]
def qbcm : IC := zr [zm 20 8, zv 6 (.mov (.c .nils)), zm 7 20]
def qbfl : IC := zr [zm 22 0, zv 23 (.ld true 3 (.t 5)), zi 24 (.call (.c (.fn 49 [] [])) [((.t 22), (.sl 4)), ((.t 23), (.agg [.id, .id, (.sl 3)]))]), zm 21 24, zv 25 (.ext (.t 21) 0), zv 26 (.ext (.t 21) 1), zn (.st 3 (.agg [.id, .id, (.sl 3)]) (.t 5) (.t 25)), zm 8 26]
def qbdt : IC := zr [zm 28 8, zv 29 (.bin .neq .no (.t 28) (zc 0)), zm 27 29]
def qbin : IC := zr [zm 30 8, zv 6 (.mov (.c .nils)), zm 7 30]
def qbjt : IC := zr [zv 32 (.fad (.t 4) 0), zv 33 (.ld false 1 (.t 32)), zv 34 (.bin .eql .no (.t 33) (.c (.str []))), zm 31 34]
def q8w : IC := zr [zm 35 0, zv 36 (.fad (.t 4) 1), zv 37 (.ld false 1 (.t 36)), zv 38 (.ld true 3 (.t 5)), zi 39 (.call (.c (.fn 50 [] [])) [((.t 35), (.sl 4)), ((.t 37), .id), ((.t 38), (.agg [.id, .id, (.sl 3)]))]), zv 40 (.ext (.t 39) 0), zv 41 (.ext (.t 39) 1), zm 6 40, zm 7 41]
def qbmu : IC := zr [zv 43 (.fad (.t 5) 0), zv 44 (.ld false 1 (.t 43)), zv 45 (.bin .eql .no (.t 44) (.c (.str []))), zm 42 45]
def q2b : IC := zr [zm 46 0, zv 47 (.fad (.t 5) 1), zv 48 (.ld false 1 (.t 47)), zv 49 (.ld true 3 (.t 4)), zi 50 (.call (.c (.fn 50 [] [])) [((.t 46), (.sl 4)), ((.t 48), .id), ((.t 49), (.agg [.id, .id, (.sl 3)]))]), zv 51 (.ext (.t 50) 0), zv 52 (.ext (.t 50) 1), zm 6 51, zm 7 52]
def q5k : IC := zr [zv 54 (.fad (.t 4) 0), zv 55 (.ld false 1 (.t 54)), zv 56 (.fad (.t 5) 0), zv 57 (.ld false 1 (.t 56)), zv 58 (.bin .neq .no (.t 55) (.t 57)), zm 59 58, zw 59 false 60 (.fad (.t 4) 2), zw 59 false 61 (.ld false 1 (.t 60)), zw 59 false 62 (.len false (.t 61)), zw 59 false 63 (.fad (.t 5) 2), zw 59 false 64 (.ld false 1 (.t 63)), zw 59 false 65 (.len false (.t 64)), zw 59 false 66 (.bin .neq .no (.t 62) (.t 65)), zv 67 (.pick (.t 59) (.c (.bool true)) (.t 66)), zm 53 67]
def q61 : IC := zr [zv 6 (.mov (.c .nils)), zv 7 (.mov (zc 14))]
def q1l : IC := zr [zv 9 (.mov (zc 0))]
def q2e : IC := zr [zm 68 9, zv 69 (.fad (.t 4) 2), zv 70 (.ld false 1 (.t 69)), zv 71 (.len false (.t 70)), zv 72 (.bin .lss .no (.t 68) (.t 71))]
def q5e : IC := .drw [zp (zm 76 0), zp (zv 77 (.fad (.t 4) 2)), zp (zv 78 (.ld false 1 (.t 77))), zp (zm 79 9), zp (zv 80 (.iad 3 (.t 78) (.t 79))), zp (zv 81 (.ld true 3 (.t 80))), zp (zv 82 (.fad (.t 5) 2)), zp (zv 83 (.ld false 1 (.t 82))), zp (zm 84 9), zp (zv 85 (.iad 3 (.t 83) (.t 84))), zp (zv 86 (.ld true 3 (.t 85))), (zi 87 (.call (.c (.fn 30 [] [])) [((.t 76), (.sl 4)), ((.t 81), (.agg [.id, .id, (.sl 3)])), ((.t 86), (.agg [.id, .id, (.sl 3)]))]), []), zp (zm 75 87), zp (zv 88 (.ext (.t 75) 0)), zp (zv 89 (.ext (.t 75) 1)), zp (zm 10 88), zp (zm 11 89)]
def q4i : IC := zr [zm 90 11, zv 91 (.bin .neq .no (.t 90) (zc 0))]
def q4v : IC := zr [zm 92 11, zv 6 (.mov (.c .nils)), zm 7 92]
def q3c : IC := zr [zm 93 10, zm 0 93]
def q5i : IC := zr [zm 73 9, zv 74 (.bin .add .no (.t 73) (zc 1)), zm 9 74]
def q3z : IC := (.seq (.seq q2e (.cond (.t 72) .skip (.exit 1))) (.seq (.block 2 (.seq q5e (.seq (.seq q4i (.cond (.t 91) (.seq q4v .ret) .skip)) q3c))) q5i))
def q44 : IC := zr [zm 94 0, zm 6 94, zv 7 (.mov (zc 0))]
def k0dq : IC := (.seq qbnx (.seq qbho (.seq (.seq qbbv (.cond (.t 19) (.seq qbcm .ret) .skip)) (.seq qbfl (.seq (.block 0 (.seq qbdt (.cond (.t 27) (.seq qbin .ret) (.seq qbjt (.cond (.t 31) (.seq q8w .ret) (.seq qbmu (.cond (.t 42) (.seq q2b .ret) (.seq q5k (.cond (.t 53) (.seq q61 .ret) .skip))))))))) (.seq (.seq q1l (.block 1 (.loop q3z))) (.seq q44 .ret)))))))
@[go_sem] def s0dq : List (RV × Co) := [(.t 6, (.sl 4)), (.t 7, .id)]
theorem c0dq : cFun Tryz.prog 30 = some (95, k0dq, s0dq) := by kernel_rfl

def qbap : IC := zr [zi 1 (.box (.t 0)), zi 2 (.alo [(.str []), (.int .i64 0), .nils])]
def q99 : IC := zr [zv 6 (.fad (.t 1) 2), zv 7 (.ld false 1 (.t 6)), zv 8 (.len false (.t 7)), zi 9 (.mks 3 (.agg [(.str []), (.int .i64 0), .nils]) 48 (.t 8) (.t 8)), zm 3 9]
def qbmi : IC := zr [zv 10 (.fad (.t 1) 2), zv 11 (.ld false 1 (.t 10)), zv 12 (.len false (.t 11)), zv 13 (.mov (zc 0))]
def qbi3 : IC := zr [zv 14 (.bin .lss .no (.t 13) (.t 12))]
def qbf3 : IC := zr [zm 15 13, zv 16 (.iad 3 (.t 11) (.t 13)), zv 17 (.ld true 3 (.t 16)), zi 5 (.alo [(.str []), (.int .i64 0), .nils]), zm 4 15, zn (.st 3 (.agg [.id, .id, (.sl 3)]) (.t 5) (.t 17))]
def qbnl : IC := zr [zm 18 3, zm 19 4, zv 20 (.ld true 3 (.t 5)), zi 21 (.call (.c (.fn 31 [] [])) [((.t 20), (.agg [.id, .id, (.sl 3)]))]), zv 22 (.iad 3 (.t 18) (.t 19)), zn (.st 3 (.agg [.id, .id, (.sl 3)]) (.t 22) (.t 21))]
def qbmb : IC := zr [zv 23 (.bin .add .no (.t 13) (zc 1)), zm 13 23]
def qbim : IC := (.seq qbi3 (.seq (.cond (.t 14) .skip (.exit 0)) (.seq (.block 1 (.seq qbf3 qbnl)) qbmb)))
def qbdw : IC := zr [zm 24 3, zv 25 (.fad (.t 1) 2), zn (.st 1 (.sl 3) (.t 25) (.t 24))]
def q47 : IC := zr [zv 26 (.ld true 3 (.t 1)), zn (.st 3 (.agg [.id, .id, (.sl 3)]) (.t 2) (.t 26))]
def k0ba : IC := (.seq qbap (.seq q99 (.seq (.seq qbmi (.block 0 (.loop qbim))) (.seq qbdw (.seq q47 .ret)))))
@[go_sem] def s0ba : List (RV × Co) := [(.c true 3 2, (.agg [.id, .id, (.sl 3)]))]
theorem c0ba : cFun Tryz.prog 31 = some (27, k0ba, s0ba) := by kernel_rfl

def qbqe : IC := zr [zv 4 (.mov (.c .nils))]
def qbr1 : IC := zr [zm 7 0, zv 8 (.len false (.t 7)), zi 9 (.mks 6 (.agg [(.str []), (.int .i64 0), .nils, (.str []), (.int .i64 0), .nils]) 96 (.t 8) (.t 8)), zm 5 9]
def qbvu : IC := zr [zm 10 0, zv 11 (.len false (.t 10)), zv 12 (.mov (zc 0))]
def qbtf : IC := zr [zv 13 (.bin .lss .no (.t 12) (.t 11))]
def qbrh : IC := zr [zm 14 12, zm 6 14]
def qbvs : IC := .drw [zp (zm 15 5), zp (zm 16 6), zp (zm 17 0), zp (zm 18 6), zp (zv 19 (.iad 3 (.t 17) (.t 18))), zp (zv 20 (.ld true 3 (.t 19))), zp (zm 21 1), zp (zm 22 6), zp (zv 23 (.iad 3 (.t 21) (.t 22))), zp (zv 24 (.ld true 3 (.t 23))), (zv 25 (.bld [(.str []), (.int .i64 0), .nils, (.str []), (.int .i64 0), .nils] [(0, 3, (.t 20)), (3, 3, (.t 24))]), []), zp (zv 26 (.iad 6 (.t 15) (.t 16))), (zn (.st 6 (.agg [.id, .id, (.sl 3), .id, .id, (.sl 3)]) (.t 26) (.t 25)), [])]
def qbsf : IC := zr [zv 27 (.bin .add .no (.t 12) (zc 1)), zm 12 27]
def qbqs : IC := (.seq qbtf (.seq (.cond (.t 13) .skip (.exit 0)) (.seq (.block 1 (.seq qbrh qbvs)) qbsf)))
def qbvo : IC := zr [zm 28 5, zm 4 28]
def k0m : IC := (.seq qbqe (.seq qbr1 (.seq (.seq qbvu (.block 0 (.loop qbqs))) (.seq qbvo .ret))))
@[go_sem] def s0m : List (RV × Co) := [(.t 4, (.sl 6))]
theorem c0m : cFun Tryz.prog 32 = some (29, k0m, s0m) := by kernel_rfl

def qbk6 : IC := zr [zv 2 zf]
def qbnh : IC := zr [zv 3 (.mov (zc 0))]
def qbit : IC := zr [zm 4 3, zm 5 0, zv 6 (.len false (.t 5)), zv 7 (.bin .lss .no (.t 4) (.t 6))]
def qbgk : IC := zr [zm 10 0, zm 11 3, zv 12 (.iad 3 (.t 10) (.t 11)), zv 13 (.ld true 3 (.t 12)), zi 14 (.call (.c (.fn 29 [] [])) [((.t 13), (.agg [.id, .id, (.sl 3)]))]), zv 15 (.un .not (.t 14))]
def q8n : IC := zr [zv 2 zf]
def qbao : IC := zr [zm 8 3, zv 9 (.bin .add .no (.t 8) (zc 1)), zm 3 9]
def qben : IC := (.seq (.seq qbit (.cond (.t 7) .skip (.exit 0))) (.seq (.block 1 (.seq qbgk (.cond (.t 15) (.seq q8n .ret) .skip))) qbao))
def qbjb : IC := zr [zv 2 (.mov (.c (.bool true)))]
def k0ds : IC := (.seq qbk6 (.seq (.seq qbnh (.block 0 (.loop qben))) (.seq qbjb .ret)))
@[go_sem] def s0ds : List (RV × Co) := [(.t 2, .id)]
theorem c0ds : cFun Tryz.prog 33 = some (16, k0ds, s0ds) := by kernel_rfl

def qbwh : IC := zr [zi 2 (.box (.t 0)), zi 4 (.alo [(.str []), (.int .i64 0), .nils])]
def qbsd : IC := zr [zi 10 (.call (.c (.fn 18 [] [])) [((.c .nils), (.sl 4))]), zm 5 10]
def qbvm : IC := zr [zv 11 (.ld true 3 (.t 2)), zi 12 (.call (.c (.fn 51 [] [])) [((.t 11), (.agg [.id, .id, (.sl 3)]))]), zv 13 (.len false (.t 12)), zv 14 (.mov (zc 0))]
def qbv7 : IC := zr [zv 15 (.bin .lss .no (.t 14) (.t 13))]
def qbr7 : IC := zr [zm 16 14, zv 17 (.iad 1 (.t 12) (.t 14)), zv 18 (.ld false 1 (.t 17)), zm 6 16, zm 7 18]
def qbsg : IC := zr [zm 19 5, zm 20 7, zm 21 1, zm 22 6, zv 23 (.bin .mul .no (zc 2) (.t 22)), zv 24 (.bin .add .no (.t 21) (.t 23)), zv 25 (.bld [(.str []), (.int .i64 0), .nils] [(1, 1, (.t 24))]), zi 26 (.call (.c (.fn 36 [] [])) [((.t 19), .id), ((.t 20), .id), ((.t 25), (.agg [.id, .id, (.sl 3)]))])]
def qbue : IC := zr [zv 27 (.bin .add .no (.t 14) (zc 1)), zm 14 27]
def qbvd : IC := (.seq qbv7 (.seq (.cond (.t 15) .skip (.exit 0)) (.seq (.block 1 (.seq qbr7 qbsg)) qbue)))
def qbwe : IC := zr [zm 29 5, zv 30 (.ld true 3 (.t 2)), zi 31 (.call (.c (.fn 19 [] [])) [((.t 29), .id), ((.t 30), (.agg [.id, .id, (.sl 3)]))]), zm 28 31, zv 32 (.ext (.t 28) 0), zv 33 (.ext (.t 28) 1), zi 8 (.alo [(.str []), (.int .i64 0), .nils]), zn (.st 3 (.agg [.id, .id, (.sl 3)]) (.t 8) (.t 32)), zm 9 33]
def qbfj : IC := zr [zv 34 (.ld true 3 (.t 8)), zn (.st 3 (.agg [.id, .id, (.sl 3)]) (.t 4) (.t 34))]
def k0e : IC := (.seq qbwh (.seq qbsd (.seq (.seq qbvm (.block 0 (.loop qbvd))) (.seq qbwe (.seq qbfj .ret)))))
@[go_sem] def s0e : List (RV × Co) := [(.c true 3 4, (.agg [.id, .id, (.sl 3)]))]
theorem c0e : cFun Tryz.prog 34 = some (35, k0e, s0e) := by kernel_rfl

def qbmv : IC := zr [zi 2 (.box (.t 0)), zi 4 (.alo [(.str []), (.int .i64 0), .nils])]
def q70 : IC := zr [zv 12 (.ld true 3 (.t 2)), zi 13 (.call (.c (.fn 52 [] [])) [((.t 12), (.agg [.id, .id, (.sl 3)]))]), zm 5 13]
def qbeo : IC := zr [zv 6 (.mov (.c .nils))]
def qbmp : IC := zr [zv 7 (.mov (zc 0))]
def qbe5 : IC := zr [zm 14 7, zm 15 5, zv 16 (.len false (.t 15)), zv 17 (.bin .lss .no (.t 14) (.t 16))]
def qbh6 : IC := .drw [zp (zm 21 6), zp (zm 22 5), zp (zm 23 7), zp (zv 24 (.iad 1 (.t 22) (.t 23))), zp (zv 25 (.ld false 1 (.t 24))), zp (zm 26 1), zp (zm 27 7), zp (zv 28 (.bin .mul .no (zc 2) (.t 27))), zp (zv 29 (.bin .add .no (.t 26) (.t 28))), (zi 30 (.call (.c (.fn 54 [] [])) [((.t 29), .id)]), [4]), (zi 31 (.call (.c (.fn 53 [] [])) [((.t 21), (.sl 4)), ((.t 25), .id), ((.t 30), (.agg [.id, .id, (.sl 3)]))]), []), zp (zm 20 31), zp (zv 32 (.ext (.t 20) 0)), zp (zv 33 (.ext (.t 20) 1)), zp (zm 8 32), zp (zm 9 33)]
def qbdg : IC := zr [zm 34 8, zm 6 34]
def qbdd : IC := zr [zm 18 7, zv 19 (.bin .add .no (.t 18) (zc 1)), zm 7 19]
def qbgf : IC := (.seq (.seq qbe5 (.cond (.t 17) .skip (.exit 0))) (.seq (.block 1 (.seq qbh6 qbdg)) qbdd))
def q1f : IC := zr [zm 36 6, zv 37 (.ld true 3 (.t 2)), zi 38 (.call (.c (.fn 49 [] [])) [((.t 36), (.sl 4)), ((.t 37), (.agg [.id, .id, (.sl 3)]))]), zm 35 38, zv 39 (.ext (.t 35) 0), zv 40 (.ext (.t 35) 1), zi 10 (.alo [(.str []), (.int .i64 0), .nils]), zn (.st 3 (.agg [.id, .id, (.sl 3)]) (.t 10) (.t 39)), zm 11 40]
def q57 : IC := zr [zv 41 (.ld true 3 (.t 10)), zn (.st 3 (.agg [.id, .id, (.sl 3)]) (.t 4) (.t 41))]
def k0dv : IC := (.seq qbmv (.seq q70 (.seq qbeo (.seq (.seq qbmp (.block 0 (.loop qbgf))) (.seq q1f (.seq q57 .ret))))))
@[go_sem] def s0dv : List (RV × Co) := [(.c true 3 4, (.agg [.id, .id, (.sl 3)]))]
theorem c0dv : cFun Tryz.prog 35 = some (42, k0dv, s0dv) := by kernel_rfl

def qbtv : IC := zr [zi 5 (.box (.t 2)), zv 6 (.mov (zc 0))]
def qbq4 : IC := zr [zm 9 0, zv 10 (.bin .eql .ptr (.t 9) (.c .nilp)), zm 11 10, zw 11 false 12 (.ld true 3 (.t 5)), ⟨some (11, false), some 13, .call (.c (.fn 37 [] [])) [((.t 12), (.agg [.id, .id, (.sl 3)]))]⟩, zw 11 false 14 (.un .not (.t 13)), zv 15 (.pick (.t 11) (.c (.bool true)) (.t 14))]
def qbso : IC := zr [zv 6 (.mov (zc 1))]
def qbp6 : IC := zr [zm 17 0, zm 18 1, zi 19 (.call (.c (.fn 42 [] [])) [((.t 17), .id), ((.t 18), .id)]), zm 16 19, zv 20 (.ext (.t 16) 0), zv 21 (.ext (.t 16) 1), zm 7 20, zm 8 21]
def qbpk : IC := zr [zm 22 8]
def qbvg : IC := zr [zv 6 (.mov (zc 6))]
def qbsu : IC := .drw [zp (zm 23 0), zp (zm 24 0), zp (zv 25 (.nck (.t 24))), zp (zv 26 (.fad (.t 25) 0)), zp (zv 27 (.ld false 1 (.t 26))), zp (zm 28 7), zp (zm 29 1), zp (zv 30 (.ld true 3 (.t 5))), (zi 31 (.call (.c (.fn 31 [] [])) [((.t 30), (.agg [.id, .id, (.sl 3)]))]), [4]), (zv 32 (.bld [(.int .i64 0), (.str []), (.int .i64 0), .nils] [(0, 1, (.t 29)), (1, 3, (.t 31))]), []), (zv 33 (.bsl 4 [((.t 32), (.agg [.id, .id, .id, (.sl 3)]))]), []), (zi 34 (.call (.c (.fn 55 [] [])) [((.t 27), (.sl 4)), ((.t 28), .id), ((.t 33), (.sl 4))]), []), zp (zv 35 (.nck (.t 23))), zp (zv 36 (.fad (.t 35) 0)), (zn (.st 1 (.sl 4) (.t 36) (.t 34)), [])]
def qbts : IC := zr [zv 6 (.mov (zc 0))]
def k0v : IC := (.seq qbtv (.seq (.seq qbq4 (.cond (.t 15) (.seq qbso .ret) .skip)) (.seq qbp6 (.seq (.seq qbpk (.cond (.t 22) (.seq qbvg .ret) .skip)) (.seq qbsu (.seq qbts .ret))))))
@[go_sem] def s0v : List (RV × Co) := [(.t 6, .id)]
theorem c0v : cFun Tryz.prog 36 = some (37, k0v, s0v) := by kernel_rfl

def qbc8 : IC := zr [zi 1 (.box (.t 0)), zv 2 zf]
def q8a : IC := zr [zi 3 (.alo [(.int .i64 0)]), zn (.st 1 .id (.t 3) (zc 0))]
def qbc7 : IC := zr [zv 4 (.ld true 3 (.t 1)), zv 5 (.mfn 57 [] [(.t 3)]), zi 6 (.call (.c (.fn 56 [] [])) [((.t 4), (.agg [.id, .id, (.sl 3)])), ((zc 1), .id), ((.t 5), .id)]), zm 2 6]
def k0bk : IC := (.seq qbc8 (.seq q8a (.seq qbc7 .ret)))
@[go_sem] def s0bk : List (RV × Co) := [(.t 2, .id)]
theorem c0bk : cFun Tryz.prog 37 = some (7, k0bk, s0bk) := by kernel_rfl

def qbwr : IC := zr [zi 4 (.box (.t 1)), zi 6 (.alo [(.str []), (.int .i64 0), .nils])]
def qbum : IC := zr [zv 11 (.fad (.t 4) 0), zv 12 (.ld false 1 (.t 11)), zv 13 (.bin .eql .no (.t 12) (.c (.str [])))]
def qbvq : IC := .drw [zp (zm 15 0), zp (zv 16 (.nck (.t 15))), zp (zv 17 (.fad (.t 16) 0)), zp (zv 18 (.ld false 1 (.t 17))), zp (zv 19 (.fad (.t 4) 1)), zp (zv 20 (.ld false 1 (.t 19))), (zi 21 (.call (.c (.fn 25 [] [])) [((.t 18), .id), ((.t 20), .id)]), []), zp (zm 14 21), zp (zv 22 (.ext (.t 14) 0)), zp (zv 23 (.ext (.t 14) 1)), (zi 7 (.alo [(.str []), (.int .i64 0), .nils]), [3, 5, 6]), (zn (.st 3 (.agg [.id, .id, (.sl 3)]) (.t 7) (.t 22)), []), zp (zm 8 23)]
def qbt1 : IC := zr [zm 24 8]
def qbo8 : IC := .drw [zp (zm 25 0), zp (zv 26 (.nck (.t 25))), zp (zv 27 (.fad (.t 26) 1)), zp (zv 28 (.ld false 1 (.t 27))), zp (zv 29 (.ld true 3 (.t 7))), (zi 30 (.call (.c (.fn 60 [] [])) [((.t 29), (.agg [.id, .id, (.sl 3)]))]), [3]), zp (zv 31 (.bin .sub .no (.t 28) (.t 30))), zp (zv 32 (.nck (.t 25))), zp (zv 33 (.fad (.t 32) 1)), (zn (.st 1 .id (.t 33) (.t 31)), [])]
def qbv6 : IC := zr [zm 34 2, zv 35 (.ld true 3 (.t 7)), zi 36 (.call (.c (.fn 61 [] [])) [((.t 35), (.agg [.id, .id, (.sl 3)]))]), zv 37 (.bin .add .no (.t 34) (.t 36)), zv 38 (.bin .gtr .no (.t 37) (zc 101))]
def qbvl : IC := zr [zm 39 0, zv 40 (.nck (.t 39)), zv 41 (.fad (.t 40) 1), zn (.st 1 .id (.t 41) (zc (-1)))]
def qbou : IC := zr [zv 42 (.ld true 3 (.t 7)), zi 43 (.call (.c (.fn 31 [] [])) [((.t 42), (.agg [.id, .id, (.sl 3)]))]), zn (.st 3 (.agg [.id, .id, (.sl 3)]) (.t 6) (.t 43))]
def qbxb : IC := zr [zm 44 0, zv 45 (.nck (.t 44)), zv 46 (.fad (.t 45) 1), zv 47 (.ld false 1 (.t 46)), zv 48 (.bin .sub .no (.t 47) (zc 1)), zv 49 (.nck (.t 44)), zv 50 (.fad (.t 49) 1), zn (.st 1 .id (.t 50) (.t 48))]
def qbo1 : IC := zr [zv 51 (.fad (.t 4) 2), zv 52 (.ld false 1 (.t 51)), zv 53 (.len false (.t 52)), zi 54 (.mks 3 (.agg [(.str []), (.int .i64 0), .nils]) 48 (.t 53) (.t 53)), zm 9 54]
def q74 : IC := zr [zv 55 (.fad (.t 4) 2), zv 56 (.ld false 1 (.t 55)), zv 57 (.len false (.t 56)), zv 58 (.mov (zc 0))]
def qbbw : IC := zr [zv 59 (.bin .lss .no (.t 58) (.t 57))]
def qbn6 : IC := zr [zm 60 58, zm 10 60]
def q9g : IC := zr [zm 61 0, zv 62 (.nck (.t 61)), zv 63 (.fad (.t 62) 1), zv 64 (.ld false 1 (.t 63)), zv 65 (.bin .lss .no (.t 64) (zc 0))]
def qbd2 : IC := zr [zv 66 (.ld true 3 (.t 4)), zn (.st 3 (.agg [.id, .id, (.sl 3)]) (.t 6) (.t 66))]
def qbad : IC := zr [zm 67 9, zm 68 10, zm 69 0, zv 70 (.fad (.t 4) 2), zv 71 (.ld false 1 (.t 70)), zm 72 10, zv 73 (.iad 3 (.t 71) (.t 72)), zv 74 (.ld true 3 (.t 73)), zm 75 2, zv 76 (.bin .add .no (.t 75) (zc 1)), zi 77 (.call (.c (.fn 38 [] [])) [((.t 69), .id), ((.t 74), (.agg [.id, .id, (.sl 3)])), ((.t 76), .id)]), zv 78 (.iad 3 (.t 67) (.t 68)), zn (.st 3 (.agg [.id, .id, (.sl 3)]) (.t 78) (.t 77))]
def qbbg : IC := zr [zv 79 (.bin .add .no (.t 58) (zc 1)), zm 58 79]
def qbcb : IC := (.seq qbbw (.seq (.cond (.t 59) .skip (.exit 0)) (.seq (.block 1 (.seq qbn6 (.seq (.seq q9g (.cond (.t 65) (.seq qbd2 .ret) .skip)) qbad))) qbbg)))
def qbkj : IC := zr [zm 80 9, zv 81 (.fad (.t 4) 2), zn (.st 1 (.sl 3) (.t 81) (.t 80))]
def qbc9 : IC := zr [zv 82 (.ld true 3 (.t 4)), zn (.st 3 (.agg [.id, .id, (.sl 3)]) (.t 6) (.t 82))]
def k0u : IC := (.seq qbwr (.seq (.seq qbum (.cond (.t 13) (.seq qbvq (.seq qbt1 (.cond (.t 24) (.seq qbo8 (.seq (.seq qbv6 (.cond (.t 38) qbvl .skip)) (.seq qbou .ret))) .skip))) .skip)) (.seq qbxb (.seq qbo1 (.seq (.seq q74 (.block 0 (.loop qbcb))) (.seq qbkj (.seq qbc9 .ret)))))))
@[go_sem] def s0u : List (RV × Co) := [(.c true 3 6, (.agg [.id, .id, (.sl 3)]))]
theorem c0u : cFun Tryz.prog 38 = some (83, k0u, s0u) := by kernel_rfl

def qbc1 : IC := zr [zi 3 (.box (.t 0)), zv 6 (.mov (zc 0))]
def qbaa : IC := zr [zm 8 1, zv 9 (.bin .sub .no (.t 8) (zc 1)), zm 1 9]
def qbgd : IC := zr [zm 10 2, zv 11 (.bin .lss .no (.t 10) (zc 1))]
def q86 : IC := zr [zv 6 (.mov (zc (-1)))]
def qblf : IC := zr [zv 7 (.mov (zc 0))]
def qbic : IC := zr [zm 12 7, zv 13 (.fad (.t 3) 2), zv 14 (.ld false 1 (.t 13)), zv 15 (.len false (.t 14)), zv 16 (.bin .lss .no (.t 12) (.t 15)), zm 17 16, zw 17 true 18 (.mov (.t 1)), zw 17 true 19 (.bin .geq .no (.t 18) (zc 0)), zv 20 (.pick (.t 17) (.t 19) (.c (.bool false)))]
def qbem : IC := zr [zv 23 (.fad (.t 3) 2), zv 24 (.ld false 1 (.t 23)), zm 25 7, zv 26 (.iad 3 (.t 24) (.t 25)), zv 27 (.ld true 3 (.t 26)), zm 28 1, zm 29 2, zv 30 (.bin .sub .no (.t 29) (zc 1)), zi 31 (.call (.c (.fn 40 [] [])) [((.t 27), (.agg [.id, .id, (.sl 3)])), ((.t 28), .id), ((.t 30), .id)]), zm 1 31]
def qbnw : IC := zr [zm 21 7, zv 22 (.bin .add .no (.t 21) (zc 1)), zm 7 22]
def qbmh : IC := (.seq (.seq qbic (.cond (.t 20) .skip (.exit 0))) (.seq (.block 1 qbem) qbnw))
def q28 : IC := zr [zm 32 1, zm 6 32]
def k0bq : IC := (.seq qbc1 (.seq qbaa (.seq (.seq qbgd (.cond (.t 11) (.seq q86 .ret) .skip)) (.seq (.seq qblf (.block 0 (.loop qbmh))) (.seq q28 .ret)))))
@[go_sem] def s0bq : List (RV × Co) := [(.t 6, .id)]
theorem c0bq : cFun Tryz.prog 40 = some (33, k0bq, s0bq) := by kernel_rfl

def qbk2 : IC := zr [zi 2 (.alo [(.str []), (.int .i64 0), .nils]), zv 3 (.mov (zc 0))]
def qbb0 : IC := zr [zm 6 0, zv 7 (.bld [(.str []), (.int .i64 0), (.bool false)] [(0, 1, (.t 6))]), zi 8 (.box (.t 7)), zm 4 8]
def qbb1 : IC := zr [zm 9 4, zi 10 (.call (.c (.fn 63 [] [])) [((.t 9), .id)]), zi 5 (.alo [(.str []), (.int .i64 0), .nils]), zn (.st 3 (.agg [.id, .id, (.sl 3)]) (.t 5) (.t 10))]
def qbkg : IC := zr [zm 11 4, zv 12 (.nck (.t 11)), zv 13 (.fad (.t 12) 2), zv 14 (.ld false 1 (.t 13)), zm 15 14, zw 15 false 16 (.mov (.t 4)), zw 15 false 17 (.nck (.t 16)), zw 15 false 18 (.fad (.t 17) 0), zw 15 false 19 (.ld false 1 (.t 18)), zw 15 false 20 (.bin .neq .no (.t 19) (.c (.str []))), zv 21 (.pick (.t 15) (.c (.bool true)) (.t 20)), zm 22 21, zw 22 false 23 (.ld true 3 (.t 5)), ⟨some (22, false), some 24, .call (.c (.fn 64 [] [])) [((.t 23), (.agg [.id, .id, (.sl 3)]))]⟩, zw 22 false 25 (.mov (.t 0)), zw 22 false 26 (.bin .neq .no (.t 24) (.t 25)), zv 27 (.pick (.t 22) (.c (.bool true)) (.t 26))]
def qbmk : IC := zr [zv 28 (.bld [(.str []), (.int .i64 0), .nils] []), zn (.st 3 (.agg [.id, .id, (.sl 3)]) (.t 2) (.t 28)), zv 3 (.mov (zc 5))]
def qblv : IC := zr [zv 29 (.ld true 3 (.t 5)), zn (.st 3 (.agg [.id, .id, (.sl 3)]) (.t 2) (.t 29)), zv 3 (.mov (zc 0))]
def k0do : IC := (.seq qbk2 (.seq qbb0 (.seq qbb1 (.seq (.seq qbkg (.cond (.t 27) (.seq qbmk .ret) .skip)) (.seq qblv .ret)))))
@[go_sem] def s0do : List (RV × Co) := [(.c true 3 2, (.agg [.id, .id, (.sl 3)])), (.t 3, .id)]
theorem c0do : cFun Tryz.prog 41 = some (30, k0do, s0do) := by kernel_rfl

def qbvv : IC := zr [zv 4 (.mov (zc 0)), zv 5 zf]
def qbrs : IC := zr [zm 6 0, zv 7 (.nck (.t 6)), zv 8 (.fad (.t 7) 0), zv 9 (.ld false 1 (.t 8)), zm 10 1, zi 11 (.call (.c (.fn 65 [] [])) [((.t 9), (.sl 4)), ((.t 10), .id), ((.c (.fn 66 [] [])), .id)]), zv 12 (.ext (.t 11) 0), zv 13 (.ext (.t 11) 1), zm 4 12, zm 5 13]
def k0y : IC := (.seq qbvv (.seq qbrs .ret))
@[go_sem] def s0y : List (RV × Co) := [(.t 4, .id), (.t 5, .id)]
theorem c0y : cFun Tryz.prog 42 = some (14, k0y, s0y) := by kernel_rfl

def qbsq : IC := zr [zv 4 (.mov (.c .nilp)), zv 5 (.mov (zc 0))]
def qbt3 : IC := zr [zi 13 (.call (.c (.fn 18 [] [])) [((.c .nils), (.sl 4))]), zm 6 13]
def qbv9 : IC := zr [zm 14 0, zi 15 (.call (.c (.fn 12 [] [])) [((.t 14), .id)]), zv 16 (.len false (.t 15)), zv 17 (.mov (zc 0))]
def qbu9 : IC := zr [zv 18 (.bin .lss .no (.t 17) (.t 16))]
def qbo7 : IC := zr [zv 19 (.iad 4 (.t 15) (.t 17)), zv 20 (.ld true 4 (.t 19)), zi 8 (.alo [(.int .i64 0), (.str []), (.int .i64 0), .nils]), zn (.st 4 (.agg [.id, .id, .id, (.sl 3)]) (.t 8) (.t 20))]
def qbv4 : IC := zr [zm 22 1, zv 23 (.fad (.t 8) 1), zv 24 (.ld true 3 (.t 23)), zi 25 (.call (.c (.fn 19 [] [])) [((.t 22), .id), ((.t 24), (.agg [.id, .id, (.sl 3)]))]), zm 21 25, zv 26 (.ext (.t 21) 0), zv 27 (.ext (.t 21) 1), zi 9 (.alo [(.str []), (.int .i64 0), .nils]), zn (.st 3 (.agg [.id, .id, (.sl 3)]) (.t 9) (.t 26)), zm 10 27]
def qbpu : IC := zr [zm 28 10, zv 29 (.bin .neq .no (.t 28) (zc 0))]
def qbpn : IC := zr [zm 30 10, zv 4 (.mov (.c .nilp)), zm 5 30]
def qbu1 : IC := zr [zm 31 6, zv 32 (.fad (.t 8) 0), zv 33 (.ld false 1 (.t 32)), zv 34 (.ld true 3 (.t 9)), zi 35 (.call (.c (.fn 36 [] [])) [((.t 31), .id), ((.t 33), .id), ((.t 34), (.agg [.id, .id, (.sl 3)]))])]
def qbdo : IC := zr [zv 36 (.bin .add .no (.t 17) (zc 1)), zm 17 36]
def qbvf : IC := (.seq qbu9 (.seq (.cond (.t 18) .skip (.exit 0)) (.seq (.block 1 (.seq qbo7 (.seq qbv4 (.seq (.seq qbpu (.cond (.t 29) (.seq qbpn .ret) .skip)) qbu1)))) qbdo)))
def qbji : IC := zr [zm 37 1, zi 38 (.call (.c (.fn 12 [] [])) [((.t 37), .id)]), zv 39 (.len false (.t 38)), zv 40 (.mov (zc 0))]
def qbjf : IC := zr [zv 41 (.bin .lss .no (.t 40) (.t 39))]
def qbf2 : IC := zr [zv 42 (.iad 4 (.t 38) (.t 40)), zv 43 (.ld true 4 (.t 42)), zi 12 (.alo [(.int .i64 0), (.str []), (.int .i64 0), .nils]), zn (.st 4 (.agg [.id, .id, .id, (.sl 3)]) (.t 12) (.t 43))]
def qbcr : IC := zr [zm 44 6, zv 45 (.fad (.t 12) 0), zv 46 (.ld false 1 (.t 45)), zv 47 (.fad (.t 12) 1), zv 48 (.ld true 3 (.t 47)), zi 49 (.call (.c (.fn 36 [] [])) [((.t 44), .id), ((.t 46), .id), ((.t 48), (.agg [.id, .id, (.sl 3)]))])]
def qbl8 : IC := zr [zv 50 (.bin .add .no (.t 40) (zc 1)), zm 40 50]
def qbhd : IC := (.seq qbjf (.seq (.cond (.t 41) .skip (.exit 2)) (.seq (.block 3 (.seq qbf2 qbcr)) qbl8)))
def qbm9 : IC := zr [zm 51 6, zm 4 51, zv 5 (.mov (zc 0))]
def k0q : IC := (.seq qbsq (.seq qbt3 (.seq (.seq qbv9 (.block 0 (.loop qbvf))) (.seq (.seq qbji (.block 2 (.loop qbhd))) (.seq qbm9 .ret)))))
@[go_sem] def s0q : List (RV × Co) := [(.t 4, .id), (.t 5, .id)]
theorem c0q : cFun Tryz.prog 43 = some (52, k0q, s0q) := by kernel_rfl

def qbr9 : IC := zr [zm 5 1, zv 6 (.len false (.t 5)), zv 7 (.bin .sub .no (.t 6) (zc 1)), zm 4 7]
def qbpc : IC := zr [zm 8 4, zv 9 (.bin .geq .no (.t 8) (zc 0))]
def qbrt : IC := .drw [zp (zm 12 0), zp (zm 13 0), zp (zv 14 (.nck (.t 13))), zp (zv 15 (.fad (.t 14) 0)), zp (zv 16 (.ld false 1 (.t 15))), zp (zm 17 1), zp (zm 18 4), zp (zv 19 (.iad 6 (.t 17) (.t 18))), zp (zv 20 (.ld true 6 (.t 19))), (zv 21 (.bsl 6 [((.t 20), (.agg [.id, .id, (.sl 3), .id, .id, (.sl 3)]))]), []), (zi 22 (.app 6 (.agg [(.str []), (.int .i64 0), .nils, (.str []), (.int .i64 0), .nils]) 96 (.sl 6) (.t 16) (.t 21)), []), zp (zv 23 (.nck (.t 12))), zp (zv 24 (.fad (.t 23) 0)), (zn (.st 1 (.sl 6) (.t 24) (.t 22)), [])]
def qbsx : IC := zr [zm 10 4, zv 11 (.bin .sub .no (.t 10) (zc 1)), zm 4 11]
def qbrz : IC := (.seq (.seq qbpc (.cond (.t 9) .skip (.exit 0))) (.seq (.block 1 qbrt) qbsx))
def k0o : IC := (.seq qbr9 (.block 0 (.loop qbrz)))
@[go_sem] def s0o : List (RV × Co) := []
theorem c0o : cFun Tryz.prog 44 = some (25, k0o, s0o) := by kernel_rfl

def qbww : IC := zr [zi 2 (.alo [(.str []), (.int .i64 0), .nils, (.str []), (.int .i64 0), .nils]), zv 3 zf]
def qbo0 : IC := zr [zi 4 (.alo [(.str []), (.int .i64 0), .nils, (.str []), (.int .i64 0), .nils])]
def qbti : IC := zr [zm 6 0, zv 7 (.nck (.t 6)), zv 8 (.fad (.t 7) 0), zv 9 (.ld false 1 (.t 8)), zv 10 (.len false (.t 9)), zv 11 (.bin .sub .no (.t 10) (zc 1)), zm 5 11]
def qbp7 : IC := zr [zm 12 5, zv 13 (.bin .lss .no (.t 12) (zc 0))]
def qbwk : IC := zr [zv 14 (.ld true 6 (.t 4)), zn (.st 6 (.agg [.id, .id, (.sl 3), .id, .id, (.sl 3)]) (.t 2) (.t 14)), zv 3 zf]
def qbtg : IC := zr [zm 15 0, zv 16 (.nck (.t 15)), zv 17 (.fad (.t 16) 0), zv 18 (.ld false 1 (.t 17)), zm 19 5, zv 20 (.iad 6 (.t 18) (.t 19)), zv 21 (.ld true 6 (.t 20)), zn (.st 6 (.agg [.id, .id, (.sl 3), .id, .id, (.sl 3)]) (.t 4) (.t 21))]
def qbtd : IC := zr [zm 22 0, zm 23 0, zv 24 (.nck (.t 23)), zv 25 (.fad (.t 24) 0), zv 26 (.ld false 1 (.t 25)), zm 27 5, zv 28 (.slv 6 (.t 26) none (some (.t 27)) none), zv 29 (.nck (.t 22)), zv 30 (.fad (.t 29) 0), zn (.st 1 (.sl 6) (.t 30) (.t 28))]
def qbom : IC := zr [zv 31 (.ld true 6 (.t 4)), zn (.st 6 (.agg [.id, .id, (.sl 3), .id, .id, (.sl 3)]) (.t 2) (.t 31)), zv 3 (.mov (.c (.bool true)))]
def k0p : IC := (.seq qbww (.seq qbo0 (.seq qbti (.seq (.seq qbp7 (.cond (.t 13) (.seq qbwk .ret) .skip)) (.seq qbtg (.seq qbtd (.seq qbom .ret)))))))
@[go_sem] def s0p : List (RV × Co) := [(.c true 6 2, (.agg [.id, .id, (.sl 3), .id, .id, (.sl 3)])), (.t 3, .id)]
theorem c0p : cFun Tryz.prog 45 = some (32, k0p, s0p) := by kernel_rfl

def qbvz : IC := zr [zi 4 (.box (.t 1)), zv 6 (.mov (.c .nilp)), zv 7 (.mov (zc 0))]
def qbus : IC := zr [zm 12 0, zv 13 (.fad (.t 4) 0), zv 14 (.ld true 3 (.t 13)), zi 15 (.call (.c (.fn 19 [] [])) [((.t 12), .id), ((.t 14), (.agg [.id, .id, (.sl 3)]))]), zm 11 15, zv 16 (.ext (.t 11) 0), zv 17 (.ext (.t 11) 1), zi 8 (.alo [(.str []), (.int .i64 0), .nils]), zn (.st 3 (.agg [.id, .id, (.sl 3)]) (.t 8) (.t 16)), zm 9 17]
def qbu0 : IC := zr [zm 18 9, zv 19 (.bin .neq .no (.t 18) (zc 0))]
def qbpx : IC := zr [zm 20 9, zv 6 (.mov (.c .nilp)), zm 7 20]
def qbp8 : IC := zr [zm 22 0, zv 23 (.fad (.t 4) 3), zv 24 (.ld true 3 (.t 23)), zi 25 (.call (.c (.fn 19 [] [])) [((.t 22), .id), ((.t 24), (.agg [.id, .id, (.sl 3)]))]), zm 21 25, zv 26 (.ext (.t 21) 0), zv 27 (.ext (.t 21) 1), zi 10 (.alo [(.str []), (.int .i64 0), .nils]), zn (.st 3 (.agg [.id, .id, (.sl 3)]) (.t 10) (.t 26)), zm 9 27]
def qbte : IC := zr [zm 29 9, zv 30 (.bin .neq .no (.t 29) (zc 0)), zm 28 30]
def qbu3 : IC := zr [zm 31 9, zv 6 (.mov (.c .nilp)), zm 7 31]
def qbsb : IC := zr [zv 33 (.fad (.t 8) 0), zv 34 (.ld false 1 (.t 33)), zv 35 (.bin .eql .no (.t 34) (.c (.str []))), zm 32 35]
def qbxc : IC := zr [zm 36 0, zv 37 (.fad (.t 8) 1), zv 38 (.ld false 1 (.t 37)), zv 39 (.ld true 3 (.t 10)), zi 40 (.call (.c (.fn 67 [] [])) [((.t 36), .id), ((.t 38), .id), ((.t 39), (.agg [.id, .id, (.sl 3)]))]), zv 41 (.ext (.t 40) 0), zv 42 (.ext (.t 40) 1), zm 6 41, zm 7 42]
def qbs0 : IC := zr [zv 44 (.fad (.t 10) 0), zv 45 (.ld false 1 (.t 44)), zv 46 (.bin .eql .no (.t 45) (.c (.str []))), zm 43 46]
def qbei : IC := zr [zm 47 0, zv 48 (.fad (.t 10) 1), zv 49 (.ld false 1 (.t 48)), zv 50 (.ld true 3 (.t 8)), zi 51 (.call (.c (.fn 67 [] [])) [((.t 47), .id), ((.t 49), .id), ((.t 50), (.agg [.id, .id, (.sl 3)]))]), zv 52 (.ext (.t 51) 0), zv 53 (.ext (.t 51) 1), zm 6 52, zm 7 53]
def qbny : IC := zr [zv 55 (.fad (.t 8) 0), zv 56 (.ld false 1 (.t 55)), zv 57 (.fad (.t 10) 0), zv 58 (.ld false 1 (.t 57)), zv 59 (.bin .neq .no (.t 56) (.t 58)), zm 60 59, zw 60 false 61 (.fad (.t 8) 2), zw 60 false 62 (.ld false 1 (.t 61)), zw 60 false 63 (.len false (.t 62)), zw 60 false 64 (.fad (.t 10) 2), zw 60 false 65 (.ld false 1 (.t 64)), zw 60 false 66 (.len false (.t 65)), zw 60 false 67 (.bin .neq .no (.t 63) (.t 66)), zv 68 (.pick (.t 60) (.c (.bool true)) (.t 67)), zm 54 68]
def qbag : IC := zr [zv 6 (.mov (.c .nilp)), zv 7 (.mov (zc 14))]
def q8g : IC := zr [zm 69 2, zv 70 (.fad (.t 8) 2), zv 71 (.ld false 1 (.t 70)), zv 72 (.fad (.t 10) 2), zv 73 (.ld false 1 (.t 72)), zi 74 (.call (.c (.fn 32 [] [])) [((.t 71), (.sl 3)), ((.t 73), (.sl 3))]), zi 75 (.call (.c (.fn 44 [] [])) [((.t 69), .id), ((.t 74), (.sl 6))])]
def qbmj : IC := zr [zm 76 0, zm 6 76, zv 7 (.mov (zc 0))]
def k0k : IC := (.seq qbvz (.seq qbus (.seq (.seq qbu0 (.cond (.t 19) (.seq qbpx .ret) .skip)) (.seq qbp8 (.seq (.block 0 (.seq qbte (.cond (.t 28) (.seq qbu3 .ret) (.seq qbsb (.cond (.t 32) (.seq qbxc .ret) (.seq qbs0 (.cond (.t 43) (.seq qbei .ret) (.seq qbny (.cond (.t 54) (.seq qbag .ret) .skip))))))))) (.seq q8g (.seq qbmj .ret)))))))
@[go_sem] def s0k : List (RV × Co) := [(.t 6, .id), (.t 7, .id)]
theorem c0k : cFun Tryz.prog 46 = some (77, k0k, s0k) := by kernel_rfl

def qbf5 : IC := zr [zi 1 (.box (.t 0)), zv 2 (.mov (zc 0))]
def qbjs : IC := zr [zv 3 (.mov (zc 0))]
def qbgs : IC := zr [zv 4 (.mov (zc 0))]
def qbjq : IC := zr [zm 5 4, zv 6 (.fad (.t 1) 2), zv 7 (.ld false 1 (.t 6)), zv 8 (.len false (.t 7)), zv 9 (.bin .lss .no (.t 5) (.t 8))]
def qbet : IC := zr [zm 12 3, zv 13 (.fad (.t 1) 2), zv 14 (.ld false 1 (.t 13)), zm 15 4, zv 16 (.iad 3 (.t 14) (.t 15)), zv 17 (.ld true 3 (.t 16)), zi 18 (.call (.c (.fn 47 [] [])) [((.t 17), (.agg [.id, .id, (.sl 3)]))]), zv 19 (.mm true (.t 12) (.t 18)), zm 3 19]
def qbft : IC := zr [zm 10 4, zv 11 (.bin .add .no (.t 10) (zc 1)), zm 4 11]
def qbau : IC := (.seq (.seq qbjq (.cond (.t 9) .skip (.exit 0))) (.seq (.block 1 qbet) qbft))
def qbe3 : IC := zr [zm 20 3, zv 21 (.bin .add .no (.t 20) (zc 1)), zm 2 21]
def k0bo : IC := (.seq qbf5 (.seq qbjs (.seq (.seq qbgs (.block 0 (.loop qbau))) (.seq qbe3 .ret))))
@[go_sem] def s0bo : List (RV × Co) := [(.t 2, .id)]
theorem c0bo : cFun Tryz.prog 47 = some (22, k0bo, s0bo) := by kernel_rfl

def qba4 : IC := zr [zi 1 (.box (.t 0)), zv 2 zf]
def qbn4 : IC := zr [zv 3 (.mov (zc 0))]
def qbir : IC := zr [zm 5 3, zv 6 (.fad (.t 1) 2), zv 7 (.ld false 1 (.t 6)), zv 8 (.len false (.t 7)), zv 9 (.bin .lss .no (.t 5) (.t 8))]
def qblh : IC := zr [zv 12 (.fad (.t 1) 2), zv 13 (.ld false 1 (.t 12)), zm 14 3, zv 15 (.iad 3 (.t 13) (.t 14)), zv 16 (.ld true 3 (.t 15)), zi 17 (.call (.c (.fn 48 [] [])) [((.t 16), (.agg [.id, .id, (.sl 3)]))]), zv 18 (.un .not (.t 17))]
def qbee : IC := zr [zv 2 zf]
def qbck : IC := zr [zm 10 3, zv 11 (.bin .add .no (.t 10) (zc 1)), zm 3 11]
def qbfg : IC := (.seq (.seq qbir (.cond (.t 9) .skip (.exit 0))) (.seq (.block 1 (.seq qblh (.cond (.t 18) (.seq qbee .ret) .skip))) qbck))
def qbea : IC := zr [zv 19 (.fad (.t 1) 2), zv 20 (.ld false 1 (.t 19)), zv 21 (.len false (.t 20)), zm 4 21]
def q9n : IC := zr [zv 23 (.fad (.t 1) 0), zv 24 (.ld false 1 (.t 23)), zv 25 (.bin .eql .no (.t 24) (.c (.str []))), zm 22 25]
def q6v : IC := zr [zm 26 4, zv 27 (.bin .eql .no (.t 26) (zc 0)), zm 2 27]
def q3o : IC := zr [zv 29 (.fad (.t 1) 0), zv 30 (.ld false 1 (.t 29)), zv 31 (.bin .eql .no (.t 30) (.c (.str [45, 62]))), zm 28 31]
def q5b : IC := zr [zm 32 4, zv 33 (.bin .eql .no (.t 32) (zc 2)), zm 34 33, zw 34 true 35 (.fad (.t 1) 1), zw 34 true 36 (.ld false 1 (.t 35)), zw 34 true 37 (.bin .eql .no (.t 36) (zc 0)), zv 38 (.pick (.t 34) (.t 37) (.c (.bool false))), zm 2 38]
def q10 : IC := zr [zv 40 (.fad (.t 1) 0), zv 41 (.ld false 1 (.t 40)), zi 42 (.call (.c (.fn 68 [] [])) [((.t 41), .id)]), zm 39 42]
def q4s : IC := zr [zm 43 4, zv 44 (.bin .eql .no (.t 43) (zc 0)), zm 45 44, zw 45 true 46 (.fad (.t 1) 1), zw 45 true 47 (.ld false 1 (.t 46)), zw 45 true 48 (.bin .eql .no (.t 47) (zc 0)), zv 49 (.pick (.t 45) (.t 48) (.c (.bool false))), zm 2 49]
def q2g : IC := zr [zv 50 (.fad (.t 1) 0), zv 51 (.ld false 1 (.t 50)), zi 52 (.call (.c (.fn 69 [] [])) [((.t 51), .id)]), zm 53 52, zw 53 true 54 (.fad (.t 1) 1), zw 53 true 55 (.ld false 1 (.t 54)), zw 53 true 56 (.bin .eql .no (.t 55) (zc 0)), zv 57 (.pick (.t 53) (.t 56) (.c (.bool false))), zm 2 57]
def k0bp : IC := (.seq qba4 (.seq (.seq qbn4 (.block 0 (.loop qbfg))) (.seq qbea (.seq (.block 2 (.seq q9n (.cond (.t 22) (.seq q6v .ret) (.seq q3o (.cond (.t 28) (.seq q5b .ret) (.seq q10 (.cond (.t 39) (.seq q4s .ret) .skip))))))) (.seq q2g .ret)))))
@[go_sem] def s0bp : List (RV × Co) := [(.t 2, .id)]
theorem c0bp : cFun Tryz.prog 48 = some (58, k0bp, s0bp) := by kernel_rfl

def qbjn : IC := zr [zi 3 (.box (.t 1)), zi 4 (.alo [(.str []), (.int .i64 0), .nils]), zv 5 (.mov (zc 0))]
def qbnp : IC := zr [zv 7 (.ld true 3 (.t 3)), zi 8 (.call (.c (.fn 29 [] [])) [((.t 7), (.agg [.id, .id, (.sl 3)]))]), zv 9 (.un .not (.t 8))]
def q8q : IC := zr [zv 10 (.bld [(.str []), (.int .i64 0), .nils] []), zn (.st 3 (.agg [.id, .id, (.sl 3)]) (.t 4) (.t 10)), zv 5 (.mov (zc 1))]
def qbej : IC := zr [zm 11 0, zv 12 (.ld true 3 (.t 3)), zi 13 (.call (.c (.fn 70 [] [])) [((.t 11), (.sl 4)), ((.t 12), (.agg [.id, .id, (.sl 3)]))]), zv 14 (.bin .gtr .no (.t 13) (zc 4096))]
def qblz : IC := zr [zv 15 (.bld [(.str []), (.int .i64 0), .nils] []), zn (.st 3 (.agg [.id, .id, (.sl 3)]) (.t 4) (.t 15)), zv 5 (.mov (zc 2))]
def qbg5 : IC := zr [zm 16 0, zv 17 (.ld true 3 (.t 3)), zi 18 (.call (.c (.fn 71 [] [])) [((.t 16), (.sl 4)), ((.t 17), (.agg [.id, .id, (.sl 3)]))]), zi 6 (.alo [(.str []), (.int .i64 0), .nils]), zn (.st 3 (.agg [.id, .id, (.sl 3)]) (.t 6) (.t 18))]
def qbkr : IC := zr [zv 19 (.ld true 3 (.t 6)), zi 20 (.call (.c (.fn 29 [] [])) [((.t 19), (.agg [.id, .id, (.sl 3)]))]), zv 21 (.un .not (.t 20))]
def q8t : IC := zr [zv 22 (.bld [(.str []), (.int .i64 0), .nils] []), zn (.st 3 (.agg [.id, .id, (.sl 3)]) (.t 4) (.t 22)), zv 5 (.mov (zc 2))]
def qbe4 : IC := zr [zv 23 (.ld true 3 (.t 6)), zn (.st 3 (.agg [.id, .id, (.sl 3)]) (.t 4) (.t 23)), zv 5 (.mov (zc 0))]
def k0db : IC := (.seq qbjn (.seq (.seq qbnp (.cond (.t 9) (.seq q8q .ret) .skip)) (.seq (.seq qbej (.cond (.t 14) (.seq qblz .ret) .skip)) (.seq qbg5 (.seq (.seq qbkr (.cond (.t 21) (.seq q8t .ret) .skip)) (.seq qbe4 .ret))))))
@[go_sem] def s0db : List (RV × Co) := [(.c true 3 4, (.agg [.id, .id, (.sl 3)])), (.t 5, .id)]
theorem c0db : cFun Tryz.prog 49 = some (24, k0db, s0db) := by kernel_rfl

def qbjx : IC := zr [zi 5 (.box (.t 2)), zv 6 (.mov (.c .nils)), zv 7 (.mov (zc 0))]
def qbdl : IC := zr [zv 8 (.fad (.t 5) 0), zv 9 (.ld false 1 (.t 8)), zv 10 (.bin .eql .no (.t 9) (.c (.str []))), zm 11 10, zw 11 true 12 (.fad (.t 5) 1), zw 11 true 13 (.ld false 1 (.t 12)), zw 11 true 14 (.mov (.t 1)), zw 11 true 15 (.bin .eql .no (.t 13) (.t 14)), zv 16 (.pick (.t 11) (.t 15) (.c (.bool false)))]
def qbk5 : IC := zr [zm 17 0, zm 6 17, zv 7 (.mov (zc 0))]
def qbch : IC := zr [zv 18 (.ld true 3 (.t 5)), zm 19 1, zi 20 (.call (.c (.fn 72 [] [])) [((.t 18), (.agg [.id, .id, (.sl 3)])), ((.t 19), .id)])]
def qbgb : IC := zr [zv 6 (.mov (.c .nils)), zv 7 (.mov (zc 15))]
def qbdm : IC := zr [zm 21 0, zm 22 1, zv 23 (.ld true 3 (.t 5)), zv 24 (.bld [(.int .i64 0), (.str []), (.int .i64 0), .nils] [(0, 1, (.t 22)), (1, 3, (.t 23))]), zv 25 (.bsl 4 [((.t 24), (.agg [.id, .id, .id, (.sl 3)]))]), zi 26 (.call (.c (.fn 73 [] [])) [((.t 21), (.sl 4)), ((.t 25), (.sl 4))]), zv 27 (.ext (.t 26) 0), zv 28 (.ext (.t 26) 1), zm 6 27, zm 7 28]
def k0dp : IC := (.seq qbjx (.seq (.seq qbdl (.cond (.t 16) (.seq qbk5 .ret) .skip)) (.seq (.seq qbch (.cond (.t 20) (.seq qbgb .ret) .skip)) (.seq qbdm .ret))))
@[go_sem] def s0dp : List (RV × Co) := [(.t 6, (.sl 4)), (.t 7, .id)]
theorem c0dp : cFun Tryz.prog 50 = some (29, k0dp, s0dp) := by kernel_rfl

def qbeu : IC := zr [zi 1 (.box (.t 0)), zv 2 (.mov (.c .nils))]
def q9t : IC := zr [zi 3 (.alo [.nils])]
def qbko : IC := zr [zv 4 (.ld true 3 (.t 1)), zv 5 (.mfn 74 [] [(.t 3)]), zi 6 (.call (.c (.fn 56 [] [])) [((.t 4), (.agg [.id, .id, (.sl 3)])), ((zc 1), .id), ((.t 5), .id)])]
def qbdv : IC := zr [zv 7 (.ld false 1 (.t 3)), zm 2 7]
def k0cb : IC := (.seq qbeu (.seq q9t (.seq qbko (.seq qbdv .ret))))
@[go_sem] def s0cb : List (RV × Co) := [(.t 2, (.sl 1))]
theorem c0cb : cFun Tryz.prog 51 = some (8, k0cb, s0cb) := by kernel_rfl

def qbgr : IC := zr [zi 1 (.box (.t 0)), zv 2 (.mov (.c .nils))]
def qbj8 : IC := zr [zv 3 (.ld true 3 (.t 1)), zi 4 (.call (.c (.fn 77 [] [])) [((.t 3), (.agg [.id, .id, (.sl 3)]))]), zi 5 (.call (.c (.fn 76 [] [])) [((.t 4), (.sl 1))]), zm 2 5]
def k0by : IC := (.seq qbgr (.seq qbj8 .ret))
@[go_sem] def s0by : List (RV × Co) := [(.t 2, (.sl 1))]
theorem c0by : cFun Tryz.prog 52 = some (6, k0by, s0by) := by kernel_rfl

def qbc0 : IC := zr [zi 5 (.box (.t 2)), zv 6 (.mov (.c .nils)), zv 7 (.mov (zc 0))]
def qbef : IC := zr [zv 11 (.ld true 3 (.t 5)), zi 12 (.call (.c (.fn 29 [] [])) [((.t 11), (.agg [.id, .id, (.sl 3)]))]), zv 13 (.un .not (.t 12))]
def qbf8 : IC := zr [zm 14 0, zm 6 14, zv 7 (.mov (zc 1))]
def qbga : IC := zr [zm 16 0, zm 17 1, zi 18 (.call (.c (.fn 62 [] [])) [((.t 16), (.sl 4)), ((.t 17), .id)]), zm 15 18, zv 19 (.ext (.t 15) 0), zv 20 (.ext (.t 15) 1), zi 8 (.alo [(.str []), (.int .i64 0), .nils]), zn (.st 3 (.agg [.id, .id, (.sl 3)]) (.t 8) (.t 19)), zm 9 20]
def qbcd : IC := zr [zm 21 9]
def qbex : IC := zr [zm 22 0, zm 6 22, zv 7 (.mov (zc 6))]
def qbep : IC := zr [zv 10 (.mov (zc 0))]
def qbni : IC := zr [zm 23 10, zm 24 0, zv 25 (.len false (.t 24)), zv 26 (.bin .lss .no (.t 23) (.t 25)), zm 27 26, zw 27 true 28 (.mov (.t 0)), zw 27 true 29 (.mov (.t 10)), zw 27 true 30 (.iad 4 (.t 28) (.t 29)), zw 27 true 31 (.fad (.t 30) 0), zw 27 true 32 (.ld false 1 (.t 31)), zw 27 true 33 (.mov (.t 1)), zw 27 true 34 (.bin .lss .no (.t 32) (.t 33)), zv 35 (.pick (.t 27) (.t 34) (.c (.bool false)))]
def qbfu : IC := zr [zm 36 10, zv 37 (.bin .add .no (.t 36) (zc 1)), zm 10 37]
def qbat : IC := (.seq (.seq qbni (.cond (.t 35) .skip (.exit 0))) (.block 1 qbfu))
def q37 : IC := .drw [zp (zm 38 0), zp (zm 39 10), zp (zv 40 (.slv 4 (.t 38) none (some (.t 39)) none)), (zi 41 (.app 4 (.agg [(.int .i64 0), (.str []), (.int .i64 0), .nils]) 56 (.sl 4) (.c .nils) (.t 40)), []), zp (zm 42 1), (zv 43 (.ld true 3 (.t 5)), [3]), (zv 44 (.bld [(.int .i64 0), (.str []), (.int .i64 0), .nils] [(0, 1, (.t 42)), (1, 3, (.t 43))]), []), (zv 45 (.bsl 4 [((.t 44), (.agg [.id, .id, .id, (.sl 3)]))]), [3]), (zi 46 (.app 4 (.agg [(.int .i64 0), (.str []), (.int .i64 0), .nils]) 56 (.sl 4) (.t 41) (.t 45)), []), zp (zm 47 0), zp (zm 48 10), (zv 49 (.slv 4 (.t 47) (some (.t 48)) none none), [3, 8]), (zi 50 (.app 4 (.agg [(.int .i64 0), (.str []), (.int .i64 0), .nils]) 56 (.sl 4) (.t 46) (.t 49)), []), zp (zm 6 50), zp (zv 7 (.mov (zc 0)))]
def k0bc : IC := (.seq qbc0 (.seq (.seq qbef (.cond (.t 13) (.seq qbf8 .ret) .skip)) (.seq (.seq qbga (.seq qbcd (.cond (.t 21) (.seq qbex .ret) .skip))) (.seq qbep (.seq (.block 0 (.loop qbat)) (.seq q37 .ret))))))
@[go_sem] def s0bc : List (RV × Co) := [(.t 6, (.sl 4)), (.t 7, .id)]
theorem c0bc : cFun Tryz.prog 53 = some (51, k0bc, s0bc) := by kernel_rfl

def q89 : IC := zr [zi 2 (.alo [(.str []), (.int .i64 0), .nils])]
def qbcx : IC := zr [zm 3 0, zv 4 (.bld [(.str []), (.int .i64 0), .nils] [(1, 1, (.t 3))]), zn (.st 3 (.agg [.id, .id, (.sl 3)]) (.t 2) (.t 4))]
def k0du : IC := (.seq q89 (.seq qbcx .ret))
@[go_sem] def s0du : List (RV × Co) := [(.c true 3 2, (.agg [.id, .id, (.sl 3)]))]
theorem c0du : cFun Tryz.prog 54 = some (5, k0du, s0du) := by kernel_rfl

def qbhm : IC := zr [zi 3 (.box (.t 0)), zv 6 zf]
def qbhu : IC := zr [zm 9 2, zv 10 (.ld true 3 (.t 3)), zm 11 1, zi 12 (.call (.t 9) [((.t 10), (.agg [.id, .id, (.sl 3)])), ((.t 11), .id)]), zv 13 (.un .not (.t 12))]
def qbm4 : IC := zr [zv 6 zf]
def qbdu : IC := zr [zv 14 (.fad (.t 3) 2), zv 15 (.ld false 1 (.t 14)), zv 16 (.len false (.t 15)), zv 17 (.mov (zc 0))]
def q9u : IC := zr [zv 18 (.bin .lss .no (.t 17) (.t 16))]
def qbar : IC := zr [zv 19 (.iad 3 (.t 15) (.t 17)), zv 20 (.ld true 3 (.t 19)), zi 8 (.alo [(.str []), (.int .i64 0), .nils]), zn (.st 3 (.agg [.id, .id, (.sl 3)]) (.t 8) (.t 20))]
def qbbm : IC := zr [zv 21 (.ld true 3 (.t 8)), zm 22 1, zv 23 (.bin .add .no (.t 22) (zc 1)), zm 24 2, zi 25 (.call (.c (.fn 56 [] [])) [((.t 21), (.agg [.id, .id, (.sl 3)])), ((.t 23), .id), ((.t 24), .id)]), zv 26 (.un .not (.t 25))]
def qbey : IC := zr [zv 6 zf]
def qbd3 : IC := zr [zv 27 (.bin .add .no (.t 17) (zc 1)), zm 17 27]
def qbm2 : IC := (.seq q9u (.seq (.cond (.t 18) .skip (.exit 0)) (.seq (.block 1 (.seq qbar (.seq qbbm (.cond (.t 26) (.seq qbey .ret) .skip)))) qbd3)))
def q05 : IC := zr [zv 6 (.mov (.c (.bool true)))]
def k0ch : IC := (.seq qbhm (.seq (.seq qbhu (.cond (.t 13) (.seq qbm4 .ret) .skip)) (.seq (.seq qbdu (.block 0 (.loop qbm2))) (.seq q05 .ret))))
@[go_sem] def s0ch : List (RV × Co) := [(.t 6, .id)]
theorem c0ch : cFun Tryz.prog 56 = some (28, k0ch, s0ch) := by kernel_rfl

def qbfq : IC := zr [zi 3 (.box (.t 0)), zv 5 zf]
def qbid : IC := zr [zv 6 (.ld false 1 (.t 2)), zv 7 (.bin .add .no (.t 6) (zc 1)), zn (.st 1 .id (.t 2) (.t 7))]
def qbjm : IC := zr [zv 8 (.ld false 1 (.t 2)), zv 9 (.bin .leq .no (.t 8) (zc 4096)), zm 10 9, zw 10 true 11 (.mov (.t 1)), zw 10 true 12 (.bin .leq .no (.t 11) (zc 100)), zv 13 (.pick (.t 10) (.t 12) (.c (.bool false))), zm 14 13, zw 14 true 15 (.ld true 3 (.t 3)), ⟨some (14, true), some 16, .call (.c (.fn 58 [] [])) [((.t 15), (.agg [.id, .id, (.sl 3)]))]⟩, ⟨some (14, true), some 17, .call (.c (.fn 59 [] [])) [((.t 16), .id)]⟩, zv 18 (.pick (.t 14) (.t 17) (.c (.bool false))), zm 5 18]
def k0bh : IC := (.seq qbfq (.seq qbid (.seq qbjm .ret)))
@[go_sem] def s0bh : List (RV × Co) := [(.t 5, .id)]
theorem c0bh : cFun Tryz.prog 57 = some (19, k0bh, s0bh) := by kernel_rfl

def qbf1 : IC := zr [zi 1 (.box (.t 0)), zi 2 (.alo [(.str []), (.int .i64 0), (.int .i64 0)])]
def qbn5 : IC := zr [zv 3 (.fad (.t 1) 0), zv 4 (.ld false 1 (.t 3)), zv 5 (.fad (.t 1) 1), zv 6 (.ld false 1 (.t 5)), zv 7 (.fad (.t 1) 2), zv 8 (.ld false 1 (.t 7)), zv 9 (.len false (.t 8)), zv 10 (.bld [(.str []), (.int .i64 0), (.int .i64 0)] [(0, 1, (.t 4)), (1, 1, (.t 6)), (2, 1, (.t 9))]), zn (.st 3 .id (.t 2) (.t 10))]
def k0cc : IC := (.seq qbf1 (.seq qbn5 .ret))
@[go_sem] def s0cc : List (RV × Co) := [(.c true 3 2, .id)]
theorem c0cc : cFun Tryz.prog 58 = some (11, k0cc, s0cc) := by kernel_rfl

def qbn7 : IC := zr [zi 1 (.box (.t 0)), zv 2 zf]
def qbfd : IC := zr [zv 4 (.fad (.t 1) 0), zv 5 (.ld false 1 (.t 4)), zv 6 (.bin .eql .no (.t 5) (.c (.str []))), zm 3 6]
def q9b : IC := zr [zv 7 (.fad (.t 1) 2), zv 8 (.ld false 1 (.t 7)), zv 9 (.bin .eql .no (.t 8) (zc 0)), zm 2 9]
def q8r : IC := zr [zv 11 (.fad (.t 1) 0), zv 12 (.ld false 1 (.t 11)), zv 13 (.bin .eql .no (.t 12) (.c (.str [45, 62]))), zm 10 13]
def qboe : IC := zr [zv 14 (.ld true 3 (.t 1)), zv 15 (.bld [(.str []), (.int .i64 0), (.int .i64 0)] [(0, 1, (.c (.str [45, 62]))), (1, 1, (zc 0)), (2, 1, (zc 2))]), zv 16 (.bin .eql (.cells [.str, (.int .i64), (.int .i64)]) (.t 14) (.t 15)), zm 2 16]
def qbl5 : IC := zr [zv 18 (.fad (.t 1) 0), zv 19 (.ld false 1 (.t 18)), zi 20 (.call (.c (.fn 80 [] [])) [((.t 19), .id)]), zm 17 20]
def qba7 : IC := zr [zv 21 (.ld true 3 (.t 1)), zv 22 (.fad (.t 1) 0), zv 23 (.ld false 1 (.t 22)), zv 24 (.bld [(.str []), (.int .i64 0), (.int .i64 0)] [(0, 1, (.t 23))]), zv 25 (.bin .eql (.cells [.str, (.int .i64), (.int .i64)]) (.t 21) (.t 24)), zm 2 25]
def qbbb : IC := zr [zv 26 (.fad (.t 1) 1), zv 27 (.ld false 1 (.t 26)), zv 28 (.bin .eql .no (.t 27) (zc 0)), zm 29 28, zw 29 true 30 (.fad (.t 1) 0), zw 29 true 31 (.ld false 1 (.t 30)), ⟨some (29, true), some 32, .call (.c (.fn 81 [] [])) [((.t 31), .id)]⟩, zv 33 (.pick (.t 29) (.t 32) (.c (.bool false))), zm 2 33]
def k0cg : IC := (.seq qbn7 (.seq (.block 0 (.seq qbfd (.cond (.t 3) (.seq q9b .ret) (.seq q8r (.cond (.t 10) (.seq qboe .ret) (.seq qbl5 (.cond (.t 17) (.seq qba7 .ret) .skip))))))) (.seq qbbb .ret)))
@[go_sem] def s0cg : List (RV × Co) := [(.t 2, .id)]
theorem c0cg : cFun Tryz.prog 59 = some (34, k0cg, s0cg) := by kernel_rfl

def qbjj : IC := zr [zi 1 (.box (.t 0)), zv 2 (.mov (zc 0))]
def qbkh : IC := zr [zi 3 (.alo [(.int .i64 0)]), zn (.st 1 .id (.t 3) (zc 0))]
def qbih : IC := zr [zv 4 (.ld true 3 (.t 1)), zv 5 (.mfn 82 [] [(.t 3)]), zi 6 (.call (.c (.fn 56 [] [])) [((.t 4), (.agg [.id, .id, (.sl 3)])), ((zc 1), .id), ((.t 5), .id)])]
def qbnd : IC := zr [zv 7 (.ld false 1 (.t 3)), zm 2 7]
def k0bl : IC := (.seq qbjj (.seq qbkh (.seq qbih (.seq qbnd .ret))))
@[go_sem] def s0bl : List (RV × Co) := [(.t 2, .id)]
theorem c0bl : cFun Tryz.prog 60 = some (8, k0bl, s0bl) := by kernel_rfl

def qbi0 : IC := zr [zi 1 (.box (.t 0)), zv 2 (.mov (zc 0))]
def q9a : IC := zr [zi 3 (.alo [(.int .i64 0)]), zn (.st 1 .id (.t 3) (zc 0))]
def qber : IC := zr [zv 4 (.ld true 3 (.t 1)), zv 5 (.mfn 83 [] [(.t 3)]), zi 6 (.call (.c (.fn 56 [] [])) [((.t 4), (.agg [.id, .id, (.sl 3)])), ((zc 1), .id), ((.t 5), .id)])]
def qbd6 : IC := zr [zv 7 (.ld false 1 (.t 3)), zm 2 7]
def k0bm : IC := (.seq qbi0 (.seq q9a (.seq qber (.seq qbd6 .ret))))
@[go_sem] def s0bm : List (RV × Co) := [(.t 2, .id)]
theorem c0bm : cFun Tryz.prog 61 = some (8, k0bm, s0bm) := by kernel_rfl

def qbiq : IC := zr [zi 4 (.alo [(.str []), (.int .i64 0), .nils]), zv 5 zf]
def q8b : IC := zr [zv 6 (.mov (zc 0))]
def qbma : IC := zr [zm 7 6, zm 8 0, zv 9 (.len false (.t 8)), zv 10 (.bin .lss .no (.t 7) (.t 9))]
def qbl4 : IC := zr [zm 13 0, zm 14 6, zv 15 (.iad 4 (.t 13) (.t 14)), zv 16 (.fad (.t 15) 0), zv 17 (.ld false 1 (.t 16)), zm 18 1, zv 19 (.bin .eql .no (.t 17) (.t 18))]
def qbmr : IC := zr [zm 20 0, zm 21 6, zv 22 (.iad 4 (.t 20) (.t 21)), zv 23 (.fad (.t 22) 1), zv 24 (.ld true 3 (.t 23)), zn (.st 3 (.agg [.id, .id, (.sl 3)]) (.t 4) (.t 24)), zv 5 (.mov (.c (.bool true)))]
def qblg : IC := zr [zm 11 6, zv 12 (.bin .add .no (.t 11) (zc 1)), zm 6 12]
def q95 : IC := (.seq (.seq qbma (.cond (.t 10) .skip (.exit 0))) (.seq (.block 1 (.seq qbl4 (.cond (.t 19) (.seq qbmr .ret) .skip))) qblg))
def qbav : IC := zr [zv 25 (.bld [(.str []), (.int .i64 0), .nils] []), zn (.st 3 (.agg [.id, .id, (.sl 3)]) (.t 4) (.t 25)), zv 5 zf]
def k0bb : IC := (.seq qbiq (.seq (.seq q8b (.block 0 (.loop q95))) (.seq qbav .ret)))
@[go_sem] def s0bb : List (RV × Co) := [(.c true 3 4, (.agg [.id, .id, (.sl 3)])), (.t 5, .id)]
theorem c0bb : cFun Tryz.prog 62 = some (26, k0bb, s0bb) := by kernel_rfl

def qbkl : IC := zr [zi 1 (.box (.t 0)), zi 2 (.alo [(.str []), (.int .i64 0), .nils])]
def qbnj : IC := zr [zv 4 (.ld false 1 (.t 1)), zv 5 (.nck (.t 4)), zv 6 (.fad (.t 5) 1), zv 7 (.ld false 1 (.t 6)), zv 8 (.bin .add .no (.t 7) (zc 1)), zv 9 (.nck (.t 4)), zv 10 (.fad (.t 9) 1), zn (.st 1 .id (.t 10) (.t 8))]
def qbjh : IC := zr [zv 11 (.ld false 1 (.t 1)), zv 12 (.nck (.t 11)), zv 13 (.fad (.t 12) 1), zv 14 (.ld false 1 (.t 13)), zv 15 (.bin .gtr .no (.t 14) (zc 200))]
def q94 : IC := zr [zv 16 (.ld false 1 (.t 1)), zv 17 (.nck (.t 16)), zv 18 (.fad (.t 17) 2), zn (.st 1 .id (.t 18) (.c (.bool true)))]
def qbeh : IC := .dfr [zv 19 (.mfn 84 [] [(.t 1)])] (.t 19)
def qbam : IC := zr [zv 20 (.ld false 1 (.t 1)), zv 21 (.nck (.t 20)), zv 22 (.fad (.t 21) 2), zv 23 (.ld false 1 (.t 22))]
def qbe1 : IC := zr [zv 24 (.bld [(.str []), (.int .i64 0), .nils] []), zn (.st 3 (.agg [.id, .id, (.sl 3)]) (.t 2) (.t 24))]
def qbgu : IC := zr [zv 25 (.ld false 1 (.t 1)), zi 26 (.call (.c (.fn 85 [] [])) [((.t 25), .id)]), zi 3 (.alo [(.str []), (.int .i64 0), .nils]), zn (.st 3 (.agg [.id, .id, (.sl 3)]) (.t 3) (.t 26))]
def qbgt : IC := zr [zv 27 (.ld false 1 (.t 1)), zv 28 (.nck (.t 27)), zv 29 (.fad (.t 28) 2), zv 30 (.ld false 1 (.t 29)), zv 31 (.un .not (.t 30)), zm 32 31, zw 32 true 33 (.ld false 1 (.t 1)), zw 32 true 34 (.nck (.t 33)), zw 32 true 35 (.fad (.t 34) 0), zw 32 true 36 (.ld false 1 (.t 35)), ⟨some (32, true), some 37, .call (.c (.fn 86 [] [])) [((.t 36), .id), ((.c (.str [32, 45, 62, 32])), .id)]⟩, zw 32 true 38 (.un .not (.t 37)), zv 39 (.pick (.t 32) (.t 38) (.c (.bool false))), zm 40 39, zw 40 true 41 (.ld false 1 (.t 1)), ⟨some (40, true), some 42, .call (.c (.fn 87 [] [])) [((.t 41), .id), ((.c (.str [32])), .id)]⟩, zv 43 (.pick (.t 40) (.t 42) (.c (.bool false)))]
def q26 : IC := .drw [zp (zv 44 (.fad (.t 3) 2)), zp (zv 45 (.ld false 1 (.t 44))), (zi 46 (.call (.c (.fn 88 [] [])) [((.t 45), (.sl 3))]), []), (zv 47 (.ld false 1 (.t 1)), [2]), (zi 48 (.call (.c (.fn 85 [] [])) [((.t 47), .id)]), []), (zv 49 (.bsl 3 [((.t 48), (.agg [.id, .id, (.sl 3)]))]), []), (zi 50 (.app 3 (.agg [(.str []), (.int .i64 0), .nils]) 48 (.sl 3) (.t 46) (.t 49)), []), zp (zv 51 (.fad (.t 3) 2)), (zn (.st 1 (.sl 3) (.t 51) (.t 50)), [])]
def qnm : IC := (.seq (.seq qbgt (.cond (.t 43) .skip (.exit 0))) (.block 1 q26))
def q4h : IC := zr [zv 52 (.ld false 1 (.t 1)), zv 53 (.nck (.t 52)), zv 54 (.fad (.t 53) 2), zv 55 (.ld false 1 (.t 54)), zv 56 (.un .not (.t 55)), zm 57 56, zw 57 true 58 (.ld false 1 (.t 1)), ⟨some (57, true), some 59, .call (.c (.fn 87 [] [])) [((.t 58), .id), ((.c (.str [32, 45, 62, 32])), .id)]⟩, zv 60 (.pick (.t 57) (.t 59) (.c (.bool false)))]
def q34 : IC := .drw [zp (zv 61 (.ld true 3 (.t 3))), zp (zv 62 (.ld false 1 (.t 1))), (zi 63 (.call (.c (.fn 63 [] [])) [((.t 62), .id)]), [0]), (zv 64 (.bsl 3 [((.t 61), (.agg [.id, .id, (.sl 3)])), ((.t 63), (.agg [.id, .id, (.sl 3)]))]), []), (zv 65 (.bld [(.str []), (.int .i64 0), .nils] [(0, 1, (.c (.str [45, 62]))), (2, 1, (.t 64))]), []), (zn (.st 3 (.agg [.id, .id, (.sl 3)]) (.t 2) (.t 65)), [])]
def q22 : IC := zr [zv 66 (.ld true 3 (.t 3)), zn (.st 3 (.agg [.id, .id, (.sl 3)]) (.t 2) (.t 66))]
def k0dn : IC := (.seq qbkl (.seq (.seq qbnj (.seq qbjh (.cond (.t 15) q94 .skip))) (.seq qbeh (.seq (.seq qbam (.cond (.t 23) (.seq qbe1 .ret) .skip)) (.seq qbgu (.seq (.block 0 (.loop qnm)) (.seq (.seq q4h (.cond (.t 60) (.seq q34 .ret) .skip)) (.seq q22 .ret))))))))
@[go_sem] def s0dn : List (RV × Co) := [(.c true 3 2, (.agg [.id, .id, (.sl 3)]))]
theorem c0dn : cFun Tryz.prog 63 = some (67, k0dn, s0dn) := by kernel_rfl

def qbf7 : IC := zr [zi 1 (.box (.t 0)), zv 2 (.mov (.c (.str [])))]
def qbb6 : IC := zr [zv 3 (.ld true 3 (.t 1)), zi 4 (.call (.c (.fn 37 [] [])) [((.t 3), (.agg [.id, .id, (.sl 3)]))]), zv 5 (.un .not (.t 4))]
def qbh0 : IC := zr [zv 2 (.mov (.c (.str [])))]
def qbms : IC := zr [zv 6 (.ld true 3 (.t 1)), zi 7 (.call (.c (.fn 89 [] [])) [((.t 6), (.agg [.id, .id, (.sl 3)]))]), zm 2 7]
def k0bg : IC := (.seq qbf7 (.seq (.seq qbb6 (.cond (.t 5) (.seq qbh0 .ret) .skip)) (.seq qbms .ret)))
@[go_sem] def s0bg : List (RV × Co) := [(.t 2, .id)]
theorem c0bg : cFun Tryz.prog 64 = some (8, k0bg, s0bg) := by kernel_rfl

def qbsy : IC := zr [zv 6 (.mov (zc 0)), zv 7 zf]
def qbpw : IC := zr [zm 12 0, zv 13 (.len false (.t 12)), zm 8 13]
def qbo5 : IC := zr [zm 14 8, zv 9 (.mov (zc 0)), zm 10 14]
def qbws : IC := zr [zm 15 9, zm 16 10, zv 17 (.bin .lss .no (.t 15) (.t 16))]
def qbva : IC := zr [zm 18 9, zm 19 10, zv 20 (.bin .add .no (.t 18) (.t 19)), zv 21 (.cvi .u64 (.t 20)), zv 22 (.bin .shr .no (.t 21) (.c (.int .u64 1))), zv 23 (.cvi .i64 (.t 22)), zm 11 23]
def qbvt : IC := zr [zm 24 2, zm 25 0, zm 26 11, zv 27 (.iad 4 (.t 25) (.t 26)), zv 28 (.ld true 4 (.t 27)), zm 29 1, zi 30 (.call (.t 24) [((.t 28), (.agg [.id, .id, .id, (.sl 3)])), ((.t 29), .id)]), zv 31 (.bin .lss .no (.t 30) (zc 0))]
def qbo9 : IC := zr [zm 32 11, zv 33 (.bin .add .no (.t 32) (zc 1)), zm 9 33]
def qbpv : IC := zr [zm 34 11, zm 10 34]
def qbun : IC := (.seq (.seq qbws (.cond (.t 17) .skip (.exit 0))) (.block 1 (.seq qbva (.seq qbvt (.cond (.t 31) qbo9 qbpv)))))
def qbcn : IC := zr [zm 35 9, zm 36 9, zm 37 8, zv 38 (.bin .lss .no (.t 36) (.t 37)), zm 39 38, zw 39 true 40 (.mov (.t 2)), zw 39 true 41 (.mov (.t 0)), zw 39 true 42 (.mov (.t 9)), zw 39 true 43 (.iad 4 (.t 41) (.t 42)), zw 39 true 44 (.ld true 4 (.t 43)), zw 39 true 45 (.mov (.t 1)), ⟨some (39, true), some 46, .call (.t 40) [((.t 44), (.agg [.id, .id, .id, (.sl 3)])), ((.t 45), .id)]⟩, zw 39 true 47 (.bin .eql .no (.t 46) (zc 0)), zv 48 (.pick (.t 39) (.t 47) (.c (.bool false))), zm 6 35, zm 7 48]
def k0x : IC := (.seq qbsy (.seq qbpw (.seq qbo5 (.seq (.block 0 (.loop qbun)) (.seq qbcn .ret)))))
@[go_sem] def s0x : List (RV × Co) := [(.t 6, .id), (.t 7, .id)]
theorem c0x : cFun Tryz.prog 65 = some (49, k0x, s0x) := by kernel_rfl

def qbty : IC := zr [zi 2 (.box (.t 0)), zv 4 (.mov (zc 0))]
def qbut : IC := zr [zv 6 (.fad (.t 2) 0), zv 7 (.ld false 1 (.t 6)), zm 8 1, zv 9 (.bin .lss .no (.t 7) (.t 8)), zm 5 9]
def qbu2 : IC := zr [zv 4 (.mov (zc (-1)))]
def qbv1 : IC := zr [zv 11 (.fad (.t 2) 0), zv 12 (.ld false 1 (.t 11)), zm 13 1, zv 14 (.bin .gtr .no (.t 12) (.t 13)), zm 10 14]
def qbqx : IC := zr [zv 4 (.mov (zc 1))]
def qboj : IC := zr [zv 4 (.mov (zc 0))]
def k0z : IC := (.seq qbty (.seq (.block 0 (.seq qbut (.cond (.t 5) (.seq qbu2 .ret) (.seq qbv1 (.cond (.t 10) (.seq qbqx .ret) .skip))))) (.seq qboj .ret)))
@[go_sem] def s0z : List (RV × Co) := [(.t 4, .id)]
theorem c0z : cFun Tryz.prog 66 = some (15, k0z, s0z) := by kernel_rfl

def qbqa : IC := zr [zi 5 (.box (.t 2)), zv 6 (.mov (.c .nilp)), zv 7 (.mov (zc 0))]
def qbwt : IC := zr [zv 9 (.fad (.t 5) 0), zv 10 (.ld false 1 (.t 9)), zv 11 (.bin .eql .no (.t 10) (.c (.str []))), zm 12 11, zw 12 true 13 (.fad (.t 5) 1), zw 12 true 14 (.ld false 1 (.t 13)), zw 12 true 15 (.mov (.t 1)), zw 12 true 16 (.bin .eql .no (.t 14) (.t 15)), zv 17 (.pick (.t 12) (.t 16) (.c (.bool false))), zm 8 17]
def qbrk : IC := zr [zm 18 0, zm 6 18, zv 7 (.mov (zc 0))]
def qbr6 : IC := zr [zv 20 (.ld true 3 (.t 5)), zm 21 1, zi 22 (.call (.c (.fn 90 [] [])) [((.t 20), (.agg [.id, .id, (.sl 3)])), ((.t 21), .id)]), zm 19 22]
def qbon : IC := zr [zv 6 (.mov (.c .nilp)), zv 7 (.mov (zc 15))]
def qbxa : IC := zr [zm 23 0, zm 24 1, zv 25 (.ld true 3 (.t 5)), zv 26 (.bld [(.int .i64 0), (.str []), (.int .i64 0), .nils] [(0, 1, (.t 24)), (1, 3, (.t 25))]), zv 27 (.bsl 4 [((.t 26), (.agg [.id, .id, .id, (.sl 3)]))]), zi 28 (.call (.c (.fn 18 [] [])) [((.t 27), (.sl 4))]), zi 29 (.call (.c (.fn 43 [] [])) [((.t 23), .id), ((.t 28), .id)]), zv 30 (.ext (.t 29) 0), zv 31 (.ext (.t 29) 1), zm 6 30, zm 7 31]
def k0n : IC := (.seq qbqa (.seq (.block 0 (.seq qbwt (.cond (.t 8) (.seq qbrk .ret) (.seq qbr6 (.cond (.t 19) (.seq qbon .ret) .skip))))) (.seq qbxa .ret)))
@[go_sem] def s0n : List (RV × Co) := [(.t 6, .id), (.t 7, .id)]
theorem c0n : cFun Tryz.prog 67 = some (32, k0n, s0n) := by kernel_rfl

def qbiw : IC := zr [zv 2 zf]
def qbkk : IC := zr [zm 5 0, zv 6 (.bin .eql .no (.t 5) (.c (.str []))), zm 7 6, zw 7 false 8 (.mov (.t 0)), zw 7 false 9 (.idx (.t 8) (zc 0)), zw 7 false 10 (.bin .neq .no (.t 9) (.c (.int .u8 33))), zv 11 (.pick (.t 7) (.c (.bool true)) (.t 10))]
def qbc6 : IC := zr [zv 2 zf]
def qbhx : IC := zr [zm 13 0, zv 14 (.sls (.t 13) (some (zc 1)) none), zi 15 (.call (.c (.fn 91 [] [])) [((.t 14), .id)]), zm 12 15, zv 16 (.ext (.t 12) 0), zv 17 (.ext (.t 12) 1), zm 3 16, zm 4 17]
def qbla : IC := .drw [zp (zm 18 4), zp (zv 19 (.bin .eql .no (.t 18) (zc 0))), zp (zm 20 19), zp (zw 20 true 21 (.mov (.t 3))), (⟨some (20, true), some 22, .call (.c (.fn 92 [] [])) [((.t 21), .id)]⟩, []), zp (zw 20 true 23 (.mov (.t 0))), zp (zw 20 true 24 (.sls (.t 23) (some (zc 1)) none)), zp (zw 20 true 25 (.bin .eql .no (.t 22) (.t 24))), zp (zv 26 (.pick (.t 20) (.t 25) (.c (.bool false)))), zp (zm 2 26)]
def k0cf : IC := (.seq qbiw (.seq (.seq qbkk (.cond (.t 11) (.seq qbc6 .ret) .skip)) (.seq qbhx (.seq qbla .ret))))
@[go_sem] def s0cf : List (RV × Co) := [(.t 2, .id)]
theorem c0cf : cFun Tryz.prog 68 = some (27, k0cf, s0cf) := by kernel_rfl

def qbas : IC := zr [zv 2 zf]
def qbj9 : IC := zr [zm 3 0, zv 4 (.bin .neq .no (.t 3) (.c (.str []))), zm 5 4, zw 5 true 6 (.mov (.t 0)), zw 5 true 7 (.idx (.t 6) (zc 0)), ⟨some (5, true), some 8, .call (.c (.fn 93 [] [])) [((.t 7), .id)]⟩, zv 9 (.pick (.t 5) (.t 8) (.c (.bool false))), zm 10 9, zw 10 true 11 (.mov (.t 0)), ⟨some (10, true), some 12, .call (.c (.fn 94 [] [])) [((.t 11), .id)]⟩, zv 13 (.pick (.t 10) (.t 12) (.c (.bool false))), zm 2 13]
def k0cv : IC := (.seq qbas (.seq qbj9 .ret))
@[go_sem] def s0cv : List (RV × Co) := [(.t 2, .id)]
theorem c0cv : cFun Tryz.prog 69 = some (14, k0cv, s0cv) := by kernel_rfl

def qbio : IC := zr [zi 3 (.box (.t 1)), zv 4 (.mov (zc 0))]
def qbml : IC := zr [zv 9 (.fad (.t 3) 0), zv 10 (.ld false 1 (.t 9)), zv 11 (.bin .eql .no (.t 10) (.c (.str [])))]
def qbbl : IC := zr [zm 13 0, zv 14 (.fad (.t 3) 1), zv 15 (.ld false 1 (.t 14)), zi 16 (.call (.c (.fn 62 [] [])) [((.t 13), (.sl 4)), ((.t 15), .id)]), zm 12 16, zv 17 (.ext (.t 12) 0), zv 18 (.ext (.t 12) 1), zi 5 (.alo [(.str []), (.int .i64 0), .nils]), zn (.st 3 (.agg [.id, .id, (.sl 3)]) (.t 5) (.t 17)), zm 6 18]
def qbht : IC := zr [zm 19 6]
def qbbi : IC := zr [zv 20 (.ld true 3 (.t 5)), zi 21 (.call (.c (.fn 23 [] [])) [((.t 20), (.agg [.id, .id, (.sl 3)]))]), zm 4 21]
def qbls : IC := zr [zv 4 (.mov (zc 1))]
def qbja : IC := zr [zv 7 (.mov (zc 1))]
def qbb2 : IC := zr [zv 8 (.mov (zc 0))]
def q8p : IC := zr [zm 22 8, zv 23 (.fad (.t 3) 2), zv 24 (.ld false 1 (.t 23)), zv 25 (.len false (.t 24)), zv 26 (.bin .lss .no (.t 22) (.t 25))]
def q4a : IC := zr [zm 29 7, zm 30 0, zv 31 (.fad (.t 3) 2), zv 32 (.ld false 1 (.t 31)), zm 33 8, zv 34 (.iad 3 (.t 32) (.t 33)), zv 35 (.ld true 3 (.t 34)), zi 36 (.call (.c (.fn 70 [] [])) [((.t 30), (.sl 4)), ((.t 35), (.agg [.id, .id, (.sl 3)]))]), zv 37 (.bin .add .no (.t 29) (.t 36)), zm 7 37]
def q3b : IC := zr [zm 27 8, zv 28 (.bin .add .no (.t 27) (zc 1)), zm 8 28]
def qbl9 : IC := (.seq (.seq q8p (.cond (.t 26) .skip (.exit 0))) (.seq (.block 1 q4a) q3b))
def q6x : IC := zr [zm 38 7, zm 4 38]
def k0dd : IC := (.seq qbio (.seq (.seq qbml (.cond (.t 11) (.seq qbbl (.seq (.seq qbht (.cond (.t 19) (.seq qbbi .ret) .skip)) (.seq qbls .ret))) .skip)) (.seq qbja (.seq (.seq qbb2 (.block 0 (.loop qbl9))) (.seq q6x .ret)))))
@[go_sem] def s0dd : List (RV × Co) := [(.t 4, .id)]
theorem c0dd : cFun Tryz.prog 70 = some (39, k0dd, s0dd) := by kernel_rfl

def q9q : IC := zr [zi 3 (.box (.t 1)), zi 4 (.alo [(.str []), (.int .i64 0), .nils])]
def qblb : IC := zr [zv 9 (.fad (.t 3) 0), zv 10 (.ld false 1 (.t 9)), zv 11 (.bin .eql .no (.t 10) (.c (.str [])))]
def qbme : IC := zr [zm 13 0, zv 14 (.fad (.t 3) 1), zv 15 (.ld false 1 (.t 14)), zi 16 (.call (.c (.fn 62 [] [])) [((.t 13), (.sl 4)), ((.t 15), .id)]), zm 12 16, zv 17 (.ext (.t 12) 0), zv 18 (.ext (.t 12) 1), zi 5 (.alo [(.str []), (.int .i64 0), .nils]), zn (.st 3 (.agg [.id, .id, (.sl 3)]) (.t 5) (.t 17)), zm 6 18]
def q8c : IC := zr [zm 19 6]
def qbje : IC := zr [zv 20 (.ld true 3 (.t 5)), zn (.st 3 (.agg [.id, .id, (.sl 3)]) (.t 4) (.t 20))]
def qbjk : IC := zr [zv 21 (.ld true 3 (.t 3)), zn (.st 3 (.agg [.id, .id, (.sl 3)]) (.t 4) (.t 21))]
def qbn3 : IC := zr [zv 7 (.mov (.c .nils))]
def qbmy : IC := zr [zv 8 (.mov (zc 0))]
def q78 : IC := zr [zm 22 8, zv 23 (.fad (.t 3) 2), zv 24 (.ld false 1 (.t 23)), zv 25 (.len false (.t 24)), zv 26 (.bin .lss .no (.t 22) (.t 25))]
def q6r : IC := zr [zm 29 7, zm 30 0, zv 31 (.fad (.t 3) 2), zv 32 (.ld false 1 (.t 31)), zm 33 8, zv 34 (.iad 3 (.t 32) (.t 33)), zv 35 (.ld true 3 (.t 34)), zi 36 (.call (.c (.fn 71 [] [])) [((.t 30), (.sl 4)), ((.t 35), (.agg [.id, .id, (.sl 3)]))]), zv 37 (.bsl 3 [((.t 36), (.agg [.id, .id, (.sl 3)]))]), zi 38 (.app 3 (.agg [(.str []), (.int .i64 0), .nils]) 48 (.sl 3) (.t 29) (.t 37)), zm 7 38]
def q6n : IC := zr [zm 27 8, zv 28 (.bin .add .no (.t 27) (zc 1)), zm 8 28]
def qbcv : IC := (.seq (.seq q78 (.cond (.t 26) .skip (.exit 0))) (.seq (.block 1 q6r) q6n))
def q3a : IC := zr [zm 39 7, zv 40 (.fad (.t 3) 2), zn (.st 1 (.sl 3) (.t 40) (.t 39))]
def q6l : IC := zr [zv 41 (.ld true 3 (.t 3)), zn (.st 3 (.agg [.id, .id, (.sl 3)]) (.t 4) (.t 41))]
def k0de : IC := (.seq q9q (.seq (.seq qblb (.cond (.t 11) (.seq qbme (.seq (.seq q8c (.cond (.t 19) (.seq qbje .ret) .skip)) (.seq qbjk .ret))) .skip)) (.seq qbn3 (.seq (.seq qbmy (.block 0 (.loop qbcv))) (.seq q3a (.seq q6l .ret))))))
@[go_sem] def s0de : List (RV × Co) := [(.c true 3 4, (.agg [.id, .id, (.sl 3)]))]
theorem c0de : cFun Tryz.prog 71 = some (42, k0de, s0de) := by kernel_rfl

def qbnr : IC := zr [zi 2 (.box (.t 0)), zv 4 zf]
def qbc2 : IC := zr [zv 5 (.ld true 3 (.t 2)), zi 6 (.call (.c (.fn 77 [] [])) [((.t 5), (.agg [.id, .id, (.sl 3)]))]), zm 7 1, zi 8 (.call (.c (.fn 95 [] [])) [((.t 6), (.sl 1)), ((.t 7), .id)]), zm 4 8]
def k0bz : IC := (.seq qbnr (.seq qbc2 .ret))
@[go_sem] def s0bz : List (RV × Co) := [(.t 4, .id)]
theorem c0bz : cFun Tryz.prog 72 = some (9, k0bz, s0bz) := by kernel_rfl

def qbbh : IC := zr [zv 4 (.mov (.c .nils)), zv 5 (.mov (zc 0))]
def qbm6 : IC := zr [zv 6 (.mov (.c .nils))]
def qblk : IC := zr [zv 7 (.mov (zc 0))]
def qbii : IC := zr [zm 13 7, zm 14 0, zv 15 (.len false (.t 14)), zv 16 (.bin .lss .no (.t 13) (.t 15))]
def qbgc : IC := zr [zm 20 1, zm 21 0, zm 22 7, zv 23 (.iad 4 (.t 21) (.t 22)), zv 24 (.fad (.t 23) 1), zv 25 (.ld true 3 (.t 24)), zi 26 (.call (.c (.fn 49 [] [])) [((.t 20), (.sl 4)), ((.t 25), (.agg [.id, .id, (.sl 3)]))]), zm 19 26, zv 27 (.ext (.t 19) 0), zv 28 (.ext (.t 19) 1), zi 8 (.alo [(.str []), (.int .i64 0), .nils]), zn (.st 3 (.agg [.id, .id, (.sl 3)]) (.t 8) (.t 27)), zm 9 28]
def qbew : IC := zr [zm 29 9, zv 30 (.bin .neq .no (.t 29) (zc 0))]
def qbbs : IC := zr [zm 31 9, zv 4 (.mov (.c .nils)), zm 5 31]
def qbce : IC := .drw [zp (zm 32 6), zp (zm 33 0), zp (zm 34 7), zp (zv 35 (.iad 4 (.t 33) (.t 34))), zp (zv 36 (.fad (.t 35) 0)), zp (zv 37 (.ld false 1 (.t 36))), zp (zv 38 (.ld true 3 (.t 8))), (zv 39 (.bld [(.int .i64 0), (.str []), (.int .i64 0), .nils] [(0, 1, (.t 37)), (1, 3, (.t 38))]), []), (zv 40 (.bsl 4 [((.t 39), (.agg [.id, .id, .id, (.sl 3)]))]), []), (zi 41 (.app 4 (.agg [(.int .i64 0), (.str []), (.int .i64 0), .nils]) 56 (.sl 4) (.t 32) (.t 40)), []), zp (zm 6 41)]
def qbdp : IC := zr [zm 17 7, zv 18 (.bin .add .no (.t 17) (zc 1)), zm 7 18]
def qbb4 : IC := (.seq (.seq qbii (.cond (.t 16) .skip (.exit 0))) (.seq (.block 1 (.seq qbgc (.seq (.seq qbew (.cond (.t 30) (.seq qbbs .ret) .skip)) qbce))) qbdp))
def q55 : IC := zr [zv 10 (.mov (zc 0))]
def q2y : IC := zr [zm 42 10, zm 43 1, zv 44 (.len false (.t 43)), zv 45 (.bin .lss .no (.t 42) (.t 44))]
def q25 : IC := .drw [zp (zm 49 6), zp (zm 50 1), zp (zm 51 10), zp (zv 52 (.iad 4 (.t 50) (.t 51))), zp (zv 53 (.fad (.t 52) 0)), zp (zv 54 (.ld false 1 (.t 53))), zp (zm 55 1), zp (zm 56 10), zp (zv 57 (.iad 4 (.t 55) (.t 56))), zp (zv 58 (.fad (.t 57) 1)), zp (zv 59 (.ld true 3 (.t 58))), (zi 60 (.call (.c (.fn 53 [] [])) [((.t 49), (.sl 4)), ((.t 54), .id), ((.t 59), (.agg [.id, .id, (.sl 3)]))]), []), zp (zm 48 60), zp (zv 61 (.ext (.t 48) 0)), zp (zv 62 (.ext (.t 48) 1)), zp (zm 11 61), zp (zm 12 62)]
def q4k : IC := zr [zm 63 11, zm 6 63]
def q66 : IC := zr [zm 46 10, zv 47 (.bin .add .no (.t 46) (zc 1)), zm 10 47]
def qtd : IC := (.seq (.seq q2y (.cond (.t 45) .skip (.exit 2))) (.seq (.block 3 (.seq q25 q4k)) q66))
def k0da_r18 : IC := zr [zm 64 6, zm 4 64, zv 5 (.mov (zc 0))]
def k0da : IC := (.seq qbbh (.seq qbm6 (.seq (.seq qblk (.block 0 (.loop qbb4))) (.seq (.seq q55 (.block 2 (.loop qtd))) (.seq k0da_r18 .ret)))))
@[go_sem] def s0da : List (RV × Co) := [(.t 4, (.sl 4)), (.t 5, .id)]
theorem c0da : cFun Tryz.prog 73 = some (65, k0da, s0da) := by kernel_rfl

def qbiu : IC := zr [zi 3 (.box (.t 0)), zv 5 zf]
def q8v : IC := zr [zv 6 (.fad (.t 3) 0), zv 7 (.ld false 1 (.t 6)), zv 8 (.bin .eql .no (.t 7) (.c (.str []))), zm 9 8, zw 9 true 10 (.ld false 1 (.t 2)), zw 9 true 11 (.fad (.t 3) 1), zw 9 true 12 (.ld false 1 (.t 11)), ⟨some (9, true), some 13, .call (.c (.fn 75 [] [])) [((.t 10), (.sl 1)), ((.t 12), .id)]⟩, zw 9 true 14 (.un .not (.t 13)), zv 15 (.pick (.t 9) (.t 14) (.c (.bool false)))]
def qbc4 : IC := zr [zv 16 (.ld false 1 (.t 2)), zv 17 (.fad (.t 3) 1), zv 18 (.ld false 1 (.t 17)), zv 19 (.bsl 1 [((.t 18), .id)]), zi 20 (.app 1 (.int .i64 0) 8 (.sl 1) (.t 16) (.t 19)), zn (.st 1 (.sl 1) (.t 2) (.t 20))]
def qblw : IC := zr [zv 5 (.mov (.c (.bool true)))]
def k0ca : IC := (.seq qbiu (.seq (.seq q8v (.cond (.t 15) qbc4 .skip)) (.seq qblw .ret)))
@[go_sem] def s0ca : List (RV × Co) := [(.t 5, .id)]
theorem c0ca : cFun Tryz.prog 74 = some (21, k0ca, s0ca) := by kernel_rfl

def qbcp : IC := zr [zv 4 zf]
def qbha : IC := zr [zm 5 0, zm 6 1, zi 7 (.call (.c (.fn 96 [] [])) [((.t 5), (.sl 1)), ((.t 6), .id)]), zv 8 (.bin .geq .no (.t 7) (zc 0)), zm 4 8]
def k0bu : IC := (.seq qbcp (.seq qbha .ret))
@[go_sem] def s0bu : List (RV × Co) := [(.t 4, .id)]
theorem c0bu : cFun Tryz.prog 75 = some (9, k0bu, s0bu) := by kernel_rfl

def qbfn : IC := zr [zv 2 (.mov (.c .nils))]
def qbbf : IC := zr [zv 3 (.mov (.c .nils))]
def qbkp : IC := zr [zv 4 (.mov (zc 0))]
def qba2 : IC := zr [zm 5 4, zm 6 0, zv 7 (.len false (.t 6)), zv 8 (.bin .lss .no (.t 5) (.t 7))]
def qbdn : IC := zr [zm 11 3, zm 12 0, zm 13 4, zv 14 (.iad 1 (.t 12) (.t 13)), zv 15 (.ld false 1 (.t 14)), zi 16 (.call (.c (.fn 95 [] [])) [((.t 11), (.sl 1)), ((.t 15), .id)]), zv 17 (.un .not (.t 16))]
def q96 : IC := zr [zm 18 3, zm 19 0, zm 20 4, zv 21 (.iad 1 (.t 19) (.t 20)), zv 22 (.ld false 1 (.t 21)), zv 23 (.bsl 1 [((.t 22), .id)]), zi 24 (.app 1 (.int .i64 0) 8 (.sl 1) (.t 18) (.t 23)), zm 3 24]
def qbll : IC := zr [zm 9 4, zv 10 (.bin .add .no (.t 9) (zc 1)), zm 4 10]
def qbhb : IC := (.seq (.seq qba2 (.cond (.t 8) .skip (.exit 0))) (.seq (.block 1 (.seq qbdn (.cond (.t 17) q96 .skip))) qbll))
def qbct : IC := zr [zm 25 3, zm 2 25]
def k0bw : IC := (.seq qbfn (.seq qbbf (.seq (.seq qbkp (.block 0 (.loop qbhb))) (.seq qbct .ret))))
@[go_sem] def s0bw : List (RV × Co) := [(.t 2, (.sl 1))]
theorem c0bw : cFun Tryz.prog 76 = some (26, k0bw, s0bw) := by kernel_rfl

def qblp : IC := zr [zi 1 (.box (.t 0)), zv 2 (.mov (.c .nils))]
def qbj4 : IC := zr [zv 3 (.mov (.c .nils))]
def qbix : IC := zr [zv 5 (.fad (.t 1) 0), zv 6 (.ld false 1 (.t 5)), zv 7 (.bin .eql .no (.t 6) (.c (.str [])))]
def q8f : IC := zr [zv 8 (.fad (.t 1) 1), zv 9 (.ld false 1 (.t 8)), zv 10 (.bsl 1 [((.t 9), .id)]), zm 3 10]
def qbbu : IC := zr [zv 4 (.mov (zc 0))]
def qbb7 : IC := zr [zm 11 4, zv 12 (.fad (.t 1) 2), zv 13 (.ld false 1 (.t 12)), zv 14 (.len false (.t 13)), zv 15 (.bin .lss .no (.t 11) (.t 14))]
def q83 : IC := zr [zm 18 3, zv 19 (.fad (.t 1) 2), zv 20 (.ld false 1 (.t 19)), zm 21 4, zv 22 (.iad 3 (.t 20) (.t 21)), zv 23 (.ld true 3 (.t 22)), zi 24 (.call (.c (.fn 77 [] [])) [((.t 23), (.agg [.id, .id, (.sl 3)]))]), zi 25 (.app 1 (.int .i64 0) 8 (.sl 1) (.t 18) (.t 24)), zm 3 25]
def qbes : IC := zr [zm 16 4, zv 17 (.bin .add .no (.t 16) (zc 1)), zm 4 17]
def qbbd : IC := (.seq (.seq qbb7 (.cond (.t 15) .skip (.exit 0))) (.seq (.block 1 q83) qbes))
def q4p : IC := zr [zm 26 3, zm 2 26]
def k0bx : IC := (.seq qblp (.seq qbj4 (.seq (.seq qbix (.cond (.t 7) q8f .skip)) (.seq (.seq qbbu (.block 0 (.loop qbbd))) (.seq q4p .ret)))))
@[go_sem] def s0bx : List (RV × Co) := [(.t 2, (.sl 1))]
theorem c0bx : cFun Tryz.prog 77 = some (27, k0bx, s0bx) := by kernel_rfl

def qbia : IC := zr [zv 2 zf]
def qbca : IC := zr [zm 5 0, zi 6 (.call (.c (.fn 86 [] [])) [((.t 5), .id), ((.c (.str [33])), .id)]), zv 7 (.un .not (.t 6))]
def qbkw : IC := zr [zv 2 zf]
def qbcf : IC := zr [zm 9 0, zv 10 (.sls (.t 9) (some (zc 1)) none), zi 11 (.call (.c (.fn 98 [] [])) [((.t 10), .id)]), zm 8 11, zv 12 (.ext (.t 8) 0), zv 13 (.ext (.t 8) 1), zm 3 12, zm 4 13]
def qbm0 : IC := .drw [zp (zm 14 4), zp (zv 15 (.bin .eql .no (.t 14) (zc 0))), zp (zm 16 15), zp (zw 16 true 17 (.mov (.t 3))), (⟨some (16, true), some 18, .call (.c (.fn 99 [] [])) [((.t 17), .id)]⟩, []), zp (zw 16 true 19 (.mov (.t 0))), zp (zw 16 true 20 (.sls (.t 19) (some (zc 1)) none)), zp (zw 16 true 21 (.bin .eql .no (.t 18) (.t 20))), zp (zv 22 (.pick (.t 16) (.t 21) (.c (.bool false)))), zp (zm 2 22)]
def k0ce : IC := (.seq qbia (.seq (.seq qbca (.cond (.t 7) (.seq qbkw .ret) .skip)) (.seq qbcf (.seq qbm0 .ret))))
@[go_sem] def s0ce : List (RV × Co) := [(.t 2, .id)]
theorem c0ce : cFun Tryz.prog 80 = some (23, k0ce, s0ce) := by kernel_rfl

def qbki : IC := zr [zv 2 zf]
def qba0 : IC := zr [zm 3 0, zv 4 (.bin .neq .no (.t 3) (.c (.str []))), zm 5 4, zw 5 true 6 (.mov (.t 0)), zw 5 true 7 (.idx (.t 6) (zc 0)), ⟨some (5, true), some 8, .call (.c (.fn 100 [] [])) [((.t 7), .id)]⟩, zv 9 (.pick (.t 5) (.t 8) (.c (.bool false))), zm 10 9, zw 10 true 11 (.mov (.t 0)), ⟨some (10, true), some 12, .call (.c (.fn 101 [] [])) [((.t 11), .id)]⟩, zv 13 (.pick (.t 10) (.t 12) (.c (.bool false))), zm 2 13]
def k0cu : IC := (.seq qbki (.seq qba0 .ret))
@[go_sem] def s0cu : List (RV × Co) := [(.t 2, .id)]
theorem c0cu : cFun Tryz.prog 81 = some (14, k0cu, s0cu) := by kernel_rfl

def qbn2 : IC := zr [zi 3 (.box (.t 0)), zv 5 zf]
def q93 : IC := zr [zv 6 (.ld false 1 (.t 2)), zv 7 (.bin .add .no (.t 6) (zc 1)), zn (.st 1 .id (.t 2) (.t 7))]
def qbhk : IC := zr [zv 5 (.mov (.c (.bool true)))]
def k0bi : IC := (.seq qbn2 (.seq q93 (.seq qbhk .ret)))
@[go_sem] def s0bi : List (RV × Co) := [(.t 5, .id)]
theorem c0bi : cFun Tryz.prog 82 = some (8, k0bi, s0bi) := by kernel_rfl

def qbiz : IC := zr [zi 3 (.box (.t 0)), zv 5 zf]
def q7y : IC := zr [zv 6 (.ld false 1 (.t 2)), zm 7 1, zv 8 (.mm true (.t 6) (.t 7)), zn (.st 1 .id (.t 2) (.t 8))]
def q72 : IC := zr [zv 5 (.mov (.c (.bool true)))]
def k0bj : IC := (.seq qbiz (.seq q7y (.seq q72 .ret)))
@[go_sem] def s0bj : List (RV × Co) := [(.t 5, .id)]
theorem c0bj : cFun Tryz.prog 83 = some (9, k0bj, s0bj) := by kernel_rfl

def qbd7 : IC := zr [zv 1 (.ld false 1 (.t 0)), zv 2 (.nck (.t 1)), zv 3 (.fad (.t 2) 1), zv 4 (.ld false 1 (.t 3)), zv 5 (.bin .sub .no (.t 4) (zc 1)), zv 6 (.nck (.t 1)), zv 7 (.fad (.t 6) 1), zn (.st 1 .id (.t 7) (.t 5))]
def k0dh : IC := qbd7
@[go_sem] def s0dh : List (RV × Co) := []
theorem c0dh : cFun Tryz.prog 84 = some (8, k0dh, s0dh) := by kernel_rfl

def qbc3 : IC := zr [zi 2 (.alo [(.str []), (.int .i64 0), .nils])]
def qbku : IC := zr [zm 6 0, zi 7 (.call (.c (.fn 87 [] [])) [((.t 6), .id), ((.c (.str [40])), .id)])]
def qbfa : IC := zr [zm 8 0, zi 9 (.call (.c (.fn 63 [] [])) [((.t 8), .id)]), zi 3 (.alo [(.str []), (.int .i64 0), .nils]), zn (.st 3 (.agg [.id, .id, (.sl 3)]) (.t 3) (.t 9))]
def q91 : IC := zr [zm 10 0, zm 11 0, zv 12 (.nck (.t 11)), zv 13 (.fad (.t 12) 2), zv 14 (.ld false 1 (.t 13)), zm 15 14, zw 15 false 16 (.mov (.t 0)), ⟨some (15, false), some 17, .call (.c (.fn 87 [] [])) [((.t 16), .id), ((.c (.str [41])), .id)]⟩, zw 15 false 18 (.un .not (.t 17)), zv 19 (.pick (.t 15) (.c (.bool true)) (.t 18)), zv 20 (.nck (.t 10)), zv 21 (.fad (.t 20) 2), zn (.st 1 .id (.t 21) (.t 19))]
def qbde : IC := zr [zv 22 (.ld true 3 (.t 3)), zn (.st 3 (.agg [.id, .id, (.sl 3)]) (.t 2) (.t 22))]
def qbm7 : IC := zr [zm 23 0, zv 24 (.nck (.t 23)), zv 25 (.fad (.t 24) 0), zv 26 (.ld false 1 (.t 25)), zi 27 (.call (.c (.fn 102 [] [])) [((.t 26), .id), ((.c (.str [32, 40, 41])), .id)]), zm 4 27]
def qbdh : IC := zr [zm 28 4, zv 29 (.bin .lss .no (.t 28) (zc 0))]
def q73 : IC := zr [zm 30 0, zv 31 (.nck (.t 30)), zv 32 (.fad (.t 31) 0), zv 33 (.ld false 1 (.t 32)), zv 34 (.len true (.t 33)), zm 4 34]
def qbm8 : IC := zr [zm 35 0, zv 36 (.nck (.t 35)), zv 37 (.fad (.t 36) 0), zv 38 (.ld false 1 (.t 37)), zm 39 4, zv 40 (.sls (.t 38) none (some (.t 39))), zi 41 (.call (.c (.fn 103 [] [])) [((.t 40), .id)]), zi 5 (.alo [(.str []), (.int .i64 0), .nils]), zn (.st 3 (.agg [.id, .id, (.sl 3)]) (.t 5) (.t 41))]
def qblu : IC := .drw [zp (zm 42 0), zp (zm 43 0), zp (zm 44 0), zp (zv 45 (.nck (.t 44))), zp (zv 46 (.fad (.t 45) 0)), zp (zv 47 (.ld false 1 (.t 46))), zp (zm 48 4), zp (zv 49 (.sls (.t 47) (some (.t 48)) none)), zp (zm 50 0), zp (zv 51 (.nck (.t 50))), zp (zv 52 (.fad (.t 51) 2)), zp (zv 53 (.ld false 1 (.t 52))), zp (zm 54 53), zp (zw 54 false 55 (.mov (.t 4))), zp (zw 54 false 56 (.bin .eql .no (.t 55) (zc 0))), zp (zv 57 (.pick (.t 54) (.c (.bool true)) (.t 56))), zp (zv 58 (.nck (.t 42))), zp (zv 59 (.fad (.t 58) 0)), (zn (.st 1 .id (.t 59) (.t 49)), []), zp (zv 60 (.nck (.t 43))), zp (zv 61 (.fad (.t 60) 2)), (zn (.st 1 .id (.t 61) (.t 57)), [])]
def q6g : IC := zr [zv 62 (.ld true 3 (.t 5)), zn (.st 3 (.agg [.id, .id, (.sl 3)]) (.t 2) (.t 62))]
def k0di : IC := (.seq qbc3 (.seq (.seq qbku (.cond (.t 7) (.seq qbfa (.seq q91 (.seq qbde .ret))) .skip)) (.seq qbm7 (.seq (.seq qbdh (.cond (.t 29) q73 .skip)) (.seq qbm8 (.seq qblu (.seq q6g .ret)))))))
@[go_sem] def s0di : List (RV × Co) := [(.c true 3 2, (.agg [.id, .id, (.sl 3)]))]
theorem c0di : cFun Tryz.prog 85 = some (63, k0di, s0di) := by kernel_rfl

def qbjc : IC := zr [zv 4 zf]
def qbij : IC := zr [zm 5 0, zm 6 1, zi 7 (.call (.c (.fn 104 [] [])) [((.t 5), .id), ((.t 6), .id)]), zm 4 7]
def k0cj : IC := (.seq qbjc (.seq qbij .ret))
@[go_sem] def s0cj : List (RV × Co) := [(.t 4, .id)]
theorem c0cj : cFun Tryz.prog 86 = some (8, k0cj, s0cj) := by kernel_rfl

def qbfr : IC := zr [zv 4 zf]
def qbbe : IC := zr [zm 6 0, zv 7 (.nck (.t 6)), zv 8 (.fad (.t 7) 0), zv 9 (.ld false 1 (.t 8)), zm 10 1, zi 11 (.call (.c (.fn 86 [] [])) [((.t 9), .id), ((.t 10), .id)]), zm 5 11]
def qbh4 : IC := zr [zm 12 5]
def qbhv : IC := zr [zm 13 0, zm 14 0, zv 15 (.nck (.t 14)), zv 16 (.fad (.t 15) 0), zv 17 (.ld false 1 (.t 16)), zm 18 1, zv 19 (.len true (.t 18)), zv 20 (.sls (.t 17) (some (.t 19)) none), zv 21 (.nck (.t 13)), zv 22 (.fad (.t 21) 0), zn (.st 1 .id (.t 22) (.t 20))]
def qbhs : IC := zr [zm 23 5, zm 4 23]
def k0dl : IC := (.seq qbfr (.seq qbbe (.seq (.seq qbh4 (.cond (.t 12) qbhv .skip)) (.seq qbhs .ret))))
@[go_sem] def s0dl : List (RV × Co) := [(.t 4, .id)]
theorem c0dl : cFun Tryz.prog 87 = some (24, k0dl, s0dl) := by kernel_rfl

def qbfc : IC := zr [zv 2 (.mov (.c .nils))]
def qbjl : IC := zr [zm 3 0, zv 4 (.bin .eql .slice (.t 3) (.c .nils))]
def qbjr : IC := zr [zv 2 (.mov (.c .nils))]
def qbdr : IC := zr [zv 5 (.bsl 3 []), zm 6 0, zi 7 (.app 3 (.agg [(.str []), (.int .i64 0), .nils]) 48 (.sl 3) (.t 5) (.t 6)), zm 2 7]
def k0dk : IC := (.seq qbfc (.seq (.seq qbjl (.cond (.t 4) (.seq qbjr .ret) .skip)) (.seq qbdr .ret)))
@[go_sem] def s0dk : List (RV × Co) := [(.t 2, (.sl 3))]
theorem c0dk : cFun Tryz.prog 88 = some (8, k0dk, s0dk) := by kernel_rfl

def qbkv : IC := zr [zi 1 (.box (.t 0)), zv 2 (.mov (.c (.str [])))]
def qbeb : IC := zr [zv 6 (.fad (.t 1) 0), zv 7 (.ld false 1 (.t 6)), zv 8 (.bin .eql .no (.t 7) (.c (.str [45, 62])))]
def qbk7 : IC := .drw [zp (zv 9 (.fad (.t 1) 2)), zp (zv 10 (.ld false 1 (.t 9))), zp (zv 11 (.iad 3 (.t 10) (zc 0))), zp (zv 12 (.ld true 3 (.t 11))), zp (zv 13 (.fad (.t 1) 2)), zp (zv 14 (.ld false 1 (.t 13))), zp (zv 15 (.iad 3 (.t 14) (zc 0))), zp (zv 16 (.fad (.t 15) 0)), zp (zv 17 (.ld false 1 (.t 16))), (zv 18 (.bin .eql .no (.t 17) (.c (.str [45, 62]))), []), (zi 19 (.call (.c (.fn 105 [] [])) [((.t 12), (.agg [.id, .id, (.sl 3)])), ((.t 18), .id)]), []), (zv 20 (.bin .add .no (.t 19) (.c (.str [32, 45, 62, 32]))), []), zp (zv 21 (.fad (.t 1) 2)), (zv 22 (.ld false 1 (.t 21)), [10]), zp (zv 23 (.iad 3 (.t 22) (zc 1))), (zv 24 (.ld true 3 (.t 23)), [10]), (zi 25 (.call (.c (.fn 89 [] [])) [((.t 24), (.agg [.id, .id, (.sl 3)]))]), []), zp (zv 26 (.bin .add .no (.t 20) (.t 25))), zp (zm 2 26)]
def q77 : IC := zr [zi 3 (.bld 126 5)]
def qbab : IC := zr [zv 27 (.ld true 3 (.t 1)), zi 28 (.call (.c (.fn 58 [] [])) [((.t 27), (.agg [.id, .id, (.sl 3)]))]), zi 29 (.call (.c (.fn 107 [] [])) [((.t 28), .id)]), zi 30 (.call (.c (.fn 106 [] [])) [((.t 3), (.agg [.id, (.sl 1)])), ((.t 29), .id)])]
def qbnf : IC := zr [zv 31 (.fad (.t 1) 2), zv 32 (.ld false 1 (.t 31)), zv 33 (.len false (.t 32)), zv 34 (.mov (zc 0))]
def q80 : IC := zr [zv 35 (.bin .lss .no (.t 34) (.t 33))]
def qbg6 : IC := zr [zv 36 (.iad 3 (.t 32) (.t 34)), zv 37 (.ld true 3 (.t 36)), zi 5 (.alo [(.str []), (.int .i64 0), .nils]), zn (.st 3 (.agg [.id, .id, (.sl 3)]) (.t 5) (.t 37))]
def qbcq : IC := zr [zv 38 (.ld true 3 (.t 5)), zv 39 (.fad (.t 5) 2), zv 40 (.ld false 1 (.t 39)), zv 41 (.len false (.t 40)), zv 42 (.bin .gtr .no (.t 41) (zc 0)), zi 43 (.call (.c (.fn 105 [] [])) [((.t 38), (.agg [.id, .id, (.sl 3)])), ((.t 42), .id)]), zv 44 (.bin .add .no (.c (.str [32])) (.t 43)), zi 45 (.call (.c (.fn 106 [] [])) [((.t 3), (.agg [.id, (.sl 1)])), ((.t 44), .id)])]
def q43 : IC := zr [zv 46 (.bin .add .no (.t 34) (zc 1)), zm 34 46]
def q98 : IC := (.seq q80 (.seq (.cond (.t 35) .skip (.exit 0)) (.seq (.block 1 (.seq qbg6 qbcq)) q43)))
def q5j : IC := zr [zi 47 (.call (.c (.fn 108 [] [])) [((.t 3), (.agg [.id, (.sl 1)]))]), zm 2 47]
def k0bf : IC := (.seq qbkv (.seq (.seq qbeb (.cond (.t 8) (.seq qbk7 .ret) .skip)) (.seq q77 (.seq qbab (.seq (.seq qbnf (.block 0 (.loop q98))) (.seq q5j .ret))))))
@[go_sem] def s0bf : List (RV × Co) := [(.t 2, .id)]
theorem c0bf : cFun Tryz.prog 89 = some (48, k0bf, s0bf) := by kernel_rfl

def qbhr : IC := zr [zi 2 (.box (.t 0)), zi 3 (.box (.t 1)), zv 4 zf]
def qbk8 : IC := zr [zv 5 (.ld true 3 (.t 2)), zv 6 (.mfn 109 [] [(.t 3)]), zi 7 (.call (.c (.fn 56 [] [])) [((.t 5), (.agg [.id, .id, (.sl 3)])), ((zc 1), .id), ((.t 6), .id)]), zv 8 (.un .not (.t 7)), zm 4 8]
def k0dg : IC := (.seq qbhr (.seq qbk8 .ret))
@[go_sem] def s0dg : List (RV × Co) := [(.t 4, .id)]
theorem c0dg : cFun Tryz.prog 90 = some (9, k0dg, s0dg) := by kernel_rfl

def q9m : IC := zr [zv 2 (.mov (zc 0)), zv 3 (.mov (zc 0))]
def q88 : IC := zr [zm 8 0, zv 9 (.bin .eql .no (.t 8) (.c (.str [])))]
def qbgj : IC := zr [zv 2 (.mov (zc 0)), zv 3 (.mov (zc 5))]
def qbe9 : IC := zr [zv 4 (.mov (zc 0))]
def qbal : IC := zr [zm 10 4, zm 11 0, zv 12 (.len true (.t 11)), zv 13 (.bin .lss .no (.t 10) (.t 12))]
def q79 : IC := zr [zm 16 0, zm 17 4, zv 18 (.idx (.t 16) (.t 17)), zv 19 (.bin .lss .no (.t 18) (.c (.int .u8 48))), zm 20 19, zw 20 false 21 (.mov (.t 0)), zw 20 false 22 (.mov (.t 4)), zw 20 false 23 (.idx (.t 21) (.t 22)), zw 20 false 24 (.bin .gtr .no (.t 23) (.c (.int .u8 57))), zv 25 (.pick (.t 20) (.c (.bool true)) (.t 24))]
def qbcg : IC := zr [zv 2 (.mov (zc 0)), zv 3 (.mov (zc 5))]
def qbi1 : IC := zr [zm 14 4, zv 15 (.bin .add .no (.t 14) (zc 1)), zm 4 15]
def qbli : IC := (.seq (.seq qbal (.cond (.t 13) .skip (.exit 0))) (.seq (.block 1 (.seq q79 (.cond (.t 25) (.seq qbcg .ret) .skip))) qbi1))
def q68 : IC := zr [zv 5 (.mov (zc 0))]
def q2i : IC := zr [zv 6 (.mov (zc 0))]
def q4q : IC := zr [zm 26 6, zm 27 0, zv 28 (.len true (.t 27)), zv 29 (.bin .lss .no (.t 26) (.t 28))]
def q4f : IC := zr [zm 32 0, zm 33 6, zv 34 (.idx (.t 32) (.t 33)), zv 35 (.bin .sub .no (.t 34) (.c (.int .u8 48))), zv 36 (.cvi .i64 (.t 35)), zm 7 36]
def q1q : IC := zr [zm 37 5, zm 38 7, zv 39 (.bin .sub .no (zc 9223372036854775807) (.t 38)), zv 40 (.bin .quo .no (.t 39) (zc 10)), zv 41 (.bin .gtr .no (.t 37) (.t 40))]
def q6m : IC := zr [zv 2 (.mov (zc 0)), zv 3 (.mov (zc 4))]
def q6i : IC := zr [zm 42 5, zv 43 (.bin .mul .no (zc 10) (.t 42)), zm 44 7, zv 45 (.bin .add .no (.t 43) (.t 44)), zm 5 45]
def q1h : IC := zr [zm 30 6, zv 31 (.bin .add .no (.t 30) (zc 1)), zm 6 31]
def q4y : IC := (.seq (.seq q4q (.cond (.t 29) .skip (.exit 2))) (.seq (.block 3 (.seq q4f (.seq (.seq q1q (.cond (.t 41) (.seq q6m .ret) .skip)) q6i))) q1h))
def q3q : IC := zr [zm 46 5, zm 2 46, zv 3 (.mov (zc 0))]
def k0ck : IC := (.seq q9m (.seq (.seq q88 (.cond (.t 9) (.seq qbgj .ret) .skip)) (.seq (.seq qbe9 (.block 0 (.loop qbli))) (.seq q68 (.seq (.seq q2i (.block 2 (.loop q4y))) (.seq q3q .ret))))))
@[go_sem] def s0ck : List (RV × Co) := [(.t 2, .id), (.t 3, .id)]
theorem c0ck : cFun Tryz.prog 91 = some (47, k0ck, s0ck) := by kernel_rfl

def qbm5 : IC := zr [zv 2 (.mov (.c (.str [])))]
def qbby : IC := zr [zm 5 0, zi 6 (.call (.c (.fn 110 [] [])) [((.t 5), .id)]), zm 3 6]
def qbgy : IC := zr [zv 4 (.mov (.c (.str [])))]
def qbnu : IC := zr [zm 7 3, zv 8 (.bin .gtr .no (.t 7) (.c (.int .u64 9)))]
def qbmf : IC := zr [zm 9 3, zv 10 (.bin .rem .no (.t 9) (.c (.int .u64 10))), zv 11 (.bin .add .no (.c (.int .u64 48)) (.t 10)), zv 12 (.cvi .u8 (.t 11)), zv 13 (.bsl 1 [((.t 12), .id)]), zv 14 (.cbs (.t 13)), zm 15 4, zv 16 (.bin .add .no (.t 14) (.t 15)), zm 4 16]
def qbnb : IC := zr [zm 17 3, zv 18 (.bin .quo .no (.t 17) (.c (.int .u64 10))), zm 3 18]
def q9e : IC := (.seq (.seq qbnu (.cond (.t 8) .skip (.exit 0))) (.block 1 (.seq qbmf qbnb)))
def qbgp : IC := zr [zm 19 3, zv 20 (.bin .add .no (.c (.int .u64 48)) (.t 19)), zv 21 (.cvi .u8 (.t 20)), zv 22 (.bsl 1 [((.t 21), .id)]), zv 23 (.cbs (.t 22)), zm 24 4, zv 25 (.bin .add .no (.t 23) (.t 24)), zm 4 25]
def qbe2 : IC := zr [zm 26 0, zv 27 (.bin .lss .no (.t 26) (zc 0))]
def q53 : IC := zr [zm 28 4, zv 29 (.bin .add .no (.c (.str [45])) (.t 28)), zm 2 29]
def q5r : IC := zr [zm 30 4, zm 2 30]
def k0cx : IC := (.seq qbm5 (.seq qbby (.seq qbgy (.seq (.block 0 (.loop q9e)) (.seq qbgp (.seq (.seq qbe2 (.cond (.t 27) (.seq q53 .ret) .skip)) (.seq q5r .ret)))))))
@[go_sem] def s0cx : List (RV × Co) := [(.t 2, .id)]
theorem c0cx : cFun Tryz.prog 92 = some (31, k0cx, s0cx) := by kernel_rfl

def qbbr : IC := zr [zv 2 zf]
def qbdx : IC := zr [zm 3 0, zv 4 (.bin .geq .no (.t 3) (.c (.int .u8 65))), zm 5 4, zw 5 true 6 (.mov (.t 0)), zw 5 true 7 (.bin .leq .no (.t 6) (.c (.int .u8 90))), zv 8 (.pick (.t 5) (.t 7) (.c (.bool false))), zm 2 8]
def k0cp : IC := (.seq qbbr (.seq qbdx .ret))
@[go_sem] def s0cp : List (RV × Co) := [(.t 2, .id)]
theorem c0cp : cFun Tryz.prog 93 = some (9, k0cp, s0cp) := by kernel_rfl

def qbn8 : IC := zr [zv 2 zf]
def qbmn : IC := zr [zv 3 (.mov (zc 1))]
def qbnz : IC := zr [zm 4 3, zm 5 0, zv 6 (.len true (.t 5)), zv 7 (.bin .lss .no (.t 4) (.t 6))]
def qbhp : IC := zr [zm 10 0, zm 11 3, zv 12 (.idx (.t 10) (.t 11)), zi 13 (.call (.c (.fn 111 [] [])) [((.t 12), .id)]), zv 14 (.un .not (.t 13))]
def qbcu : IC := zr [zv 2 zf]
def qbh1 : IC := zr [zm 8 3, zv 9 (.bin .add .no (.t 8) (zc 1)), zm 3 9]
def q90 : IC := (.seq (.seq qbnz (.cond (.t 7) .skip (.exit 0))) (.seq (.block 1 (.seq qbhp (.cond (.t 14) (.seq qbcu .ret) .skip))) qbh1))
def qbne : IC := zr [zv 2 (.mov (.c (.bool true)))]
def k0ct : IC := (.seq qbn8 (.seq (.seq qbmn (.block 0 (.loop q90))) (.seq qbne .ret)))
@[go_sem] def s0ct : List (RV × Co) := [(.t 2, .id)]
theorem c0ct : cFun Tryz.prog 94 = some (15, k0ct, s0ct) := by kernel_rfl

def qbdq : IC := zr [zv 4 zf]
def qbig : IC := zr [zv 5 (.mov (zc 0))]
def qbmc : IC := zr [zm 6 5, zm 7 0, zv 8 (.len false (.t 7)), zv 9 (.bin .lss .no (.t 6) (.t 8))]
def qbd8 : IC := zr [zm 12 0, zm 13 5, zv 14 (.iad 1 (.t 12) (.t 13)), zv 15 (.ld false 1 (.t 14)), zm 16 1, zv 17 (.bin .eql .no (.t 15) (.t 16))]
def qbf0 : IC := zr [zv 4 (.mov (.c (.bool true)))]
def qbdf : IC := zr [zm 10 5, zv 11 (.bin .add .no (.t 10) (zc 1)), zm 5 11]
def qbkb : IC := (.seq (.seq qbmc (.cond (.t 9) .skip (.exit 0))) (.seq (.block 1 (.seq qbd8 (.cond (.t 17) (.seq qbf0 .ret) .skip))) qbdf))
def qboa : IC := zr [zv 4 zf]
def k0bv : IC := (.seq qbdq (.seq (.seq qbig (.block 0 (.loop qbkb))) (.seq qboa .ret)))
@[go_sem] def s0bv : List (RV × Co) := [(.t 4, .id)]
theorem c0bv : cFun Tryz.prog 95 = some (18, k0bv, s0bv) := by kernel_rfl

def qban : IC := zr [zv 4 (.mov (zc 0))]
def q9d : IC := zr [zm 6 0, zv 7 (.len false (.t 6)), zv 8 (.mov (zc 0))]
def qbfi : IC := zr [zv 9 (.bin .lss .no (.t 8) (.t 7))]
def qbie : IC := zr [zm 10 8, zm 5 10]
def qbj2 : IC := zr [zm 11 1, zm 12 0, zm 13 5, zv 14 (.iad 1 (.t 12) (.t 13)), zv 15 (.ld false 1 (.t 14)), zv 16 (.bin .eql .no (.t 11) (.t 15))]
def qbl1 : IC := zr [zm 17 5, zm 4 17]
def qbfp : IC := zr [zv 18 (.bin .add .no (.t 8) (zc 1)), zm 8 18]
def qbco : IC := (.seq qbfi (.seq (.cond (.t 9) .skip (.exit 0)) (.seq (.block 1 (.seq qbie (.seq qbj2 (.cond (.t 16) (.seq qbl1 .ret) .skip)))) qbfp)))
def qbof : IC := zr [zv 4 (.mov (zc (-1)))]
def k0bt : IC := (.seq qban (.seq (.seq q9d (.block 0 (.loop qbco))) (.seq qbof .ret)))
@[go_sem] def s0bt : List (RV × Co) := [(.t 4, .id)]
theorem c0bt : cFun Tryz.prog 96 = some (19, k0bt, s0bt) := by kernel_rfl

def qbfv : IC := zr [zv 2 (.mov (zc 0)), zv 3 (.mov (zc 0))]
def qbod : IC := zr [zm 8 0, zv 9 (.len true (.t 8)), zv 10 (.mov (zc 0))]
def q85 : IC := zr [zv 11 (.bin .lss .no (.t 10) (.t 9))]
def qbj0 : IC := zr [zm 12 10, zm 4 12]
def qbj3 : IC := zr [zm 13 0, zm 14 4, zv 15 (.idx (.t 13) (.t 14)), zv 16 (.bin .lss .no (.t 15) (.c (.int .u8 48))), zm 17 16, zw 17 false 18 (.mov (.t 0)), zw 17 false 19 (.mov (.t 4)), zw 17 false 20 (.idx (.t 18) (.t 19)), zw 17 false 21 (.bin .gtr .no (.t 20) (.c (.int .u8 57))), zv 22 (.pick (.t 17) (.c (.bool true)) (.t 21))]
def qbm1 : IC := zr [zv 2 (.mov (zc 0)), zv 3 (.mov (zc 5))]
def q8h : IC := zr [zv 23 (.bin .add .no (.t 10) (zc 1)), zm 10 23]
def qbfw : IC := (.seq q85 (.seq (.cond (.t 11) .skip (.exit 0)) (.seq (.block 1 (.seq qbj0 (.seq qbj3 (.cond (.t 22) (.seq qbm1 .ret) .skip)))) q8h)))
def q9i : IC := zr [zm 24 0, zv 25 (.bin .eql .no (.t 24) (.c (.str [])))]
def q6q : IC := zr [zv 2 (.mov (zc 0)), zv 3 (.mov (zc 5))]
def q31 : IC := zr [zv 5 (.mov (zc 0)), zv 6 (.mov (zc 0))]
def q4j : IC := zr [zm 26 0, zm 27 6, zv 28 (.idx (.t 26) (.t 27)), zv 29 (.bin .sub .no (.t 28) (.c (.int .u8 48))), zv 30 (.cvi .i64 (.t 29)), zm 7 30]
def q5w : IC := zr [zm 31 5, zm 32 7, zv 33 (.bin .sub .no (zc 9223372036854775807) (.t 32)), zv 34 (.bin .quo .no (.t 33) (zc 10)), zv 35 (.bin .gtr .no (.t 31) (.t 34))]
def q5l : IC := zr [zv 2 (.mov (zc 0)), zv 3 (.mov (zc 4))]
def q6c : IC := zr [zm 36 5, zv 37 (.bin .mul .no (zc 10) (.t 36)), zm 38 7, zv 39 (.bin .add .no (.t 37) (.t 38)), zm 5 39]
def q50 : IC := zr [zm 40 6, zv 41 (.bin .add .no (.t 40) (zc 1)), zm 6 41]
def q1v : IC := zr [zm 42 6, zm 43 0, zv 44 (.len true (.t 43)), zv 45 (.bin .lss .no (.t 42) (.t 44))]
def q1n : IC := zr [zm 46 5, zm 2 46, zv 3 (.mov (zc 0))]
def k0cl : IC := (.seq qbfv (.scope (.seq (.seq qbod (.block 0 (.loop qbfw))) (.seq (.seq q9i (.cond (.t 25) (.seq q6q .ret) .skip)) (.seq q31 (.seq (.label 0) (.seq q4j (.seq (.seq q5w (.cond (.t 35) (.seq q5l .ret) .skip)) (.seq q6c (.seq (.seq q50 (.seq q1v (.cond (.t 45) (.goto 0) .skip))) (.seq q1n .ret)))))))))))
@[go_sem] def s0cl : List (RV × Co) := [(.t 2, .id), (.t 3, .id)]
theorem c0cl : cFun Tryz.prog 98 = some (47, k0cl, s0cl) := by kernel_rfl

def qbkf : IC := zr [zv 2 (.mov (.c (.str [])))]
def qbhi : IC := zr [zm 6 0, zv 7 (.cvi .u64 (.t 6)), zm 3 7]
def qbl0 : IC := zr [zm 8 0, zv 9 (.bin .lss .no (.t 8) (zc 0))]
def qbb3 : IC := zr [zm 10 3, zv 11 (.un .neg (.t 10)), zm 3 11]
def q81 : IC := zr [zi 4 (.alo [(.int .u8 0), (.int .u8 0), (.int .u8 0), (.int .u8 0), (.int .u8 0), (.int .u8 0), (.int .u8 0), (.int .u8 0), (.int .u8 0), (.int .u8 0), (.int .u8 0), (.int .u8 0), (.int .u8 0), (.int .u8 0), (.int .u8 0), (.int .u8 0), (.int .u8 0), (.int .u8 0), (.int .u8 0), (.int .u8 0)])]
def qbmt : IC := zr [zv 5 (.mov (zc 20))]
def q9x : IC := zr [zm 12 5, zv 13 (.bin .sub .no (.t 12) (zc 1)), zm 5 13]
def qbnc : IC := zr [zm 14 5, zm 15 3, zv 16 (.bin .rem .no (.t 15) (.c (.int .u64 10))), zv 17 (.bin .add .no (.c (.int .u64 48)) (.t 16)), zv 18 (.cvi .u8 (.t 17)), zv 19 (.aad 1 20 (.t 4) (.t 14)), zn (.st 1 .id (.t 19) (.t 18))]
def qblc : IC := zr [zm 20 3, zv 21 (.bin .quo .no (.t 20) (.c (.int .u64 10))), zm 3 21]
def q7c : IC := zr [zm 22 3, zv 23 (.bin .eql .no (.t 22) (.c (.int .u64 0)))]
def qbl7 : IC := (.block 1 (.seq q9x (.seq qbnc (.seq qblc (.seq q7c (.cond (.t 23) (.exit 0) .skip))))))
def q54 : IC := zr [zm 24 0, zv 25 (.bin .lss .no (.t 24) (zc 0))]
def q2c : IC := zr [zm 26 5, zv 27 (.sla 20 (.t 4) (.t 26)), zv 28 (.cbs (.t 27)), zv 29 (.bin .add .no (.c (.str [45])) (.t 28)), zm 2 29]
def q3h : IC := zr [zm 30 5, zv 31 (.sla 20 (.t 4) (.t 30)), zv 32 (.cbs (.t 31)), zm 2 32]
def k0cy : IC := (.seq qbkf (.seq qbhi (.seq (.seq qbl0 (.cond (.t 9) qbb3 .skip)) (.seq q81 (.seq qbmt (.seq (.block 0 (.loop qbl7)) (.seq (.seq q54 (.cond (.t 25) (.seq q2c .ret) .skip)) (.seq q3h .ret))))))))
@[go_sem] def s0cy : List (RV × Co) := [(.t 2, .id)]
theorem c0cy : cFun Tryz.prog 99 = some (33, k0cy, s0cy) := by kernel_rfl

def q8o : IC := zr [zv 2 zf]
def qbly : IC := zr [zm 3 0, zv 4 (.bin .geq .no (.t 3) (.c (.int .u8 65))), zm 5 4, zw 5 true 6 (.mov (.t 0)), zw 5 true 7 (.bin .leq .no (.t 6) (.c (.int .u8 90))), zv 8 (.pick (.t 5) (.t 7) (.c (.bool false))), zm 2 8]
def k0co : IC := (.seq q8o (.seq qbly .ret))
@[go_sem] def s0co : List (RV × Co) := [(.t 2, .id)]
theorem c0co : cFun Tryz.prog 100 = some (9, k0co, s0co) := by kernel_rfl

def qbhf : IC := zr [zv 2 zf]
def qba3 : IC := zr [zm 5 0, zv 6 (.len true (.t 5)), zv 7 (.mov (zc 0))]
def qbj5 : IC := zr [zv 8 (.bin .lss .no (.t 7) (.t 6))]
def qbe6 : IC := zr [zm 9 7, zm 3 9]
def qbl2 : IC := zr [zm 10 0, zm 11 3, zv 12 (.idx (.t 10) (.t 11)), zm 4 12]
def q9y : IC := zr [zm 13 4, zi 14 (.call (.c (.fn 113 [] [])) [((.t 13), .id)]), zv 15 (.un .not (.t 14)), zm 16 15, zw 16 true 17 (.mov (.t 4)), ⟨some (16, true), some 18, .call (.c (.fn 100 [] [])) [((.t 17), .id)]⟩, zw 16 true 19 (.un .not (.t 18)), zv 20 (.pick (.t 16) (.t 19) (.c (.bool false))), zm 21 20, zw 21 true 22 (.mov (.t 4)), zw 21 true 23 (.bin .lss .no (.t 22) (.c (.int .u8 48))), zw 21 true 24 (.mov (.t 23)), zw 24 false 25 (.mov (.t 4)), zw 24 false 26 (.bin .gtr .no (.t 25) (.c (.int .u8 57))), zw 21 true 27 (.pick (.t 24) (.c (.bool true)) (.t 26)), zv 28 (.pick (.t 21) (.t 27) (.c (.bool false))), zm 29 28, zw 29 true 30 (.mov (.t 4)), zw 29 true 31 (.bin .neq .no (.t 30) (.c (.int .u8 39))), zv 32 (.pick (.t 29) (.t 31) (.c (.bool false)))]
def qbay : IC := zr [zv 2 zf]
def qbdi : IC := zr [zv 33 (.bin .add .no (.t 7) (zc 1)), zm 7 33]
def q9p : IC := (.seq qbj5 (.seq (.cond (.t 8) .skip (.exit 0)) (.seq (.block 1 (.seq qbe6 (.seq qbl2 (.seq q9y (.cond (.t 32) (.seq qbay .ret) .skip))))) qbdi)))
def q5p : IC := zr [zv 2 (.mov (.c (.bool true)))]
def k0cs : IC := (.seq qbhf (.seq (.seq qba3 (.block 0 (.loop q9p))) (.seq q5p .ret)))
@[go_sem] def s0cs : List (RV × Co) := [(.t 2, .id)]
theorem c0cs : cFun Tryz.prog 101 = some (34, k0cs, s0cs) := by kernel_rfl

def q8y : IC := zr [zi 2 (.alo [(.str []), (.int .i64 0), .nils])]
def qba5 : IC := zr [zm 6 0, zi 7 (.call (.c (.fn 118 [] [])) [((.t 6), .id)]), zm 3 7]
def qbmw : IC := zr [zm 8 3, zv 9 (.bin .geq .no (.t 8) (zc 0))]
def qbd1 : IC := zr [zm 10 3, zv 11 (.bld [(.str []), (.int .i64 0), .nils] [(1, 1, (.t 10))]), zn (.st 3 (.agg [.id, .id, (.sl 3)]) (.t 2) (.t 11))]
def qbmo : IC := zr [zm 12 0, zi 13 (.call (.c (.fn 86 [] [])) [((.t 12), .id), ((.c (.str [63])), .id)])]
def qbmd : IC := zr [zm 15 0, zv 16 (.sls (.t 15) (some (zc 1)) none), zi 17 (.call (.c (.fn 98 [] [])) [((.t 16), .id)]), zm 14 17, zv 18 (.ext (.t 14) 0), zv 19 (.ext (.t 14) 1), zm 4 18, zm 5 19]
def qbhw : IC := zr [zm 20 5, zv 21 (.bin .eql .no (.t 20) (zc 0))]
def qbed : IC := zr [zm 22 4, zv 23 (.bin .sub .no (zc (-1)) (.t 22)), zv 24 (.bld [(.str []), (.int .i64 0), .nils] [(1, 1, (.t 23))]), zn (.st 3 (.agg [.id, .id, (.sl 3)]) (.t 2) (.t 24))]
def qbeg : IC := zr [zm 25 0, zv 26 (.bld [(.str []), (.int .i64 0), .nils] [(0, 1, (.t 25))]), zn (.st 3 (.agg [.id, .id, (.sl 3)]) (.t 2) (.t 26))]
def k0dj : IC := (.seq q8y (.seq (.seq qba5 (.seq qbmw (.cond (.t 9) (.seq qbd1 .ret) .skip))) (.seq (.seq qbmo (.cond (.t 13) (.seq qbmd (.seq qbhw (.cond (.t 21) (.seq qbed .ret) .skip))) .skip)) (.seq qbeg .ret))))
@[go_sem] def s0dj : List (RV × Co) := [(.c true 3 2, (.agg [.id, .id, (.sl 3)]))]
theorem c0dj : cFun Tryz.prog 103 = some (27, k0dj, s0dj) := by kernel_rfl

def qbf4 : IC := zr [zv 4 zf]
def qbe0 : IC := zr [zm 5 0, zv 6 (.len true (.t 5)), zm 7 1, zv 8 (.len true (.t 7)), zv 9 (.bin .geq .no (.t 6) (.t 8)), zm 10 9, zw 10 true 11 (.mov (.t 0)), zw 10 true 12 (.mov (.t 1)), zw 10 true 13 (.len true (.t 12)), zw 10 true 14 (.sls (.t 11) none (some (.t 13))), zw 10 true 15 (.mov (.t 1)), zw 10 true 16 (.bin .eql .no (.t 14) (.t 15)), zv 17 (.pick (.t 10) (.t 16) (.c (.bool false))), zm 4 17]
def k0ci : IC := (.seq qbf4 (.seq qbe0 .ret))
@[go_sem] def s0ci : List (RV × Co) := [(.t 4, .id)]
theorem c0ci : cFun Tryz.prog 104 = some (18, k0ci, s0ci) := by kernel_rfl

def q8j : IC := zr [zi 2 (.box (.t 0)), zv 4 (.mov (.c (.str [])))]
def qbgn : IC := zr [zm 5 1]
def qbaw : IC := zr [zv 6 (.ld true 3 (.t 2)), zi 7 (.call (.c (.fn 89 [] [])) [((.t 6), (.agg [.id, .id, (.sl 3)]))]), zv 8 (.bin .add .no (.c (.str [40])) (.t 7)), zv 9 (.bin .add .no (.t 8) (.c (.str [41]))), zm 4 9]
def qba1 : IC := zr [zv 10 (.ld true 3 (.t 2)), zi 11 (.call (.c (.fn 89 [] [])) [((.t 10), (.agg [.id, .id, (.sl 3)]))]), zm 4 11]
def k0be : IC := (.seq q8j (.seq (.seq qbgn (.cond (.t 5) (.seq qbaw .ret) .skip)) (.seq qba1 .ret)))
@[go_sem] def s0be : List (RV × Co) := [(.t 4, .id)]
theorem c0be : cFun Tryz.prog 105 = some (12, k0be, s0be) := by kernel_rfl

def qbfe : IC := zr [zi 1 (.box (.t 0)), zv 2 (.mov (.c (.str [])))]
def qbgq : IC := zr [zv 4 (.fad (.t 1) 0), zv 5 (.ld false 1 (.t 4)), zv 6 (.bin .neq .no (.t 5) (.c (.str []))), zm 3 6]
def qbe7 : IC := zr [zv 7 (.fad (.t 1) 0), zv 8 (.ld false 1 (.t 7)), zm 2 8]
def qbib : IC := zr [zv 10 (.fad (.t 1) 1), zv 11 (.ld false 1 (.t 10)), zv 12 (.bin .geq .no (.t 11) (zc 0)), zm 9 12]
def qbkc : IC := zr [zv 13 (.fad (.t 1) 1), zv 14 (.ld false 1 (.t 13)), zi 15 (.call (.c (.fn 120 [] [])) [((.t 14), .id)]), zm 2 15]
def q9k : IC := zr [zv 16 (.fad (.t 1) 1), zv 17 (.ld false 1 (.t 16)), zv 18 (.bin .sub .no (zc (-1)) (.t 17)), zi 19 (.call (.c (.fn 99 [] [])) [((.t 18), .id)]), zv 20 (.bin .add .no (.c (.str [63])) (.t 19)), zm 2 20]
def k0bd : IC := (.seq qbfe (.seq (.block 0 (.seq qbgq (.cond (.t 3) (.seq qbe7 .ret) (.seq qbib (.cond (.t 9) (.seq qbkc .ret) .skip))))) (.seq q9k .ret)))
@[go_sem] def s0bd : List (RV × Co) := [(.t 2, .id)]
theorem c0bd : cFun Tryz.prog 107 = some (21, k0bd, s0bd) := by kernel_rfl

def q92 : IC := zr [zi 3 (.box (.t 0)), zv 5 zf]
def qblx : IC := zr [zv 6 (.fad (.t 3) 0), zv 7 (.ld false 1 (.t 6)), zv 8 (.bin .neq .no (.t 7) (.c (.str []))), zm 9 8, zw 9 false 10 (.fad (.t 3) 1), zw 9 false 11 (.ld false 1 (.t 10)), zw 9 false 12 (.ld false 1 (.t 2)), zw 9 false 13 (.bin .neq .no (.t 11) (.t 12)), zv 14 (.pick (.t 9) (.c (.bool true)) (.t 13)), zm 5 14]
def k0df : IC := (.seq q92 (.seq qblx .ret))
@[go_sem] def s0df : List (RV × Co) := [(.t 5, .id)]
theorem c0df : cFun Tryz.prog 109 = some (15, k0df, s0df) := by kernel_rfl

def qbmq : IC := zr [zv 2 (.mov (.c (.int .u64 0)))]
def qbak : IC := zr [zm 3 0, zv 4 (.bin .lss .no (.t 3) (zc 0))]
def qbnv : IC := zr [zm 5 0, zv 6 (.cvi .u64 (.t 5)), zv 7 (.un .neg (.t 6)), zm 2 7]
def q87 : IC := zr [zm 8 0, zv 9 (.cvi .u64 (.t 8)), zm 2 9]
def k0cw : IC := (.seq qbmq (.seq (.seq qbak (.cond (.t 4) (.seq qbnv .ret) .skip)) (.seq q87 .ret)))
@[go_sem] def s0cw : List (RV × Co) := [(.t 2, .id)]
theorem c0cw : cFun Tryz.prog 110 = some (10, k0cw, s0cw) := by kernel_rfl

def q8m : IC := zr [zv 2 zf]
def qbik : IC := zr [zm 3 0, zi 4 (.call (.c (.fn 121 [] [])) [((.t 3), .id)]), zm 5 4, zw 5 false 6 (.mov (.t 0)), ⟨some (5, false), some 7, .call (.c (.fn 93 [] [])) [((.t 6), .id)]⟩, zv 8 (.pick (.t 5) (.c (.bool true)) (.t 7)), zm 9 8, zw 9 false 10 (.mov (.t 0)), ⟨some (9, false), some 11, .call (.c (.fn 122 [] [])) [((.t 10), .id)]⟩, zv 12 (.pick (.t 9) (.c (.bool true)) (.t 11)), zm 13 12, zw 13 false 14 (.mov (.t 0)), zw 13 false 15 (.bin .eql .no (.t 14) (.c (.int .u8 39))), zv 16 (.pick (.t 13) (.c (.bool true)) (.t 15)), zm 2 16]
def k0cr : IC := (.seq q8m (.seq qbik .ret))
@[go_sem] def s0cr : List (RV × Co) := [(.t 2, .id)]
theorem c0cr : cFun Tryz.prog 111 = some (17, k0cr, s0cr) := by kernel_rfl

def qbh7 : IC := zr [zv 2 zf]
def qbkd : IC := zr [zm 3 0, zv 4 (.bin .geq .no (.t 3) (.c (.int .u8 97))), zm 5 4, zw 5 true 6 (.mov (.t 0)), zw 5 true 7 (.bin .leq .no (.t 6) (.c (.int .u8 122))), zv 8 (.pick (.t 5) (.t 7) (.c (.bool false))), zm 9 8, zw 9 false 10 (.mov (.t 0)), zw 9 false 11 (.bin .eql .no (.t 10) (.c (.int .u8 95))), zv 12 (.pick (.t 9) (.c (.bool true)) (.t 11)), zm 2 12]
def k0cm : IC := (.seq qbh7 (.seq qbkd .ret))
@[go_sem] def s0cm : List (RV × Co) := [(.t 2, .id)]
theorem c0cm : cFun Tryz.prog 113 = some (13, k0cm, s0cm) := by kernel_rfl

def qbcy : IC := zr [zv 2 (.mov (zc 0))]
def qbff : IC := zr [zm 6 0, zv 7 (.bin .eql .no (.t 6) (.c (.str []))), zm 8 7, zw 8 false 9 (.mov (.t 0)), zw 8 false 10 (.idx (.t 9) (zc 0)), zw 8 false 11 (.bin .lss .no (.t 10) (.c (.int .u8 97))), zv 12 (.pick (.t 8) (.c (.bool true)) (.t 11)), zm 13 12, zw 13 false 14 (.mov (.t 0)), zw 13 false 15 (.idx (.t 14) (zc 0)), zw 13 false 16 (.bin .gtr .no (.t 15) (.c (.int .u8 122))), zv 17 (.pick (.t 13) (.c (.bool true)) (.t 16))]
def qbhy : IC := zr [zv 2 (.mov (zc (-1)))]
def qblo : IC := zr [zm 18 0, zv 19 (.idx (.t 18) (zc 0)), zv 20 (.bin .sub .no (.t 19) (.c (.int .u8 97))), zv 21 (.cvi .i64 (.t 20)), zm 3 21]
def q9w : IC := zr [zm 22 0, zv 23 (.len true (.t 22)), zv 24 (.bin .gtr .no (.t 23) (zc 1))]
def qbah : IC := zr [zm 26 0, zv 27 (.sls (.t 26) (some (zc 1)) none), zi 28 (.call (.c (.fn 98 [] [])) [((.t 27), .id)]), zm 25 28, zv 29 (.ext (.t 25) 0), zv 30 (.ext (.t 25) 1), zm 4 29, zm 5 30]
def qbdb : IC := zr [zm 31 5, zv 32 (.bin .neq .no (.t 31) (zc 0)), zm 33 32, zw 33 false 34 (.mov (.t 4)), zw 33 false 35 (.bin .gtr .no (.t 34) (zc 177372539170284150)), zv 36 (.pick (.t 33) (.c (.bool true)) (.t 35))]
def qbdc : IC := zr [zv 2 (.mov (zc (-1)))]
def qbg2 : IC := zr [zm 37 3, zm 38 4, zv 39 (.bin .mul .no (zc 26) (.t 38)), zv 40 (.bin .add .no (.t 37) (.t 39)), zm 3 40]
def q9c : IC := zr [zm 41 3, zv 42 (.bin .gtr .no (.t 41) (zc 4611686018427387904)), zm 43 42, zw 43 false 44 (.mov (.t 3)), ⟨some (43, false), some 45, .call (.c (.fn 120 [] [])) [((.t 44), .id)]⟩, zw 43 false 46 (.mov (.t 0)), zw 43 false 47 (.bin .neq .no (.t 45) (.t 46)), zv 48 (.pick (.t 43) (.c (.bool true)) (.t 47))]
def q23 : IC := zr [zv 2 (.mov (zc (-1)))]
def q15 : IC := zr [zm 49 3, zm 2 49]
def k0dm : IC := (.seq qbcy (.seq (.seq qbff (.cond (.t 17) (.seq qbhy .ret) .skip)) (.seq qblo (.seq (.seq q9w (.cond (.t 24) (.seq qbah (.seq (.seq qbdb (.cond (.t 36) (.seq qbdc .ret) .skip)) qbg2)) .skip)) (.seq (.seq q9c (.cond (.t 48) (.seq q23 .ret) .skip)) (.seq q15 .ret))))))
@[go_sem] def s0dm : List (RV × Co) := [(.t 2, .id)]
theorem c0dm : cFun Tryz.prog 118 = some (50, k0dm, s0dm) := by kernel_rfl

def qbmz : IC := zr [zv 2 (.mov (.c (.str [])))]
def qbk0 : IC := zr [zm 4 0, zv 5 (.bin .lss .no (.t 4) (zc 0))]
def qblq : IC := zr [zv 2 (.mov (.c (.str [])))]
def qbnq : IC := zr [zm 6 0, zv 7 (.bin .rem .no (.t 6) (zc 26)), zv 8 (.bin .add .no (zc 97) (.t 7)), zv 9 (.cvi .u8 (.t 8)), zv 10 (.bsl 1 [((.t 9), .id)]), zv 11 (.cbs (.t 10)), zm 3 11]
def qbd9 : IC := zr [zm 12 0, zv 13 (.bin .lss .no (.t 12) (zc 26))]
def qbec : IC := zr [zm 14 3, zm 2 14]
def qbg3 : IC := zr [zm 15 3, zm 16 0, zv 17 (.bin .quo .no (.t 16) (zc 26)), zi 18 (.call (.c (.fn 99 [] [])) [((.t 17), .id)]), zv 19 (.bin .add .no (.t 15) (.t 18)), zm 2 19]
def k0cz : IC := (.seq qbmz (.seq (.seq qbk0 (.cond (.t 5) (.seq qblq .ret) .skip)) (.seq qbnq (.seq (.seq qbd9 (.cond (.t 13) (.seq qbec .ret) .skip)) (.seq qbg3 .ret)))))
@[go_sem] def s0cz : List (RV × Co) := [(.t 2, .id)]
theorem c0cz : cFun Tryz.prog 120 = some (20, k0cz, s0cz) := by kernel_rfl

def qblj : IC := zr [zv 2 zf]
def qbke : IC := zr [zm 3 0, zv 4 (.bin .geq .no (.t 3) (.c (.int .u8 97))), zm 5 4, zw 5 true 6 (.mov (.t 0)), zw 5 true 7 (.bin .leq .no (.t 6) (.c (.int .u8 122))), zv 8 (.pick (.t 5) (.t 7) (.c (.bool false))), zm 9 8, zw 9 false 10 (.mov (.t 0)), zw 9 false 11 (.bin .eql .no (.t 10) (.c (.int .u8 95))), zv 12 (.pick (.t 9) (.c (.bool true)) (.t 11)), zm 2 12]
def k0cn : IC := (.seq qblj (.seq qbke .ret))
@[go_sem] def s0cn : List (RV × Co) := [(.t 2, .id)]
theorem c0cn : cFun Tryz.prog 121 = some (13, k0cn, s0cn) := by kernel_rfl

def qbk4 : IC := zr [zv 2 zf]
def qboc : IC := zr [zm 3 0, zv 4 (.bin .geq .no (.t 3) (.c (.int .u8 48))), zm 5 4, zw 5 true 6 (.mov (.t 0)), zw 5 true 7 (.bin .leq .no (.t 6) (.c (.int .u8 57))), zv 8 (.pick (.t 5) (.t 7) (.c (.bool false))), zm 2 8]
def k0cq : IC := (.seq qbk4 (.seq qboc .ret))
@[go_sem] def s0cq : List (RV × Co) := [(.t 2, .id)]
theorem c0cq : cFun Tryz.prog 122 = some (9, k0cq, s0cq) := by kernel_rfl

end Go.Proofs.YtlahgbhhejkgbaaGreat
