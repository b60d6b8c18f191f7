/- A text of this proof. -/
import Derived.Test.YtlmcofjcpadmiaaGreatBah
import Derived.Test.YtlmcofjcpadmiaaGreatProg
/- The compiled code of the functions. -/
namespace Go.Proofs.YtlmcofjcpadmiaaGreat
open Go Go.V
@[reducible] def zm (d s : Nat) : GI := ⟨none, some d, .v (.mov (.t s))⟩
@[reducible] def zv (d : Nat) (x : IV) : GI := ⟨none, some d, .v x⟩
@[reducible] def zi (d : Nat) (i : I) : GI := ⟨none, some d, i⟩
@[reducible] def zn (i : I) : GI := ⟨none, none, i⟩
@[reducible] def zw (j : Nat) (b : Bool) (d : Nat) (x : IV) : GI := ⟨some (j, b), some d, .v x⟩
@[reducible] def zp (g : GI) : GI × List Nat := (g, [])
@[reducible] def zN : Co := .agg [.id, .id, .id, .id, (.sl 5)]
@[reducible] def zC : Co := .agg [(.sl 4), .id, .id, .id, .id, .id, .id, .id]
@[reducible] def zaN : I := .alo [(.int .i64 0), (.int .i64 0), (.int .i64 0), (.str []), .nils]
@[reducible] def zaC : I := .alo [.nils, (.int .i64 0), (.int .i64 0), (.int .i64 0), (.str []), (.int .i64 0), (.int .i64 0), (.int .i64 0)]
@[reducible] def zaT : I := .alo [(.int .i64 0), (.int .i64 0), (.int .i64 0), (.str [])]
@[reducible] def zZ : AV := .agg [(.int .i64 0), (.int .i64 0), (.int .i64 0), (.str []), .nils]
@[reducible] def zc (n : Int) : Opd := .c (.int .i64 n)
@[reducible] def zf : IV := .mov (.c (.bool false))
@[reducible] def zr (l : List GI) : IC := .reg false l
def qbej : IC := zr [zi 1 (.box (.t 0)), zv 2 zf]
def qbj6 : IC := zr [zv 15 (.ld true 5 (.t 1)), zi 16 (.call (.c (.fn 7 [] [])) [((.t 15), zN)]), zv 17 (.bin .eql .no (.t 16) (zc 0))]
def qbsc : IC := zr [zi 18 (.call (.c (.fn 8 [] [])) []), zm 2 18]
def qbee : IC := zr [zv 19 (.ld true 5 (.t 1)), zi 20 (.call (.c (.fn 9 [] [])) [((.t 19), zN)]), zm 3 20]
def qbma : IC := zr [zv 21 (.ld true 5 (.t 1)), zi 22 (.call (.c (.fn 21 [] [])) [((.t 21), zN)]), zm 23 22, zw 23 true 24 (.mov (.t 3)), zw 23 true 25 (.len true (.t 24)), zw 23 true 26 (.bin .leq .no (.t 25) (zc 100000)), zv 27 (.pick (.t 23) (.t 26) (.c (.bool false)))]
def qbtm : IC := zr [zm 29 3, zi 30 (.call (.c (.fn 22 [] [])) [((.t 29), .id)]), zm 28 30, zv 31 (.ext (.t 28) 0), zv 32 (.ext (.t 28) 1), zv 33 (.ext (.t 28) 2), zi 4 zaN, zn (.st 5 zN (.t 4) (.t 31)), zm 5 32, zm 6 33]
def qbml : IC := zr [zm 34 6, zv 35 (.bin .neq .no (.t 34) (zc 0)), zm 36 35, zw 36 false 37 (.ld true 5 (.t 4)), zw 36 false 38 (.ld true 5 (.t 1)), ⟨some (36, false), some 39, .call (.c (.fn 23 [] [])) [((.t 37), zN), ((.t 38), zN)]⟩, zw 36 false 40 (.un .not (.t 39)), zv 41 (.pick (.t 36) (.c (.bool true)) (.t 40))]
def qbf9 : IC := zr [zv 2 zf]
def qbii : IC := zr [zv 42 (.ld true 5 (.t 1)), zi 43 (.call (.c (.fn 13 [] [])) [((.t 42), zN)]), zm 7 43]
def qbu5 : IC := zr [zv 44 (.ld true 5 (.t 1)), zi 45 (.call (.c (.fn 24 [] [])) [((.t 44), zN)]), zm 46 45, zw 46 true 47 (.mov (.t 7)), zw 46 true 48 (.len true (.t 47)), zw 46 true 49 (.bin .leq .no (.t 48) (zc 100000)), zv 50 (.pick (.t 46) (.t 49) (.c (.bool false)))]
def q61 : IC := zr [zm 52 7, zi 53 (.call (.c (.fn 25 [] [])) [((.t 52), .id)]), zm 51 53, zv 54 (.ext (.t 51) 0), zv 55 (.ext (.t 51) 1), zv 56 (.ext (.t 51) 2), zi 8 zaN, zn (.st 5 zN (.t 8) (.t 54)), zm 9 55, zm 10 56]
def q9j : IC := zr [zm 57 10, zv 58 (.bin .neq .no (.t 57) (zc 0)), zm 59 58, zw 59 false 60 (.ld true 5 (.t 8)), zw 59 false 61 (.ld true 5 (.t 1)), ⟨some (59, false), some 62, .call (.c (.fn 23 [] [])) [((.t 60), zN), ((.t 61), zN)]⟩, zw 59 false 63 (.un .not (.t 62)), zv 64 (.pick (.t 59) (.c (.bool true)) (.t 63))]
def q9a : IC := zr [zv 2 zf]
def q87 : IC := zr [zv 65 (.ld true 5 (.t 1)), zi 66 (.call (.c (.fn 15 [] [])) [((.t 65), zN)]), zm 11 66]
def q8b : IC := zr [zv 67 (.ld true 5 (.t 1)), zi 68 (.call (.c (.fn 26 [] [])) [((.t 67), zN)]), zm 69 68, zw 69 true 70 (.mov (.t 11)), zw 69 true 71 (.len true (.t 70)), zw 69 true 72 (.bin .leq .no (.t 71) (zc 100000)), zv 73 (.pick (.t 69) (.t 72) (.c (.bool false)))]
def q6x : IC := zr [zm 75 11, zi 76 (.call (.c (.fn 27 [] [])) [((.t 75), .id)]), zm 74 76, zv 77 (.ext (.t 74) 0), zv 78 (.ext (.t 74) 1), zv 79 (.ext (.t 74) 2), zi 12 zaN, zn (.st 5 zN (.t 12) (.t 77)), zm 13 78, zm 14 79]
def q5j : IC := zr [zm 80 14, zv 81 (.bin .neq .no (.t 80) (zc 0)), zm 82 81, zw 82 false 83 (.ld true 5 (.t 12)), zw 82 false 84 (.ld true 5 (.t 1)), ⟨some (82, false), some 85, .call (.c (.fn 23 [] [])) [((.t 83), zN), ((.t 84), zN)]⟩, zw 82 false 86 (.un .not (.t 85)), zv 87 (.pick (.t 82) (.c (.bool true)) (.t 86))]
def qbbq : IC := zr [zv 2 zf]
def qbbf : IC := zr [zi 88 (.call (.c (.fn 8 [] [])) []), zm 2 88]
def k0et : IC := (.seq qbej (.seq (.seq qbj6 (.cond (.t 17) (.seq qbsc .ret) .skip)) (.seq (.seq qbee (.seq qbma (.cond (.t 27) (.seq qbtm (.seq qbml (.cond (.t 41) (.seq qbf9 .ret) .skip))) .skip))) (.seq (.seq qbii (.seq qbu5 (.cond (.t 50) (.seq q61 (.seq q9j (.cond (.t 64) (.seq q9a .ret) .skip))) .skip))) (.seq (.seq q87 (.seq q8b (.cond (.t 73) (.seq q6x (.seq q5j (.cond (.t 87) (.seq qbbq .ret) .skip))) .skip))) (.seq qbbf .ret))))))
@[go_sem] def s0et : List (RV × Co) := [(.t 2, .id)]
theorem c0et : cFun Tryz.prog 4 = some (89, k0et, s0et) := by kernel_rfl

def qbwn : IC := zr [zi 1 (.box (.t 0)), zv 2 (.mov (zc 0))]
def qbln : IC := zr [zv 3 (.ld true 5 (.t 1)), zi 4 (.call (.c (.fn 32 [] [])) [((.t 3), zN), ((zc 3000), .id)]), zv 5 (.bin .lss .no (.t 4) (zc 0))]
def qbd9 : IC := zr [zv 2 (.mov (zc 0))]
def qbrd : IC := zr [zv 2 (.mov (zc 1))]
def k0cc : IC := (.seq qbwn (.seq (.seq qbln (.cond (.t 5) (.seq qbd9 .ret) .skip)) (.seq qbrd .ret)))
@[go_sem] def s0cc : List (RV × Co) := [(.t 2, .id)]
theorem c0cc : cFun Tryz.prog 7 = some (6, k0cc, s0cc) := by kernel_rfl

def qb0p : IC := zr [zv 0 zf]
def qb1h : IC := zr [zv 5 (.bld [(.int .i64 0), (.int .i64 0), (.int .i64 0), (.str []), .nils] [(0, 1, (zc 21)), (3, 1, (.c (.str [120])))]), zi 1 zaN, zn (.st 5 zN (.t 1) (.t 5))]
def qbza : IC := zr [zv 6 (.bld [(.int .i64 0), (.int .i64 0), (.int .i64 0), (.str []), .nils] [(0, 1, (zc 21)), (3, 1, (.c (.str [102])))]), zv 7 (.ld true 5 (.t 1)), zv 8 (.bsl 5 [((.t 6), zN), ((.t 7), zN)]), zv 9 (.bld [(.int .i64 0), (.int .i64 0), (.int .i64 0), (.str []), .nils] [(0, 1, (zc 24)), (4, 1, (.t 8))]), zv 10 (.bsl 5 [((.t 9), zN)]), zv 11 (.bld [(.int .i64 0), (.int .i64 0), (.int .i64 0), (.str []), .nils] [(0, 1, (zc 25)), (3, 1, (.c (.str [120]))), (4, 1, (.t 10))]), zi 2 zaN, zn (.st 5 zN (.t 2) (.t 11))]
def qb2g : IC := zr [zv 12 (.bld [(.int .i64 0), (.int .i64 0), (.int .i64 0), (.str []), .nils] [(0, 1, (zc 1)), (3, 1, (.c (.str [97])))]), zi 3 zaN, zn (.st 5 zN (.t 3) (.t 12))]
def qb10 : IC := zr [zv 13 (.ld true 5 (.t 3)), zv 14 (.ld true 5 (.t 3)), zv 15 (.bsl 5 [((.t 13), zN), ((.t 14), zN)]), zv 16 (.bld [(.int .i64 0), (.int .i64 0), (.int .i64 0), (.str []), .nils] [(0, 1, (zc 2)), (3, 1, (.c (.str [45, 62]))), (4, 1, (.t 15))]), zv 17 (.ld true 5 (.t 3)), zv 18 (.bsl 5 [((.t 16), zN), ((.t 17), zN)]), zv 19 (.bld [(.int .i64 0), (.int .i64 0), (.int .i64 0), (.str []), .nils] [(0, 1, (zc 2)), (3, 1, (.c (.str [45, 62]))), (4, 1, (.t 18))]), zi 4 zaN, zn (.st 5 zN (.t 4) (.t 19))]
def qbxf : IC := zr [zv 20 (.ld true 5 (.t 2)), zi 21 (.call (.c (.fn 15 [] [])) [((.t 20), zN)]), zv 22 (.bin .eql .no (.t 21) (.c (.str [92, 32, 120, 32, 45, 62, 32, 102, 32, 120]))), zm 23 22, zw 23 true 24 (.ld true 5 (.t 4)), ⟨some (23, true), some 25, .call (.c (.fn 9 [] [])) [((.t 24), zN)]⟩, zw 23 true 26 (.bin .eql .no (.t 25) (.c (.str [40, 97, 32, 45, 62, 32, 97, 41, 32, 45, 62, 32, 97]))), zv 27 (.pick (.t 23) (.t 26) (.c (.bool false))), zm 28 27, zw 28 true 29 (.ld true 5 (.t 4)), ⟨some (28, true), some 30, .call (.c (.fn 15 [] [])) [((.t 29), zN)]⟩, zw 28 true 31 (.bin .eql .no (.t 30) (.c (.str []))), zv 32 (.pick (.t 28) (.t 31) (.c (.bool false))), zm 33 32, zw 33 true 34 (.bld [(.int .i64 0), (.int .i64 0), (.int .i64 0), (.str []), .nils] [(0, 1, (zc 37))]), ⟨some (33, true), some 35, .call (.c (.fn 19 [] [])) [((.t 34), zN)]⟩, zw 33 true 36 (.bin .eql .no (.t 35) (.c (.str []))), zv 37 (.pick (.t 33) (.t 36) (.c (.bool false))), zm 38 37, zw 38 true 39 (.ld true 5 (.t 2)), zw 38 true 40 (.bsl 5 [((.t 39), zN)]), zw 38 true 41 (.bld [(.int .i64 0), (.int .i64 0), (.int .i64 0), (.str []), .nils] [(0, 1, (zc 31)), (3, 1, (.c (.str [120]))), (4, 1, (.t 40))]), ⟨some (38, true), some 42, .call (.c (.fn 17 [] [])) [((.t 41), zN)]⟩, zw 38 true 43 (.bin .eql .no (.t 42) (.c (.str [120, 32, 61, 32, 92, 32, 120, 32, 45, 62, 32, 102, 32, 120]))), zv 44 (.pick (.t 38) (.t 43) (.c (.bool false))), zm 45 44, zw 45 true 46 (.bld [(.int .i64 0), (.int .i64 0), (.int .i64 0), (.str []), .nils] [(0, 1, (zc 12))]), ⟨some (45, true), some 47, .call (.c (.fn 13 [] [])) [((.t 46), zN)]⟩, zw 45 true 48 (.bin .eql .no (.t 47) (.c (.str [95]))), zv 49 (.pick (.t 45) (.t 48) (.c (.bool false))), zm 50 49, zw 50 true 51 (.ld true 5 (.t 3)), zw 50 true 52 (.bsl 5 [((.t 51), zN)]), zw 50 true 53 (.bld [(.int .i64 0), (.int .i64 0), (.int .i64 0), (.str []), .nils] [(0, 1, (zc 4)), (4, 1, (.t 52))]), ⟨some (50, true), some 54, .call (.c (.fn 11 [] [])) [((.t 53), zN)]⟩, zw 50 true 55 (.bin .eql .no (.t 54) (.c (.str [97]))), zv 56 (.pick (.t 50) (.t 55) (.c (.bool false))), zm 0 56]
def k0a : IC := (.seq qb0p (.seq qb1h (.seq qbza (.seq qb2g (.seq qb10 (.seq qbxf .ret))))))
@[go_sem] def s0a : List (RV × Co) := [(.t 0, .id)]
theorem c0a : cFun Tryz.prog 8 = some (57, k0a, s0a) := by kernel_rfl

def qb3i : IC := zr [zi 1 (.box (.t 0)), zv 2 (.mov (.c (.str [])))]
def qbyx : IC := .drw [zp (zv 3 (.ld true 5 (.t 1))), (zi 4 (.call (.c (.fn 21 [] [])) [((.t 3), zN)]), []), (zv 5 (.ld true 5 (.t 1)), [1]), (zv 6 (.bld [(.int .i64 0), (.int .i64 0), (.int .i64 0), (.str []), .nils] [(0, 5, (.t 5))]), []), (zv 7 (.mki 37 (.t 6) zN), [1]), (zi 8 (.call (.c (.fn 33 [] [])) [((.t 4), .id), ((.t 7), .id)]), []), zp (zm 2 8)]
def k0c : IC := (.seq qb3i (.seq qbyx .ret))
@[go_sem] def s0c : List (RV × Co) := [(.t 2, .id)]
theorem c0c : cFun Tryz.prog 9 = some (9, k0c, s0c) := by kernel_rfl

def qb3a : IC := zr [zi 1 (.box (.t 0)), zv 2 (.mov (.c (.str [])))]
def qbx6 : IC := zr [zv 3 (.ld true 5 (.t 1)), zv 4 (.bsl 5 [((.t 3), zN)]), zv 5 (.bld [(.int .i64 0), (.int .i64 0), (.int .i64 0), (.str []), .nils] [(0, 1, (zc 32)), (3, 1, (.c (.str [120]))), (4, 1, (.t 4))]), zi 6 (.call (.c (.fn 30 [] [])) [((.t 5), zN)]), zv 7 (.un .not (.t 6))]
def qbxt : IC := zr [zv 2 (.mov (.c (.str [])))]
def qbzq : IC := zr [zv 8 (.ld true 5 (.t 1)), zi 9 (.call (.c (.fn 36 [] [])) [((.t 8), zN)]), zm 2 9]
def k0f : IC := (.seq qb3a (.seq (.seq qbx6 (.cond (.t 7) (.seq qbxt .ret) .skip)) (.seq qbzq .ret)))
@[go_sem] def s0f : List (RV × Co) := [(.t 2, .id)]
theorem c0f : cFun Tryz.prog 11 = some (10, k0f, s0f) := by kernel_rfl

def qbx9 : IC := zr [zi 1 (.box (.t 0)), zv 2 (.mov (.c (.str [])))]
def qb1q : IC := .drw [zp (zv 3 (.ld true 5 (.t 1))), (zi 4 (.call (.c (.fn 24 [] [])) [((.t 3), zN)]), []), (zv 5 (.ld true 5 (.t 1)), [1]), (zv 6 (.bld [(.int .i64 0), (.int .i64 0), (.int .i64 0), (.str []), .nils] [(0, 5, (.t 5))]), []), (zv 7 (.mki 38 (.t 6) zN), [1]), (zi 8 (.call (.c (.fn 33 [] [])) [((.t 4), .id), ((.t 7), .id)]), []), zp (zm 2 8)]
def k0d : IC := (.seq qbx9 (.seq qb1q .ret))
@[go_sem] def s0d : List (RV × Co) := [(.t 2, .id)]
theorem c0d : cFun Tryz.prog 13 = some (9, k0d, s0d) := by kernel_rfl

def qb2h : IC := zr [zi 1 (.box (.t 0)), zv 2 (.mov (.c (.str [])))]
def qb2c : IC := .drw [zp (zv 3 (.ld true 5 (.t 1))), (zi 4 (.call (.c (.fn 26 [] [])) [((.t 3), zN)]), []), (zv 5 (.ld true 5 (.t 1)), [1]), (zv 6 (.bld [(.int .i64 0), (.int .i64 0), (.int .i64 0), (.str []), .nils] [(0, 5, (.t 5))]), []), (zv 7 (.mki 39 (.t 6) zN), [1]), (zi 8 (.call (.c (.fn 33 [] [])) [((.t 4), .id), ((.t 7), .id)]), []), zp (zm 2 8)]
def k0e : IC := (.seq qb2h (.seq qb2c .ret))
@[go_sem] def s0e : List (RV × Co) := [(.t 2, .id)]
theorem c0e : cFun Tryz.prog 15 = some (9, k0e, s0e) := by kernel_rfl

def qb1p : IC := zr [zi 1 (.box (.t 0)), zv 2 (.mov (.c (.str [])))]
def qby9 : IC := .drw [zp (zv 3 (.fad (.t 1) 0)), zp (zv 4 (.ld false 1 (.t 3))), zp (zv 5 (.bin .neq .no (.t 4) (zc 37))), zp (zm 6 5), zp (zw 6 true 7 (.ld true 5 (.t 1))), (⟨some (6, true), some 8, .call (.c (.fn 30 [] [])) [((.t 7), zN)]⟩, []), zp (zv 9 (.pick (.t 6) (.t 8) (.c (.bool false)))), (zv 10 (.ld true 5 (.t 1)), [5]), (zv 11 (.bld [(.int .i64 0), (.int .i64 0), (.int .i64 0), (.str []), .nils] [(0, 5, (.t 10))]), []), (zv 12 (.mki 40 (.t 11) zN), [5]), (zi 13 (.call (.c (.fn 33 [] [])) [((.t 9), .id), ((.t 12), .id)]), []), zp (zm 2 13)]
def k0g : IC := (.seq qb1p (.seq qby9 .ret))
@[go_sem] def s0g : List (RV × Co) := [(.t 2, .id)]
theorem c0g : cFun Tryz.prog 17 = some (14, k0g, s0g) := by kernel_rfl

def qb1g : IC := zr [zi 1 (.box (.t 0)), zv 2 (.mov (.c (.str [])))]
def qbxp : IC := zr [zv 3 (.fad (.t 1) 0), zv 4 (.ld false 1 (.t 3)), zv 5 (.bin .neq .no (.t 4) (zc 37)), zm 6 5, zw 6 false 7 (.ld true 5 (.t 1)), ⟨some (6, false), some 8, .call (.c (.fn 30 [] [])) [((.t 7), zN)]⟩, zw 6 false 9 (.un .not (.t 8)), zv 10 (.pick (.t 6) (.c (.bool true)) (.t 9))]
def qbzi : IC := zr [zv 2 (.mov (.c (.str [])))]
def qb23 : IC := zr [zv 11 (.fad (.t 1) 4), zv 12 (.ld false 1 (.t 11)), zi 13 (.call (.c (.fn 44 [] [])) [((.t 12), (.sl 5)), ((.c (.str [])), .id), ((.c (.fn 45 [] [])), .id)]), zm 2 13]
def k0h : IC := (.seq qb1g (.seq (.seq qbxp (.cond (.t 10) (.seq qbzi .ret) .skip)) (.seq qb23 .ret)))
@[go_sem] def s0h : List (RV × Co) := [(.t 2, .id)]
theorem c0h : cFun Tryz.prog 19 = some (14, k0h, s0h) := by kernel_rfl

def qbir : IC := zr [zi 1 (.box (.t 0)), zv 2 zf]
def qbm7 : IC := zr [zv 3 (.ld true 5 (.t 1)), zi 4 (.call (.c (.fn 47 [] [])) [((.t 3), zN)]), zm 5 4, zw 5 true 6 (.ld true 5 (.t 1)), ⟨some (5, true), some 7, .call (.c (.fn 48 [] [])) [((.t 6), zN)]⟩, zv 8 (.pick (.t 5) (.t 7) (.c (.bool false))), zm 2 8]
def k0bf : IC := (.seq qbir (.seq qbm7 .ret))
@[go_sem] def s0bf : List (RV × Co) := [(.t 2, .id)]
theorem c0bf : cFun Tryz.prog 21 = some (9, k0bf, s0bf) := by kernel_rfl

def qbdg : IC := zr [zi 2 zaN, zv 3 (.mov (zc 0)), zv 4 (.mov (zc 0))]
def qbm6 : IC := zr [zv 6 (.bld [(.bool false)] []), zv 7 (.mfn 49 [(.t 6)] []), zm 5 7]
def qbwg : IC := zr [zm 8 0, zm 9 5, zi 10 (.call (.c (.fn 50 [] [])) [((.t 8), .id), ((.t 9), .id)]), zv 11 (.ext (.t 10) 0), zv 12 (.ext (.t 10) 1), zv 13 (.ext (.t 10) 2), zn (.st 5 zN (.t 2) (.t 11)), zm 3 12, zm 4 13]
def k0dv : IC := (.seq qbdg (.seq qbm6 (.seq qbwg .ret)))
@[go_sem] def s0dv : List (RV × Co) := [(.c true 5 2, zN), (.t 3, .id), (.t 4, .id)]
theorem c0dv : cFun Tryz.prog 22 = some (14, k0dv, s0dv) := by kernel_rfl

def qbg7 : IC := zr [zi 2 (.box (.t 0)), zi 3 (.box (.t 1)), zv 4 zf]
def qbnj : IC := zr [zv 6 (.fad (.t 2) 0), zv 7 (.ld false 1 (.t 6)), zv 8 (.fad (.t 3) 0), zv 9 (.ld false 1 (.t 8)), zv 10 (.bin .neq .no (.t 7) (.t 9)), zm 11 10, zw 11 false 12 (.fad (.t 2) 3), zw 11 false 13 (.ld false 1 (.t 12)), zw 11 false 14 (.fad (.t 3) 3), zw 11 false 15 (.ld false 1 (.t 14)), zw 11 false 16 (.bin .neq .no (.t 13) (.t 15)), zv 17 (.pick (.t 11) (.c (.bool true)) (.t 16)), zm 18 17, zw 18 false 19 (.fad (.t 2) 2), zw 18 false 20 (.ld false 1 (.t 19)), zw 18 false 21 (.fad (.t 3) 2), zw 18 false 22 (.ld false 1 (.t 21)), zw 18 false 23 (.bin .neq .no (.t 20) (.t 22)), zv 24 (.pick (.t 18) (.c (.bool true)) (.t 23)), zm 25 24, zw 25 false 26 (.fad (.t 2) 4), zw 25 false 27 (.ld false 1 (.t 26)), zw 25 false 28 (.len false (.t 27)), zw 25 false 29 (.fad (.t 3) 4), zw 25 false 30 (.ld false 1 (.t 29)), zw 25 false 31 (.len false (.t 30)), zw 25 false 32 (.bin .neq .no (.t 28) (.t 31)), zv 33 (.pick (.t 25) (.c (.bool true)) (.t 32))]
def qbvo : IC := zr [zv 4 zf]
def qbn7 : IC := zr [zv 34 (.fad (.t 2) 4), zv 35 (.ld false 1 (.t 34)), zv 36 (.len false (.t 35)), zv 37 (.mov (zc 0))]
def qbn8 : IC := zr [zv 38 (.bin .lss .no (.t 37) (.t 36))]
def qbd0 : IC := zr [zm 39 37, zm 5 39]
def qbl7 : IC := .drw [zp (zv 40 (.fad (.t 2) 4)), zp (zv 41 (.ld false 1 (.t 40))), zp (zm 42 5), zp (zv 43 (.iad 5 (.t 41) (.t 42))), zp (zv 44 (.ld true 5 (.t 43))), zp (zv 45 (.fad (.t 3) 4)), zp (zv 46 (.ld false 1 (.t 45))), zp (zm 47 5), zp (zv 48 (.iad 5 (.t 46) (.t 47))), zp (zv 49 (.ld true 5 (.t 48))), (zi 50 (.call (.c (.fn 23 [] [])) [((.t 44), zN), ((.t 49), zN)]), []), zp (zv 51 (.un .not (.t 50)))]
def qbst : IC := zr [zv 4 zf]
def qbn2 : IC := zr [zv 52 (.bin .add .no (.t 37) (zc 1)), zm 37 52]
def qbea : IC := (.seq qbn8 (.seq (.cond (.t 38) .skip (.exit 0)) (.seq (.block 1 (.seq qbd0 (.seq qbl7 (.cond (.t 51) (.seq qbst .ret) .skip)))) qbn2)))
def q7t : IC := zr [zv 4 (.mov (.c (.bool true)))]
def k0bw : IC := (.seq qbg7 (.seq (.seq qbnj (.cond (.t 33) (.seq qbvo .ret) .skip)) (.seq (.seq qbn7 (.block 0 (.loop qbea))) (.seq q7t .ret))))
@[go_sem] def s0bw : List (RV × Co) := [(.t 4, .id)]
theorem c0bw : cFun Tryz.prog 23 = some (53, k0bw, s0bw) := by kernel_rfl

def qbvi : IC := zr [zi 1 (.box (.t 0)), zv 2 zf]
def qboi : IC := zr [zv 3 (.ld true 5 (.t 1)), zi 4 (.call (.c (.fn 47 [] [])) [((.t 3), zN)]), zm 5 4, zw 5 true 6 (.ld true 5 (.t 1)), ⟨some (5, true), some 7, .call (.c (.fn 51 [] [])) [((.t 6), zN)]⟩, zv 8 (.pick (.t 5) (.t 7) (.c (.bool false))), zm 2 8]
def k0bg : IC := (.seq qbvi (.seq qboi .ret))
@[go_sem] def s0bg : List (RV × Co) := [(.t 2, .id)]
theorem c0bg : cFun Tryz.prog 24 = some (9, k0bg, s0bg) := by kernel_rfl

def qbn1 : IC := zr [zi 2 zaN, zv 3 (.mov (zc 0)), zv 4 (.mov (zc 0))]
def qbdv : IC := zr [zm 14 0, zi 15 (.call (.c (.fn 52 [] [])) [((.t 14), .id)]), zm 13 15, zv 16 (.ext (.t 13) 0), zv 17 (.ext (.t 13) 1), zv 18 (.ext (.t 13) 2), zm 5 16, zm 6 17, zm 7 18]
def qbdf : IC := zr [zm 19 7, zv 20 (.bin .neq .no (.t 19) (zc 0))]
def qbot : IC := zr [zv 21 (.bld [(.int .i64 0), (.int .i64 0), (.int .i64 0), (.str []), .nils] []), zm 22 6, zm 23 7, zn (.st 5 zN (.t 2) (.t 21)), zm 3 22, zm 4 23]
def qbn0 : IC := zr [zm 24 5, zi 25 (.call (.c (.fn 53 [] [])) [((.t 24), (.sl 4))]), zm 8 25]
def qbf6 : IC := zr [zm 27 8, zi 28 (.call (.c (.fn 54 [] [])) [((.t 27), .id)]), zm 26 28, zv 29 (.ext (.t 26) 0), zv 30 (.ext (.t 26) 1), zi 9 zaN, zn (.st 5 zN (.t 9) (.t 29)), zm 10 30]
def qbd2 : IC := zr [zm 32 8, zi 33 (.call (.c (.fn 55 [] [])) [((.t 32), .id)]), zm 31 33, zv 34 (.ext (.t 31) 0), zv 35 (.ext (.t 31) 1), zm 11 34, zm 12 35]
def qbvl : IC := zr [zm 36 12, zv 37 (.bin .neq .no (.t 36) (zc 0))]
def qbel : IC := zr [zv 38 (.bld [(.int .i64 0), (.int .i64 0), (.int .i64 0), (.str []), .nils] []), zm 39 11, zm 40 12, zn (.st 5 zN (.t 2) (.t 38)), zm 3 39, zm 4 40]
def qbne : IC := zr [zv 41 (.ld true 5 (.t 9)), zi 42 (.call (.c (.fn 56 [] [])) [((.t 41), zN)]), zv 43 (.bin .gtr .no (.t 42) (zc 100))]
def q95 : IC := .drw [(zv 44 (.bld [(.int .i64 0), (.int .i64 0), (.int .i64 0), (.str []), .nils] []), []), zp (zv 45 (.fad (.t 9) 1)), zp (zv 46 (.ld false 1 (.t 45))), (zn (.st 5 zN (.t 2) (.t 44)), [2]), zp (zm 3 46), zp (zv 4 (.mov (zc 2)))]
def qbb6 : IC := zr [zv 47 (.ld true 5 (.t 9)), zn (.st 5 zN (.t 2) (.t 47)), zv 3 (.mov (zc 0)), zv 4 (.mov (zc 0))]
def k0eu : IC := (.seq qbn1 (.seq qbdv (.seq (.seq qbdf (.cond (.t 20) (.seq qbot .ret) .skip)) (.seq qbn0 (.seq qbf6 (.seq (.seq qbd2 (.seq qbvl (.cond (.t 37) (.seq qbel .ret) .skip))) (.seq (.seq qbne (.cond (.t 43) (.seq q95 .ret) .skip)) (.seq qbb6 .ret))))))))
@[go_sem] def s0eu : List (RV × Co) := [(.c true 5 2, zN), (.t 3, .id), (.t 4, .id)]
theorem c0eu : cFun Tryz.prog 25 = some (48, k0eu, s0eu) := by kernel_rfl

def qbo8 : IC := zr [zi 1 (.box (.t 0)), zv 2 zf]
def qbdr : IC := zr [zv 3 (.ld true 5 (.t 1)), zi 4 (.call (.c (.fn 47 [] [])) [((.t 3), zN)]), zm 5 4, zw 5 true 6 (.ld true 5 (.t 1)), ⟨some (5, true), some 7, .call (.c (.fn 57 [] [])) [((.t 6), zN)]⟩, zv 8 (.pick (.t 5) (.t 7) (.c (.bool false))), zm 2 8]
def k0bh : IC := (.seq qbo8 (.seq qbdr .ret))
@[go_sem] def s0bh : List (RV × Co) := [(.t 2, .id)]
theorem c0bh : cFun Tryz.prog 26 = some (9, k0bh, s0bh) := by kernel_rfl

def qbi4 : IC := zr [zi 2 zaN, zv 3 (.mov (zc 0)), zv 4 (.mov (zc 0))]
def qbv8 : IC := zr [zm 14 0, zi 15 (.call (.c (.fn 52 [] [])) [((.t 14), .id)]), zm 13 15, zv 16 (.ext (.t 13) 0), zv 17 (.ext (.t 13) 1), zv 18 (.ext (.t 13) 2), zm 5 16, zm 6 17, zm 7 18]
def qbv1 : IC := zr [zm 19 7, zv 20 (.bin .neq .no (.t 19) (zc 0))]
def qbt0 : IC := zr [zv 21 (.bld [(.int .i64 0), (.int .i64 0), (.int .i64 0), (.str []), .nils] []), zm 22 6, zm 23 7, zn (.st 5 zN (.t 2) (.t 21)), zm 3 22, zm 4 23]
def qbwp : IC := zr [zm 24 5, zi 25 (.call (.c (.fn 53 [] [])) [((.t 24), (.sl 4))]), zm 8 25]
def qbkg : IC := zr [zm 27 8, zi 28 (.call (.c (.fn 58 [] [])) [((.t 27), .id)]), zm 26 28, zv 29 (.ext (.t 26) 0), zv 30 (.ext (.t 26) 1), zi 9 zaN, zn (.st 5 zN (.t 9) (.t 29)), zm 10 30]
def qben : IC := zr [zm 32 8, zi 33 (.call (.c (.fn 55 [] [])) [((.t 32), .id)]), zm 31 33, zv 34 (.ext (.t 31) 0), zv 35 (.ext (.t 31) 1), zm 11 34, zm 12 35]
def qbdz : IC := zr [zm 36 12, zv 37 (.bin .neq .no (.t 36) (zc 0))]
def qbq2 : IC := zr [zv 38 (.bld [(.int .i64 0), (.int .i64 0), (.int .i64 0), (.str []), .nils] []), zm 39 11, zm 40 12, zn (.st 5 zN (.t 2) (.t 38)), zm 3 39, zm 4 40]
def qbhq : IC := zr [zv 41 (.ld true 5 (.t 9)), zi 42 (.call (.c (.fn 56 [] [])) [((.t 41), zN)]), zv 43 (.bin .gtr .no (.t 42) (zc 100))]
def qbbt : IC := .drw [(zv 44 (.bld [(.int .i64 0), (.int .i64 0), (.int .i64 0), (.str []), .nils] []), []), zp (zv 45 (.fad (.t 9) 1)), zp (zv 46 (.ld false 1 (.t 45))), (zn (.st 5 zN (.t 2) (.t 44)), [2]), zp (zm 3 46), zp (zv 4 (.mov (zc 2)))]
def q98 : IC := zr [zv 47 (.ld true 5 (.t 9)), zn (.st 5 zN (.t 2) (.t 47)), zv 3 (.mov (zc 0)), zv 4 (.mov (zc 0))]
def k0dc : IC := (.seq qbi4 (.seq qbv8 (.seq (.seq qbv1 (.cond (.t 20) (.seq qbt0 .ret) .skip)) (.seq qbwp (.seq qbkg (.seq (.seq qben (.seq qbdz (.cond (.t 37) (.seq qbq2 .ret) .skip))) (.seq (.seq qbhq (.cond (.t 43) (.seq qbbt .ret) .skip)) (.seq q98 .ret))))))))
@[go_sem] def s0dc : List (RV × Co) := [(.c true 5 2, zN), (.t 3, .id), (.t 4, .id)]
theorem c0dc : cFun Tryz.prog 27 = some (48, k0dc, s0dc) := by kernel_rfl

def qbmy : IC := zr [zi 1 (.box (.t 0)), zv 2 zf]
def qbu0 : IC := zr [zv 3 (.fad (.t 1) 0), zv 4 (.ld false 1 (.t 3)), zv 5 (.bin .eql .no (.t 4) (zc 37))]
def qbc8 : IC := zr [zv 6 (.ld true 5 (.t 1)), zi 7 (.call (.c (.fn 47 [] [])) [((.t 6), zN)]), zm 8 7, zw 8 true 9 (.ld true 5 (.t 1)), ⟨some (8, true), some 10, .call (.c (.fn 67 [] [])) [((.t 9), zN)]⟩, zv 11 (.pick (.t 8) (.t 10) (.c (.bool false))), zm 12 11, zw 12 true 13 (.fad (.t 1) 4), zw 12 true 14 (.ld false 1 (.t 13)), ⟨some (12, true), some 15, .call (.c (.fn 68 [] [])) [((.t 14), (.sl 5)), ((.c (.fn 69 [] [])), .id)]⟩, zv 16 (.pick (.t 12) (.t 15) (.c (.bool false))), zm 2 16]
def qbpb : IC := zr [zv 17 (.ld true 5 (.t 1)), zi 18 (.call (.c (.fn 47 [] [])) [((.t 17), zN)]), zm 19 18, zw 19 true 20 (.ld true 5 (.t 1)), ⟨some (19, true), some 21, .call (.c (.fn 69 [] [])) [((.t 20), zN)]⟩, zv 22 (.pick (.t 19) (.t 21) (.c (.bool false))), zm 2 22]
def k0bi : IC := (.seq qbmy (.seq (.seq qbu0 (.cond (.t 5) (.seq qbc8 .ret) .skip)) (.seq qbpb .ret)))
@[go_sem] def s0bi : List (RV × Co) := [(.t 2, .id)]
theorem c0bi : cFun Tryz.prog 30 = some (23, k0bi, s0bi) := by kernel_rfl

def qbqo : IC := zr [zi 2 (.box (.t 0)), zv 4 (.mov (zc 0))]
def qbvp : IC := zr [zm 6 1, zv 7 (.bin .sub .no (.t 6) (zc 1)), zm 1 7]
def qbmt : IC := zr [zv 5 (.mov (zc 0))]
def qbed : IC := zr [zm 8 5, zv 9 (.fad (.t 2) 4), zv 10 (.ld false 1 (.t 9)), zv 11 (.len false (.t 10)), zv 12 (.bin .lss .no (.t 8) (.t 11)), zm 13 12, zw 13 true 14 (.mov (.t 1)), zw 13 true 15 (.bin .geq .no (.t 14) (zc 0)), zv 16 (.pick (.t 13) (.t 15) (.c (.bool false)))]
def qbl1 : IC := zr [zv 19 (.fad (.t 2) 4), zv 20 (.ld false 1 (.t 19)), zm 21 5, zv 22 (.iad 5 (.t 20) (.t 21)), zv 23 (.ld true 5 (.t 22)), zm 24 1, zi 25 (.call (.c (.fn 32 [] [])) [((.t 23), zN), ((.t 24), .id)]), zm 1 25]
def qbms : IC := zr [zm 17 5, zv 18 (.bin .add .no (.t 17) (zc 1)), zm 5 18]
def qbw5 : IC := (.seq (.seq qbed (.cond (.t 16) .skip (.exit 0))) (.seq (.block 1 qbl1) qbms))
def qblg : IC := zr [zm 26 1, zm 4 26]
def k0cb : IC := (.seq qbqo (.seq qbvp (.seq (.seq qbmt (.block 0 (.loop qbw5))) (.seq qblg .ret))))
@[go_sem] def s0cb : List (RV × Co) := [(.t 4, .id)]
theorem c0cb : cFun Tryz.prog 32 = some (27, k0cb, s0cb) := by kernel_rfl

def qb0b : IC := zr [zv 4 (.mov (.c (.str [])))]
def qb3d : IC := zr [zm 5 0, zv 6 (.un .not (.t 5))]
def qbzx : IC := zr [zv 4 (.mov (.c (.str [])))]
def qbzb : IC := zr [zm 7 1, zi 8 (.call (.c (.fn 46 [] [])) [((.t 7), .id)]), zm 4 8]
def k0b : IC := (.seq qb0b (.seq (.seq qb3d (.cond (.t 6) (.seq qbzx .ret) .skip)) (.seq qbzb .ret)))
@[go_sem] def s0b : List (RV × Co) := [(.t 4, .id)]
theorem c0b : cFun Tryz.prog 33 = some (9, k0b, s0b) := by kernel_rfl

def qb1m : IC := zr [zi 1 (.box (.t 0)), zv 2 (.mov (.c (.str [])))]
def qbys : IC := zr [zv 4 (.fad (.t 1) 4), zv 5 (.ld false 1 (.t 4)), zv 6 (.len false (.t 5)), zv 7 (.bin .sub .no (.t 6) (zc 1)), zm 3 7]
def qb02 : IC := .drw [zp (zv 8 (.fad (.t 1) 4)), zp (zv 9 (.ld false 1 (.t 8))), zp (zm 10 3), zp (zv 11 (.slv 5 (.t 9) none (some (.t 10)) none)), (zi 12 (.call (.c (.fn 74 [] [])) [((.t 11), (.sl 5))]), []), zp (zv 13 (.fad (.t 1) 4)), (zv 14 (.ld false 1 (.t 13)), [4]), zp (zm 15 3), zp (zv 16 (.iad 5 (.t 14) (.t 15))), (zv 17 (.ld true 5 (.t 16)), [4]), (zv 18 (.bld [(.int .i64 0), (.int .i64 0), (.int .i64 0), (.str []), .nils] [(0, 5, (.t 17))]), []), (zv 19 (.mki 37 (.t 18) zN), [4]), (zi 20 (.call (.c (.fn 46 [] [])) [((.t 19), .id)]), []), zp (zv 21 (.bin .add .no (.t 12) (.t 20))), zp (zm 2 21)]
def k0z : IC := (.seq qb1m (.seq qbys (.seq qb02 .ret)))
@[go_sem] def s0z : List (RV × Co) := [(.t 2, .id)]
theorem c0z : cFun Tryz.prog 36 = some (22, k0z, s0z) := by kernel_rfl

def qbym : IC := zr [zv 6 (.mov (.c (.str [])))]
def qb2r : IC := zr [zm 10 0, zv 11 (.len false (.t 10)), zi 12 (.mks 1 (.str []) 16 (.t 11) (.t 11)), zm 7 12]
def qbx3 : IC := zr [zm 13 0, zv 14 (.len false (.t 13)), zv 15 (.mov (zc 0))]
def qb2v : IC := zr [zv 16 (.bin .lss .no (.t 15) (.t 14))]
def qbzu : IC := zr [zm 17 15, zv 18 (.iad 5 (.t 13) (.t 15)), zv 19 (.ld true 5 (.t 18)), zi 9 zaN, zm 8 17, zn (.st 5 zN (.t 9) (.t 19))]
def qb2y : IC := zr [zm 20 7, zm 21 8, zm 22 2, zv 23 (.ld true 5 (.t 9)), zi 24 (.call (.t 22) [((.t 23), zN)]), zv 25 (.iad 1 (.t 20) (.t 21)), zn (.st 1 .id (.t 25) (.t 24))]
def qbxj : IC := zr [zv 26 (.bin .add .no (.t 15) (zc 1)), zm 15 26]
def qbyh : IC := (.seq qb2v (.seq (.cond (.t 16) .skip (.exit 0)) (.seq (.block 1 (.seq qbzu qb2y)) qbxj)))
def qb1d : IC := zr [zm 27 7, zm 28 1, zi 29 (.call (.c (.fn 83 [] [])) [((.t 27), (.sl 1)), ((.t 28), .id)]), zm 6 29]
def k0u : IC := (.seq qbym (.seq qb2r (.seq (.seq qbx3 (.block 0 (.loop qbyh))) (.seq qb1d .ret))))
@[go_sem] def s0u : List (RV × Co) := [(.t 6, .id)]
theorem c0u : cFun Tryz.prog 44 = some (30, k0u, s0u) := by kernel_rfl

def qbyw : IC := zr [zi 1 (.box (.t 0)), zv 2 (.mov (.c (.str [])))]
def qbzt : IC := zr [zv 3 (.ld true 5 (.t 1)), zv 4 (.bld [(.int .i64 0), (.int .i64 0), (.int .i64 0), (.str []), .nils] [(0, 5, (.t 3))]), zv 5 (.mki 40 (.t 4) zN), zi 6 (.call (.c (.fn 46 [] [])) [((.t 5), .id)]), zv 7 (.bin .add .no (.t 6) (.c (.str [59, 10]))), zm 2 7]
def k0i : IC := (.seq qbyw (.seq qbzt .ret))
@[go_sem] def s0i : List (RV × Co) := [(.t 2, .id)]
theorem c0i : cFun Tryz.prog 45 = some (8, k0i, s0i) := by kernel_rfl

def qb1x : IC := zr [zv 2 (.mov (.c (.str [])))]
def qbxm : IC := zr [zm 7 0]
def qb0w : IC := zr [zv 8 (.tya 37 zZ (.t 7)), zv 9 (.ext (.t 8) 1), zv 10 (.ext (.t 8) 0)]
def qbyz : IC := zr [zi 3 zaN, zn (.st 5 zN (.t 3) (.t 10))]
def qbyq : IC := zr [zv 11 (.ld true 5 (.t 3)), zi 12 (.call (.c (.fn 84 [] [])) [((.t 11), zN)]), zm 2 12]
def qb1w : IC := zr [zv 13 (.tya 38 zZ (.t 7)), zv 14 (.ext (.t 13) 1), zv 15 (.ext (.t 13) 0)]
def qbzw : IC := zr [zi 4 zaN, zn (.st 5 zN (.t 4) (.t 15))]
def qby7 : IC := zr [zv 16 (.ld true 5 (.t 4)), zi 17 (.call (.c (.fn 85 [] [])) [((.t 16), zN)]), zm 2 17]
def qb1r : IC := zr [zv 18 (.tya 39 zZ (.t 7)), zv 19 (.ext (.t 18) 1), zv 20 (.ext (.t 18) 0)]
def qb1e : IC := zr [zi 5 zaN, zn (.st 5 zN (.t 5) (.t 20))]
def qbdq : IC := zr [zv 21 (.ld true 5 (.t 5)), zi 22 (.call (.c (.fn 86 [] [])) [((.t 21), zN)]), zm 2 22]
def qblq : IC := zr [zv 23 (.tya 40 zZ (.t 7)), zv 24 (.ext (.t 23) 1), zv 25 (.ext (.t 23) 0)]
def qbkb : IC := zr [zi 6 zaN, zn (.st 5 zN (.t 6) (.t 25))]
def qbpg : IC := zr [zv 26 (.ld true 5 (.t 6)), zi 27 (.call (.c (.fn 87 [] [])) [((.t 26), zN)]), zm 2 27]
def qbj2 : IC := zr [zv 2 (.mov (.c (.str [])))]
def k0m : IC := (.seq qb1x (.seq (.seq qbxm (.block 0 (.seq qb0w (.cond (.t 9) (.seq qbyz (.seq qbyq .ret)) (.seq qb1w (.cond (.t 14) (.seq qbzw (.seq qby7 .ret)) (.seq qb1r (.cond (.t 19) (.seq qb1e (.seq qbdq .ret)) (.seq qblq (.cond (.t 24) (.seq qbkb (.seq qbpg .ret)) .skip)))))))))) (.seq qbj2 .ret)))
@[go_sem] def s0m : List (RV × Co) := [(.t 2, .id)]
theorem c0m : cFun Tryz.prog 46 = some (28, k0m, s0m) := by kernel_rfl

def qbg8 : IC := zr [zi 1 (.box (.t 0)), zi 2 (.alo [(.bool false)])]
def qbs0 : IC := zr [zv 4 (.ld true 5 (.t 1)), zi 5 (.call (.c (.fn 88 [] [])) [((.t 4), zN), ((zc 1), .id)])]
def qbko : IC := zr [zm 8 3, zv 9 (.bin .gtr .no (.t 8) (zc 100))]
def qbug : IC := zr [zn (.st 1 .id (.t 2) (.c (.bool false)))]
def qzv : IC := (.block 1 (.seq qbko (.cond (.t 9) (.seq qbug .ret) .skip)))
def q2l : IC := zr [zm 3 6]
def qbh7 : IC := zr [zn (.st 1 .id (.t 2) (.c (.bool true)))]
def k0bv : IC := (.seq qbg8 (.seq (.seq qbs0 (.block 0 (.rng (.t 5) [6, 7] q2l qzv))) (.seq qbh7 .ret)))
@[go_sem] def s0bv : List (RV × Co) := [(.c false 1 2, .id)]
theorem c0bv : cFun Tryz.prog 47 = some (10, k0bv, s0bv) := by kernel_rfl

def qbt1 : IC := zr [zi 1 (.box (.t 0)), zv 2 zf]
def qbis : IC := zr [zv 4 (.fad (.t 1) 0), zv 5 (.ld false 1 (.t 4)), zv 6 (.bin .eql .no (.t 5) (zc 1)), zm 3 6]
def qbfo : IC := zr [zv 7 (.ld true 5 (.t 1)), zi 8 (.call (.c (.fn 89 [] [])) [((.t 7), zN), ((.c (.fn 90 [] [])), .id)]), zm 9 8, zw 9 true 10 (.fad (.t 1) 4), zw 9 true 11 (.ld false 1 (.t 10)), zw 9 true 12 (.len false (.t 11)), zw 9 true 13 (.bin .eql .no (.t 12) (zc 0)), zv 14 (.pick (.t 9) (.t 13) (.c (.bool false))), zm 2 14]
def qboc : IC := zr [zv 16 (.fad (.t 1) 0), zv 17 (.ld false 1 (.t 16)), zv 18 (.bin .neq .no (.t 17) (zc 2)), zm 19 18, zw 19 false 20 (.fad (.t 1) 2), zw 19 false 21 (.ld false 1 (.t 20)), zw 19 false 22 (.bin .neq .no (.t 21) (zc 0)), zv 23 (.pick (.t 19) (.c (.bool true)) (.t 22)), zm 15 23]
def qbuy : IC := zr [zv 2 zf]
def qbog : IC := zr [zv 25 (.fad (.t 1) 3), zv 26 (.ld false 1 (.t 25)), zv 27 (.bin .eql .no (.t 26) (.c (.str [45, 62]))), zm 24 27]
def qbs4 : IC := zr [zv 28 (.fad (.t 1) 4), zv 29 (.ld false 1 (.t 28)), zv 30 (.len false (.t 29)), zv 31 (.bin .eql .no (.t 30) (zc 2)), zm 32 31, zw 32 true 33 (.fad (.t 1) 4), zw 32 true 34 (.ld false 1 (.t 33)), ⟨some (32, true), some 35, .call (.c (.fn 68 [] [])) [((.t 34), (.sl 5)), ((.c (.fn 48 [] [])), .id)]⟩, zv 36 (.pick (.t 32) (.t 35) (.c (.bool false))), zm 2 36]
def qbul : IC := zr [zv 37 (.fad (.t 1) 3), zv 38 (.ld false 1 (.t 37)), zi 39 (.call (.c (.fn 91 [] [])) [((.t 38), .id)]), zm 40 39, zw 40 true 41 (.fad (.t 1) 4), zw 40 true 42 (.ld false 1 (.t 41)), ⟨some (40, true), some 43, .call (.c (.fn 68 [] [])) [((.t 42), (.sl 5)), ((.c (.fn 48 [] [])), .id)]⟩, zv 44 (.pick (.t 40) (.t 43) (.c (.bool false))), zm 2 44]
def k0bn : IC := (.seq qbt1 (.seq (.block 0 (.seq qbis (.cond (.t 3) (.seq qbfo .ret) (.seq qboc (.cond (.t 15) (.seq qbuy .ret) (.seq qbog (.cond (.t 24) (.seq qbs4 .ret) .skip))))))) (.seq qbul .ret)))
@[go_sem] def s0bn : List (RV × Co) := [(.t 2, .id)]
theorem c0bn : cFun Tryz.prog 48 = some (45, k0bn, s0bn) := by kernel_rfl

def qbh8 : IC := zr [zi 2 (.box (.t 0)), zi 4 zaN, zv 5 zf]
def qbrw : IC := zr [zv 6 (.fad (.t 2) 0), zv 7 (.ld false 1 (.t 6))]
def qbt5 : IC := zr [zm 8 1, zi 9 (.call (.c (.fn 92 [] [])) [((.t 8), .id)]), zv 10 (.ext (.t 9) 0), zv 11 (.ext (.t 9) 1), zn (.st 5 zN (.t 4) (.t 10)), zm 5 11]
def qbk6 : IC := zr [zm 12 1, zi 13 (.call (.c (.fn 93 [] [])) [((.t 12), .id)]), zv 14 (.ext (.t 13) 0), zv 15 (.ext (.t 13) 1), zn (.st 5 zN (.t 4) (.t 14)), zm 5 15]
def k0du : IC := (.seq qbh8 (.seq (.seq qbrw (.cond (.t 7) (.seq qbt5 .ret) .skip)) (.seq qbk6 .ret)))
@[go_sem] def s0du : List (RV × Co) := [(.c true 5 4, zN), (.t 5, .id)]
theorem c0du : cFun Tryz.prog 49 = some (16, k0du, s0du) := by kernel_rfl

def qbfh : IC := zr [zi 4 zaN, zv 5 (.mov (zc 0)), zv 6 (.mov (zc 0))]
def qbg1 : IC := zr [zm 16 0, zi 17 (.call (.c (.fn 52 [] [])) [((.t 16), .id)]), zm 15 17, zv 18 (.ext (.t 15) 0), zv 19 (.ext (.t 15) 1), zv 20 (.ext (.t 15) 2), zm 7 18, zm 8 19, zm 9 20]
def qboq : IC := zr [zm 21 9, zv 22 (.bin .neq .no (.t 21) (zc 0))]
def qber : IC := zr [zv 23 (.bld [(.int .i64 0), (.int .i64 0), (.int .i64 0), (.str []), .nils] []), zm 24 8, zm 25 9, zn (.st 5 zN (.t 4) (.t 23)), zm 5 24, zm 6 25]
def qbfe : IC := zr [zm 26 7, zi 27 (.call (.c (.fn 53 [] [])) [((.t 26), (.sl 4))]), zm 10 27]
def qbrj : IC := zr [zm 29 1, zm 30 10, zi 31 (.call (.t 29) [((.t 30), .id)]), zm 28 31, zv 32 (.ext (.t 28) 0), zv 33 (.ext (.t 28) 1), zi 11 zaN, zn (.st 5 zN (.t 11) (.t 32)), zm 12 33]
def qbsi : IC := zr [zm 35 10, zi 36 (.call (.c (.fn 55 [] [])) [((.t 35), .id)]), zm 34 36, zv 37 (.ext (.t 34) 0), zv 38 (.ext (.t 34) 1), zm 13 37, zm 14 38]
def qbta : IC := zr [zm 40 14, zv 41 (.bin .neq .no (.t 40) (zc 0)), zm 39 41]
def qbgn : IC := zr [zv 42 (.bld [(.int .i64 0), (.int .i64 0), (.int .i64 0), (.str []), .nils] []), zm 43 13, zm 44 14, zn (.st 5 zN (.t 4) (.t 42)), zm 5 43, zm 6 44]
def qblh : IC := zr [zv 46 (.ld true 5 (.t 11)), zi 47 (.call (.c (.fn 56 [] [])) [((.t 46), zN)]), zv 48 (.bin .gtr .no (.t 47) (zc 100)), zm 45 48]
def q46 : IC := .drw [(zv 49 (.bld [(.int .i64 0), (.int .i64 0), (.int .i64 0), (.str []), .nils] []), []), zp (zv 50 (.fad (.t 11) 1)), zp (zv 51 (.ld false 1 (.t 50))), (zn (.st 5 zN (.t 4) (.t 49)), [2]), zp (zm 5 51), zp (zv 6 (.mov (zc 2)))]
def q77 : IC := zr [zv 52 (.ld true 5 (.t 11)), zn (.st 5 zN (.t 4) (.t 52)), zv 5 (.mov (zc 0)), zv 6 (.mov (zc 0))]
def k0dt : IC := (.seq qbfh (.seq qbg1 (.seq (.seq qboq (.cond (.t 22) (.seq qber .ret) .skip)) (.seq qbfe (.seq qbrj (.seq (.seq qbsi (.block 0 (.seq qbta (.cond (.t 39) (.seq qbgn .ret) (.seq qblh (.cond (.t 45) (.seq q46 .ret) .skip)))))) (.seq q77 .ret)))))))
@[go_sem] def s0dt : List (RV × Co) := [(.c true 5 4, zN), (.t 5, .id), (.t 6, .id)]
theorem c0dt : cFun Tryz.prog 50 = some (53, k0dt, s0dt) := by kernel_rfl

def qbui : IC := zr [zi 1 (.box (.t 0)), zv 2 zf]
def qbd7 : IC := zr [zv 3 (.fad (.t 1) 0), zv 4 (.ld false 1 (.t 3))]
def qbjd : IC := zr [zv 6 (.bin .eql .no (.t 4) (zc 11)), zm 5 6]
def qbnz : IC := zr [zv 7 (.ld true 5 (.t 1)), zi 8 (.call (.c (.fn 89 [] [])) [((.t 7), zN), ((.c (.fn 90 [] [])), .id)]), zm 9 8, zw 9 true 10 (.fad (.t 1) 4), zw 9 true 11 (.ld false 1 (.t 10)), zw 9 true 12 (.len false (.t 11)), zw 9 true 13 (.bin .eql .no (.t 12) (zc 0)), zv 14 (.pick (.t 9) (.t 13) (.c (.bool false))), zm 2 14]
def qbji : IC := zr [zv 16 (.bin .eql .no (.t 4) (zc 12)), zm 15 16]
def qbic : IC := zr [zv 17 (.ld true 5 (.t 1)), zi 18 (.call (.c (.fn 67 [] [])) [((.t 17), zN)]), zm 19 18, zw 19 true 20 (.fad (.t 1) 4), zw 19 true 21 (.ld false 1 (.t 20)), zw 19 true 22 (.len false (.t 21)), zw 19 true 23 (.bin .eql .no (.t 22) (zc 0)), zv 24 (.pick (.t 19) (.t 23) (.c (.bool false))), zm 2 24]
def qbwk : IC := zr [zv 26 (.bin .eql .no (.t 4) (zc 13)), zm 25 26]
def qbdt : IC := zr [zv 27 (.fad (.t 1) 3), zv 28 (.ld false 1 (.t 27)), zv 29 (.bin .eql .no (.t 28) (.c (.str []))), zm 30 29, zw 30 true 31 (.fad (.t 1) 2), zw 30 true 32 (.ld false 1 (.t 31)), zw 30 true 33 (.bin .geq .no (.t 32) (zc 0)), zv 34 (.pick (.t 30) (.t 33) (.c (.bool false))), zm 35 34, zw 35 true 36 (.fad (.t 1) 4), zw 35 true 37 (.ld false 1 (.t 36)), zw 35 true 38 (.len false (.t 37)), zw 35 true 39 (.bin .eql .no (.t 38) (zc 0)), zv 40 (.pick (.t 35) (.t 39) (.c (.bool false))), zm 2 40]
def qbwv : IC := zr [zv 42 (.bin .eql .no (.t 4) (zc 14)), zm 41 42]
def qblf : IC := zr [zv 43 (.ld true 5 (.t 1)), zi 44 (.call (.c (.fn 89 [] [])) [((.t 43), zN), ((.c (.fn 91 [] [])), .id)]), zm 45 44, zw 45 true 46 (.fad (.t 1) 4), zw 45 true 47 (.ld false 1 (.t 46)), ⟨some (45, true), some 48, .call (.c (.fn 68 [] [])) [((.t 47), (.sl 5)), ((.c (.fn 51 [] [])), .id)]⟩, zv 49 (.pick (.t 45) (.t 48) (.c (.bool false))), zm 2 49]
def q5g : IC := zr [zv 2 zf]
def k0bo : IC := (.seq qbui (.seq (.seq qbd7 (.block 0 (.seq qbjd (.cond (.t 5) (.seq qbnz .ret) (.seq qbji (.cond (.t 15) (.seq qbic .ret) (.seq qbwk (.cond (.t 25) (.seq qbdt .ret) (.seq qbwv (.cond (.t 41) (.seq qblf .ret) .skip)))))))))) (.seq q5g .ret)))
@[go_sem] def s0bo : List (RV × Co) := [(.t 2, .id)]
theorem c0bo : cFun Tryz.prog 51 = some (50, k0bo, s0bo) := by kernel_rfl

def qbjk : IC := zr [zi 2 (.alo [.nils]), zi 3 (.alo [(.int .i64 0)]), zi 4 (.alo [(.int .i64 0)])]
def qbl9 : IC := zr [zm 8 0, zv 9 (.len true (.t 8)), zv 10 (.bin .gtr .no (.t 9) (zc 1048576))]
def qbwz : IC := zr [zn (.st 1 (.sl 4) (.t 2) (.c .nils)), zn (.st 1 .id (.t 3) (zc 0)), zn (.st 1 .id (.t 4) (zc 2))]
def qbts : IC := zr [zi 5 (.alo [.nils])]
def qbs7 : IC := zr [zm 11 0, zi 12 (.call (.c (.fn 94 [] [])) [((.t 11), .id)])]
def qbr4 : IC := zr [zm 15 7, zv 16 (.bin .neq .no (.t 15) (zc 0))]
def qbgl : IC := .drw [zp (zv 17 (.fad (.t 6) 1)), zp (zv 18 (.ld false 1 (.t 17))), zp (zm 19 7), (zn (.st 1 (.sl 4) (.t 2) (.c .nils)), [1]), (zn (.st 1 .id (.t 3) (.t 18)), []), (zn (.st 1 .id (.t 4) (.t 19)), [])]
def qbmj : IC := zr [zv 20 (.ld false 1 (.t 5)), zv 21 (.ld true 4 (.t 6)), zv 22 (.bsl 4 [((.t 21), .id)]), zi 23 (.app 4 (.agg [(.int .i64 0), (.int .i64 0), (.int .i64 0), (.str [])]) 40 (.sl 4) (.t 20) (.t 22)), zn (.st 1 (.sl 4) (.t 5) (.t 23))]
def qvp : IC := (.block 1 (.seq (.seq qbr4 (.cond (.t 16) (.seq qbgl .ret) .skip)) qbmj))
def qqd : IC := zr [zi 6 zaT, zn (.st 4 .id (.t 6) (.t 13))]
def qq3 : IC := zr [zm 7 14]
def qbb5 : IC := zr [zv 24 (.ld false 1 (.t 5)), zm 25 0, zv 26 (.len true (.t 25)), zv 27 (.bld [(.int .i64 0), (.int .i64 0), (.int .i64 0), (.str [])] [(0, 1, (zc 0)), (1, 1, (.t 26))]), zv 28 (.bsl 4 [((.t 27), .id)]), zi 29 (.app 4 (.agg [(.int .i64 0), (.int .i64 0), (.int .i64 0), (.str [])]) 40 (.sl 4) (.t 24) (.t 28)), zn (.st 1 (.sl 4) (.t 2) (.t 29)), zn (.st 1 .id (.t 3) (zc 0)), zn (.st 1 .id (.t 4) (zc 0))]
def k0co : IC := (.seq qbjk (.seq (.seq qbl9 (.cond (.t 10) (.seq qbwz .ret) .skip)) (.seq qbts (.seq (.seq qbs7 (.block 0 (.rng (.t 12) [13, 14] (.seq qqd qq3) qvp))) (.seq qbb5 .ret)))))
@[go_sem] def s0co : List (RV × Co) := [(.c false 1 2, (.sl 4)), (.c false 1 3, .id), (.c false 1 4, .id)]
theorem c0co : cFun Tryz.prog 52 = some (30, k0co, s0co) := by kernel_rfl

def qbid : IC := zr [zv 2 (.mov (.c .nilp))]
def qbev : IC := zr [zv 6 (.bld [.nils, (.int .i64 0), (.int .i64 0), (.int .i64 0), (.str []), (.int .i64 0), (.int .i64 0), (.int .i64 0), (.int .i64 0)] []), zi 7 (.box (.t 6)), zm 3 7]
def qbv3 : IC := zr [zm 8 0, zv 9 (.len false (.t 8)), zv 10 (.mov (zc 0))]
def qbh2 : IC := zr [zv 11 (.bin .lss .no (.t 10) (.t 9))]
def qblx : IC := zr [zv 12 (.iad 4 (.t 8) (.t 10)), zv 13 (.ld true 4 (.t 12)), zi 5 zaT, zn (.st 4 .id (.t 5) (.t 13))]
def qbk7 : IC := zr [zv 14 (.fad (.t 5) 0), zv 15 (.ld false 1 (.t 14)), zv 16 (.bin .eql .no (.t 15) (zc 0))]
def qbhv : IC := zr [zm 17 3, zv 18 (.fad (.t 5) 1), zv 19 (.ld false 1 (.t 18)), zv 20 (.nck (.t 17)), zv 21 (.fad (.t 20) 1), zv 22 (.fad (.t 21) 1), zn (.st 1 .id (.t 22) (.t 19))]
def qbf8 : IC := .drw [zp (zm 23 3), zp (zm 24 3), zp (zv 25 (.nck (.t 24))), zp (zv 26 (.fad (.t 25) 0)), zp (zv 27 (.ld false 1 (.t 26))), zp (zv 28 (.ld true 4 (.t 5))), (zv 29 (.bsl 4 [((.t 28), .id)]), []), (zi 30 (.app 4 (.agg [(.int .i64 0), (.int .i64 0), (.int .i64 0), (.str [])]) 40 (.sl 4) (.t 27) (.t 29)), []), zp (zv 31 (.nck (.t 23))), zp (zv 32 (.fad (.t 31) 0)), (zn (.st 1 (.sl 4) (.t 32) (.t 30)), [])]
def qbrq : IC := zr [zv 33 (.bin .add .no (.t 10) (zc 1)), zm 10 33]
def qbjr : IC := (.seq qbh2 (.seq (.cond (.t 11) .skip (.exit 0)) (.seq (.block 1 (.seq qblx (.seq (.seq qbk7 (.cond (.t 16) (.seq qbhv (.exit 0)) .skip)) qbf8))) qbrq)))
def q80 : IC := zr [zm 34 3, zm 2 34]
def k0ef : IC := (.seq qbid (.seq qbev (.seq (.seq qbv3 (.block 0 (.loop qbjr))) (.seq q80 .ret))))
@[go_sem] def s0ef : List (RV × Co) := [(.t 2, .id)]
theorem c0ef : cFun Tryz.prog 53 = some (35, k0ef, s0ef) := by kernel_rfl

def qbry : IC := zr [zi 2 zaN, zv 3 zf]
def qbhk : IC := zr [zm 8 0, zi 9 (.call (.c (.fn 95 [] [])) [((.t 8), .id)]), zv 10 (.un .not (.t 9))]
def qbfj : IC := zr [zv 11 (.bld [(.int .i64 0), (.int .i64 0), (.int .i64 0), (.str []), .nils] []), zn (.st 5 zN (.t 2) (.t 11)), zv 3 zf]
def qbgb : IC := zr [zm 12 0, zi 13 (.call (.c (.fn 66 [] [])) [((.t 12), .id)]), zv 14 (.fld false 1 0 (.t 13)), zv 15 (.bin .eql .no (.t 14) (zc 2)), zm 4 15]
def qbvn : IC := zr [zm 17 0, zi 18 (.call (.c (.fn 96 [] [])) [((.t 17), .id)]), zm 16 18, zv 19 (.ext (.t 16) 0), zv 20 (.ext (.t 16) 1), zi 5 zaN, zn (.st 5 zN (.t 5) (.t 19)), zm 6 20]
def qbqh : IC := zr [zm 21 6, zm 22 21, zw 22 true 23 (.mov (.t 4)), zv 24 (.pick (.t 22) (.t 23) (.c (.bool false))), zm 25 24, zw 25 true 26 (.mov (.t 0)), ⟨some (25, true), some 27, .call (.c (.fn 97 [] [])) [((.t 26), .id)]⟩, zv 28 (.pick (.t 25) (.t 27) (.c (.bool false)))]
def qbpw : IC := zr [zi 7 zaN]
def qbr5 : IC := zr [zm 30 0, zi 31 (.call (.c (.fn 96 [] [])) [((.t 30), .id)]), zm 29 31, zv 32 (.ext (.t 29) 0), zv 33 (.ext (.t 29) 1), zn (.st 5 zN (.t 7) (.t 32)), zm 6 33]
def qbur : IC := zr [zm 34 6]
def q8s : IC := zr [zv 35 (.fad (.t 5) 4), zv 36 (.ld false 1 (.t 35)), zv 37 (.ld true 5 (.t 7)), zv 38 (.bsl 5 [((.t 37), zN)]), zi 39 (.app 5 zZ 64 (.sl 5) (.t 36) (.t 38)), zv 40 (.fad (.t 5) 4), zn (.st 1 (.sl 5) (.t 40) (.t 39))]
def qbrp : IC := (.seq (.seq qbqh (.cond (.t 28) .skip (.exit 0))) (.block 1 (.seq qbpw (.seq qbr5 (.seq qbur (.cond (.t 34) q8s .skip))))))
def qba1 : IC := zr [zm 41 0, zi 42 (.call (.c (.fn 98 [] [])) [((.t 41), .id)])]
def qbae : IC := zr [zm 43 6, zv 44 (.un .not (.t 43))]
def q47 : IC := zr [zv 45 (.bld [(.int .i64 0), (.int .i64 0), (.int .i64 0), (.str []), .nils] []), zn (.st 5 zN (.t 2) (.t 45)), zv 3 zf]
def q62 : IC := zr [zv 46 (.ld true 5 (.t 5)), zn (.st 5 zN (.t 2) (.t 46)), zv 3 (.mov (.c (.bool true)))]
def k0ds : IC := (.seq qbry (.seq (.seq qbhk (.cond (.t 10) (.seq qbfj .ret) .skip)) (.seq qbgb (.seq qbvn (.seq (.block 0 (.loop qbrp)) (.seq qba1 (.seq (.seq qbae (.cond (.t 44) (.seq q47 .ret) .skip)) (.seq q62 .ret))))))))
@[go_sem] def s0ds : List (RV × Co) := [(.c true 5 2, zN), (.t 3, .id)]
theorem c0ds : cFun Tryz.prog 54 = some (47, k0ds, s0ds) := by kernel_rfl

def qbme : IC := zr [zv 2 (.mov (zc 0)), zv 3 (.mov (zc 0))]
def qbfu : IC := zr [zm 5 0, zv 6 (.bin .eql .ptr (.t 5) (.c .nilp)), zm 4 6]
def qbnn : IC := zr [zv 2 (.mov (zc 0)), zv 3 (.mov (zc 1))]
def qbsd : IC := zr [zm 8 0, zv 9 (.nck (.t 8)), zv 10 (.fad (.t 9) 7), zv 11 (.ld false 1 (.t 10)), zv 12 (.bin .neq .no (.t 11) (zc 0)), zm 7 12]
def qbvw : IC := .drw [zp (zm 13 0), zp (zv 14 (.nck (.t 13))), zp (zv 15 (.fad (.t 14) 8)), zp (zv 16 (.ld false 1 (.t 15))), zp (zm 17 0), zp (zv 18 (.nck (.t 17))), zp (zv 19 (.fad (.t 18) 7)), zp (zv 20 (.ld false 1 (.t 19))), zp (zm 2 16), zp (zm 3 20)]
def qbo2 : IC := .drw [zp (zm 22 0), zp (zv 23 (.nck (.t 22))), zp (zv 24 (.fad (.t 23) 5)), zp (zv 25 (.ld false 1 (.t 24))), zp (zm 26 0), zp (zv 27 (.nck (.t 26))), zp (zv 28 (.fad (.t 27) 0)), zp (zv 29 (.ld false 1 (.t 28))), zp (zv 30 (.len false (.t 29))), zp (zv 31 (.bin .lss .no (.t 25) (.t 30))), zp (zm 21 31)]
def qblk : IC := .drw [zp (zm 32 0), zp (zv 33 (.nck (.t 32))), zp (zv 34 (.fad (.t 33) 0)), zp (zv 35 (.ld false 1 (.t 34))), zp (zm 36 0), zp (zv 37 (.nck (.t 36))), zp (zv 38 (.fad (.t 37) 5)), zp (zv 39 (.ld false 1 (.t 38))), zp (zv 40 (.iad 4 (.t 35) (.t 39))), zp (zv 41 (.fad (.t 40) 1)), zp (zv 42 (.ld false 1 (.t 41))), zp (zm 2 42), zp (zv 3 (.mov (zc 5)))]
def qbhx : IC := zr [zm 43 0, zv 44 (.nck (.t 43)), zv 45 (.fad (.t 44) 1), zv 46 (.fad (.t 45) 1), zv 47 (.ld false 1 (.t 46)), zm 2 47, zv 3 (.mov (zc 0))]
def k0eq : IC := (.seq qbme (.seq (.block 0 (.seq qbfu (.cond (.t 4) (.seq qbnn .ret) (.seq qbsd (.cond (.t 7) (.seq qbvw .ret) (.seq qbo2 (.cond (.t 21) (.seq qblk .ret) .skip))))))) (.seq qbhx .ret)))
@[go_sem] def s0eq : List (RV × Co) := [(.t 2, .id), (.t 3, .id)]
theorem c0eq : cFun Tryz.prog 55 = some (48, k0eq, s0eq) := by kernel_rfl

def qbl2 : IC := zr [zi 1 (.box (.t 0)), zv 2 (.mov (zc 0))]
def qbih : IC := zr [zi 3 (.alo [(.int .i64 0)]), zn (.st 1 .id (.t 3) (zc 0))]
def qbol : IC := zr [zv 5 (.ld true 5 (.t 1)), zi 6 (.call (.c (.fn 88 [] [])) [((.t 5), zN), ((zc 1), .id)])]
def qbny : IC := zr [zv 9 (.ld false 1 (.t 3)), zm 10 4, zv 11 (.mm true (.t 9) (.t 10)), zn (.st 1 .id (.t 3) (.t 11))]
def q3u : IC := (.block 1 qbny)
def q4x : IC := zr [zm 4 7]
def qbh1 : IC := zr [zv 12 (.ld false 1 (.t 3)), zm 2 12]
def k0ca : IC := (.seq qbl2 (.seq qbih (.seq (.seq qbol (.block 0 (.rng (.t 6) [7, 8] q4x q3u))) (.seq qbh1 .ret))))
@[go_sem] def s0ca : List (RV × Co) := [(.t 2, .id)]
theorem c0ca : cFun Tryz.prog 56 = some (13, k0ca, s0ca) := by kernel_rfl

def qbd6 : IC := zr [zi 1 (.box (.t 0)), zv 2 zf]
def qbse : IC := zr [zv 5 (.fad (.t 1) 4), zv 6 (.ld false 1 (.t 5)), zv 7 (.len false (.t 6)), zm 3 7]
def qbor : IC := zr [zv 8 (.fad (.t 1) 0), zv 9 (.ld false 1 (.t 8))]
def qbut : IC := zr [zv 11 (.bin .eql .no (.t 9) (zc 21)), zm 10 11]
def qbm9 : IC := zr [zv 12 (.ld true 5 (.t 1)), zi 13 (.call (.c (.fn 89 [] [])) [((.t 12), zN), ((.c (.fn 90 [] [])), .id)]), zm 14 13, zw 14 true 15 (.mov (.t 3)), zw 14 true 16 (.bin .eql .no (.t 15) (zc 0)), zv 17 (.pick (.t 14) (.t 16) (.c (.bool false))), zm 2 17]
def qbga : IC := zr [zv 19 (.bin .eql .no (.t 9) (zc 22)), zm 18 19]
def qbwh : IC := zr [zv 20 (.ld true 5 (.t 1)), zi 21 (.call (.c (.fn 89 [] [])) [((.t 20), zN), ((.c (.fn 91 [] [])), .id)]), zm 22 21, zw 22 true 23 (.mov (.t 3)), zw 22 true 24 (.bin .eql .no (.t 23) (zc 0)), zv 25 (.pick (.t 22) (.t 24) (.c (.bool false))), zm 2 25]
def qbrn : IC := zr [zv 27 (.bin .eql .no (.t 9) (zc 23)), zm 26 27]
def qbjh : IC := zr [zv 28 (.fad (.t 1) 3), zv 29 (.ld false 1 (.t 28)), zv 30 (.bin .eql .no (.t 29) (.c (.str []))), zm 31 30, zw 31 true 32 (.fad (.t 1) 2), zw 31 true 33 (.ld false 1 (.t 32)), zw 31 true 34 (.bin .geq .no (.t 33) (zc 0)), zv 35 (.pick (.t 31) (.t 34) (.c (.bool false))), zm 36 35, zw 36 true 37 (.mov (.t 3)), zw 36 true 38 (.bin .eql .no (.t 37) (zc 0)), zv 39 (.pick (.t 36) (.t 38) (.c (.bool false))), zm 2 39]
def qbd3 : IC := zr [zv 41 (.bin .eql .no (.t 9) (zc 24)), zm 40 41]
def q8n : IC := zr [zv 42 (.ld true 5 (.t 1)), zi 43 (.call (.c (.fn 67 [] [])) [((.t 42), zN)]), zm 44 43, zw 44 true 45 (.mov (.t 3)), zw 44 true 46 (.bin .eql .no (.t 45) (zc 2)), zv 47 (.pick (.t 44) (.t 46) (.c (.bool false))), zm 48 47, zw 48 true 49 (.fad (.t 1) 4), zw 48 true 50 (.ld false 1 (.t 49)), ⟨some (48, true), some 51, .call (.c (.fn 68 [] [])) [((.t 50), (.sl 5)), ((.c (.fn 57 [] [])), .id)]⟩, zv 52 (.pick (.t 48) (.t 51) (.c (.bool false))), zm 2 52]
def q6g : IC := zr [zv 54 (.bin .eql .no (.t 9) (zc 25)), zm 53 54]
def q6q : IC := zr [zv 55 (.ld true 5 (.t 1)), zi 56 (.call (.c (.fn 89 [] [])) [((.t 55), zN), ((.c (.fn 90 [] [])), .id)]), zm 57 56, zw 57 true 58 (.mov (.t 3)), zw 57 true 59 (.bin .eql .no (.t 58) (zc 1)), zv 60 (.pick (.t 57) (.t 59) (.c (.bool false))), zm 61 60, zw 61 true 62 (.fad (.t 1) 4), zw 61 true 63 (.ld false 1 (.t 62)), zw 61 true 64 (.iad 5 (.t 63) (zc 0)), zw 61 true 65 (.ld true 5 (.t 64)), ⟨some (61, true), some 66, .call (.c (.fn 57 [] [])) [((.t 65), zN)]⟩, zv 67 (.pick (.t 61) (.t 66) (.c (.bool false))), zm 2 67]
def q7z : IC := zr [zv 69 (.bin .eql .no (.t 9) (zc 26)), zm 68 69]
def q9z : IC := zr [zv 4 (.mov (.c (.fn 99 [] [])))]
def q7c : IC := zr [zv 70 (.ld true 5 (.t 1)), zi 71 (.call (.c (.fn 67 [] [])) [((.t 70), zN)]), zm 72 71, zw 72 true 73 (.mov (.t 3)), zw 72 true 74 (.bin .geq .no (.t 73) (zc 2)), zv 75 (.pick (.t 72) (.t 74) (.c (.bool false))), zm 76 75, zw 76 true 77 (.fad (.t 1) 4), zw 76 true 78 (.ld false 1 (.t 77)), zw 76 true 79 (.mov (.t 3)), zw 76 true 80 (.bin .sub .no (.t 79) (zc 1)), zw 76 true 81 (.slv 5 (.t 78) none (some (.t 80)) none), zw 76 true 82 (.mov (.t 4)), ⟨some (76, true), some 83, .call (.c (.fn 68 [] [])) [((.t 81), (.sl 5)), ((.t 82), .id)]⟩, zv 84 (.pick (.t 76) (.t 83) (.c (.bool false))), zm 85 84, zw 85 true 86 (.fad (.t 1) 4), zw 85 true 87 (.ld false 1 (.t 86)), zw 85 true 88 (.mov (.t 3)), zw 85 true 89 (.bin .sub .no (.t 88) (zc 1)), zw 85 true 90 (.iad 5 (.t 87) (.t 89)), zw 85 true 91 (.ld true 5 (.t 90)), ⟨some (85, true), some 92, .call (.c (.fn 57 [] [])) [((.t 91), zN)]⟩, zv 93 (.pick (.t 85) (.t 92) (.c (.bool false))), zm 2 93]
def q5i : IC := zr [zv 95 (.bin .eql .no (.t 9) (zc 27)), zm 94 95]
def q96 : IC := zr [zv 96 (.ld true 5 (.t 1)), zi 97 (.call (.c (.fn 67 [] [])) [((.t 96), zN)]), zm 98 97, zw 98 true 99 (.mov (.t 3)), zw 98 true 100 (.bin .geq .no (.t 99) (zc 2)), zv 101 (.pick (.t 98) (.t 100) (.c (.bool false))), zm 102 101, zw 102 true 103 (.fad (.t 1) 4), zw 102 true 104 (.ld false 1 (.t 103)), zw 102 true 105 (.iad 5 (.t 104) (zc 0)), zw 102 true 106 (.ld true 5 (.t 105)), ⟨some (102, true), some 107, .call (.c (.fn 57 [] [])) [((.t 106), zN)]⟩, zv 108 (.pick (.t 102) (.t 107) (.c (.bool false))), zm 109 108, zw 109 true 110 (.fad (.t 1) 4), zw 109 true 111 (.ld false 1 (.t 110)), zw 109 true 112 (.slv 5 (.t 111) (some (zc 1)) none none), ⟨some (109, true), some 113, .call (.c (.fn 68 [] [])) [((.t 112), (.sl 5)), ((.c (.fn 102 [] [])), .id)]⟩, zv 114 (.pick (.t 109) (.t 113) (.c (.bool false))), zm 2 114]
def q9f : IC := zr [zv 116 (.bin .eql .no (.t 9) (zc 28)), zm 115 116]
def q9i : IC := zr [zv 117 (.ld true 5 (.t 1)), zi 118 (.call (.c (.fn 67 [] [])) [((.t 117), zN)]), zm 119 118, zw 119 true 120 (.mov (.t 3)), zw 119 true 121 (.bin .eql .no (.t 120) (zc 3)), zv 122 (.pick (.t 119) (.t 121) (.c (.bool false))), zm 123 122, zw 123 true 124 (.fad (.t 1) 4), zw 123 true 125 (.ld false 1 (.t 124)), ⟨some (123, true), some 126, .call (.c (.fn 68 [] [])) [((.t 125), (.sl 5)), ((.c (.fn 57 [] [])), .id)]⟩, zv 127 (.pick (.t 123) (.t 126) (.c (.bool false))), zm 2 127]
def qbbn : IC := zr [zv 2 zf]
def k0bk : IC := (.seq qbd6 (.seq qbse (.seq (.seq qbor (.block 0 (.seq qbut (.cond (.t 10) (.seq qbm9 .ret) (.seq qbga (.cond (.t 18) (.seq qbwh .ret) (.seq qbrn (.cond (.t 26) (.seq qbjh .ret) (.seq qbd3 (.cond (.t 40) (.seq q8n .ret) (.seq q6g (.cond (.t 53) (.seq q6q .ret) (.seq q7z (.cond (.t 68) (.seq q9z (.seq q7c .ret)) (.seq q5i (.cond (.t 94) (.seq q96 .ret) (.seq q9f (.cond (.t 115) (.seq q9i .ret) .skip)))))))))))))))))) (.seq qbbn .ret))))
@[go_sem] def s0bk : List (RV × Co) := [(.t 2, .id)]
theorem c0bk : cFun Tryz.prog 57 = some (128, k0bk, s0bk) := by kernel_rfl

def qbo9 : IC := zr [zi 2 zaN, zv 3 zf]
def qbuf : IC := zr [zm 6 0, zi 7 (.call (.c (.fn 95 [] [])) [((.t 6), .id)]), zv 8 (.un .not (.t 7))]
def qbi7 : IC := zr [zv 9 (.bld [(.int .i64 0), (.int .i64 0), (.int .i64 0), (.str []), .nils] []), zn (.st 5 zN (.t 2) (.t 9)), zv 3 zf]
def qbsw : IC := zr [zm 11 0, zi 12 (.call (.c (.fn 103 [] [])) [((.t 11), .id)]), zm 10 12, zv 13 (.ext (.t 10) 0), zv 14 (.ext (.t 10) 1), zi 4 zaN, zn (.st 5 zN (.t 4) (.t 13)), zm 5 14]
def qbgs : IC := zr [zm 15 0, zi 16 (.call (.c (.fn 98 [] [])) [((.t 15), .id)])]
def qbja : IC := zr [zm 17 5, zv 18 (.un .not (.t 17))]
def qbov : IC := zr [zv 19 (.bld [(.int .i64 0), (.int .i64 0), (.int .i64 0), (.str []), .nils] []), zn (.st 5 zN (.t 2) (.t 19)), zv 3 zf]
def qbpm : IC := zr [zv 20 (.ld true 5 (.t 4)), zn (.st 5 zN (.t 2) (.t 20)), zv 3 (.mov (.c (.bool true)))]
def k0db : IC := (.seq qbo9 (.seq (.seq qbuf (.cond (.t 8) (.seq qbi7 .ret) .skip)) (.seq qbsw (.seq qbgs (.seq (.seq qbja (.cond (.t 18) (.seq qbov .ret) .skip)) (.seq qbpm .ret))))))
@[go_sem] def s0db : List (RV × Co) := [(.c true 5 2, zN), (.t 3, .id)]
theorem c0db : cFun Tryz.prog 58 = some (21, k0db, s0db) := by kernel_rfl

def qbkl : IC := zr [zi 2 zaT]
def qbpf : IC := zr [zm 4 0, zi 5 (.call (.c (.fn 109 [] [])) [((.t 4), .id)]), zm 3 5]
def qbtj : IC := zr [zv 6 (.bld [(.int .i64 0), (.int .i64 0), (.int .i64 0), (.str [])] []), zn (.st 4 .id (.t 2) (.t 6))]
def qbq1 : IC := .drw [zp (zm 8 0), zp (zv 9 (.nck (.t 8))), zp (zv 10 (.fad (.t 9) 5)), zp (zv 11 (.ld false 1 (.t 10))), zp (zm 12 0), zp (zv 13 (.nck (.t 12))), zp (zv 14 (.fad (.t 13) 0)), zp (zv 15 (.ld false 1 (.t 14))), zp (zv 16 (.len false (.t 15))), zp (zv 17 (.bin .lss .no (.t 11) (.t 16))), zp (zm 7 17)]
def qbd5 : IC := .drw [zp (zm 18 0), zp (zv 19 (.nck (.t 18))), zp (zv 20 (.fad (.t 19) 0)), zp (zv 21 (.ld false 1 (.t 20))), zp (zm 22 0), zp (zv 23 (.nck (.t 22))), zp (zv 24 (.fad (.t 23) 5)), zp (zv 25 (.ld false 1 (.t 24))), zp (zv 26 (.iad 4 (.t 21) (.t 25))), zp (zv 27 (.ld true 4 (.t 26))), (zn (.st 4 .id (.t 2) (.t 27)), [])]
def qbw6 : IC := zr [zm 28 0, zv 29 (.nck (.t 28)), zv 30 (.fad (.t 29) 1), zv 31 (.ld true 4 (.t 30)), zn (.st 4 .id (.t 2) (.t 31))]
def k0eh : IC := (.seq qbkl (.seq (.block 0 (.seq qbpf (.cond (.t 3) (.seq qbtj .ret) (.seq qbq1 (.cond (.t 7) (.seq qbd5 .ret) .skip))))) (.seq qbw6 .ret)))
@[go_sem] def s0eh : List (RV × Co) := [(.c true 4 2, .id)]
theorem c0eh : cFun Tryz.prog 66 = some (32, k0eh, s0eh) := by kernel_rfl

def qboh : IC := zr [zi 1 (.box (.t 0)), zv 2 zf]
def qbj5 : IC := zr [zv 3 (.fad (.t 1) 3), zv 4 (.ld false 1 (.t 3)), zv 5 (.bin .eql .no (.t 4) (.c (.str []))), zm 6 5, zw 6 true 7 (.fad (.t 1) 2), zw 6 true 8 (.ld false 1 (.t 7)), zw 6 true 9 (.bin .eql .no (.t 8) (zc 0)), zv 10 (.pick (.t 6) (.t 9) (.c (.bool false))), zm 2 10]
def k0bs : IC := (.seq qboh (.seq qbj5 .ret))
@[go_sem] def s0bs : List (RV × Co) := [(.t 2, .id)]
theorem c0bs : cFun Tryz.prog 67 = some (11, k0bs, s0bs) := by kernel_rfl

def qbj0 : IC := zr [zv 4 zf]
def qbs9 : IC := zr [zm 7 0, zv 8 (.len false (.t 7)), zv 9 (.mov (zc 0))]
def qbiy : IC := zr [zv 10 (.bin .lss .no (.t 9) (.t 8))]
def qbqx : IC := zr [zv 11 (.iad 5 (.t 7) (.t 9)), zv 12 (.ld true 5 (.t 11)), zi 6 zaN, zn (.st 5 zN (.t 6) (.t 12))]
def qbey : IC := zr [zm 13 1, zv 14 (.ld true 5 (.t 6)), zi 15 (.call (.t 13) [((.t 14), zN)]), zv 16 (.un .not (.t 15))]
def qbsj : IC := zr [zv 4 zf]
def qbo7 : IC := zr [zv 17 (.bin .add .no (.t 9) (zc 1)), zm 9 17]
def qbgz : IC := (.seq qbiy (.seq (.cond (.t 10) .skip (.exit 0)) (.seq (.block 1 (.seq qbqx (.seq qbey (.cond (.t 16) (.seq qbsj .ret) .skip)))) qbo7)))
def qbkc : IC := zr [zv 4 (.mov (.c (.bool true)))]
def k0bu : IC := (.seq qbj0 (.seq (.seq qbs9 (.block 0 (.loop qbgz))) (.seq qbkc .ret)))
@[go_sem] def s0bu : List (RV × Co) := [(.t 4, .id)]
theorem c0bu : cFun Tryz.prog 68 = some (18, k0bu, s0bu) := by kernel_rfl

def qbi2 : IC := zr [zi 1 (.box (.t 0)), zv 2 zf]
def qbhi : IC := zr [zv 6 (.fad (.t 1) 0), zv 7 (.ld false 1 (.t 6))]
def qble : IC := zr [zv 9 (.bin .eql .no (.t 7) (zc 31)), zm 8 9]
def qbj4 : IC := zr [zv 10 (.ld true 5 (.t 1)), zi 11 (.call (.c (.fn 100 [] [])) [((.t 10), zN)]), zm 2 11]
def qbg6 : IC := zr [zv 13 (.bin .eql .no (.t 7) (zc 32)), zm 12 13]
def qbj7 : IC := zr [zv 14 (.ld true 5 (.t 1)), zi 15 (.call (.c (.fn 101 [] [])) [((.t 14), zN)]), zm 2 15]
def qbl4 : IC := zr [zv 16 (.fad (.t 1) 3), zv 17 (.ld false 1 (.t 16)), zi 18 (.call (.c (.fn 91 [] [])) [((.t 17), .id)]), zv 19 (.un .not (.t 18)), zm 20 19, zw 20 false 21 (.fad (.t 1) 2), zw 20 false 22 (.ld false 1 (.t 21)), zw 20 false 23 (.bin .lss .no (.t 22) (zc 0)), zv 24 (.pick (.t 20) (.c (.bool true)) (.t 23)), zm 25 24, zw 25 false 26 (.fad (.t 1) 2), zw 25 false 27 (.ld false 1 (.t 26)), zw 25 false 28 (.fad (.t 1) 4), zw 25 false 29 (.ld false 1 (.t 28)), zw 25 false 30 (.len false (.t 29)), zw 25 false 31 (.bin .geq .no (.t 27) (.t 30)), zv 32 (.pick (.t 25) (.c (.bool true)) (.t 31))]
def qbue : IC := zr [zv 2 zf]
def qbpl : IC := .drw [zp (zv 33 (.fad (.t 1) 4)), zp (zv 34 (.ld false 1 (.t 33))), zp (zv 35 (.fad (.t 1) 2)), zp (zv 36 (.ld false 1 (.t 35))), zp (zv 37 (.slv 5 (.t 34) none (some (.t 36)) none)), zp (zv 38 (.fad (.t 1) 4)), zp (zv 39 (.ld false 1 (.t 38))), zp (zv 40 (.fad (.t 1) 2)), zp (zv 41 (.ld false 1 (.t 40))), zp (zv 42 (.iad 5 (.t 39) (.t 41))), zp (zv 43 (.ld true 5 (.t 42))), zp (zv 44 (.fad (.t 1) 4)), zp (zv 45 (.ld false 1 (.t 44))), zp (zv 46 (.fad (.t 1) 2)), zp (zv 47 (.ld false 1 (.t 46))), zp (zv 48 (.bin .add .no (.t 47) (zc 1))), zp (zv 49 (.slv 5 (.t 45) (some (.t 48)) none none)), (zi 4 zaN, [1, 3, 4, 6, 8, 10, 12, 14, 16]), zp (zm 3 37), (zn (.st 5 zN (.t 4) (.t 43)), [12, 14, 16]), zp (zm 5 49)]
def qblu : IC := zr [zv 50 (.fad (.t 1) 0), zv 51 (.ld false 1 (.t 50))]
def q7p : IC := zr [zv 53 (.bin .eql .no (.t 51) (zc 33)), zm 52 53]
def q5c : IC := zr [zm 54 3, zi 55 (.call (.c (.fn 68 [] [])) [((.t 54), (.sl 5)), ((.c (.fn 110 [] [])), .id)]), zm 56 55, zw 56 true 57 (.ld true 5 (.t 4)), ⟨some (56, true), some 58, .call (.c (.fn 111 [] [])) [((.t 57), zN)]⟩, zv 59 (.pick (.t 56) (.t 58) (.c (.bool false))), zm 60 59, zw 60 true 61 (.mov (.t 5)), ⟨some (60, true), some 62, .call (.c (.fn 68 [] [])) [((.t 61), (.sl 5)), ((.c (.fn 111 [] [])), .id)]⟩, zv 63 (.pick (.t 60) (.t 62) (.c (.bool false))), zm 2 63]
def q9l : IC := zr [zv 65 (.bin .eql .no (.t 51) (zc 35)), zm 64 65]
def q9d : IC := zr [zm 66 3, zi 67 (.call (.c (.fn 68 [] [])) [((.t 66), (.sl 5)), ((.c (.fn 112 [] [])), .id)]), zm 68 67, zw 68 true 69 (.ld true 5 (.t 4)), ⟨some (68, true), some 70, .call (.c (.fn 110 [] [])) [((.t 69), zN)]⟩, zv 71 (.pick (.t 68) (.t 70) (.c (.bool false))), zm 72 71, zw 72 true 73 (.mov (.t 5)), ⟨some (72, true), some 74, .call (.c (.fn 68 [] [])) [((.t 73), (.sl 5)), ((.c (.fn 101 [] [])), .id)]⟩, zv 75 (.pick (.t 72) (.t 74) (.c (.bool false))), zm 2 75]
def q7a : IC := zr [zv 77 (.bin .eql .no (.t 51) (zc 36)), zm 76 77]
def qba9 : IC := zr [zm 78 3, zi 79 (.call (.c (.fn 68 [] [])) [((.t 78), (.sl 5)), ((.c (.fn 112 [] [])), .id)]), zm 80 79, zw 80 true 81 (.ld true 5 (.t 4)), ⟨some (80, true), some 82, .call (.c (.fn 48 [] [])) [((.t 81), zN)]⟩, zv 83 (.pick (.t 80) (.t 82) (.c (.bool false))), zm 84 83, zw 84 true 85 (.mov (.t 5)), ⟨some (84, true), some 86, .call (.c (.fn 68 [] [])) [((.t 85), (.sl 5)), ((.c (.fn 100 [] [])), .id)]⟩, zv 87 (.pick (.t 84) (.t 86) (.c (.bool false))), zm 2 87]
def q89 : IC := zr [zv 2 zf]
def k0be : IC := (.seq qbi2 (.seq (.seq qbhi (.block 0 (.seq qble (.cond (.t 8) (.seq qbj4 .ret) (.seq qbg6 (.cond (.t 12) (.seq qbj7 .ret) .skip)))))) (.seq (.seq qbl4 (.cond (.t 32) (.seq qbue .ret) .skip)) (.seq qbpl (.seq (.seq qblu (.block 1 (.seq q7p (.cond (.t 52) (.seq q5c .ret) (.seq q9l (.cond (.t 64) (.seq q9d .ret) (.seq q7a (.cond (.t 76) (.seq qba9 .ret) .skip)))))))) (.seq q89 .ret))))))
@[go_sem] def s0be : List (RV × Co) := [(.t 2, .id)]
theorem c0be : cFun Tryz.prog 69 = some (88, k0be, s0be) := by kernel_rfl

def qbyp : IC := zr [zv 2 (.mov (.c (.str [])))]
def qbzp : IC := zr [zm 4 0, zi 5 (.call (.c (.fn 44 [] [])) [((.t 4), (.sl 5)), ((.c (.str [44, 32])), .id), ((.c (.fn 118 [] [])), .id)]), zm 3 5]
def qb3o : IC := zr [zm 6 0, zv 7 (.len false (.t 6))]
def qb3w : IC := zr [zv 9 (.bin .eql .no (.t 7) (zc 0)), zm 8 9]
def qb05 : IC := zr [zv 2 (.mov (.c (.str [])))]
def qbzc : IC := zr [zv 11 (.bin .eql .no (.t 7) (zc 1)), zm 10 11]
def qb2l : IC := zr [zm 12 3, zv 13 (.bin .add .no (.t 12) (.c (.str [32, 61, 62, 32]))), zm 2 13]
def qb16 : IC := zr [zm 14 3, zv 15 (.bin .add .no (.c (.str [40])) (.t 14)), zv 16 (.bin .add .no (.t 15) (.c (.str [41, 32, 61, 62, 32]))), zm 2 16]
def k0y : IC := (.seq qbyp (.seq qbzp (.seq (.seq qb3o (.block 0 (.seq qb3w (.cond (.t 8) (.seq qb05 .ret) (.seq qbzc (.cond (.t 10) (.seq qb2l .ret) .skip)))))) (.seq qb16 .ret))))
@[go_sem] def s0y : List (RV × Co) := [(.t 2, .id)]
theorem c0y : cFun Tryz.prog 74 = some (17, k0y, s0y) := by kernel_rfl

def qbq9 : IC := zr [zv 2 (.mov (.c (.str [])))]
def qbpy : IC := zr [zm 5 0, zi 6 (.call (.c (.fn 124 [] [])) [((.t 5), .id)]), zm 3 6]
def qbe2 : IC := zr [zv 4 (.mov (.c (.str [])))]
def qbhm : IC := zr [zm 7 3, zv 8 (.bin .gtr .no (.t 7) (.c (.int .u64 9)))]
def qbi3 : IC := zr [zm 9 3, zv 10 (.bin .rem .no (.t 9) (.c (.int .u64 10))), zv 11 (.bin .add .no (.c (.int .u64 48)) (.t 10)), zv 12 (.cvi .u8 (.t 11)), zv 13 (.bsl 1 [((.t 12), .id)]), zv 14 (.cbs (.t 13)), zm 15 4, zv 16 (.bin .add .no (.t 14) (.t 15)), zm 4 16]
def qblt : IC := zr [zm 17 3, zv 18 (.bin .quo .no (.t 17) (.c (.int .u64 10))), zm 3 18]
def qbv6 : IC := (.seq (.seq qbhm (.cond (.t 8) .skip (.exit 0))) (.block 1 (.seq qbi3 qblt)))
def qbj9 : IC := zr [zm 19 3, zv 20 (.bin .add .no (.c (.int .u64 48)) (.t 19)), zv 21 (.cvi .u8 (.t 20)), zv 22 (.bsl 1 [((.t 21), .id)]), zv 23 (.cbs (.t 22)), zm 24 4, zv 25 (.bin .add .no (.t 23) (.t 24)), zm 4 25]
def qbn9 : IC := zr [zm 26 0, zv 27 (.bin .lss .no (.t 26) (zc 0))]
def q8v : IC := zr [zm 28 4, zv 29 (.bin .add .no (.c (.str [45])) (.t 28)), zm 2 29]
def q59 : IC := zr [zm 30 4, zm 2 30]
def k0ck : IC := (.seq qbq9 (.seq qbpy (.seq qbe2 (.seq (.block 0 (.loop qbv6)) (.seq qbj9 (.seq (.seq qbn9 (.cond (.t 27) (.seq q8v .ret) .skip)) (.seq q59 .ret)))))))
@[go_sem] def s0ck : List (RV × Co) := [(.t 2, .id)]
theorem c0ck : cFun Tryz.prog 78 = some (31, k0ck, s0ck) := by kernel_rfl

def qb0z : IC := zr [zi 1 (.box (.t 0)), zv 2 (.mov (.c (.str [])))]
def qb13 : IC := zr [zv 4 (.fad (.t 1) 0), zv 5 (.ld true 5 (.t 4)), zi 3 zaN, zn (.st 5 zN (.t 3) (.t 5))]
def qb3t : IC := zr [zv 6 (.fad (.t 3) 0), zv 7 (.ld false 1 (.t 6)), zv 8 (.bin .neq .no (.t 7) (zc 1)), zm 9 8, zw 9 true 10 (.fad (.t 3) 3), zw 9 true 11 (.ld false 1 (.t 10)), zw 9 true 12 (.bin .eql .no (.t 11) (.c (.str [45, 62]))), zv 13 (.pick (.t 9) (.t 12) (.c (.bool false)))]
def qbyy : IC := .drw [zp (zv 14 (.fad (.t 3) 4)), zp (zv 15 (.ld false 1 (.t 14))), zp (zv 16 (.iad 5 (.t 15) (zc 0))), zp (zv 17 (.ld true 5 (.t 16))), (zv 18 (.bld [(.int .i64 0), (.int .i64 0), (.int .i64 0), (.str []), .nils] [(0, 5, (.t 17))]), []), (zv 19 (.mki 37 (.t 18) zN), []), zp (zv 20 (.fad (.t 3) 4)), zp (zv 21 (.ld false 1 (.t 20))), zp (zv 22 (.iad 5 (.t 21) (zc 0))), zp (zv 23 (.fad (.t 22) 3)), zp (zv 24 (.ld false 1 (.t 23))), (zv 25 (.bin .neq .no (.t 24) (.c (.str [45, 62]))), []), (zi 26 (.call (.c (.fn 131 [] [])) [((.t 19), .id), ((.t 25), .id)]), []), (zv 27 (.bin .add .no (.t 26) (.c (.str [32, 45, 62, 32]))), []), zp (zv 28 (.fad (.t 3) 4)), (zv 29 (.ld false 1 (.t 28)), [12]), zp (zv 30 (.iad 5 (.t 29) (zc 1))), (zv 31 (.ld true 5 (.t 30)), [12]), (zv 32 (.bld [(.int .i64 0), (.int .i64 0), (.int .i64 0), (.str []), .nils] [(0, 5, (.t 31))]), []), (zv 33 (.mki 37 (.t 32) zN), [12]), (zi 34 (.call (.c (.fn 46 [] [])) [((.t 33), .id)]), []), zp (zv 35 (.bin .add .no (.t 27) (.t 34))), zp (zm 2 35)]
def qb3b : IC := .drw [zp (zv 36 (.fad (.t 3) 3)), zp (zv 37 (.ld false 1 (.t 36))), zp (zv 38 (.fad (.t 3) 4)), zp (zv 39 (.ld false 1 (.t 38))), (zi 40 (.call (.c (.fn 44 [] [])) [((.t 39), (.sl 5)), ((.c (.str [])), .id), ((.c (.fn 119 [] [])), .id)]), [1]), zp (zv 41 (.bin .add .no (.t 37) (.t 40))), zp (zm 2 41)]
def k0w : IC := (.seq qb0z (.seq qb13 (.seq (.seq qb3t (.cond (.t 13) (.seq qbyy .ret) .skip)) (.seq qb3b .ret))))
@[go_sem] def s0w : List (RV × Co) := [(.t 2, .id)]
theorem c0w : cFun Tryz.prog 84 = some (42, k0w, s0w) := by kernel_rfl

def qblv : IC := zr [zi 1 (.box (.t 0)), zv 2 (.mov (.c (.str [])))]
def qbrz : IC := zr [zv 3 (.fad (.t 1) 0), zv 4 (.fad (.t 3) 0), zv 5 (.ld false 1 (.t 4))]
def qbrv : IC := zr [zv 7 (.bin .eql .no (.t 5) (zc 12)), zm 6 7]
def qbwy : IC := zr [zv 2 (.mov (.c (.str [95])))]
def qbt8 : IC := zr [zv 9 (.bin .eql .no (.t 5) (zc 13)), zm 8 9]
def qbrm : IC := zr [zv 10 (.fad (.t 1) 0), zv 11 (.fad (.t 10) 2), zv 12 (.ld false 1 (.t 11)), zi 13 (.call (.c (.fn 132 [] [])) [((.t 12), .id)]), zm 2 13]
def qbph : IC := .drw [zp (zv 14 (.fad (.t 1) 0)), zp (zv 15 (.fad (.t 14) 3)), zp (zv 16 (.ld false 1 (.t 15))), zp (zv 17 (.fad (.t 1) 0)), zp (zv 18 (.fad (.t 17) 4)), zp (zv 19 (.ld false 1 (.t 18))), (zi 20 (.call (.c (.fn 44 [] [])) [((.t 19), (.sl 5)), ((.c (.str [])), .id), ((.c (.fn 133 [] [])), .id)]), [2]), zp (zv 21 (.bin .add .no (.t 16) (.t 20))), zp (zm 2 21)]
def k0bb : IC := (.seq qblv (.seq (.seq qbrz (.block 0 (.seq qbrv (.cond (.t 6) (.seq qbwy .ret) (.seq qbt8 (.cond (.t 8) (.seq qbrm .ret) .skip)))))) (.seq qbph .ret)))
@[go_sem] def s0bb : List (RV × Co) := [(.t 2, .id)]
theorem c0bb : cFun Tryz.prog 85 = some (22, k0bb, s0bb) := by kernel_rfl

def qb2j : IC := zr [zi 1 (.box (.t 0)), zv 2 (.mov (.c (.str [])))]
def qbxz : IC := .drw [zp (zv 8 (.fad (.t 1) 0)), zp (zv 9 (.ld true 5 (.t 8))), zp (zv 10 (.fad (.t 1) 0)), zp (zv 11 (.fad (.t 10) 4)), zp (zv 12 (.ld false 1 (.t 11))), zp (zv 13 (.len false (.t 12))), zp (zv 14 (.bin .sub .no (.t 13) (zc 1))), (zi 3 zaN, [1, 4]), (zn (.st 5 zN (.t 3) (.t 9)), [4]), zp (zm 4 14)]
def qbz8 : IC := zr [zv 15 (.mfn 135 [] [(.t 3)]), zm 5 15]
def qbxn : IC := zr [zv 16 (.fad (.t 3) 0), zv 17 (.ld false 1 (.t 16))]
def qby8 : IC := zr [zv 19 (.bin .eql .no (.t 17) (zc 23)), zm 18 19]
def qb0u : IC := zr [zv 20 (.fad (.t 3) 2), zv 21 (.ld false 1 (.t 20)), zi 22 (.call (.c (.fn 132 [] [])) [((.t 21), .id)]), zm 2 22]
def qbyc : IC := zr [zv 24 (.bin .eql .no (.t 17) (zc 24)), zm 23 24]
def qs1 : IC := .drw [zp (zv 25 (.fad (.t 3) 4)), zp (zv 26 (.ld false 1 (.t 25))), zp (zv 27 (.iad 5 (.t 26) (zc 0))), zp (zv 28 (.ld true 5 (.t 27))), zp (zv 29 (.fad (.t 3) 4)), zp (zv 30 (.ld false 1 (.t 29))), zp (zv 31 (.iad 5 (.t 30) (zc 1))), zp (zv 32 (.ld true 5 (.t 31))), (zi 6 zaN, [1, 3, 5, 7]), (zi 7 zaN, [1, 3, 5, 7, 8]), (zn (.st 5 zN (.t 6) (.t 28)), [5, 7]), (zn (.st 5 zN (.t 7) (.t 32)), [])]
def qb3f : IC := .drw [zp (zv 33 (.ld true 5 (.t 6))), (zv 34 (.bld [(.int .i64 0), (.int .i64 0), (.int .i64 0), (.str []), .nils] [(0, 5, (.t 33))]), []), (zv 35 (.mki 39 (.t 34) zN), []), zp (zv 36 (.ld true 5 (.t 6))), (zi 37 (.call (.c (.fn 134 [] [])) [((.t 36), zN)]), [0, 2]), zp (zm 38 37), zp (zw 38 false 39 (.fad (.t 6) 0)), zp (zw 38 false 40 (.ld false 1 (.t 39))), zp (zw 38 false 41 (.bin .eql .no (.t 40) (zc 24))), zp (zv 42 (.pick (.t 38) (.c (.bool true)) (.t 41))), (zi 43 (.call (.c (.fn 131 [] [])) [((.t 35), .id), ((.t 42), .id)]), []), (zv 44 (.bin .add .no (.t 43) (.c (.str [32]))), []), (zv 45 (.ld true 5 (.t 7)), [4, 10]), (zv 46 (.bld [(.int .i64 0), (.int .i64 0), (.int .i64 0), (.str []), .nils] [(0, 5, (.t 45))]), []), (zv 47 (.mki 39 (.t 46) zN), [4, 10]), (zv 48 (.ld true 5 (.t 7)), [4, 10]), (zi 49 (.call (.c (.fn 134 [] [])) [((.t 48), zN)]), [12, 14]), (zi 50 (.call (.c (.fn 131 [] [])) [((.t 47), .id), ((.t 49), .id)]), []), zp (zv 51 (.bin .add .no (.t 44) (.t 50))), zp (zm 2 51)]
def qbz2 : IC := zr [zv 53 (.bin .eql .no (.t 17) (zc 25)), zm 52 53]
def qbkr : IC := .drw [zp (zv 54 (.fad (.t 3) 3)), zp (zv 55 (.ld false 1 (.t 54))), (zv 56 (.bin .add .no (.c (.str [92, 32])) (.t 55)), []), (zv 57 (.bin .add .no (.t 56) (.c (.str [32, 45, 62, 32]))), []), zp (zm 58 5), (zi 59 (.call (.t 58) [((zc 0), .id)]), [1]), zp (zv 60 (.bin .add .no (.t 57) (.t 59))), zp (zm 2 60)]
def qbvb : IC := zr [zv 62 (.bin .eql .no (.t 17) (zc 26)), zm 61 62]
def qbk4 : IC := zr [zv 63 (.fad (.t 3) 4), zv 64 (.ld false 1 (.t 63)), zm 65 4, zv 66 (.slv 5 (.t 64) none (some (.t 65)) none), zi 67 (.call (.c (.fn 136 [] [])) [((.t 66), (.sl 5))]), zv 68 (.bin .add .no (.c (.str [108, 101, 116, 32])) (.t 67)), zv 69 (.bin .add .no (.t 68) (.c (.str [32, 105, 110, 32]))), zm 70 5, zm 71 4, zi 72 (.call (.t 70) [((.t 71), .id)]), zv 73 (.bin .add .no (.t 69) (.t 72)), zm 2 73]
def qbup : IC := zr [zv 75 (.bin .eql .no (.t 17) (zc 27)), zm 74 75]
def qbft : IC := .drw [zp (zm 76 5), (zi 77 (.call (.t 76) [((zc 0), .id)]), []), (zv 78 (.bin .add .no (.c (.str [99, 97, 115, 101, 32])) (.t 77)), []), (zv 79 (.bin .add .no (.t 78) (.c (.str [32, 111, 102, 32]))), []), zp (zv 80 (.fad (.t 3) 4)), (zv 81 (.ld false 1 (.t 80)), [1]), (zv 82 (.slv 5 (.t 81) (some (zc 1)) none none), [1]), (zi 83 (.call (.c (.fn 44 [] [])) [((.t 82), (.sl 5)), ((.c (.str [59, 32])), .id), ((.c (.fn 138 [] [])), .id)]), []), (zi 84 (.call (.c (.fn 137 [] [])) [((.t 83), .id)]), []), zp (zv 85 (.bin .add .no (.t 79) (.t 84))), zp (zm 2 85)]
def qbvj : IC := zr [zv 87 (.bin .eql .no (.t 17) (zc 28)), zm 86 87]
def qbq3 : IC := zr [zm 88 5, zi 89 (.call (.t 88) [((zc 0), .id)]), zv 90 (.bin .add .no (.c (.str [105, 102, 32])) (.t 89)), zv 91 (.bin .add .no (.t 90) (.c (.str [32, 116, 104, 101, 110, 32]))), zm 92 5, zi 93 (.call (.t 92) [((zc 1), .id)]), zv 94 (.bin .add .no (.t 91) (.t 93)), zv 95 (.bin .add .no (.t 94) (.c (.str [32, 101, 108, 115, 101, 32]))), zm 96 5, zi 97 (.call (.t 96) [((zc 2), .id)]), zv 98 (.bin .add .no (.t 95) (.t 97)), zm 2 98]
def qbon : IC := zr [zv 99 (.fad (.t 3) 3), zv 100 (.ld false 1 (.t 99)), zm 2 100]
def k0l : IC := (.seq qb2j (.seq qbxz (.seq qbz8 (.seq (.seq qbxn (.block 0 (.seq qby8 (.cond (.t 18) (.seq qb0u .ret) (.seq qbyc (.cond (.t 23) (.seq qs1 (.seq qb3f .ret)) (.seq qbz2 (.cond (.t 52) (.seq qbkr .ret) (.seq qbvb (.cond (.t 61) (.seq qbk4 .ret) (.seq qbup (.cond (.t 74) (.seq qbft .ret) (.seq qbvj (.cond (.t 86) (.seq qbq3 .ret) .skip)))))))))))))) (.seq qbon .ret)))))
@[go_sem] def s0l : List (RV × Co) := [(.t 2, .id)]
theorem c0l : cFun Tryz.prog 86 = some (101, k0l, s0l) := by kernel_rfl

def qbx7 : IC := zr [zi 1 (.box (.t 0)), zv 2 (.mov (.c (.str [])))]
def qb1a : IC := zr [zv 7 (.fad (.t 1) 0), zv 8 (.ld true 5 (.t 7)), zi 3 zaN, zn (.st 5 zN (.t 3) (.t 8))]
def qbzl : IC := zr [zv 9 (.fad (.t 3) 0), zv 10 (.ld false 1 (.t 9))]
def qbzv : IC := zr [zv 12 (.bin .eql .no (.t 10) (zc 31)), zm 11 12]
def qbx5 : IC := .drw [zp (zv 13 (.fad (.t 3) 3)), zp (zv 14 (.ld false 1 (.t 13))), (zv 15 (.bin .add .no (.t 14) (.c (.str [32, 61, 32]))), []), zp (zv 16 (.fad (.t 3) 4)), zp (zv 17 (.ld false 1 (.t 16))), zp (zv 18 (.iad 5 (.t 17) (zc 0))), zp (zv 19 (.ld true 5 (.t 18))), (zv 20 (.bld [(.int .i64 0), (.int .i64 0), (.int .i64 0), (.str []), .nils] [(0, 5, (.t 19))]), []), (zv 21 (.mki 39 (.t 20) zN), []), (zi 22 (.call (.c (.fn 46 [] [])) [((.t 21), .id)]), [1]), zp (zv 23 (.bin .add .no (.t 15) (.t 22))), zp (zm 2 23)]
def qb1i : IC := zr [zv 25 (.bin .eql .no (.t 10) (zc 32)), zm 24 25]
def qb2w : IC := .drw [zp (zv 26 (.fad (.t 3) 3)), zp (zv 27 (.ld false 1 (.t 26))), (zv 28 (.bin .add .no (.t 27) (.c (.str [32, 58, 58, 32]))), []), zp (zv 29 (.fad (.t 3) 4)), zp (zv 30 (.ld false 1 (.t 29))), zp (zv 31 (.iad 5 (.t 30) (zc 0))), zp (zv 32 (.ld true 5 (.t 31))), (zi 33 (.call (.c (.fn 36 [] [])) [((.t 32), zN)]), [1]), zp (zv 34 (.bin .add .no (.t 28) (.t 33))), zp (zm 2 34)]
def qbzy : IC := .drw [zp (zv 35 (.fad (.t 3) 4)), zp (zv 36 (.ld false 1 (.t 35))), zp (zv 37 (.fad (.t 3) 2)), zp (zv 38 (.ld false 1 (.t 37))), zp (zv 39 (.slv 5 (.t 36) none (some (.t 38)) none)), zp (zv 40 (.fad (.t 3) 4)), zp (zv 41 (.ld false 1 (.t 40))), zp (zv 42 (.fad (.t 3) 2)), zp (zv 43 (.ld false 1 (.t 42))), zp (zv 44 (.slv 5 (.t 41) (some (.t 43)) none none)), zp (zm 4 39), zp (zm 5 44)]
def qb0d : IC := zr [zv 45 (.fad (.t 3) 0), zv 46 (.ld false 1 (.t 45))]
def qbzd : IC := zr [zv 48 (.bin .eql .no (.t 46) (zc 33)), zm 47 48]
def qbty : IC := zr [zm 49 5, zi 50 (.call (.c (.fn 44 [] [])) [((.t 49), (.sl 5)), ((.c (.str [32, 124, 32])), .id), ((.c (.fn 139 [] [])), .id)]), zm 6 50]
def qbwi : IC := .drw [zp (zv 51 (.fad (.t 3) 3)), zp (zv 52 (.ld false 1 (.t 51))), (zv 53 (.bin .add .no (.c (.str [100, 97, 116, 97, 32])) (.t 52)), []), zp (zm 54 4), (zi 55 (.call (.c (.fn 44 [] [])) [((.t 54), (.sl 5)), ((.c (.str [])), .id), ((.c (.fn 119 [] [])), .id)]), [1]), zp (zv 56 (.bin .add .no (.t 53) (.t 55))), (zv 57 (.bin .add .no (.t 56) (.c (.str [32, 61, 32]))), []), zp (zm 58 6), zp (zv 59 (.bin .add .no (.t 57) (.t 58))), zp (zm 2 59)]
def qbs1 : IC := zr [zv 61 (.bin .eql .no (.t 46) (zc 35)), zm 60 61]
def qbsk : IC := .drw [zp (zm 62 4), (zi 63 (.call (.c (.fn 74 [] [])) [((.t 62), (.sl 5))]), []), (zv 64 (.bin .add .no (.c (.str [99, 108, 97, 115, 115, 32])) (.t 63)), []), zp (zv 65 (.fad (.t 3) 3)), (zv 66 (.ld false 1 (.t 65)), [1]), zp (zv 67 (.bin .add .no (.t 64) (.t 66))), zp (zm 68 5), zp (zv 69 (.iad 5 (.t 68) (zc 0))), (zv 70 (.ld true 5 (.t 69)), [1]), (zi 71 (.call (.c (.fn 119 [] [])) [((.t 70), zN)]), [4]), zp (zv 72 (.bin .add .no (.t 67) (.t 71))), (zv 73 (.bin .add .no (.t 72) (.c (.str [32, 119, 104, 101, 114, 101, 32]))), []), zp (zm 74 5), (zv 75 (.slv 5 (.t 74) (some (zc 1)) none none), [1, 9]), (zi 76 (.call (.c (.fn 136 [] [])) [((.t 75), (.sl 5))]), [4]), zp (zv 77 (.bin .add .no (.t 73) (.t 76))), zp (zm 2 77)]
def qbva : IC := .drw [zp (zm 78 4), (zi 79 (.call (.c (.fn 74 [] [])) [((.t 78), (.sl 5))]), []), (zv 80 (.bin .add .no (.c (.str [105, 110, 115, 116, 97, 110, 99, 101, 32])) (.t 79)), []), zp (zv 81 (.fad (.t 3) 3)), (zv 82 (.ld false 1 (.t 81)), [1]), zp (zv 83 (.bin .add .no (.t 80) (.t 82))), zp (zm 84 5), zp (zv 85 (.iad 5 (.t 84) (zc 0))), (zv 86 (.ld true 5 (.t 85)), [1]), (zi 87 (.call (.c (.fn 119 [] [])) [((.t 86), zN)]), [4]), zp (zv 88 (.bin .add .no (.t 83) (.t 87))), (zv 89 (.bin .add .no (.t 88) (.c (.str [32, 119, 104, 101, 114, 101, 32]))), []), zp (zm 90 5), (zv 91 (.slv 5 (.t 90) (some (zc 1)) none none), [1, 9]), (zi 92 (.call (.c (.fn 136 [] [])) [((.t 91), (.sl 5))]), [4]), zp (zv 93 (.bin .add .no (.t 89) (.t 92))), zp (zm 2 93)]
def k0j : IC := (.seq qbx7 (.seq qb1a (.seq (.seq qbzl (.block 0 (.seq qbzv (.cond (.t 11) (.seq qbx5 .ret) (.seq qb1i (.cond (.t 24) (.seq qb2w .ret) .skip)))))) (.seq qbzy (.seq (.seq qb0d (.block 1 (.seq qbzd (.cond (.t 47) (.seq qbty (.seq qbwi .ret)) (.seq qbs1 (.cond (.t 60) (.seq qbsk .ret) .skip)))))) (.seq qbva .ret))))))
@[go_sem] def s0j : List (RV × Co) := [(.t 2, .id)]
theorem c0j : cFun Tryz.prog 87 = some (94, k0j, s0j) := by kernel_rfl

def qbtt : IC := zr [zi 2 (.box (.t 0)), zi 3 (.box (.t 1)), zv 4 (.mov (.c .nilf))]
def qbjf : IC := zr [zv 5 (.mfn 140 [] [(.t 2), (.t 3)]), zm 4 5]
def k0bz : IC := (.seq qbtt (.seq qbjf .ret))
@[go_sem] def s0bz : List (RV × Co) := [(.t 4, .id)]
theorem c0bz : cFun Tryz.prog 88 = some (6, k0bz, s0bz) := by kernel_rfl

def qbvg : IC := zr [zi 2 (.box (.t 0)), zv 4 zf]
def qbwr : IC := zr [zv 5 (.fad (.t 2) 2), zv 6 (.ld false 1 (.t 5)), zv 7 (.bin .eql .no (.t 6) (zc 0)), zm 8 7, zw 8 true 9 (.mov (.t 1)), zw 8 true 10 (.fad (.t 2) 3), zw 8 true 11 (.ld false 1 (.t 10)), ⟨some (8, true), some 12, .call (.t 9) [((.t 11), .id)]⟩, zv 13 (.pick (.t 8) (.t 12) (.c (.bool false))), zm 4 13]
def k0bt : IC := (.seq qbvg (.seq qbwr .ret))
@[go_sem] def s0bt : List (RV × Co) := [(.t 4, .id)]
theorem c0bt : cFun Tryz.prog 89 = some (14, k0bt, s0bt) := by kernel_rfl

def qbg0 : IC := zr [zv 2 zf]
def qbws : IC := zr [zm 3 0, zv 4 (.bin .neq .no (.t 3) (.c (.str []))), zm 5 4, zw 5 true 6 (.mov (.t 0)), zw 5 true 7 (.bin .neq .no (.t 6) (.c (.str [95]))), zv 8 (.pick (.t 5) (.t 7) (.c (.bool false))), zm 9 8, zw 9 true 10 (.mov (.t 0)), zw 9 true 11 (.idx (.t 10) (zc 0)), ⟨some (9, true), some 12, .call (.c (.fn 142 [] [])) [((.t 11), .id)]⟩, zv 13 (.pick (.t 9) (.t 12) (.c (.bool false))), zm 14 13, zw 14 true 15 (.mov (.t 0)), ⟨some (14, true), some 16, .call (.c (.fn 143 [] [])) [((.t 15), .id)]⟩, zv 17 (.pick (.t 14) (.t 16) (.c (.bool false))), zm 18 17, zw 18 true 19 (.mov (.t 0)), ⟨some (18, true), some 20, .call (.c (.fn 144 [] [])) [((.t 19), .id)]⟩, zw 18 true 21 (.un .not (.t 20)), zv 22 (.pick (.t 18) (.t 21) (.c (.bool false))), zm 2 22]
def k0ci : IC := (.seq qbg0 (.seq qbws .ret))
@[go_sem] def s0ci : List (RV × Co) := [(.t 2, .id)]
theorem c0ci : cFun Tryz.prog 90 = some (23, k0ci, s0ci) := by kernel_rfl

def qbu6 : IC := zr [zv 2 zf]
def qbm5 : IC := zr [zm 3 0, zv 4 (.bin .neq .no (.t 3) (.c (.str []))), zm 5 4, zw 5 true 6 (.mov (.t 0)), zw 5 true 7 (.idx (.t 6) (zc 0)), ⟨some (5, true), some 8, .call (.c (.fn 145 [] [])) [((.t 7), .id)]⟩, zv 9 (.pick (.t 5) (.t 8) (.c (.bool false))), zm 10 9, zw 10 true 11 (.mov (.t 0)), ⟨some (10, true), some 12, .call (.c (.fn 143 [] [])) [((.t 11), .id)]⟩, zv 13 (.pick (.t 10) (.t 12) (.c (.bool false))), zm 2 13]
def k0ch : IC := (.seq qbu6 (.seq qbm5 .ret))
@[go_sem] def s0ch : List (RV × Co) := [(.t 2, .id)]
theorem c0ch : cFun Tryz.prog 91 = some (14, k0ch, s0ch) := by kernel_rfl

def qbc9 : IC := zr [zi 2 zaN, zv 3 zf]
def qbnu : IC := zr [zm 8 0, zi 9 (.call (.c (.fn 66 [] [])) [((.t 8), .id)]), zv 10 (.fld false 1 1 (.t 9)), zv 11 (.bld [(.int .i64 0), (.int .i64 0), (.int .i64 0), (.str []), .nils] [(0, 1, (zc 4)), (1, 1, (.t 10))]), zi 4 zaN, zn (.st 5 zN (.t 4) (.t 11))]
def qbh5 : IC := zr [zm 13 0, zi 14 (.call (.c (.fn 146 [] [])) [((.t 13), .id)]), zm 12 14, zv 15 (.ext (.t 12) 0), zv 16 (.ext (.t 12) 1), zm 5 15, zm 6 16]
def qbro : IC := zr [zm 17 6, zv 18 (.un .not (.t 17))]
def qbgk : IC := zr [zv 19 (.bld [(.int .i64 0), (.int .i64 0), (.int .i64 0), (.str []), .nils] []), zn (.st 5 zN (.t 2) (.t 19)), zv 3 zf]
def qbtp : IC := zr [zm 21 0, zi 22 (.call (.c (.fn 93 [] [])) [((.t 21), .id)]), zm 20 22, zv 23 (.ext (.t 20) 0), zv 24 (.ext (.t 20) 1), zi 7 zaN, zn (.st 5 zN (.t 7) (.t 23)), zm 6 24]
def qbri : IC := zr [zm 25 5, zv 26 (.ld true 5 (.t 7)), zv 27 (.bsl 5 [((.t 26), zN)]), zi 28 (.app 5 zZ 64 (.sl 5) (.t 25) (.t 27)), zv 29 (.fad (.t 4) 4), zn (.st 1 (.sl 5) (.t 29) (.t 28))]
def qbgg : IC := zr [zm 30 0, zv 31 (.ld true 5 (.t 4)), zm 32 6, zi 33 (.call (.c (.fn 147 [] [])) [((.t 30), .id), ((.t 31), zN), ((.t 32), .id)]), zv 34 (.ext (.t 33) 0), zv 35 (.ext (.t 33) 1), zn (.st 5 zN (.t 2) (.t 34)), zm 3 35]
def k0dw : IC := (.seq qbc9 (.seq qbnu (.seq qbh5 (.seq (.seq qbro (.cond (.t 18) (.seq qbgk .ret) .skip)) (.seq qbtp (.seq qbri (.seq qbgg .ret)))))))
@[go_sem] def s0dw : List (RV × Co) := [(.c true 5 2, zN), (.t 3, .id)]
theorem c0dw : cFun Tryz.prog 92 = some (36, k0dw, s0dw) := by kernel_rfl

def qbc6 : IC := zr [zi 2 zaN, zv 3 zf]
def qbf5 : IC := zr [zm 8 0, zi 9 (.call (.c (.fn 95 [] [])) [((.t 8), .id)]), zv 10 (.un .not (.t 9))]
def qbgu : IC := zr [zv 11 (.bld [(.int .i64 0), (.int .i64 0), (.int .i64 0), (.str []), .nils] []), zn (.st 5 zN (.t 2) (.t 11)), zv 3 zf]
def qbk3 : IC := zr [zm 13 0, zi 14 (.call (.c (.fn 148 [] [])) [((.t 13), .id)]), zm 12 14, zv 15 (.ext (.t 12) 0), zv 16 (.ext (.t 12) 1), zi 4 zaN, zn (.st 5 zN (.t 4) (.t 15)), zm 5 16]
def qbqu : IC := zr [zm 17 5, zm 18 17, zw 18 true 19 (.mov (.t 0)), ⟨some (18, true), some 20, .call (.c (.fn 105 [] [])) [((.t 19), .id), ((.c (.str [45, 62])), .id)]⟩, zv 21 (.pick (.t 18) (.t 20) (.c (.bool false)))]
def qbxa : IC := zr [zm 23 0, zi 24 (.call (.c (.fn 93 [] [])) [((.t 23), .id)]), zm 22 24, zv 25 (.ext (.t 22) 0), zv 26 (.ext (.t 22) 1), zi 6 zaN, zn (.st 5 zN (.t 6) (.t 25)), zm 7 26]
def qbvv : IC := zr [zv 27 (.fad (.t 4) 1), zv 28 (.ld false 1 (.t 27)), zv 29 (.ld true 5 (.t 4)), zv 30 (.ld true 5 (.t 6)), zv 31 (.bsl 5 [((.t 29), zN), ((.t 30), zN)]), zv 32 (.bld [(.int .i64 0), (.int .i64 0), (.int .i64 0), (.str []), .nils] [(0, 1, (zc 2)), (1, 1, (.t 28)), (3, 1, (.c (.str [45, 62]))), (4, 1, (.t 31))]), zm 33 7, zn (.st 5 zN (.t 4) (.t 32)), zm 5 33]
def qbo1 : IC := zr [zm 34 0, zi 35 (.call (.c (.fn 98 [] [])) [((.t 34), .id)])]
def qbil : IC := zr [zm 36 0, zv 37 (.ld true 5 (.t 4)), zm 38 5, zi 39 (.call (.c (.fn 147 [] [])) [((.t 36), .id), ((.t 37), zN), ((.t 38), .id)]), zv 40 (.ext (.t 39) 0), zv 41 (.ext (.t 39) 1), zn (.st 5 zN (.t 2) (.t 40)), zm 3 41]
def k0ee : IC := (.seq qbc6 (.seq (.seq qbf5 (.cond (.t 10) (.seq qbgu .ret) .skip)) (.seq qbk3 (.seq (.seq qbqu (.cond (.t 21) (.seq qbxa qbvv) .skip)) (.seq qbo1 (.seq qbil .ret))))))
@[go_sem] def s0ee : List (RV × Co) := [(.c true 5 2, zN), (.t 3, .id)]
theorem c0ee : cFun Tryz.prog 93 = some (42, k0ee, s0ee) := by kernel_rfl

def qbkd : IC := zr [zi 1 (.box (.t 0)), zv 2 (.mov (.c .nilf))]
def qbu1 : IC := zr [zv 3 (.mfn 149 [] [(.t 1)]), zm 2 3]
def k0cn : IC := (.seq qbkd (.seq qbu1 .ret))
@[go_sem] def s0cn : List (RV × Co) := [(.t 2, .id)]
theorem c0cn : cFun Tryz.prog 94 = some (4, k0cn, s0cn) := by kernel_rfl

def qbwc : IC := zr [zv 2 zf]
def qbu4 : IC := zr [zm 3 0, zi 4 (.call (.c (.fn 109 [] [])) [((.t 3), .id)]), zm 5 4, zw 5 false 6 (.mov (.t 0)), zw 5 false 7 (.nck (.t 6)), zw 5 false 8 (.fad (.t 7) 6), zw 5 false 9 (.ld false 1 (.t 8)), zw 5 false 10 (.bin .geq .no (.t 9) (zc 200)), zv 11 (.pick (.t 5) (.c (.bool true)) (.t 10))]
def qbmr : IC := zr [zm 12 0, zi 13 (.call (.c (.fn 152 [] [])) [((.t 12), .id), ((zc 2), .id)]), zm 2 13]
def qbiw : IC := zr [zm 14 0, zv 15 (.nck (.t 14)), zv 16 (.fad (.t 15) 6), zv 17 (.ld false 1 (.t 16)), zv 18 (.bin .add .no (.t 17) (zc 1)), zv 19 (.nck (.t 14)), zv 20 (.fad (.t 19) 6), zn (.st 1 .id (.t 20) (.t 18))]
def qbwu : IC := zr [zv 2 (.mov (.c (.bool true)))]
def k0eo : IC := (.seq qbwc (.seq (.seq qbu4 (.cond (.t 11) (.seq qbmr .ret) .skip)) (.seq qbiw (.seq qbwu .ret))))
@[go_sem] def s0eo : List (RV × Co) := [(.t 2, .id)]
theorem c0eo : cFun Tryz.prog 95 = some (21, k0eo, s0eo) := by kernel_rfl

def qbd8 : IC := zr [zi 2 zaN, zv 3 zf]
def qbmq : IC := zr [zm 9 0, zi 10 (.call (.c (.fn 153 [] [])) [((.t 9), .id)]), zm 8 10, zv 11 (.ext (.t 8) 0), zv 12 (.ext (.t 8) 1), zi 4 zaN, zn (.st 5 zN (.t 4) (.t 11)), zm 5 12]
def qbwx : IC := zr [zm 13 5]
def qbk0 : IC := zr [zm 14 0, zi 15 (.call (.c (.fn 154 [] [])) [((.t 14), .id)])]
def qbjv : IC := zr [zv 16 (.ld true 5 (.t 4)), zn (.st 5 zN (.t 2) (.t 16)), zv 3 (.mov (.c (.bool true)))]
def qbtq : IC := zr [zm 17 0, zi 18 (.call (.c (.fn 155 [] [])) [((.t 17), .id), ((.c (.str [40])), .id)]), zv 19 (.un .not (.t 18))]
def qbnv : IC := zr [zv 20 (.bld [(.int .i64 0), (.int .i64 0), (.int .i64 0), (.str []), .nils] []), zm 21 0, zi 22 (.call (.c (.fn 152 [] [])) [((.t 21), .id), ((zc 5), .id)]), zn (.st 5 zN (.t 2) (.t 20)), zm 3 22]
def qbpd : IC := zr [zm 23 0, zi 24 (.call (.c (.fn 95 [] [])) [((.t 23), .id)]), zv 25 (.un .not (.t 24))]
def qbkp : IC := zr [zv 26 (.bld [(.int .i64 0), (.int .i64 0), (.int .i64 0), (.str []), .nils] []), zn (.st 5 zN (.t 2) (.t 26)), zv 3 zf]
def qbr9 : IC := zr [zm 27 0, zi 28 (.call (.c (.fn 154 [] [])) [((.t 27), .id)])]
def q84 : IC := zr [zm 30 0, zi 31 (.call (.c (.fn 54 [] [])) [((.t 30), .id)]), zm 29 31, zv 32 (.ext (.t 29) 0), zv 33 (.ext (.t 29) 1), zi 6 zaN, zn (.st 5 zN (.t 6) (.t 32)), zm 7 33]
def qbai : IC := zr [zm 34 7, zv 35 (.un .not (.t 34)), zm 36 35, zw 36 false 37 (.mov (.t 0)), ⟨some (36, false), some 38, .call (.c (.fn 156 [] [])) [((.t 37), .id), ((.c (.str [41])), .id)]⟩, zw 36 false 39 (.un .not (.t 38)), zv 40 (.pick (.t 36) (.c (.bool true)) (.t 39))]
def q5h : IC := zr [zv 41 (.bld [(.int .i64 0), (.int .i64 0), (.int .i64 0), (.str []), .nils] []), zn (.st 5 zN (.t 2) (.t 41)), zv 3 zf]
def q9x : IC := zr [zm 42 0, zi 43 (.call (.c (.fn 98 [] [])) [((.t 42), .id)])]
def qbbk : IC := zr [zv 44 (.ld true 5 (.t 6)), zn (.st 5 zN (.t 2) (.t 44)), zv 3 (.mov (.c (.bool true)))]
def k0dr : IC := (.seq qbd8 (.seq (.seq qbmq (.seq qbwx (.cond (.t 13) (.seq qbk0 (.seq qbjv .ret)) .skip))) (.seq (.seq qbtq (.cond (.t 19) (.seq qbnv .ret) .skip)) (.seq (.seq qbpd (.cond (.t 25) (.seq qbkp .ret) .skip)) (.seq qbr9 (.seq q84 (.seq (.seq qbai (.cond (.t 40) (.seq q5h .ret) .skip)) (.seq q9x (.seq qbbk .ret)))))))))
@[go_sem] def s0dr : List (RV × Co) := [(.c true 5 2, zN), (.t 3, .id)]
theorem c0dr : cFun Tryz.prog 96 = some (45, k0dr, s0dr) := by kernel_rfl

def qbt2 : IC := zr [zv 2 zf]
def qbka : IC := zr [zm 6 0, zi 7 (.call (.c (.fn 153 [] [])) [((.t 6), .id)]), zm 5 7, zv 8 (.ext (.t 5) 0), zv 9 (.ext (.t 5) 1), zi 3 zaN, zn (.st 5 zN (.t 3) (.t 8)), zm 4 9]
def qbkn : IC := zr [zm 10 4, zm 11 10, zw 11 false 12 (.mov (.t 0)), ⟨some (11, false), some 13, .call (.c (.fn 155 [] [])) [((.t 12), .id), ((.c (.str [40])), .id)]⟩, zv 14 (.pick (.t 11) (.c (.bool true)) (.t 13)), zm 2 14]
def k0dq : IC := (.seq qbt2 (.seq qbka (.seq qbkn .ret)))
@[go_sem] def s0dq : List (RV × Co) := [(.t 2, .id)]
theorem c0dq : cFun Tryz.prog 97 = some (15, k0dq, s0dq) := by kernel_rfl

def qbqa : IC := zr [zm 2 0, zi 3 (.call (.c (.fn 109 [] [])) [((.t 2), .id)]), zv 4 (.un .not (.t 3)), zm 5 4, zw 5 true 6 (.mov (.t 0)), zw 5 true 7 (.nck (.t 6)), zw 5 true 8 (.fad (.t 7) 6), zw 5 true 9 (.ld false 1 (.t 8)), zw 5 true 10 (.bin .gtr .no (.t 9) (zc 0)), zv 11 (.pick (.t 5) (.t 10) (.c (.bool false)))]
def qbw8 : IC := zr [zm 12 0, zv 13 (.nck (.t 12)), zv 14 (.fad (.t 13) 6), zv 15 (.ld false 1 (.t 14)), zv 16 (.bin .sub .no (.t 15) (zc 1)), zv 17 (.nck (.t 12)), zv 18 (.fad (.t 17) 6), zn (.st 1 .id (.t 18) (.t 16))]
def k0ep : IC := (.seq qbqa (.cond (.t 11) qbw8 .skip))
@[go_sem] def s0ep : List (RV × Co) := []
theorem c0ep : cFun Tryz.prog 98 = some (19, k0ep, s0ep) := by kernel_rfl

def qbu3 : IC := zr [zi 1 (.box (.t 0)), zv 2 zf]
def qbnl : IC := zr [zv 3 (.ld true 5 (.t 1)), zi 4 (.call (.c (.fn 100 [] [])) [((.t 3), zN)]), zm 5 4, zw 5 false 6 (.ld true 5 (.t 1)), ⟨some (5, false), some 7, .call (.c (.fn 101 [] [])) [((.t 6), zN)]⟩, zv 8 (.pick (.t 5) (.c (.bool true)) (.t 7)), zm 2 8]
def k0bj : IC := (.seq qbu3 (.seq qbnl .ret))
@[go_sem] def s0bj : List (RV × Co) := [(.t 2, .id)]
theorem c0bj : cFun Tryz.prog 99 = some (9, k0bj, s0bj) := by kernel_rfl

def qbpz : IC := zr [zi 1 (.box (.t 0)), zv 2 zf]
def qbei : IC := zr [zv 3 (.fad (.t 1) 0), zv 4 (.ld false 1 (.t 3)), zv 5 (.bin .eql .no (.t 4) (zc 31)), zm 6 5, zw 6 true 7 (.ld true 5 (.t 1)), ⟨some (6, true), some 8, .call (.c (.fn 89 [] [])) [((.t 7), zN), ((.c (.fn 90 [] [])), .id)]⟩, zv 9 (.pick (.t 6) (.t 8) (.c (.bool false))), zm 10 9, zw 10 true 11 (.fad (.t 1) 4), zw 10 true 12 (.ld false 1 (.t 11)), zw 10 true 13 (.len false (.t 12)), zw 10 true 14 (.bin .eql .no (.t 13) (zc 1)), zv 15 (.pick (.t 10) (.t 14) (.c (.bool false))), zm 16 15, zw 16 true 17 (.fad (.t 1) 4), zw 16 true 18 (.ld false 1 (.t 17)), zw 16 true 19 (.iad 5 (.t 18) (zc 0)), zw 16 true 20 (.ld true 5 (.t 19)), ⟨some (16, true), some 21, .call (.c (.fn 57 [] [])) [((.t 20), zN)]⟩, zv 22 (.pick (.t 16) (.t 21) (.c (.bool false))), zm 2 22]
def k0bl : IC := (.seq qbpz (.seq qbei .ret))
@[go_sem] def s0bl : List (RV × Co) := [(.t 2, .id)]
theorem c0bl : cFun Tryz.prog 100 = some (23, k0bl, s0bl) := by kernel_rfl

def qbdd : IC := zr [zi 1 (.box (.t 0)), zv 2 zf]
def qbfl : IC := zr [zv 3 (.fad (.t 1) 0), zv 4 (.ld false 1 (.t 3)), zv 5 (.bin .eql .no (.t 4) (zc 32)), zm 6 5, zw 6 true 7 (.ld true 5 (.t 1)), ⟨some (6, true), some 8, .call (.c (.fn 89 [] [])) [((.t 7), zN), ((.c (.fn 90 [] [])), .id)]⟩, zv 9 (.pick (.t 6) (.t 8) (.c (.bool false))), zm 10 9, zw 10 true 11 (.fad (.t 1) 4), zw 10 true 12 (.ld false 1 (.t 11)), zw 10 true 13 (.len false (.t 12)), zw 10 true 14 (.bin .eql .no (.t 13) (zc 1)), zv 15 (.pick (.t 10) (.t 14) (.c (.bool false))), zm 16 15, zw 16 true 17 (.fad (.t 1) 4), zw 16 true 18 (.ld false 1 (.t 17)), zw 16 true 19 (.iad 5 (.t 18) (zc 0)), zw 16 true 20 (.ld true 5 (.t 19)), ⟨some (16, true), some 21, .call (.c (.fn 157 [] [])) [((.t 20), zN)]⟩, zv 22 (.pick (.t 16) (.t 21) (.c (.bool false))), zm 2 22]
def k0br : IC := (.seq qbdd (.seq qbfl .ret))
@[go_sem] def s0br : List (RV × Co) := [(.t 2, .id)]
theorem c0br : cFun Tryz.prog 101 = some (23, k0br, s0br) := by kernel_rfl

def qbnm : IC := zr [zi 1 (.box (.t 0)), zv 2 zf]
def qbh9 : IC := zr [zv 3 (.fad (.t 1) 0), zv 4 (.ld false 1 (.t 3)), zv 5 (.bin .eql .no (.t 4) (zc 15)), zm 6 5, zw 6 true 7 (.ld true 5 (.t 1)), ⟨some (6, true), some 8, .call (.c (.fn 67 [] [])) [((.t 7), zN)]⟩, zv 9 (.pick (.t 6) (.t 8) (.c (.bool false))), zm 10 9, zw 10 true 11 (.fad (.t 1) 4), zw 10 true 12 (.ld false 1 (.t 11)), zw 10 true 13 (.len false (.t 12)), zw 10 true 14 (.bin .eql .no (.t 13) (zc 2)), zv 15 (.pick (.t 10) (.t 14) (.c (.bool false))), zm 16 15, zw 16 true 17 (.fad (.t 1) 4), zw 16 true 18 (.ld false 1 (.t 17)), zw 16 true 19 (.iad 5 (.t 18) (zc 0)), zw 16 true 20 (.ld true 5 (.t 19)), ⟨some (16, true), some 21, .call (.c (.fn 51 [] [])) [((.t 20), zN)]⟩, zv 22 (.pick (.t 16) (.t 21) (.c (.bool false))), zm 23 22, zw 23 true 24 (.fad (.t 1) 4), zw 23 true 25 (.ld false 1 (.t 24)), zw 23 true 26 (.iad 5 (.t 25) (zc 1)), zw 23 true 27 (.ld true 5 (.t 26)), ⟨some (23, true), some 28, .call (.c (.fn 57 [] [])) [((.t 27), zN)]⟩, zv 29 (.pick (.t 23) (.t 28) (.c (.bool false))), zm 2 29]
def k0bm : IC := (.seq qbnm (.seq qbh9 .ret))
@[go_sem] def s0bm : List (RV × Co) := [(.t 2, .id)]
theorem c0bm : cFun Tryz.prog 102 = some (30, k0bm, s0bm) := by kernel_rfl

def qbe7 : IC := zr [zi 2 zaN, zv 3 zf]
def qbe3 : IC := zr [zm 5 0, zi 6 (.call (.c (.fn 66 [] [])) [((.t 5), .id)]), zv 7 (.fld false 1 1 (.t 6)), zv 8 (.bld [(.int .i64 0), (.int .i64 0), (.int .i64 0), (.str []), .nils] [(1, 1, (.t 7))]), zi 4 zaN, zn (.st 5 zN (.t 4) (.t 8))]
def qbn5 : IC := zr [zm 10 0, zi 11 (.call (.c (.fn 105 [] [])) [((.t 10), .id), ((.c (.str [92])), .id)]), zm 9 11]
def qbuz : IC := zr [zm 12 0, zi 13 (.call (.c (.fn 66 [] [])) [((.t 12), .id)]), zv 14 (.fld false 1 0 (.t 13)), zv 15 (.bin .neq .no (.t 14) (zc 1))]
def qbfi : IC := .drw [zp (zv 16 (.ld true 5 (.t 4))), zp (zm 17 0), (zi 18 (.call (.c (.fn 152 [] [])) [((.t 17), .id), ((zc 5), .id)]), [0]), (zn (.st 5 zN (.t 2) (.t 16)), []), zp (zm 3 18)]
def qbrt : IC := zr [zm 19 0, zi 20 (.call (.c (.fn 158 [] [])) [((.t 19), .id), ((.c (.str [45, 62])), .id)]), zv 21 (.ext (.t 20) 0), zv 22 (.ext (.t 20) 1), zn (.st 5 zN (.t 2) (.t 21)), zm 3 22]
def qbmz : IC := zr [zm 24 0, zi 25 (.call (.c (.fn 105 [] [])) [((.t 24), .id), ((.c (.str [108, 101, 116])), .id)]), zm 23 25]
def qbd1 : IC := zr [zm 26 0, zv 27 (.ld true 5 (.t 4)), zi 28 (.call (.c (.fn 159 [] [])) [((.t 26), .id), ((.t 27), zN)]), zv 29 (.ext (.t 28) 0), zv 30 (.ext (.t 28) 1), zn (.st 5 zN (.t 2) (.t 29)), zm 3 30]
def qbex : IC := zr [zm 32 0, zi 33 (.call (.c (.fn 105 [] [])) [((.t 32), .id), ((.c (.str [99, 97, 115, 101])), .id)]), zm 31 33]
def qbtv : IC := zr [zm 34 0, zv 35 (.ld true 5 (.t 4)), zi 36 (.call (.c (.fn 160 [] [])) [((.t 34), .id), ((.t 35), zN)]), zv 37 (.ext (.t 36) 0), zv 38 (.ext (.t 36) 1), zn (.st 5 zN (.t 2) (.t 37)), zm 3 38]
def qbay : IC := zr [zm 40 0, zi 41 (.call (.c (.fn 105 [] [])) [((.t 40), .id), ((.c (.str [105, 102])), .id)]), zm 39 41]
def q6z : IC := zr [zm 42 0, zv 43 (.ld true 5 (.t 4)), zi 44 (.call (.c (.fn 161 [] [])) [((.t 42), .id), ((.t 43), zN)]), zv 45 (.ext (.t 44) 0), zv 46 (.ext (.t 44) 1), zn (.st 5 zN (.t 2) (.t 45)), zm 3 46]
def q6k : IC := zr [zm 47 0, zi 48 (.call (.c (.fn 162 [] [])) [((.t 47), .id)]), zv 49 (.ext (.t 48) 0), zv 50 (.ext (.t 48) 1), zn (.st 5 zN (.t 2) (.t 49)), zm 3 50]
def k0dg : IC := (.seq qbe7 (.seq qbe3 (.seq (.block 0 (.seq qbn5 (.cond (.t 9) (.seq (.seq qbuz (.cond (.t 15) (.seq qbfi .ret) .skip)) (.seq qbrt .ret)) (.seq qbmz (.cond (.t 23) (.seq qbd1 .ret) (.seq qbex (.cond (.t 31) (.seq qbtv .ret) (.seq qbay (.cond (.t 39) (.seq q6z .ret) .skip))))))))) (.seq q6k .ret))))
@[go_sem] def s0dg : List (RV × Co) := [(.c true 5 2, zN), (.t 3, .id)]
theorem c0dg : cFun Tryz.prog 103 = some (51, k0dg, s0dg) := by kernel_rfl

def qbtd : IC := zr [zv 4 zf]
def qbeh : IC := zr [zm 5 0, zm 6 1, zi 7 (.call (.c (.fn 155 [] [])) [((.t 5), .id), ((.t 6), .id)]), zv 8 (.un .not (.t 7))]
def qbow : IC := zr [zv 4 zf]
def qbw9 : IC := zr [zm 9 0, zi 10 (.call (.c (.fn 154 [] [])) [((.t 9), .id)])]
def qbsz : IC := zr [zv 4 (.mov (.c (.bool true)))]
def k0em : IC := (.seq qbtd (.seq (.seq qbeh (.cond (.t 8) (.seq qbow .ret) .skip)) (.seq qbw9 (.seq qbsz .ret))))
@[go_sem] def s0em : List (RV × Co) := [(.t 4, .id)]
theorem c0em : cFun Tryz.prog 105 = some (11, k0em, s0em) := by kernel_rfl

def qbli : IC := zr [zi 2 zaN, zv 3 zf]
def qbuq : IC := zr [zm 9 0, zi 10 (.call (.c (.fn 163 [] [])) [((.t 9), .id), ((zc 1), .id)]), zm 8 10, zv 11 (.ext (.t 8) 0), zv 12 (.ext (.t 8) 1), zi 4 zaT, zn (.st 4 .id (.t 4) (.t 11)), zm 5 12]
def qbwt : IC := zr [zm 13 5, zv 14 (.un .not (.t 13))]
def qbjl : IC := zr [zv 15 (.bld [(.int .i64 0), (.int .i64 0), (.int .i64 0), (.str []), .nils] []), zn (.st 5 zN (.t 2) (.t 15)), zv 3 zf]
def qbdo : IC := zr [zv 16 (.fad (.t 4) 1), zv 17 (.ld false 1 (.t 16)), zv 18 (.fad (.t 4) 3), zv 19 (.ld false 1 (.t 18)), zv 20 (.bld [(.int .i64 0), (.int .i64 0), (.int .i64 0), (.str []), .nils] [(0, 1, (zc 31)), (1, 1, (.t 17)), (3, 1, (.t 19))]), zi 6 zaN, zn (.st 5 zN (.t 6) (.t 20))]
def qbp8 : IC := zr [zi 7 zaN]
def qbes : IC := zr [zm 21 0, zi 22 (.call (.c (.fn 105 [] [])) [((.t 21), .id), ((.c (.str [58, 58])), .id)])]
def qbfx : IC := zr [zv 23 (.fad (.t 6) 0), zn (.st 1 .id (.t 23) (zc 32))]
def qbe6 : IC := zr [zm 25 0, zi 26 (.call (.c (.fn 92 [] [])) [((.t 25), .id)]), zm 24 26, zv 27 (.ext (.t 24) 0), zv 28 (.ext (.t 24) 1), zn (.st 5 zN (.t 7) (.t 27)), zm 5 28]
def qbgw : IC := zr [zm 30 0, zi 31 (.call (.c (.fn 158 [] [])) [((.t 30), .id), ((.c (.str [61])), .id)]), zm 29 31, zv 32 (.ext (.t 29) 0), zv 33 (.ext (.t 29) 1), zn (.st 5 zN (.t 7) (.t 32)), zm 5 33]
def qbbw : IC := zr [zm 34 5, zv 35 (.un .not (.t 34))]
def q6d : IC := zr [zv 36 (.bld [(.int .i64 0), (.int .i64 0), (.int .i64 0), (.str []), .nils] []), zn (.st 5 zN (.t 2) (.t 36)), zv 3 zf]
def q8w : IC := zr [zv 37 (.ld true 5 (.t 7)), zv 38 (.bsl 5 [((.t 37), zN)]), zv 39 (.fad (.t 6) 4), zn (.st 1 (.sl 5) (.t 39) (.t 38))]
def q5w : IC := zr [zv 40 (.ld true 5 (.t 6)), zn (.st 5 zN (.t 2) (.t 40)), zv 3 (.mov (.c (.bool true)))]
def k0dl : IC := (.seq qbli (.seq qbuq (.seq (.seq qbwt (.cond (.t 14) (.seq qbjl .ret) .skip)) (.seq qbdo (.seq qbp8 (.seq (.seq qbes (.cond (.t 22) (.seq qbfx qbe6) qbgw)) (.seq (.seq qbbw (.cond (.t 35) (.seq q6d .ret) .skip)) (.seq q8w (.seq q5w .ret)))))))))
@[go_sem] def s0dl : List (RV × Co) := [(.c true 5 2, zN), (.t 3, .id)]
theorem c0dl : cFun Tryz.prog 108 = some (41, k0dl, s0dl) := by kernel_rfl

def qbe0 : IC := zr [zv 2 zf]
def qbfm : IC := zr [zm 3 0, zv 4 (.bin .eql .ptr (.t 3) (.c .nilp)), zm 5 4, zw 5 false 6 (.mov (.t 0)), zw 5 false 7 (.nck (.t 6)), zw 5 false 8 (.fad (.t 7) 7), zw 5 false 9 (.ld false 1 (.t 8)), zw 5 false 10 (.bin .neq .no (.t 9) (zc 0)), zv 11 (.pick (.t 5) (.c (.bool true)) (.t 10)), zm 2 11]
def k0eg : IC := (.seq qbe0 (.seq qbfm .ret))
@[go_sem] def s0eg : List (RV × Co) := [(.t 2, .id)]
theorem c0eg : cFun Tryz.prog 109 = some (12, k0eg, s0eg) := by kernel_rfl

def qbky : IC := zr [zi 1 (.box (.t 0)), zv 2 zf]
def qbfg : IC := zr [zv 3 (.fad (.t 1) 0), zv 4 (.ld false 1 (.t 3)), zv 5 (.bin .eql .no (.t 4) (zc 1)), zm 6 5, zw 6 true 7 (.ld true 5 (.t 1)), ⟨some (6, true), some 8, .call (.c (.fn 48 [] [])) [((.t 7), zN)]⟩, zv 9 (.pick (.t 6) (.t 8) (.c (.bool false))), zm 2 9]
def k0bc : IC := (.seq qbky (.seq qbfg .ret))
@[go_sem] def s0bc : List (RV × Co) := [(.t 2, .id)]
theorem c0bc : cFun Tryz.prog 110 = some (10, k0bc, s0bc) := by kernel_rfl

def qbuh : IC := zr [zi 1 (.box (.t 0)), zv 2 zf]
def qbmv : IC := zr [zv 3 (.fad (.t 1) 0), zv 4 (.ld false 1 (.t 3)), zv 5 (.bin .eql .no (.t 4) (zc 34)), zm 6 5, zw 6 true 7 (.ld true 5 (.t 1)), ⟨some (6, true), some 8, .call (.c (.fn 89 [] [])) [((.t 7), zN), ((.c (.fn 91 [] [])), .id)]⟩, zv 9 (.pick (.t 6) (.t 8) (.c (.bool false))), zm 10 9, zw 10 true 11 (.fad (.t 1) 4), zw 10 true 12 (.ld false 1 (.t 11)), ⟨some (10, true), some 13, .call (.c (.fn 68 [] [])) [((.t 12), (.sl 5)), ((.c (.fn 48 [] [])), .id)]⟩, zv 14 (.pick (.t 10) (.t 13) (.c (.bool false))), zm 2 14]
def k0bd : IC := (.seq qbuh (.seq qbmv .ret))
@[go_sem] def s0bd : List (RV × Co) := [(.t 2, .id)]
theorem c0bd : cFun Tryz.prog 111 = some (15, k0bd, s0bd) := by kernel_rfl

def qbdl : IC := zr [zi 1 (.box (.t 0)), zv 2 zf]
def qbtw : IC := zr [zv 3 (.fad (.t 1) 0), zv 4 (.ld false 1 (.t 3)), zv 5 (.bin .eql .no (.t 4) (zc 3)), zm 6 5, zw 6 true 7 (.ld true 5 (.t 1)), ⟨some (6, true), some 8, .call (.c (.fn 89 [] [])) [((.t 7), zN), ((.c (.fn 91 [] [])), .id)]⟩, zv 9 (.pick (.t 6) (.t 8) (.c (.bool false))), zm 10 9, zw 10 true 11 (.fad (.t 1) 4), zw 10 true 12 (.ld false 1 (.t 11)), zw 10 true 13 (.len false (.t 12)), zw 10 true 14 (.bin .eql .no (.t 13) (zc 1)), zv 15 (.pick (.t 10) (.t 14) (.c (.bool false))), zm 16 15, zw 16 true 17 (.fad (.t 1) 4), zw 16 true 18 (.ld false 1 (.t 17)), zw 16 true 19 (.iad 5 (.t 18) (zc 0)), zw 16 true 20 (.ld true 5 (.t 19)), ⟨some (16, true), some 21, .call (.c (.fn 48 [] [])) [((.t 20), zN)]⟩, zv 22 (.pick (.t 16) (.t 21) (.c (.bool false))), zm 2 22]
def k0bp : IC := (.seq qbdl (.seq qbtw .ret))
@[go_sem] def s0bp : List (RV × Co) := [(.t 2, .id)]
theorem c0bp : cFun Tryz.prog 112 = some (23, k0bp, s0bp) := by kernel_rfl

def qbzr : IC := zr [zi 1 (.box (.t 0)), zv 2 (.mov (.c (.str [])))]
def qbzj : IC := .drw [zp (zv 3 (.fad (.t 1) 3)), zp (zv 4 (.ld false 1 (.t 3))), zp (zv 5 (.fad (.t 1) 4)), zp (zv 6 (.ld false 1 (.t 5))), zp (zv 7 (.iad 5 (.t 6) (zc 0))), zp (zv 8 (.ld true 5 (.t 7))), (zi 9 (.call (.c (.fn 119 [] [])) [((.t 8), zN)]), [1]), zp (zv 10 (.bin .add .no (.t 4) (.t 9))), zp (zm 2 10)]
def k0x : IC := (.seq qbzr (.seq qbzj .ret))
@[go_sem] def s0x : List (RV × Co) := [(.t 2, .id)]
theorem c0x : cFun Tryz.prog 118 = some (11, k0x, s0x) := by kernel_rfl

def qb25 : IC := zr [zi 1 (.box (.t 0)), zv 2 (.mov (.c (.str [])))]
def qbxg : IC := .drw [zp (zv 3 (.ld true 5 (.t 1))), (zv 4 (.bld [(.int .i64 0), (.int .i64 0), (.int .i64 0), (.str []), .nils] [(0, 5, (.t 3))]), []), (zv 5 (.mki 37 (.t 4) zN), []), zp (zv 6 (.ld true 5 (.t 1))), (zi 7 (.call (.c (.fn 134 [] [])) [((.t 6), zN)]), [0, 2]), (zi 8 (.call (.c (.fn 131 [] [])) [((.t 5), .id), ((.t 7), .id)]), []), (zv 9 (.bin .add .no (.c (.str [32])) (.t 8)), []), zp (zm 2 9)]
def k0v : IC := (.seq qb25 (.seq qbxg .ret))
@[go_sem] def s0v : List (RV × Co) := [(.t 2, .id)]
theorem c0v : cFun Tryz.prog 119 = some (10, k0v, s0v) := by kernel_rfl

def qbdu : IC := zr [zv 2 (.mov (.c (.int .u64 0)))]
def qbpc : IC := zr [zm 3 0, zv 4 (.bin .lss .no (.t 3) (zc 0))]
def qbqd : IC := zr [zm 5 0, zv 6 (.cvi .u64 (.t 5)), zv 7 (.un .neg (.t 6)), zm 2 7]
def qbit : IC := zr [zm 8 0, zv 9 (.cvi .u64 (.t 8)), zm 2 9]
def k0cj : IC := (.seq qbdu (.seq (.seq qbpc (.cond (.t 4) (.seq qbqd .ret) .skip)) (.seq qbit .ret)))
@[go_sem] def s0cj : List (RV × Co) := [(.t 2, .id)]
theorem c0cj : cFun Tryz.prog 124 = some (10, k0cj, s0cj) := by kernel_rfl

def qb2n : IC := zr [zv 4 (.mov (.c (.str [])))]
def qbye : IC := zr [zm 5 1]
def qb20 : IC := zr [zm 6 0, zi 7 (.call (.c (.fn 46 [] [])) [((.t 6), .id)]), zm 4 7]
def qbzz : IC := zr [zm 8 0, zi 9 (.call (.c (.fn 46 [] [])) [((.t 8), .id)]), zv 10 (.bin .add .no (.c (.str [40])) (.t 9)), zv 11 (.bin .add .no (.t 10) (.c (.str [41]))), zm 4 11]
def k0t : IC := (.seq qb2n (.seq (.seq qbye (.cond (.t 5) (.seq qb20 .ret) .skip)) (.seq qbzz .ret)))
@[go_sem] def s0t : List (RV × Co) := [(.t 4, .id)]
theorem c0t : cFun Tryz.prog 131 = some (12, k0t, s0t) := by kernel_rfl

def qbrb : IC := zr [zv 2 (.mov (.c (.str [])))]
def qbep : IC := zr [zm 6 0, zv 7 (.cvi .u64 (.t 6)), zm 3 7]
def qbpk : IC := zr [zm 8 0, zv 9 (.bin .lss .no (.t 8) (zc 0))]
def qbqs : IC := zr [zm 10 3, zv 11 (.un .neg (.t 10)), zm 3 11]
def qbmw : IC := zr [zi 4 (.alo [(.int .u8 0), (.int .u8 0), (.int .u8 0), (.int .u8 0), (.int .u8 0), (.int .u8 0), (.int .u8 0), (.int .u8 0), (.int .u8 0), (.int .u8 0), (.int .u8 0), (.int .u8 0), (.int .u8 0), (.int .u8 0), (.int .u8 0), (.int .u8 0), (.int .u8 0), (.int .u8 0), (.int .u8 0), (.int .u8 0)])]
def qbqt : IC := zr [zv 5 (.mov (zc 20))]
def qbtz : IC := zr [zm 12 5, zv 13 (.bin .sub .no (.t 12) (zc 1)), zm 5 13]
def qbkm : IC := zr [zm 14 5, zm 15 3, zv 16 (.bin .rem .no (.t 15) (.c (.int .u64 10))), zv 17 (.bin .add .no (.c (.int .u64 48)) (.t 16)), zv 18 (.cvi .u8 (.t 17)), zv 19 (.aad 1 20 (.t 4) (.t 14)), zn (.st 1 .id (.t 19) (.t 18))]
def qbkx : IC := zr [zm 20 3, zv 21 (.bin .quo .no (.t 20) (.c (.int .u64 10))), zm 3 21]
def q57 : IC := zr [zm 22 3, zv 23 (.bin .eql .no (.t 22) (.c (.int .u64 0)))]
def qbg4 : IC := (.block 1 (.seq qbtz (.seq qbkm (.seq qbkx (.seq q57 (.cond (.t 23) (.exit 0) .skip))))))
def q7i : IC := zr [zm 24 0, zv 25 (.bin .lss .no (.t 24) (zc 0))]
def q5u : IC := zr [zm 26 5, zv 27 (.sla 20 (.t 4) (.t 26)), zv 28 (.cbs (.t 27)), zv 29 (.bin .add .no (.c (.str [45])) (.t 28)), zm 2 29]
def qbbp : IC := zr [zm 30 5, zv 31 (.sla 20 (.t 4) (.t 30)), zv 32 (.cbs (.t 31)), zm 2 32]
def k0cl : IC := (.seq qbrb (.seq qbep (.seq (.seq qbpk (.cond (.t 9) qbqs .skip)) (.seq qbmw (.seq qbqt (.seq (.block 0 (.loop qbg4)) (.seq (.seq q7i (.cond (.t 25) (.seq q5u .ret) .skip)) (.seq qbbp .ret))))))))
@[go_sem] def s0cl : List (RV × Co) := [(.t 2, .id)]
theorem c0cl : cFun Tryz.prog 132 = some (33, k0cl, s0cl) := by kernel_rfl

def qbgi : IC := zr [zi 1 (.box (.t 0)), zv 2 (.mov (.c (.str [])))]
def qbin : IC := .drw [zp (zv 3 (.ld true 5 (.t 1))), (zv 4 (.bld [(.int .i64 0), (.int .i64 0), (.int .i64 0), (.str []), .nils] [(0, 5, (.t 3))]), []), (zv 5 (.mki 38 (.t 4) zN), []), zp (zv 6 (.ld true 5 (.t 1))), (zi 7 (.call (.c (.fn 134 [] [])) [((.t 6), zN)]), [0, 2]), (zi 8 (.call (.c (.fn 131 [] [])) [((.t 5), .id), ((.t 7), .id)]), []), (zv 9 (.bin .add .no (.c (.str [32])) (.t 8)), []), zp (zm 2 9)]
def k0ba : IC := (.seq qbgi (.seq qbin .ret))
@[go_sem] def s0ba : List (RV × Co) := [(.t 2, .id)]
theorem c0ba : cFun Tryz.prog 133 = some (10, k0ba, s0ba) := by kernel_rfl

def qb3p : IC := zr [zi 1 (.box (.t 0)), zv 2 zf]
def qby1 : IC := zr [zv 3 (.fad (.t 1) 4), zv 4 (.ld false 1 (.t 3)), zv 5 (.len false (.t 4)), zv 6 (.bin .eql .no (.t 5) (zc 0)), zm 2 6]
def k0s : IC := (.seq qb3p (.seq qby1 .ret))
@[go_sem] def s0s : List (RV × Co) := [(.t 2, .id)]
theorem c0s : cFun Tryz.prog 134 = some (7, k0s, s0s) := by kernel_rfl

def qbyv : IC := zr [zv 3 (.mov (.c (.str [])))]
def qby2 : IC := zr [zv 4 (.fad (.t 1) 4), zv 5 (.ld false 1 (.t 4)), zm 6 0, zv 7 (.iad 5 (.t 5) (.t 6)), zv 8 (.ld true 5 (.t 7)), zv 9 (.bld [(.int .i64 0), (.int .i64 0), (.int .i64 0), (.str []), .nils] [(0, 5, (.t 8))]), zv 10 (.mki 39 (.t 9) zN), zi 11 (.call (.c (.fn 46 [] [])) [((.t 10), .id)]), zm 3 11]
def k0n : IC := (.seq qbyv (.seq qby2 .ret))
@[go_sem] def s0n : List (RV × Co) := [(.t 3, .id)]
theorem c0n : cFun Tryz.prog 135 = some (12, k0n, s0n) := by kernel_rfl

def qbxs : IC := zr [zv 2 (.mov (.c (.str [])))]
def qbxk : IC := zr [zm 3 0, zi 4 (.call (.c (.fn 44 [] [])) [((.t 3), (.sl 5)), ((.c (.str [59, 32])), .id), ((.c (.fn 179 [] [])), .id)]), zi 5 (.call (.c (.fn 137 [] [])) [((.t 4), .id)]), zm 2 5]
def k0p : IC := (.seq qbxs (.seq qbxk .ret))
@[go_sem] def s0p : List (RV × Co) := [(.t 2, .id)]
theorem c0p : cFun Tryz.prog 136 = some (6, k0p, s0p) := by kernel_rfl

def qb0g : IC := zr [zv 2 (.mov (.c (.str [])))]
def qb0q : IC := zr [zm 3 0, zv 4 (.bin .eql .no (.t 3) (.c (.str [])))]
def qby6 : IC := zr [zv 2 (.mov (.c (.str [123, 32, 125])))]
def qb2x : IC := zr [zm 5 0, zv 6 (.bin .add .no (.c (.str [123, 32])) (.t 5)), zv 7 (.bin .add .no (.t 6) (.c (.str [32, 125]))), zm 2 7]
def k0o : IC := (.seq qb0g (.seq (.seq qb0q (.cond (.t 4) (.seq qby6 .ret) .skip)) (.seq qb2x .ret)))
@[go_sem] def s0o : List (RV × Co) := [(.t 2, .id)]
theorem c0o : cFun Tryz.prog 137 = some (8, k0o, s0o) := by kernel_rfl

def qb2b : IC := zr [zi 1 (.box (.t 0)), zv 2 (.mov (.c (.str [])))]
def qb22 : IC := .drw [zp (zv 3 (.fad (.t 1) 4)), zp (zv 4 (.ld false 1 (.t 3))), zp (zv 5 (.iad 5 (.t 4) (zc 0))), zp (zv 6 (.ld true 5 (.t 5))), (zv 7 (.bld [(.int .i64 0), (.int .i64 0), (.int .i64 0), (.str []), .nils] [(0, 5, (.t 6))]), []), (zv 8 (.mki 38 (.t 7) zN), []), (zi 9 (.call (.c (.fn 46 [] [])) [((.t 8), .id)]), []), (zv 10 (.bin .add .no (.t 9) (.c (.str [32, 45, 62, 32]))), []), zp (zv 11 (.fad (.t 1) 4)), (zv 12 (.ld false 1 (.t 11)), [6]), zp (zv 13 (.iad 5 (.t 12) (zc 1))), (zv 14 (.ld true 5 (.t 13)), [6]), (zv 15 (.bld [(.int .i64 0), (.int .i64 0), (.int .i64 0), (.str []), .nils] [(0, 5, (.t 14))]), []), (zv 16 (.mki 39 (.t 15) zN), [6]), (zi 17 (.call (.c (.fn 46 [] [])) [((.t 16), .id)]), []), zp (zv 18 (.bin .add .no (.t 10) (.t 17))), zp (zm 2 18)]
def k0r : IC := (.seq qb2b (.seq qb22 .ret))
@[go_sem] def s0r : List (RV × Co) := [(.t 2, .id)]
theorem c0r : cFun Tryz.prog 138 = some (19, k0r, s0r) := by kernel_rfl

def qbyg : IC := zr [zi 1 (.box (.t 0)), zv 2 (.mov (.c (.str [])))]
def qb2f : IC := zr [zv 3 (.ld true 5 (.t 1)), zv 4 (.bld [(.int .i64 0), (.int .i64 0), (.int .i64 0), (.str []), .nils] [(0, 5, (.t 3))]), zv 5 (.mki 37 (.t 4) zN), zi 6 (.call (.c (.fn 46 [] [])) [((.t 5), .id)]), zm 2 6]
def k0k : IC := (.seq qbyg (.seq qb2f .ret))
@[go_sem] def s0k : List (RV × Co) := [(.t 2, .id)]
theorem c0k : cFun Tryz.prog 139 = some (7, k0k, s0k) := by kernel_rfl

def qbuj : IC := zr [zv 4 (.ld true 5 (.t 1)), zv 5 (.ld false 1 (.t 2)), zm 6 0, zi 7 (.call (.c (.fn 141 [] [])) [((.t 4), zN), ((.t 5), .id), ((.t 6), .id)])]
def k0by : IC := qbuj
@[go_sem] def s0by : List (RV × Co) := []
theorem c0by : cFun Tryz.prog 140 = some (8, k0by, s0by) := by kernel_rfl

def qbi8 : IC := zr [zi 3 (.box (.t 0)), zv 6 zf]
def qbqr : IC := zr [zm 9 2, zm 10 1, zv 11 (.ld true 5 (.t 3)), zi 12 (.call (.t 9) [((.t 10), .id), ((.t 11), zN)]), zv 13 (.un .not (.t 12))]
def qbf1 : IC := zr [zv 6 zf]
def qbtu : IC := zr [zv 14 (.fad (.t 3) 4), zv 15 (.ld false 1 (.t 14)), zv 16 (.len false (.t 15)), zv 17 (.mov (zc 0))]
def qbp3 : IC := zr [zv 18 (.bin .lss .no (.t 17) (.t 16))]
def qbfk : IC := zr [zv 19 (.iad 5 (.t 15) (.t 17)), zv 20 (.ld true 5 (.t 19)), zi 8 zaN, zn (.st 5 zN (.t 8) (.t 20))]
def qbso : IC := zr [zv 21 (.ld true 5 (.t 8)), zm 22 1, zv 23 (.bin .add .no (.t 22) (zc 1)), zm 24 2, zi 25 (.call (.c (.fn 141 [] [])) [((.t 21), zN), ((.t 23), .id), ((.t 24), .id)]), zv 26 (.un .not (.t 25))]
def qbjx : IC := zr [zv 6 zf]
def qbum : IC := zr [zv 27 (.bin .add .no (.t 17) (zc 1)), zm 17 27]
def qbtx : IC := (.seq qbp3 (.seq (.cond (.t 18) .skip (.exit 0)) (.seq (.block 1 (.seq qbfk (.seq qbso (.cond (.t 26) (.seq qbjx .ret) .skip)))) qbum)))
def q99 : IC := zr [zv 6 (.mov (.c (.bool true)))]
def k0bx : IC := (.seq qbi8 (.seq (.seq qbqr (.cond (.t 13) (.seq qbf1 .ret) .skip)) (.seq (.seq qbtu (.block 0 (.loop qbtx))) (.seq q99 .ret))))
@[go_sem] def s0bx : List (RV × Co) := [(.t 6, .id)]
theorem c0bx : cFun Tryz.prog 141 = some (28, k0bx, s0bx) := by kernel_rfl

def qbdn : IC := zr [zv 2 zf]
def qbq8 : IC := zr [zm 3 0, zv 4 (.bin .geq .no (.t 3) (.c (.int .u8 97))), zm 5 4, zw 5 true 6 (.mov (.t 0)), zw 5 true 7 (.bin .leq .no (.t 6) (.c (.int .u8 122))), zv 8 (.pick (.t 5) (.t 7) (.c (.bool false))), zm 9 8, zw 9 false 10 (.mov (.t 0)), zw 9 false 11 (.bin .eql .no (.t 10) (.c (.int .u8 95))), zv 12 (.pick (.t 9) (.c (.bool true)) (.t 11)), zm 2 12]
def k0cd : IC := (.seq qbdn (.seq qbq8 .ret))
@[go_sem] def s0cd : List (RV × Co) := [(.t 2, .id)]
theorem c0cd : cFun Tryz.prog 142 = some (13, k0cd, s0cd) := by kernel_rfl

def qbf4 : IC := zr [zv 2 zf]
def qbrs : IC := zr [zm 5 0, zv 6 (.len true (.t 5)), zv 7 (.mov (zc 0))]
def qboa : IC := zr [zv 8 (.bin .lss .no (.t 7) (.t 6))]
def qbve : IC := zr [zm 9 7, zm 3 9]
def qbwj : IC := zr [zm 10 0, zm 11 3, zv 12 (.idx (.t 10) (.t 11)), zm 4 12]
def qbgv : IC := zr [zm 13 4, zi 14 (.call (.c (.fn 142 [] [])) [((.t 13), .id)]), zv 15 (.un .not (.t 14)), zm 16 15, zw 16 true 17 (.mov (.t 4)), ⟨some (16, true), some 18, .call (.c (.fn 145 [] [])) [((.t 17), .id)]⟩, zw 16 true 19 (.un .not (.t 18)), zv 20 (.pick (.t 16) (.t 19) (.c (.bool false))), zm 21 20, zw 21 true 22 (.mov (.t 4)), zw 21 true 23 (.bin .lss .no (.t 22) (.c (.int .u8 48))), zw 21 true 24 (.mov (.t 23)), zw 24 false 25 (.mov (.t 4)), zw 24 false 26 (.bin .gtr .no (.t 25) (.c (.int .u8 57))), zw 21 true 27 (.pick (.t 24) (.c (.bool true)) (.t 26)), zv 28 (.pick (.t 21) (.t 27) (.c (.bool false))), zm 29 28, zw 29 true 30 (.mov (.t 4)), zw 29 true 31 (.bin .neq .no (.t 30) (.c (.int .u8 39))), zv 32 (.pick (.t 29) (.t 31) (.c (.bool false)))]
def qbez : IC := zr [zv 2 zf]
def qbf0 : IC := zr [zv 33 (.bin .add .no (.t 7) (zc 1)), zm 7 33]
def qbr7 : IC := (.seq qboa (.seq (.cond (.t 8) .skip (.exit 0)) (.seq (.block 1 (.seq qbve (.seq qbwj (.seq qbgv (.cond (.t 32) (.seq qbez .ret) .skip))))) qbf0)))
def qbaw : IC := zr [zv 2 (.mov (.c (.bool true)))]
def k0cf : IC := (.seq qbf4 (.seq (.seq qbrs (.block 0 (.loop qbr7))) (.seq qbaw .ret)))
@[go_sem] def s0cf : List (RV × Co) := [(.t 2, .id)]
theorem c0cf : cFun Tryz.prog 143 = some (34, k0cf, s0cf) := by kernel_rfl

def qbqf : IC := zr [zv 2 zf]
def qbc5 : IC := zr [zv 3 zf]
def qbec : IC := zr [zv 6 (.bld [(.str []), (.str []), (.str []), (.str []), (.str []), (.str []), (.str []), (.str []), (.str []), (.str []), (.str [])] [(0, 1, (.c (.str [100, 97, 116, 97]))), (1, 1, (.c (.str [99, 108, 97, 115, 115]))), (2, 1, (.c (.str [105, 110, 115, 116, 97, 110, 99, 101]))), (3, 1, (.c (.str [119, 104, 101, 114, 101]))), (4, 1, (.c (.str [108, 101, 116]))), (5, 1, (.c (.str [105, 110]))), (6, 1, (.c (.str [99, 97, 115, 101]))), (7, 1, (.c (.str [111, 102]))), (8, 1, (.c (.str [105, 102]))), (9, 1, (.c (.str [116, 104, 101, 110]))), (10, 1, (.c (.str [101, 108, 115, 101])))]), zv 7 (.mov (zc 0))]
def qbmg : IC := zr [zv 8 (.bin .lss .no (.t 7) (zc 11))]
def qbfa : IC := zr [zv 9 (.ida false 1 11 (.t 6) (.t 7)), zm 5 9]
def qbr0 : IC := zr [zm 10 5, zm 11 0, zv 12 (.bin .neq .no (.t 10) (.t 11))]
def qbqz : IC := zr [zv 3 (.mov (.c (.bool true)))]
def qblb : IC := zr [zv 13 (.bin .add .no (.t 7) (zc 1)), zm 7 13]
def qbop : IC := (.seq qbmg (.seq (.cond (.t 8) .skip (.exit 0)) (.seq (.block 1 (.seq qbfa (.seq (.seq qbr0 (.cond (.t 12) (.exit 1) .skip)) (.seq qbqz (.exit 0))))) qblb)))
def qbar : IC := zr [zm 14 3, zm 2 14]
def k0cg : IC := (.seq qbqf (.scope (.seq qbc5 (.seq (.label 0) (.seq (.seq qbec (.block 0 (.loop qbop))) (.seq qbar .ret))))))
@[go_sem] def s0cg : List (RV × Co) := [(.t 2, .id)]
theorem c0cg : cFun Tryz.prog 144 = some (15, k0cg, s0cg) := by kernel_rfl

def qbte : IC := zr [zv 2 zf]
def qbsu : IC := zr [zm 3 0, zv 4 (.bin .geq .no (.t 3) (.c (.int .u8 65))), zm 5 4, zw 5 true 6 (.mov (.t 0)), zw 5 true 7 (.bin .leq .no (.t 6) (.c (.int .u8 90))), zv 8 (.pick (.t 5) (.t 7) (.c (.bool false))), zm 2 8]
def k0ce : IC := (.seq qbte (.seq qbsu .ret))
@[go_sem] def s0ce : List (RV × Co) := [(.t 2, .id)]
theorem c0ce : cFun Tryz.prog 145 = some (9, k0ce, s0ce) := by kernel_rfl

def qbrr : IC := zr [zv 2 (.mov (.c .nils)), zv 3 zf]
def qbn3 : IC := zr [zm 9 0, zi 10 (.call (.c (.fn 180 [] [])) [((.t 9), .id), ((.c (.str [61, 62])), .id)]), zv 11 (.un .not (.t 10))]
def qbsg : IC := zr [zm 12 0, zi 13 (.call (.c (.fn 181 [] [])) [((.t 12), .id)]), zv 14 (.un .not (.t 13)), zv 2 (.mov (.c .nils)), zm 3 14]
def qbld : IC := zr [zv 4 (.mov (.c .nils))]
def qbvq : IC := zr [zm 15 0, zi 16 (.call (.c (.fn 105 [] [])) [((.t 15), .id), ((.c (.str [40])), .id)]), zm 5 16]
def qbrk : IC := zr [zm 17 5, zv 18 (.un .not (.t 17)), zm 19 18, zw 19 false 20 (.mov (.t 0)), ⟨some (19, false), some 21, .call (.c (.fn 155 [] [])) [((.t 20), .id), ((.c (.str [41])), .id)]⟩, zw 19 false 22 (.un .not (.t 21)), zv 23 (.pick (.t 19) (.c (.bool true)) (.t 22)), zm 6 23]
def qbef : IC := zr [zm 24 6]
def qbjo : IC := zr [zm 26 0, zi 27 (.call (.c (.fn 182 [] [])) [((.t 26), .id)]), zm 25 27, zv 28 (.ext (.t 25) 0), zv 29 (.ext (.t 25) 1), zi 7 zaN, zn (.st 5 zN (.t 7) (.t 28)), zm 8 29]
def qbp5 : IC := zr [zm 30 8, zv 31 (.un .not (.t 30))]
def qba0 : IC := zr [zv 2 (.mov (.c .nils)), zv 3 zf]
def qbax : IC := zr [zm 32 4, zv 33 (.ld true 5 (.t 7)), zv 34 (.bsl 5 [((.t 33), zN)]), zi 35 (.app 5 zZ 64 (.sl 5) (.t 32) (.t 34)), zm 4 35]
def q92 : IC := zr [zm 36 5, zm 37 36, zw 37 true 38 (.mov (.t 0)), ⟨some (37, true), some 39, .call (.c (.fn 105 [] [])) [((.t 38), .id), ((.c (.str [44])), .id)]⟩, zv 40 (.pick (.t 37) (.t 39) (.c (.bool false))), zm 6 40]
def qbr2 : IC := (.seq (.seq qbef (.cond (.t 24) .skip (.exit 0))) (.block 1 (.seq qbjo (.seq (.seq qbp5 (.cond (.t 31) (.seq qba0 .ret) .skip)) (.seq qbax q92)))))
def q7q : IC := zr [zm 41 5, zm 42 41, zw 42 true 43 (.mov (.t 0)), ⟨some (42, true), some 44, .call (.c (.fn 156 [] [])) [((.t 43), .id), ((.c (.str [41])), .id)]⟩, zw 42 true 45 (.un .not (.t 44)), zv 46 (.pick (.t 42) (.t 45) (.c (.bool false))), zm 47 46, zw 47 false 48 (.mov (.t 0)), ⟨some (47, false), some 49, .call (.c (.fn 156 [] [])) [((.t 48), .id), ((.c (.str [61, 62])), .id)]⟩, zw 47 false 50 (.un .not (.t 49)), zv 51 (.pick (.t 47) (.c (.bool true)) (.t 50))]
def q72 : IC := zr [zv 2 (.mov (.c .nils)), zv 3 zf]
def q8k : IC := zr [zm 52 4, zm 2 52, zv 3 (.mov (.c (.bool true)))]
def k0dx : IC := (.seq qbrr (.seq (.seq qbn3 (.cond (.t 11) (.seq qbsg .ret) .skip)) (.seq qbld (.seq qbvq (.seq (.seq qbrk (.block 0 (.loop qbr2))) (.seq (.seq q7q (.cond (.t 51) (.seq q72 .ret) .skip)) (.seq q8k .ret)))))))
@[go_sem] def s0dx : List (RV × Co) := [(.t 2, (.sl 5)), (.t 3, .id)]
theorem c0dx : cFun Tryz.prog 146 = some (53, k0dx, s0dx) := by kernel_rfl

def qbv7 : IC := zr [zi 4 (.box (.t 1)), zi 6 zaN, zv 7 zf]
def qbda : IC := zr [zm 8 2, zv 9 (.un .not (.t 8))]
def qbjg : IC := zr [zv 10 (.bld [(.int .i64 0), (.int .i64 0), (.int .i64 0), (.str []), .nils] []), zn (.st 5 zN (.t 6) (.t 10)), zv 7 zf]
def qbk2 : IC := zr [zv 11 (.ld true 5 (.t 4)), zn (.st 5 zN (.t 6) (.t 11)), zv 7 (.mov (.c (.bool true)))]
def k0ea : IC := (.seq qbv7 (.seq (.seq qbda (.cond (.t 9) (.seq qbjg .ret) .skip)) (.seq qbk2 .ret)))
@[go_sem] def s0ea : List (RV × Co) := [(.c true 5 6, zN), (.t 7, .id)]
theorem c0ea : cFun Tryz.prog 147 = some (12, k0ea, s0ea) := by kernel_rfl

def qbjz : IC := zr [zi 2 zaN, zv 3 zf]
def qbtf : IC := zr [zm 8 0, zi 9 (.call (.c (.fn 66 [] [])) [((.t 8), .id)]), zv 10 (.fld false 1 0 (.t 9)), zv 11 (.bin .neq .no (.t 10) (zc 2))]
def qbp0 : IC := zr [zm 12 0, zi 13 (.call (.c (.fn 165 [] [])) [((.t 12), .id)]), zv 14 (.ext (.t 13) 0), zv 15 (.ext (.t 13) 1), zn (.st 5 zN (.t 2) (.t 14)), zm 3 15]
def qbl3 : IC := zr [zm 16 0, zi 17 (.call (.c (.fn 154 [] [])) [((.t 16), .id)]), zi 4 zaT, zn (.st 4 .id (.t 4) (.t 17))]
def qbti : IC := zr [zv 18 (.fad (.t 4) 1), zv 19 (.ld false 1 (.t 18)), zv 20 (.fad (.t 4) 3), zv 21 (.ld false 1 (.t 20)), zv 22 (.bld [(.int .i64 0), (.int .i64 0), (.int .i64 0), (.str []), .nils] [(0, 1, (zc 2)), (1, 1, (.t 19)), (3, 1, (.t 21))]), zi 5 zaN, zn (.st 5 zN (.t 5) (.t 22))]
def qbf2 : IC := zr [zm 23 0, zi 24 (.call (.c (.fn 183 [] [])) [((.t 23), .id)])]
def qbtg : IC := zr [zm 26 0, zi 27 (.call (.c (.fn 165 [] [])) [((.t 26), .id)]), zm 25 27, zv 28 (.ext (.t 25) 0), zv 29 (.ext (.t 25) 1), zi 6 zaN, zn (.st 5 zN (.t 6) (.t 28)), zm 7 29]
def qbo4 : IC := zr [zm 30 7, zv 31 (.un .not (.t 30))]
def qbm2 : IC := zr [zv 32 (.bld [(.int .i64 0), (.int .i64 0), (.int .i64 0), (.str []), .nils] []), zn (.st 5 zN (.t 2) (.t 32)), zv 3 zf]
def q9e : IC := zr [zv 33 (.fad (.t 5) 4), zv 34 (.ld false 1 (.t 33)), zv 35 (.ld true 5 (.t 6)), zv 36 (.bsl 5 [((.t 35), zN)]), zi 37 (.app 5 zZ 64 (.sl 5) (.t 34) (.t 36)), zv 38 (.fad (.t 5) 4), zn (.st 1 (.sl 5) (.t 38) (.t 37))]
def qbni : IC := (.seq (.seq qbf2 (.cond (.t 24) .skip (.exit 0))) (.block 1 (.seq qbtg (.seq (.seq qbo4 (.cond (.t 31) (.seq qbm2 .ret) .skip)) q9e))))
def q8a : IC := zr [zv 39 (.ld true 5 (.t 5)), zn (.st 5 zN (.t 2) (.t 39)), zv 3 (.mov (.c (.bool true)))]
def k0ed : IC := (.seq qbjz (.seq (.seq qbtf (.cond (.t 11) (.seq qbp0 .ret) .skip)) (.seq qbl3 (.seq qbti (.seq (.block 0 (.loop qbni)) (.seq q8a .ret))))))
@[go_sem] def s0ed : List (RV × Co) := [(.c true 5 2, zN), (.t 3, .id)]
theorem c0ed : cFun Tryz.prog 148 = some (40, k0ed, s0ed) := by kernel_rfl

def qbgt : IC := zr [zv 6 (.ld false 1 (.t 1)), zi 7 (.call (.c (.fn 150 [] [])) [((.t 6), .id)]), zm 3 7]
def qbw4 : IC := zr [zm 8 3, zv 9 (.ld false 1 (.t 1)), zv 10 (.len true (.t 9)), zv 11 (.bin .lss .no (.t 8) (.t 10))]
def qbt9 : IC := zr [zv 13 (.ld false 1 (.t 1)), zm 14 3, zv 15 (.sls (.t 13) (some (.t 14)) none), zi 16 (.call (.c (.fn 151 [] [])) [((.t 15), .id)]), zm 12 16, zv 17 (.ext (.t 12) 0), zv 18 (.ext (.t 12) 1), zi 4 zaT, zn (.st 4 .id (.t 4) (.t 17)), zm 5 18]
def qbqk : IC := zr [zm 19 3, zv 20 (.fad (.t 4) 1), zn (.st 1 .id (.t 20) (.t 19))]
def qbsp : IC := zr [zm 21 0, zv 22 (.ld true 4 (.t 4)), zm 23 5, zi 24 (.call (.t 21) [((.t 22), .id), ((.t 23), .id)]), zv 25 (.un .not (.t 24))]
def qbw1 : IC := zr [zm 26 3, zv 27 (.fad (.t 4) 3), zv 28 (.ld false 1 (.t 27)), zv 29 (.len true (.t 28)), zv 30 (.bin .add .no (.t 26) (.t 29)), zm 3 30]
def qboy : IC := zr [zm 31 3, zv 32 (.ld false 1 (.t 1)), zm 33 3, zv 34 (.sls (.t 32) (some (.t 33)) none), zi 35 (.call (.c (.fn 150 [] [])) [((.t 34), .id)]), zv 36 (.bin .add .no (.t 31) (.t 35)), zm 3 36]
def qbgh : IC := (.seq (.seq qbw4 (.cond (.t 11) .skip (.exit 0))) (.block 1 (.seq qbt9 (.seq qbqk (.seq (.seq qbsp (.cond (.t 25) .ret .skip)) (.seq qbw1 qboy))))))
def k0cp : IC := (.seq qbgt (.block 0 (.loop qbgh)))
@[go_sem] def s0cp : List (RV × Co) := []
theorem c0cp : cFun Tryz.prog 149 = some (37, k0cp, s0cp) := by kernel_rfl

def qbub : IC := zr [zv 2 (.mov (zc 0))]
def qbn6 : IC := zr [zv 3 (.mov (zc 0))]
def qbqp : IC := zr [zm 5 0, zm 6 3, zv 7 (.sls (.t 5) (some (.t 6)) none), zi 8 (.call (.c (.fn 184 [] [])) [((.t 7), .id), ((.c (.fn 185 [] [])), .id)]), zm 4 8]
def qbp6 : IC := zr [zm 9 0, zm 10 3, zm 11 4, zv 12 (.bin .add .no (.t 10) (.t 11)), zv 13 (.sls (.t 9) (some (.t 12)) none), zi 14 (.call (.c (.fn 186 [] [])) [((.t 13), .id), ((.c (.str [45, 45])), .id)])]
def qbk1 : IC := zr [zm 15 4, zm 16 0, zm 17 3, zm 18 4, zv 19 (.bin .add .no (.t 17) (.t 18)), zv 20 (.sls (.t 16) (some (.t 19)) none), zi 21 (.call (.c (.fn 184 [] [])) [((.t 20), .id), ((.c (.fn 187 [] [])), .id)]), zv 22 (.bin .add .no (.t 15) (.t 21)), zm 4 22]
def qbok : IC := zr [zm 23 4, zv 24 (.bin .eql .no (.t 23) (zc 0))]
def qbgm : IC := zr [zm 25 3, zm 2 25]
def qbpq : IC := zr [zm 26 3, zm 27 4, zv 28 (.bin .add .no (.t 26) (.t 27)), zm 3 28]
def qbpt : IC := (.block 1 (.seq qbqp (.seq (.seq qbp6 (.cond (.t 14) qbk1 .skip)) (.seq (.seq qbok (.cond (.t 24) (.seq qbgm .ret) .skip)) qbpq))))
def k0da : IC := (.seq qbub (.seq qbn6 (.block 0 (.loop qbpt))))
@[go_sem] def s0da : List (RV × Co) := [(.t 2, .id)]
theorem c0da : cFun Tryz.prog 150 = some (29, k0da, s0da) := by kernel_rfl

def qbp1 : IC := zr [zi 2 zaT, zv 3 (.mov (zc 0))]
def qbud : IC := zr [zm 9 0, zv 10 (.idx (.t 9) (zc 0)), zm 4 10]
def qbf3 : IC := zr [zm 12 4, zi 13 (.call (.c (.fn 188 [] [])) [((.t 12), .id)]), zm 11 13]
def qbql : IC := zr [zm 14 0, zm 15 0, zi 16 (.call (.c (.fn 184 [] [])) [((.t 15), .id), ((.c (.fn 188 [] [])), .id)]), zv 17 (.sls (.t 14) none (some (.t 16))), zm 5 17]
def qbg9 : IC := zr [zm 19 5, zi 20 (.call (.c (.fn 189 [] [])) [((.t 19), .id)]), zm 18 20, zv 21 (.ext (.t 18) 0), zv 22 (.ext (.t 18) 1), zm 6 21, zm 7 22]
def qbsh : IC := zr [zm 23 6, zm 24 5, zv 25 (.bld [(.int .i64 0), (.int .i64 0), (.int .i64 0), (.str [])] [(0, 1, (zc 3)), (2, 1, (.t 23)), (3, 1, (.t 24))]), zm 26 7, zn (.st 4 .id (.t 2) (.t 25)), zm 3 26]
def qbr1 : IC := zr [zm 28 4, zi 29 (.call (.c (.fn 190 [] [])) [((.t 28), .id)]), zm 30 29, zw 30 true 31 (.mov (.t 4)), zw 30 true 32 (.bin .neq .no (.t 31) (.c (.int .u8 39))), zv 33 (.pick (.t 30) (.t 32) (.c (.bool false))), zm 27 33]
def qblc : IC := zr [zm 34 0, zm 35 0, zi 36 (.call (.c (.fn 184 [] [])) [((.t 35), .id), ((.c (.fn 190 [] [])), .id)]), zv 37 (.sls (.t 34) none (some (.t 36))), zi 38 (.call (.c (.fn 191 [] [])) [((.t 37), .id)]), zn (.st 4 .id (.t 2) (.t 38)), zv 3 (.mov (zc 0))]
def qbhd : IC := zr [zm 39 0, zi 40 (.call (.c (.fn 192 [] [])) [((.t 39), .id)]), zm 8 40]
def qbly : IC := zr [zm 41 8, zv 42 (.bin .eql .no (.t 41) (zc 0))]
def q5x : IC := zr [zv 43 (.bld [(.int .i64 0), (.int .i64 0), (.int .i64 0), (.str [])] []), zn (.st 4 .id (.t 2) (.t 43)), zv 3 (.mov (zc 3))]
def q69 : IC := zr [zm 44 0, zm 45 8, zv 46 (.sls (.t 44) none (some (.t 45))), zv 47 (.bld [(.int .i64 0), (.int .i64 0), (.int .i64 0), (.str [])] [(0, 1, (zc 5)), (3, 1, (.t 46))]), zn (.st 4 .id (.t 2) (.t 47)), zv 3 (.mov (zc 0))]
def k0cs : IC := (.seq qbp1 (.seq (.seq qbud (.block 0 (.seq qbf3 (.cond (.t 11) (.seq qbql (.seq qbg9 (.seq qbsh .ret))) (.seq qbr1 (.cond (.t 27) (.seq qblc .ret) .skip)))))) (.seq qbhd (.seq (.seq qbly (.cond (.t 42) (.seq q5x .ret) .skip)) (.seq q69 .ret)))))
@[go_sem] def s0cs : List (RV × Co) := [(.c true 4 2, .id), (.t 3, .id)]
theorem c0cs : cFun Tryz.prog 151 = some (48, k0cs, s0cs) := by kernel_rfl

def qbpj : IC := zr [zv 4 zf]
def qbr8 : IC := zr [zm 5 0, zi 6 (.call (.c (.fn 109 [] [])) [((.t 5), .id)]), zv 7 (.un .not (.t 6))]
def qbvf : IC := zr [zm 8 1, zv 9 (.bin .eql .no (.t 8) (zc 0))]
def qbk9 : IC := zr [zv 1 (.mov (zc 1))]
def qbvs : IC := zr [zm 10 0, zm 11 0, zi 12 (.call (.c (.fn 66 [] [])) [((.t 11), .id)]), zv 13 (.fld false 1 1 (.t 12)), zv 14 (.nck (.t 10)), zv 15 (.fad (.t 14) 8), zn (.st 1 .id (.t 15) (.t 13))]
def qbre : IC := zr [zm 16 0, zm 17 1, zv 18 (.nck (.t 16)), zv 19 (.fad (.t 18) 7), zn (.st 1 .id (.t 19) (.t 17))]
def qbvh : IC := zr [zv 4 zf]
def k0el : IC := (.seq qbpj (.seq (.seq qbr8 (.cond (.t 7) (.seq (.seq qbvf (.cond (.t 9) qbk9 .skip)) (.seq qbvs qbre)) .skip)) (.seq qbvh .ret)))
@[go_sem] def s0el : List (RV × Co) := [(.t 4, .id)]
theorem c0el : cFun Tryz.prog 152 = some (20, k0el, s0el) := by kernel_rfl

def qbsr : IC := zr [zi 2 zaN, zv 3 zf]
def qbj8 : IC := zr [zm 6 0, zi 7 (.call (.c (.fn 66 [] [])) [((.t 6), .id)]), zi 4 zaT, zn (.st 4 .id (.t 4) (.t 7))]
def qbpa : IC := zr [zv 8 (.fad (.t 4) 1), zv 9 (.ld false 1 (.t 8)), zv 10 (.fad (.t 4) 3), zv 11 (.ld false 1 (.t 10)), zv 12 (.bld [(.int .i64 0), (.int .i64 0), (.int .i64 0), (.str []), .nils] [(1, 1, (.t 9)), (3, 1, (.t 11))]), zi 5 zaN, zn (.st 5 zN (.t 5) (.t 12))]
def qbs8 : IC := zr [zv 15 (.fad (.t 4) 0), zv 16 (.ld false 1 (.t 15)), zv 17 (.bin .eql .no (.t 16) (zc 1)), zm 14 17]
def qbkt : IC := zr [zv 18 (.fad (.t 5) 0), zn (.st 1 .id (.t 18) (zc 11))]
def qbpo : IC := zr [zv 20 (.fad (.t 4) 0), zv 21 (.ld false 1 (.t 20)), zv 22 (.bin .eql .no (.t 21) (zc 2)), zm 19 22]
def qbqm : IC := zr [zv 23 (.fad (.t 5) 0), zn (.st 1 .id (.t 23) (zc 14))]
def qbra : IC := zr [zv 25 (.fad (.t 4) 0), zv 26 (.ld false 1 (.t 25)), zv 27 (.bin .eql .no (.t 26) (zc 3)), zm 24 27]
def qbo3 : IC := .drw [zp (zv 28 (.fad (.t 4) 2)), zp (zv 29 (.ld false 1 (.t 28))), zp (zv 30 (.fad (.t 5) 0)), (zn (.st 1 .id (.t 30) (zc 13)), [1]), zp (zv 31 (.fad (.t 5) 2)), (zn (.st 1 .id (.t 31) (.t 29)), []), zp (zv 32 (.fad (.t 5) 3)), (zn (.st 1 .id (.t 32) (.c (.str []))), [])]
def qbfr : IC := zr [zm 34 0, zi 35 (.call (.c (.fn 155 [] [])) [((.t 34), .id), ((.c (.str [95])), .id)]), zm 33 35]
def q6j : IC := zr [zv 36 (.fad (.t 5) 0), zn (.st 1 .id (.t 36) (zc 12)), zv 37 (.fad (.t 5) 3), zn (.st 1 .id (.t 37) (.c (.str [])))]
def q79 : IC := zr [zv 13 (.bld [(.int .i64 0), (.int .i64 0), (.int .i64 0), (.str []), .nils] []), zn (.st 5 zN (.t 2) (.t 13)), zv 3 zf]
def q82 : IC := zr [zv 38 (.ld true 5 (.t 5)), zn (.st 5 zN (.t 2) (.t 38)), zv 3 (.mov (.c (.bool true)))]
def k0dp : IC := (.seq qbsr (.seq qbj8 (.seq qbpa (.seq (.block 0 (.seq qbs8 (.cond (.t 14) qbkt (.seq qbpo (.cond (.t 19) qbqm (.seq qbra (.cond (.t 24) qbo3 (.seq qbfr (.cond (.t 33) q6j (.seq q79 .ret)))))))))) (.seq q82 .ret)))))
@[go_sem] def s0dp : List (RV × Co) := [(.c true 5 2, zN), (.t 3, .id)]
theorem c0dp : cFun Tryz.prog 153 = some (39, k0dp, s0dp) := by kernel_rfl

def qbjj : IC := zr [zi 2 zaT]
def qbhs : IC := zr [zm 4 0, zi 5 (.call (.c (.fn 66 [] [])) [((.t 4), .id)]), zi 3 zaT, zn (.st 4 .id (.t 3) (.t 5))]
def qbh0 : IC := .drw [zp (zm 6 0), (zi 7 (.call (.c (.fn 109 [] [])) [((.t 6), .id)]), []), zp (zv 8 (.un .not (.t 7))), zp (zm 9 8), zp (zw 9 true 10 (.mov (.t 0))), zp (zw 9 true 11 (.nck (.t 10))), zp (zw 9 true 12 (.fad (.t 11) 5)), zp (zw 9 true 13 (.ld false 1 (.t 12))), zp (zw 9 true 14 (.mov (.t 0))), zp (zw 9 true 15 (.nck (.t 14))), zp (zw 9 true 16 (.fad (.t 15) 0)), zp (zw 9 true 17 (.ld false 1 (.t 16))), zp (zw 9 true 18 (.len false (.t 17))), zp (zw 9 true 19 (.bin .lss .no (.t 13) (.t 18))), zp (zv 20 (.pick (.t 9) (.t 19) (.c (.bool false))))]
def qbc7 : IC := zr [zm 21 0, zv 22 (.nck (.t 21)), zv 23 (.fad (.t 22) 5), zv 24 (.ld false 1 (.t 23)), zv 25 (.bin .add .no (.t 24) (zc 1)), zv 26 (.nck (.t 21)), zv 27 (.fad (.t 26) 5), zn (.st 1 .id (.t 27) (.t 25))]
def qbhe : IC := zr [zv 28 (.ld true 4 (.t 3)), zn (.st 4 .id (.t 2) (.t 28))]
def k0ej : IC := (.seq qbjj (.seq qbhs (.seq (.seq qbh0 (.cond (.t 20) qbc7 .skip)) (.seq qbhe .ret))))
@[go_sem] def s0ej : List (RV × Co) := [(.c true 4 2, .id)]
theorem c0ej : cFun Tryz.prog 154 = some (29, k0ej, s0ej) := by kernel_rfl

def qbu7 : IC := zr [zv 4 zf]
def qbvy : IC := zr [zm 5 0, zi 6 (.call (.c (.fn 109 [] [])) [((.t 5), .id)]), zv 7 (.un .not (.t 6)), zm 8 7, zw 8 true 9 (.mov (.t 0)), ⟨some (8, true), some 10, .call (.c (.fn 66 [] [])) [((.t 9), .id)]⟩, zw 8 true 11 (.mov (.t 1)), zw 8 true 12 (.bsl 1 [((.t 11), .id)]), ⟨some (8, true), some 13, .call (.c (.fn 193 [] [])) [((.t 10), .id), ((.t 12), (.sl 1))]⟩, zv 14 (.pick (.t 8) (.t 13) (.c (.bool false))), zm 4 14]
def k0ek : IC := (.seq qbu7 (.seq qbvy .ret))
@[go_sem] def s0ek : List (RV × Co) := [(.t 4, .id)]
theorem c0ek : cFun Tryz.prog 155 = some (15, k0ek, s0ek) := by kernel_rfl

def qbtn : IC := zr [zv 4 zf]
def qbla : IC := zr [zm 5 0, zm 6 1, zi 7 (.call (.c (.fn 105 [] [])) [((.t 5), .id), ((.t 6), .id)]), zm 8 7, zw 8 false 9 (.mov (.t 0)), ⟨some (8, false), some 10, .call (.c (.fn 152 [] [])) [((.t 9), .id), ((zc 5), .id)]⟩, zv 11 (.pick (.t 8) (.c (.bool true)) (.t 10)), zm 4 11]
def k0en : IC := (.seq qbtn (.seq qbla .ret))
@[go_sem] def s0en : List (RV × Co) := [(.t 4, .id)]
theorem c0en : cFun Tryz.prog 156 = some (12, k0en, s0en) := by kernel_rfl

def qbhp : IC := zr [zi 1 (.box (.t 0)), zv 2 zf]
def qbls : IC := zr [zv 4 (.fad (.t 1) 4), zv 5 (.ld false 1 (.t 4)), zv 6 (.len false (.t 5)), zv 7 (.bin .sub .no (.t 6) (zc 1)), zm 3 7]
def qbtk : IC := zr [zv 8 (.fad (.t 1) 0), zv 9 (.ld false 1 (.t 8)), zv 10 (.bin .eql .no (.t 9) (zc 4)), zm 11 10, zw 11 true 12 (.ld true 5 (.t 1)), ⟨some (11, true), some 13, .call (.c (.fn 67 [] [])) [((.t 12), zN)]⟩, zv 14 (.pick (.t 11) (.t 13) (.c (.bool false))), zm 15 14, zw 15 true 16 (.mov (.t 3)), zw 15 true 17 (.bin .geq .no (.t 16) (zc 0)), zv 18 (.pick (.t 15) (.t 17) (.c (.bool false))), zm 19 18, zw 19 true 20 (.fad (.t 1) 4), zw 19 true 21 (.ld false 1 (.t 20)), zw 19 true 22 (.mov (.t 3)), zw 19 true 23 (.slv 5 (.t 21) none (some (.t 22)) none), ⟨some (19, true), some 24, .call (.c (.fn 68 [] [])) [((.t 23), (.sl 5)), ((.c (.fn 112 [] [])), .id)]⟩, zv 25 (.pick (.t 19) (.t 24) (.c (.bool false))), zm 26 25, zw 26 true 27 (.fad (.t 1) 4), zw 26 true 28 (.ld false 1 (.t 27)), zw 26 true 29 (.mov (.t 3)), zw 26 true 30 (.iad 5 (.t 28) (.t 29)), zw 26 true 31 (.ld true 5 (.t 30)), ⟨some (26, true), some 32, .call (.c (.fn 48 [] [])) [((.t 31), zN)]⟩, zv 33 (.pick (.t 26) (.t 32) (.c (.bool false))), zm 2 33]
def k0bq : IC := (.seq qbhp (.seq qbls (.seq qbtk .ret)))
@[go_sem] def s0bq : List (RV × Co) := [(.t 2, .id)]
theorem c0bq : cFun Tryz.prog 157 = some (34, k0bq, s0bq) := by kernel_rfl

def qbvz : IC := zr [zi 4 zaN, zv 5 zf]
def qbwb : IC := zr [zm 9 0, zi 10 (.call (.c (.fn 66 [] [])) [((.t 9), .id)]), zv 11 (.fld false 1 0 (.t 10)), zv 12 (.bin .neq .no (.t 11) (zc 1))]
def qbh4 : IC := zr [zm 13 0, zm 14 1, zi 15 (.call (.c (.fn 156 [] [])) [((.t 13), .id), ((.t 14), .id)]), zv 16 (.un .not (.t 15))]
def qbsm : IC := zr [zv 17 (.bld [(.int .i64 0), (.int .i64 0), (.int .i64 0), (.str []), .nils] []), zn (.st 5 zN (.t 4) (.t 17)), zv 5 zf]
def qbjc : IC := zr [zm 18 0, zi 19 (.call (.c (.fn 58 [] [])) [((.t 18), .id)]), zv 20 (.ext (.t 19) 0), zv 21 (.ext (.t 19) 1), zn (.st 5 zN (.t 4) (.t 20)), zm 5 21]
def qbqi : IC := zr [zm 22 0, zi 23 (.call (.c (.fn 154 [] [])) [((.t 22), .id)]), zi 6 zaT, zn (.st 4 .id (.t 6) (.t 23))]
def qbeu : IC := zr [zm 25 0, zm 26 1, zi 27 (.call (.c (.fn 158 [] [])) [((.t 25), .id), ((.t 26), .id)]), zm 24 27, zv 28 (.ext (.t 24) 0), zv 29 (.ext (.t 24) 1), zi 7 zaN, zn (.st 5 zN (.t 7) (.t 28)), zm 8 29]
def qbgo : IC := zr [zv 30 (.fad (.t 6) 1), zv 31 (.ld false 1 (.t 30)), zv 32 (.fad (.t 6) 3), zv 33 (.ld false 1 (.t 32)), zv 34 (.ld true 5 (.t 7)), zv 35 (.bsl 5 [((.t 34), zN)]), zv 36 (.bld [(.int .i64 0), (.int .i64 0), (.int .i64 0), (.str []), .nils] [(0, 1, (zc 25)), (1, 1, (.t 31)), (3, 1, (.t 33)), (4, 1, (.t 35))]), zm 37 8, zn (.st 5 zN (.t 4) (.t 36)), zm 5 37]
def k0dk : IC := (.seq qbvz (.seq (.seq qbwb (.cond (.t 12) (.seq (.seq qbh4 (.cond (.t 16) (.seq qbsm .ret) .skip)) (.seq qbjc .ret)) .skip)) (.seq qbqi (.seq qbeu (.seq qbgo .ret)))))
@[go_sem] def s0dk : List (RV × Co) := [(.c true 5 4, zN), (.t 5, .id)]
theorem c0dk : cFun Tryz.prog 158 = some (38, k0dk, s0dk) := by kernel_rfl

def qbhn : IC := zr [zi 2 (.box (.t 0)), zi 3 (.box (.t 1)), zi 4 zaN, zv 5 zf]
def qbo5 : IC := zr [zv 10 (.ld false 1 (.t 2)), zv 11 (.mfn 195 [] [(.t 2)]), zi 12 (.call (.c (.fn 194 [] [])) [((.t 10), .id), ((.t 11), .id)]), zm 9 12, zv 13 (.ext (.t 9) 0), zv 14 (.ext (.t 9) 1), zm 6 13, zm 7 14]
def qbp9 : IC := zr [zm 15 7, zv 16 (.un .not (.t 15)), zm 17 16, zw 17 false 18 (.ld false 1 (.t 2)), ⟨some (17, false), some 19, .call (.c (.fn 156 [] [])) [((.t 18), .id), ((.c (.str [105, 110])), .id)]⟩, zw 17 false 20 (.un .not (.t 19)), zv 21 (.pick (.t 17) (.c (.bool true)) (.t 20))]
def qbnp : IC := zr [zv 22 (.ld true 5 (.t 3)), zn (.st 5 zN (.t 4) (.t 22)), zv 5 zf]
def qbl0 : IC := zr [zv 24 (.ld false 1 (.t 2)), zi 25 (.call (.c (.fn 58 [] [])) [((.t 24), .id)]), zm 23 25, zv 26 (.ext (.t 23) 0), zv 27 (.ext (.t 23) 1), zi 8 zaN, zn (.st 5 zN (.t 8) (.t 26)), zm 7 27]
def qbu2 : IC := zr [zm 28 6, zv 29 (.ld true 5 (.t 8)), zv 30 (.bsl 5 [((.t 29), zN)]), zi 31 (.app 5 zZ 64 (.sl 5) (.t 28) (.t 30)), zv 32 (.fad (.t 3) 0), zn (.st 1 .id (.t 32) (zc 26)), zv 33 (.fad (.t 3) 4), zn (.st 1 (.sl 5) (.t 33) (.t 31))]
def qbmf : IC := zr [zv 34 (.ld true 5 (.t 3)), zm 35 7, zn (.st 5 zN (.t 4) (.t 34)), zm 5 35]
def k0dd : IC := (.seq qbhn (.seq qbo5 (.seq (.seq qbp9 (.cond (.t 21) (.seq qbnp .ret) .skip)) (.seq qbl0 (.seq qbu2 (.seq qbmf .ret))))))
@[go_sem] def s0dd : List (RV × Co) := [(.c true 5 4, zN), (.t 5, .id)]
theorem c0dd : cFun Tryz.prog 159 = some (36, k0dd, s0dd) := by kernel_rfl

def qbkq : IC := zr [zi 2 (.box (.t 0)), zi 3 (.box (.t 1)), zi 4 zaN, zv 5 zf]
def qbgc : IC := zr [zv 10 (.ld false 1 (.t 2)), zi 11 (.call (.c (.fn 58 [] [])) [((.t 10), .id)]), zm 9 11, zv 12 (.ext (.t 9) 0), zv 13 (.ext (.t 9) 1), zi 6 zaN, zn (.st 5 zN (.t 6) (.t 12)), zm 7 13]
def qbfw : IC := zr [zm 14 7, zv 15 (.un .not (.t 14)), zm 16 15, zw 16 false 17 (.ld false 1 (.t 2)), ⟨some (16, false), some 18, .call (.c (.fn 156 [] [])) [((.t 17), .id), ((.c (.str [111, 102])), .id)]⟩, zw 16 false 19 (.un .not (.t 18)), zv 20 (.pick (.t 16) (.c (.bool true)) (.t 19))]
def qbnw : IC := zr [zv 21 (.ld true 5 (.t 3)), zn (.st 5 zN (.t 4) (.t 21)), zv 5 zf]
def qbvu : IC := zr [zv 23 (.ld false 1 (.t 2)), zv 24 (.mfn 196 [] [(.t 2)]), zi 25 (.call (.c (.fn 194 [] [])) [((.t 23), .id), ((.t 24), .id)]), zm 22 25, zv 26 (.ext (.t 22) 0), zv 27 (.ext (.t 22) 1), zm 8 26, zm 7 27]
def qbmx : IC := zr [zv 28 (.ld true 5 (.t 6)), zv 29 (.bsl 5 [((.t 28), zN)]), zm 30 8, zi 31 (.app 5 zZ 64 (.sl 5) (.t 29) (.t 30)), zv 32 (.fad (.t 3) 0), zn (.st 1 .id (.t 32) (zc 27)), zv 33 (.fad (.t 3) 4), zn (.st 1 (.sl 5) (.t 33) (.t 31))]
def qbsb : IC := zr [zv 34 (.ld true 5 (.t 3)), zm 35 7, zn (.st 5 zN (.t 4) (.t 34)), zm 5 35]
def k0de : IC := (.seq qbkq (.seq qbgc (.seq (.seq qbfw (.cond (.t 20) (.seq qbnw .ret) .skip)) (.seq qbvu (.seq qbmx (.seq qbsb .ret))))))
@[go_sem] def s0de : List (RV × Co) := [(.c true 5 4, zN), (.t 5, .id)]
theorem c0de : cFun Tryz.prog 160 = some (36, k0de, s0de) := by kernel_rfl

def qbks : IC := zr [zi 3 (.box (.t 1)), zi 4 zaN, zv 5 zf]
def qbkf : IC := zr [zv 10 (.fad (.t 3) 0), zn (.st 1 .id (.t 10) (zc 28))]
def qbvc : IC := zr [zv 11 (.bld [(.str []), (.str []), (.str [])] [(0, 1, (.c (.str []))), (1, 1, (.c (.str [116, 104, 101, 110]))), (2, 1, (.c (.str [101, 108, 115, 101])))]), zv 12 (.mov (zc 0))]
def qbnr : IC := zr [zv 13 (.bin .lss .no (.t 12) (zc 3))]
def qbmo : IC := zr [zv 14 (.ida false 1 3 (.t 11) (.t 12)), zm 7 14]
def qbeq : IC := zr [zm 15 7, zv 16 (.bin .neq .no (.t 15) (.c (.str []))), zm 17 16, zw 17 true 18 (.mov (.t 0)), zw 17 true 19 (.mov (.t 7)), ⟨some (17, true), some 20, .call (.c (.fn 156 [] [])) [((.t 18), .id), ((.t 19), .id)]⟩, zw 17 true 21 (.un .not (.t 20)), zv 22 (.pick (.t 17) (.t 21) (.c (.bool false)))]
def qbmh : IC := zr [zv 23 (.ld true 5 (.t 3)), zn (.st 5 zN (.t 4) (.t 23)), zv 5 zf]
def qboe : IC := zr [zm 25 0, zi 26 (.call (.c (.fn 58 [] [])) [((.t 25), .id)]), zm 24 26, zv 27 (.ext (.t 24) 0), zv 28 (.ext (.t 24) 1), zi 8 zaN, zn (.st 5 zN (.t 8) (.t 27)), zm 9 28]
def qbm3 : IC := zr [zm 29 9, zv 30 (.un .not (.t 29))]
def q5z : IC := zr [zv 31 (.ld true 5 (.t 3)), zn (.st 5 zN (.t 4) (.t 31)), zv 5 zf]
def q6s : IC := zr [zv 32 (.fad (.t 3) 4), zv 33 (.ld false 1 (.t 32)), zv 34 (.ld true 5 (.t 8)), zv 35 (.bsl 5 [((.t 34), zN)]), zi 36 (.app 5 zZ 64 (.sl 5) (.t 33) (.t 35)), zv 37 (.fad (.t 3) 4), zn (.st 1 (.sl 5) (.t 37) (.t 36))]
def q51 : IC := zr [zv 38 (.bin .add .no (.t 12) (zc 1)), zm 12 38]
def qbdc : IC := (.seq qbnr (.seq (.cond (.t 13) .skip (.exit 0)) (.seq (.block 1 (.seq qbmo (.seq (.seq qbeq (.cond (.t 22) (.seq qbmh .ret) .skip)) (.seq qboe (.seq (.seq qbm3 (.cond (.t 30) (.seq q5z .ret) .skip)) q6s))))) q51)))
def qbav : IC := zr [zv 39 (.ld true 5 (.t 3)), zn (.st 5 zN (.t 4) (.t 39)), zv 5 (.mov (.c (.bool true)))]
def k0df : IC := (.seq qbks (.seq qbkf (.seq (.seq qbvc (.block 0 (.loop qbdc))) (.seq qbav .ret))))
@[go_sem] def s0df : List (RV × Co) := [(.c true 5 4, zN), (.t 5, .id)]
theorem c0df : cFun Tryz.prog 161 = some (40, k0df, s0df) := by kernel_rfl

def qbh6 : IC := zr [zi 2 zaN, zv 3 zf]
def qbh3 : IC := zr [zm 10 0, zi 11 (.call (.c (.fn 197 [] [])) [((.t 10), .id)]), zm 9 11, zv 12 (.ext (.t 9) 0), zv 13 (.ext (.t 9) 1), zi 4 zaN, zn (.st 5 zN (.t 4) (.t 12)), zm 5 13]
def qbt7 : IC := zr [zm 14 5]
def qbnk : IC := zr [zm 16 0, zi 17 (.call (.c (.fn 198 [] [])) [((.t 16), .id)]), zm 15 17, zv 18 (.ext (.t 15) 0), zv 19 (.ext (.t 15) 1), zi 6 zaN, zn (.st 5 zN (.t 6) (.t 18)), zm 7 19]
def qbr3 : IC := zr [zm 20 7, zv 21 (.un .not (.t 20)), zm 22 21, zw 22 true 23 (.mov (.t 0)), ⟨some (22, true), some 24, .call (.c (.fn 155 [] [])) [((.t 23), .id), ((.c (.str [40])), .id)]⟩, zw 22 true 25 (.un .not (.t 24)), zv 26 (.pick (.t 22) (.t 25) (.c (.bool false)))]
def qbje : IC := zr [zi 8 zaN]
def qbru : IC := zr [zm 28 0, zi 29 (.call (.c (.fn 197 [] [])) [((.t 28), .id)]), zm 27 29, zv 30 (.ext (.t 27) 0), zv 31 (.ext (.t 27) 1), zn (.st 5 zN (.t 8) (.t 30)), zm 5 31]
def qbps : IC := zr [zv 32 (.fad (.t 4) 1), zv 33 (.ld false 1 (.t 32)), zv 34 (.ld true 5 (.t 4)), zv 35 (.ld true 5 (.t 8)), zv 36 (.bsl 5 [((.t 34), zN), ((.t 35), zN)]), zv 37 (.bld [(.int .i64 0), (.int .i64 0), (.int .i64 0), (.str []), .nils] [(0, 1, (zc 24)), (1, 1, (.t 33)), (4, 1, (.t 36))]), zn (.st 5 zN (.t 4) (.t 37))]
def qbgf : IC := (.seq (.seq qbt7 (.cond (.t 14) .skip (.exit 0))) (.block 1 (.seq (.seq qbnk (.seq qbr3 (.cond (.t 26) (.exit 0) .skip))) (.seq qbje (.seq qbru qbps)))))
def qbbu : IC := zr [zv 38 (.ld true 5 (.t 4)), zm 39 5, zn (.st 5 zN (.t 2) (.t 38)), zm 3 39]
def k0do : IC := (.seq qbh6 (.seq qbh3 (.seq (.block 0 (.loop qbgf)) (.seq qbbu .ret))))
@[go_sem] def s0do : List (RV × Co) := [(.c true 5 2, zN), (.t 3, .id)]
theorem c0do : cFun Tryz.prog 162 = some (40, k0do, s0do) := by kernel_rfl

def qbsf : IC := zr [zi 4 zaT, zv 5 zf]
def qbff : IC := zr [zm 6 0, zi 7 (.call (.c (.fn 109 [] [])) [((.t 6), .id)]), zm 8 7, zw 8 false 9 (.mov (.t 0)), ⟨some (8, false), some 10, .call (.c (.fn 66 [] [])) [((.t 9), .id)]⟩, zw 8 false 11 (.fld false 1 0 (.t 10)), zw 8 false 12 (.mov (.t 1)), zw 8 false 13 (.bin .neq .no (.t 11) (.t 12)), zv 14 (.pick (.t 8) (.c (.bool true)) (.t 13))]
def qbn4 : IC := zr [zv 15 (.bld [(.int .i64 0), (.int .i64 0), (.int .i64 0), (.str [])] []), zm 16 0, zi 17 (.call (.c (.fn 152 [] [])) [((.t 16), .id), ((zc 5), .id)]), zn (.st 4 .id (.t 4) (.t 15)), zm 5 17]
def qbib : IC := zr [zm 18 0, zi 19 (.call (.c (.fn 154 [] [])) [((.t 18), .id)]), zn (.st 4 .id (.t 4) (.t 19)), zv 5 (.mov (.c (.bool true)))]
def k0er : IC := (.seq qbsf (.seq (.seq qbff (.cond (.t 14) (.seq qbn4 .ret) .skip)) (.seq qbib .ret)))
@[go_sem] def s0er : List (RV × Co) := [(.c true 4 4, .id), (.t 5, .id)]
theorem c0er : cFun Tryz.prog 163 = some (20, k0er, s0er) := by kernel_rfl

def qbpn : IC := zr [zi 2 zaN, zv 3 zf]
def qbif : IC := zr [zm 7 0, zi 8 (.call (.c (.fn 66 [] [])) [((.t 7), .id)]), zi 4 zaT, zn (.st 4 .id (.t 4) (.t 8))]
def qbtl : IC := zr [zv 10 (.fad (.t 4) 0), zv 11 (.ld false 1 (.t 10)), zv 12 (.bin .eql .no (.t 11) (zc 1)), zm 9 12]
def qbs5 : IC := zr [zm 13 0, zi 14 (.call (.c (.fn 154 [] [])) [((.t 13), .id)])]
def qbpv : IC := zr [zv 15 (.fad (.t 4) 1), zv 16 (.ld false 1 (.t 15)), zv 17 (.fad (.t 4) 3), zv 18 (.ld false 1 (.t 17)), zv 19 (.bld [(.int .i64 0), (.int .i64 0), (.int .i64 0), (.str []), .nils] [(0, 1, (zc 1)), (1, 1, (.t 16)), (3, 1, (.t 18))]), zn (.st 5 zN (.t 2) (.t 19)), zv 3 (.mov (.c (.bool true)))]
def qbdk : IC := zr [zv 21 (.fad (.t 4) 0), zv 22 (.ld false 1 (.t 21)), zv 23 (.bin .eql .no (.t 22) (zc 2)), zm 20 23]
def qbno : IC := zr [zm 24 0, zi 25 (.call (.c (.fn 154 [] [])) [((.t 24), .id)])]
def qbux : IC := zr [zv 26 (.fad (.t 4) 1), zv 27 (.ld false 1 (.t 26)), zv 28 (.fad (.t 4) 3), zv 29 (.ld false 1 (.t 28)), zv 30 (.bld [(.int .i64 0), (.int .i64 0), (.int .i64 0), (.str []), .nils] [(0, 1, (zc 2)), (1, 1, (.t 27)), (3, 1, (.t 29))]), zn (.st 5 zN (.t 2) (.t 30)), zv 3 (.mov (.c (.bool true)))]
def qbwm : IC := zr [zm 32 0, zi 33 (.call (.c (.fn 155 [] [])) [((.t 32), .id), ((.c (.str [40])), .id)]), zv 34 (.un .not (.t 33)), zm 31 34]
def qbvd : IC := zr [zv 35 (.bld [(.int .i64 0), (.int .i64 0), (.int .i64 0), (.str []), .nils] []), zm 36 0, zi 37 (.call (.c (.fn 152 [] [])) [((.t 36), .id), ((zc 5), .id)]), zn (.st 5 zN (.t 2) (.t 35)), zm 3 37]
def q8h : IC := zr [zm 38 0, zi 39 (.call (.c (.fn 95 [] [])) [((.t 38), .id)]), zv 40 (.un .not (.t 39))]
def q6h : IC := zr [zv 41 (.bld [(.int .i64 0), (.int .i64 0), (.int .i64 0), (.str []), .nils] []), zn (.st 5 zN (.t 2) (.t 41)), zv 3 zf]
def qbao : IC := zr [zm 42 0, zi 43 (.call (.c (.fn 154 [] [])) [((.t 42), .id)])]
def q7n : IC := zr [zm 45 0, zi 46 (.call (.c (.fn 93 [] [])) [((.t 45), .id)]), zm 44 46, zv 47 (.ext (.t 44) 0), zv 48 (.ext (.t 44) 1), zi 5 zaN, zn (.st 5 zN (.t 5) (.t 47)), zm 6 48]
def q9y : IC := zr [zm 49 6, zm 50 49, zw 50 true 51 (.mov (.t 0)), ⟨some (50, true), some 52, .call (.c (.fn 156 [] [])) [((.t 51), .id), ((.c (.str [41])), .id)]⟩, zv 53 (.pick (.t 50) (.t 52) (.c (.bool false))), zm 6 53]
def q60 : IC := zr [zm 54 0, zi 55 (.call (.c (.fn 98 [] [])) [((.t 54), .id)])]
def q7l : IC := zr [zm 56 0, zv 57 (.ld true 5 (.t 5)), zm 58 6, zi 59 (.call (.c (.fn 147 [] [])) [((.t 56), .id), ((.t 57), zN), ((.t 58), .id)]), zv 60 (.ext (.t 59) 0), zv 61 (.ext (.t 59) 1), zn (.st 5 zN (.t 2) (.t 60)), zm 3 61]
def k0ec : IC := (.seq qbpn (.seq (.seq qbif (.block 0 (.seq qbtl (.cond (.t 9) (.seq qbs5 (.seq qbpv .ret)) (.seq qbdk (.cond (.t 20) (.seq qbno (.seq qbux .ret)) (.seq qbwm (.cond (.t 31) (.seq qbvd .ret) .skip)))))))) (.seq (.seq q8h (.cond (.t 40) (.seq q6h .ret) .skip)) (.seq qbao (.seq q7n (.seq q9y (.seq q60 (.seq q7l .ret))))))))
@[go_sem] def s0ec : List (RV × Co) := [(.c true 5 2, zN), (.t 3, .id)]
theorem c0ec : cFun Tryz.prog 165 = some (62, k0ec, s0ec) := by kernel_rfl

def qbze : IC := zr [zi 1 (.box (.t 0)), zv 2 (.mov (.c (.str [])))]
def qb1t : IC := zr [zv 3 (.ld true 5 (.t 1)), zv 4 (.bld [(.int .i64 0), (.int .i64 0), (.int .i64 0), (.str []), .nils] [(0, 5, (.t 3))]), zv 5 (.mki 40 (.t 4) zN), zi 6 (.call (.c (.fn 46 [] [])) [((.t 5), .id)]), zm 2 6]
def k0q : IC := (.seq qbze (.seq qb1t .ret))
@[go_sem] def s0q : List (RV × Co) := [(.t 2, .id)]
theorem c0q : cFun Tryz.prog 179 = some (7, k0q, s0q) := by kernel_rfl

def qbrc : IC := zr [zv 4 zf]
def qbtr : IC := zr [zm 8 0, zi 9 (.call (.c (.fn 109 [] [])) [((.t 8), .id)])]
def qbqb : IC := zr [zv 4 zf]
def qbgq : IC := zr [zv 5 (.mov (zc 0))]
def qbdw : IC := .drw [zp (zm 10 0), zp (zv 11 (.nck (.t 10))), zp (zv 12 (.fad (.t 11) 0)), zp (zv 13 (.ld false 1 (.t 12))), zp (zm 14 0), zp (zv 15 (.nck (.t 14))), zp (zv 16 (.fad (.t 15) 5)), zp (zv 17 (.ld false 1 (.t 16))), zp (zv 18 (.slv 4 (.t 13) (some (.t 17)) none none)), zp (zv 19 (.len false (.t 18))), zp (zv 20 (.mov (zc 0)))]
def qbem : IC := zr [zv 21 (.bin .lss .no (.t 20) (.t 19))]
def qbqy : IC := zr [zv 22 (.iad 4 (.t 18) (.t 20)), zv 23 (.ld true 4 (.t 22)), zi 7 zaT, zn (.st 4 .id (.t 7) (.t 23))]
def qbwe : IC := zr [zv 25 (.ld true 4 (.t 7)), zv 26 (.bsl 1 [((.c (.str [40])), .id), ((.c (.str [123])), .id)]), zi 27 (.call (.c (.fn 193 [] [])) [((.t 25), .id), ((.t 26), (.sl 1))]), zm 24 27]
def qbrf : IC := zr [zm 28 5, zv 29 (.bin .add .no (.t 28) (zc 1)), zm 5 29]
def q9b : IC := zr [zv 31 (.ld true 4 (.t 7)), zv 32 (.bsl 1 [((.c (.str [41])), .id), ((.c (.str [125])), .id)]), zi 33 (.call (.c (.fn 193 [] [])) [((.t 31), .id), ((.t 32), (.sl 1))]), zm 30 33]
def q7v : IC := zr [zm 34 5, zv 35 (.bin .sub .no (.t 34) (zc 1)), zm 5 35]
def q86 : IC := zr [zm 36 5, zv 37 (.bin .lss .no (.t 36) (zc 0))]
def qba7 : IC := zr [zv 4 zf]
def qbbd : IC := zr [zm 39 5, zv 40 (.bin .gtr .no (.t 39) (zc 0)), zm 38 40]
def q9q : IC := zr [zv 42 (.ld true 4 (.t 7)), zv 43 (.bsl 1 [((.c (.str [59])), .id)]), zi 44 (.call (.c (.fn 193 [] [])) [((.t 42), .id), ((.t 43), (.sl 1))]), zm 41 44]
def q7w : IC := zr [zv 4 zf]
def q91 : IC := zr [zv 46 (.ld true 4 (.t 7)), zm 47 1, zv 48 (.bsl 1 [((.t 47), .id)]), zi 49 (.call (.c (.fn 193 [] [])) [((.t 46), .id), ((.t 48), (.sl 1))]), zm 45 49]
def q58 : IC := zr [zv 4 (.mov (.c (.bool true)))]
def q8g : IC := zr [zv 50 (.bin .add .no (.t 20) (zc 1)), zm 20 50]
def qbjt : IC := (.seq qbem (.seq (.cond (.t 21) .skip (.exit 0)) (.seq (.block 1 (.seq qbqy (.block 2 (.seq qbwe (.cond (.t 24) qbrf (.seq q9b (.cond (.t 30) (.seq q7v (.seq q86 (.cond (.t 37) (.seq qba7 .ret) .skip))) (.seq qbbd (.cond (.t 38) .skip (.seq q9q (.cond (.t 41) (.seq q7w .ret) (.seq q91 (.cond (.t 45) (.seq q58 .ret) .skip))))))))))))) q8g)))
def qbap : IC := zr [zv 4 zf]
def k0es : IC := (.seq qbrc (.seq (.seq qbtr (.cond (.t 9) (.seq qbqb .ret) .skip)) (.seq qbgq (.seq (.seq qbdw (.block 0 (.loop qbjt))) (.seq qbap .ret)))))
@[go_sem] def s0es : List (RV × Co) := [(.t 4, .id)]
theorem c0es : cFun Tryz.prog 180 = some (51, k0es, s0es) := by kernel_rfl

def qbw0 : IC := zr [zv 2 zf]
def qbhg : IC := zr [zm 6 0, zi 7 (.call (.c (.fn 55 [] [])) [((.t 6), .id)]), zm 5 7, zv 8 (.ext (.t 5) 0), zv 9 (.ext (.t 5) 1), zm 3 8, zm 4 9]
def qbpe : IC := zr [zm 10 4, zv 11 (.bin .neq .no (.t 10) (zc 0)), zm 12 11, zw 12 true 13 (.mov (.t 4)), zw 12 true 14 (.bin .neq .no (.t 13) (zc 5)), zw 12 true 15 (.mov (.t 14)), zw 15 false 16 (.mov (.t 0)), ⟨some (15, false), some 17, .call (.c (.fn 66 [] [])) [((.t 16), .id)]⟩, zw 15 false 18 (.fld false 1 0 (.t 17)), zw 15 false 19 (.bin .eql .no (.t 18) (zc 0)), zw 12 true 20 (.pick (.t 15) (.c (.bool true)) (.t 19)), zv 21 (.pick (.t 12) (.t 20) (.c (.bool false))), zm 2 21]
def k0dy : IC := (.seq qbw0 (.seq qbhg (.seq qbpe .ret)))
@[go_sem] def s0dy : List (RV × Co) := [(.t 2, .id)]
theorem c0dy : cFun Tryz.prog 181 = some (22, k0dy, s0dy) := by kernel_rfl

def qbiv : IC := zr [zi 2 zaN, zv 3 zf]
def qbj1 : IC := zr [zm 8 0, zi 9 (.call (.c (.fn 163 [] [])) [((.t 8), .id), ((zc 2), .id)]), zm 7 9, zv 10 (.ext (.t 7) 0), zv 11 (.ext (.t 7) 1), zi 4 zaT, zn (.st 4 .id (.t 4) (.t 10)), zm 5 11]
def qbt4 : IC := zr [zm 12 5, zv 13 (.un .not (.t 12))]
def qbw2 : IC := zr [zv 14 (.bld [(.int .i64 0), (.int .i64 0), (.int .i64 0), (.str []), .nils] []), zn (.st 5 zN (.t 2) (.t 14)), zv 3 zf]
def qbdb : IC := zr [zm 16 0, zi 17 (.call (.c (.fn 165 [] [])) [((.t 16), .id)]), zm 15 17, zv 18 (.ext (.t 15) 0), zv 19 (.ext (.t 15) 1), zi 6 zaN, zn (.st 5 zN (.t 6) (.t 18)), zm 5 19]
def qbqv : IC := zr [zm 20 0, zv 21 (.fad (.t 4) 1), zv 22 (.ld false 1 (.t 21)), zv 23 (.fad (.t 4) 3), zv 24 (.ld false 1 (.t 23)), zv 25 (.ld true 5 (.t 6)), zv 26 (.bsl 5 [((.t 25), zN)]), zv 27 (.bld [(.int .i64 0), (.int .i64 0), (.int .i64 0), (.str []), .nils] [(0, 1, (zc 3)), (1, 1, (.t 22)), (3, 1, (.t 24)), (4, 1, (.t 26))]), zm 28 5, zi 29 (.call (.c (.fn 147 [] [])) [((.t 20), .id), ((.t 27), zN), ((.t 28), .id)]), zv 30 (.ext (.t 29) 0), zv 31 (.ext (.t 29) 1), zn (.st 5 zN (.t 2) (.t 30)), zm 3 31]
def k0dz : IC := (.seq qbiv (.seq qbj1 (.seq (.seq qbt4 (.cond (.t 13) (.seq qbw2 .ret) .skip)) (.seq qbdb (.seq qbqv .ret)))))
@[go_sem] def s0dz : List (RV × Co) := [(.c true 5 2, zN), (.t 3, .id)]
theorem c0dz : cFun Tryz.prog 182 = some (32, k0dz, s0dz) := by kernel_rfl

def qbgj : IC := zr [zv 2 zf]
def qbuc : IC := zr [zm 4 0, zi 5 (.call (.c (.fn 66 [] [])) [((.t 4), .id)]), zv 6 (.fld false 1 0 (.t 5)), zm 3 6]
def qbns : IC := zr [zm 7 3, zv 8 (.bin .eql .no (.t 7) (zc 1)), zm 9 8, zw 9 false 10 (.mov (.t 3)), zw 9 false 11 (.bin .eql .no (.t 10) (zc 2)), zv 12 (.pick (.t 9) (.c (.bool true)) (.t 11)), zm 13 12, zw 13 false 14 (.mov (.t 0)), ⟨some (13, false), some 15, .call (.c (.fn 155 [] [])) [((.t 14), .id), ((.c (.str [40])), .id)]⟩, zv 16 (.pick (.t 13) (.c (.bool true)) (.t 15)), zm 2 16]
def k0eb : IC := (.seq qbgj (.seq qbuc (.seq qbns .ret)))
@[go_sem] def s0eb : List (RV × Co) := [(.t 2, .id)]
theorem c0eb : cFun Tryz.prog 183 = some (17, k0eb, s0eb) := by kernel_rfl

def qbj3 : IC := zr [zv 4 (.mov (zc 0))]
def qbs3 : IC := zr [zm 6 0, zv 7 (.len true (.t 6)), zv 8 (.mov (zc 0))]
def qbd4 : IC := zr [zv 9 (.bin .lss .no (.t 8) (.t 7))]
def qbos : IC := zr [zm 10 8, zm 5 10]
def qbet : IC := zr [zm 11 1, zm 12 0, zm 13 5, zv 14 (.idx (.t 12) (.t 13)), zi 15 (.call (.t 11) [((.t 14), .id)]), zv 16 (.un .not (.t 15))]
def qbpp : IC := zr [zm 17 5, zm 4 17]
def qbq4 : IC := zr [zv 18 (.bin .add .no (.t 8) (zc 1)), zm 8 18]
def qbsa : IC := (.seq qbd4 (.seq (.cond (.t 9) .skip (.exit 0)) (.seq (.block 1 (.seq qbos (.seq qbet (.cond (.t 16) (.seq qbpp .ret) .skip)))) qbq4)))
def qbi1 : IC := zr [zm 19 0, zv 20 (.len true (.t 19)), zm 4 20]
def k0cx : IC := (.seq qbj3 (.seq (.seq qbs3 (.block 0 (.loop qbsa))) (.seq qbi1 .ret)))
@[go_sem] def s0cx : List (RV × Co) := [(.t 4, .id)]
theorem c0cx : cFun Tryz.prog 184 = some (21, k0cx, s0cx) := by kernel_rfl

def qbfp : IC := zr [zv 2 zf]
def qbdh : IC := zr [zm 3 0, zv 4 (.bin .eql .no (.t 3) (.c (.int .u8 9))), zm 5 4, zw 5 false 6 (.mov (.t 0)), zw 5 false 7 (.bin .eql .no (.t 6) (.c (.int .u8 10))), zv 8 (.pick (.t 5) (.c (.bool true)) (.t 7)), zm 9 8, zw 9 false 10 (.mov (.t 0)), zw 9 false 11 (.bin .eql .no (.t 10) (.c (.int .u8 13))), zv 12 (.pick (.t 9) (.c (.bool true)) (.t 11)), zm 13 12, zw 13 false 14 (.mov (.t 0)), zw 13 false 15 (.bin .eql .no (.t 14) (.c (.int .u8 32))), zv 16 (.pick (.t 13) (.c (.bool true)) (.t 15)), zm 2 16]
def k0cv : IC := (.seq qbfp (.seq qbdh .ret))
@[go_sem] def s0cv : List (RV × Co) := [(.t 2, .id)]
theorem c0cv : cFun Tryz.prog 185 = some (17, k0cv, s0cv) := by kernel_rfl

def qblp : IC := zr [zv 4 zf]
def qbtc : IC := zr [zm 5 0, zm 6 1, zi 7 (.call (.c (.fn 209 [] [])) [((.t 5), .id), ((.t 6), .id)]), zm 4 7]
def k0cz : IC := (.seq qblp (.seq qbtc .ret))
@[go_sem] def s0cz : List (RV × Co) := [(.t 4, .id)]
theorem c0cz : cFun Tryz.prog 186 = some (8, k0cz, s0cz) := by kernel_rfl

def qbq7 : IC := zr [zv 2 zf]
def qbfq : IC := zr [zm 3 0, zv 4 (.bin .neq .no (.t 3) (.c (.int .u8 10))), zm 2 4]
def k0cw : IC := (.seq qbq7 (.seq qbfq .ret))
@[go_sem] def s0cw : List (RV × Co) := [(.t 2, .id)]
theorem c0cw : cFun Tryz.prog 187 = some (5, k0cw, s0cw) := by kernel_rfl

def qbhu : IC := zr [zv 2 zf]
def qbmb : IC := zr [zm 3 0, zv 4 (.bin .geq .no (.t 3) (.c (.int .u8 48))), zm 5 4, zw 5 true 6 (.mov (.t 0)), zw 5 true 7 (.bin .leq .no (.t 6) (.c (.int .u8 57))), zv 8 (.pick (.t 5) (.t 7) (.c (.bool false))), zm 2 8]
def k0ct : IC := (.seq qbhu (.seq qbmb .ret))
@[go_sem] def s0ct : List (RV × Co) := [(.t 2, .id)]
theorem c0ct : cFun Tryz.prog 188 = some (9, k0ct, s0ct) := by kernel_rfl

def qbna : IC := zr [zv 2 (.mov (zc 0)), zv 3 (.mov (zc 0))]
def qbmi : IC := zr [zm 8 0, zv 9 (.len true (.t 8)), zv 10 (.mov (zc 0))]
def qbr6 : IC := zr [zv 11 (.bin .lss .no (.t 10) (.t 9))]
def qbio : IC := zr [zm 12 10, zm 4 12]
def qbo6 : IC := zr [zm 13 0, zm 14 4, zv 15 (.idx (.t 13) (.t 14)), zv 16 (.bin .lss .no (.t 15) (.c (.int .u8 48))), zm 17 16, zw 17 false 18 (.mov (.t 0)), zw 17 false 19 (.mov (.t 4)), zw 17 false 20 (.idx (.t 18) (.t 19)), zw 17 false 21 (.bin .gtr .no (.t 20) (.c (.int .u8 57))), zv 22 (.pick (.t 17) (.c (.bool true)) (.t 21))]
def qbq6 : IC := zr [zv 2 (.mov (zc 0)), zv 3 (.mov (zc 5))]
def qboj : IC := zr [zv 23 (.bin .add .no (.t 10) (zc 1)), zm 10 23]
def qbfn : IC := (.seq qbr6 (.seq (.cond (.t 11) .skip (.exit 0)) (.seq (.block 1 (.seq qbio (.seq qbo6 (.cond (.t 22) (.seq qbq6 .ret) .skip)))) qboj)))
def qbvr : IC := zr [zm 24 0, zv 25 (.bin .eql .no (.t 24) (.c (.str [])))]
def qbaa : IC := zr [zv 2 (.mov (zc 0)), zv 3 (.mov (zc 5))]
def q68 : IC := zr [zv 5 (.mov (zc 0)), zv 6 (.mov (zc 0))]
def q5n : IC := zr [zm 26 0, zm 27 6, zv 28 (.idx (.t 26) (.t 27)), zv 29 (.bin .sub .no (.t 28) (.c (.int .u8 48))), zv 30 (.cvi .i64 (.t 29)), zm 7 30]
def q6a : IC := zr [zm 31 5, zm 32 7, zv 33 (.bin .sub .no (zc 9223372036854775807) (.t 32)), zv 34 (.bin .quo .no (.t 33) (zc 10)), zv 35 (.bin .gtr .no (.t 31) (.t 34))]
def qbbo : IC := zr [zv 2 (.mov (zc 0)), zv 3 (.mov (zc 4))]
def q7f : IC := zr [zm 36 5, zv 37 (.bin .mul .no (zc 10) (.t 36)), zm 38 7, zv 39 (.bin .add .no (.t 37) (.t 38)), zm 5 39]
def q7h : IC := zr [zm 40 6, zv 41 (.bin .add .no (.t 40) (zc 1)), zm 6 41]
def qbaq : IC := zr [zm 42 6, zm 43 0, zv 44 (.len true (.t 43)), zv 45 (.bin .lss .no (.t 42) (.t 44))]
def q6r : IC := zr [zm 46 5, zm 2 46, zv 3 (.mov (zc 0))]
def k0cm : IC := (.seq qbna (.scope (.seq (.seq qbmi (.block 0 (.loop qbfn))) (.seq (.seq qbvr (.cond (.t 25) (.seq qbaa .ret) .skip)) (.seq q68 (.seq (.label 0) (.seq q5n (.seq (.seq q6a (.cond (.t 35) (.seq qbbo .ret) .skip)) (.seq q7f (.seq (.seq q7h (.seq qbaq (.cond (.t 45) (.goto 0) .skip))) (.seq q6r .ret)))))))))))
@[go_sem] def s0cm : List (RV × Co) := [(.t 2, .id), (.t 3, .id)]
theorem c0cm : cFun Tryz.prog 189 = some (47, k0cm, s0cm) := by kernel_rfl

def qbpi : IC := zr [zv 2 zf]
def qbt3 : IC := zr [zm 3 0, zv 4 (.bin .geq .no (.t 3) (.c (.int .u8 97))), zm 5 4, zw 5 true 6 (.mov (.t 0)), zw 5 true 7 (.bin .leq .no (.t 6) (.c (.int .u8 122))), zv 8 (.pick (.t 5) (.t 7) (.c (.bool false))), zm 9 8, zw 9 false 10 (.mov (.t 0)), zw 9 false 11 (.bin .geq .no (.t 10) (.c (.int .u8 65))), zw 9 false 12 (.mov (.t 11)), zw 12 true 13 (.mov (.t 0)), zw 12 true 14 (.bin .leq .no (.t 13) (.c (.int .u8 90))), zw 9 false 15 (.pick (.t 12) (.t 14) (.c (.bool false))), zv 16 (.pick (.t 9) (.c (.bool true)) (.t 15)), zm 17 16, zw 17 false 18 (.mov (.t 0)), zw 17 false 19 (.bin .eql .no (.t 18) (.c (.int .u8 95))), zv 20 (.pick (.t 17) (.c (.bool true)) (.t 19)), zm 21 20, zw 21 false 22 (.mov (.t 0)), zw 21 false 23 (.bin .eql .no (.t 22) (.c (.int .u8 39))), zv 24 (.pick (.t 21) (.c (.bool true)) (.t 23)), zm 25 24, zw 25 false 26 (.mov (.t 0)), ⟨some (25, false), some 27, .call (.c (.fn 188 [] [])) [((.t 26), .id)]⟩, zv 28 (.pick (.t 25) (.c (.bool true)) (.t 27)), zm 2 28]
def k0cu : IC := (.seq qbpi (.seq qbt3 .ret))
@[go_sem] def s0cu : List (RV × Co) := [(.t 2, .id)]
theorem c0cu : cFun Tryz.prog 190 = some (29, k0cu, s0cu) := by kernel_rfl

def qbi0 : IC := zr [zi 2 zaT]
def qbmu : IC := zr [zm 4 0, zv 5 (.bld [(.int .i64 0), (.int .i64 0), (.int .i64 0), (.str [])] [(0, 1, (zc 1)), (3, 1, (.t 4))]), zi 3 zaT, zn (.st 4 .id (.t 3) (.t 5))]
def qbjy : IC := zr [zm 7 0, zv 8 (.bin .eql .no (.t 7) (.c (.str [95]))), zm 6 8]
def qbqq : IC := zr [zv 9 (.fad (.t 3) 0), zn (.st 1 .id (.t 9) (zc 5))]
def qbhc : IC := zr [zm 11 0, zi 12 (.call (.c (.fn 144 [] [])) [((.t 11), .id)]), zm 10 12]
def qbjp : IC := zr [zv 13 (.fad (.t 3) 0), zn (.st 1 .id (.t 13) (zc 4))]
def qbvm : IC := zr [zm 15 0, zi 16 (.call (.c (.fn 91 [] [])) [((.t 15), .id)]), zm 14 16]
def qbe1 : IC := zr [zv 17 (.fad (.t 3) 0), zn (.st 1 .id (.t 17) (zc 2))]
def qbek : IC := zr [zv 18 (.ld true 4 (.t 3)), zn (.st 4 .id (.t 2) (.t 18))]
def k0cq : IC := (.seq qbi0 (.seq qbmu (.seq (.block 0 (.seq qbjy (.cond (.t 6) qbqq (.seq qbhc (.cond (.t 10) qbjp (.seq qbvm (.cond (.t 14) qbe1 .skip))))))) (.seq qbek .ret))))
@[go_sem] def s0cq : List (RV × Co) := [(.c true 4 2, .id)]
theorem c0cq : cFun Tryz.prog 191 = some (19, k0cq, s0cq) := by kernel_rfl

def qbvk : IC := zr [zv 2 (.mov (zc 0))]
def qbik : IC := zr [zv 5 (.bld [(.str []), (.str []), (.str []), (.str []), (.str []), (.str []), (.str []), (.str []), (.str []), (.str []), (.str []), (.str [])] [(0, 1, (.c (.str [45, 62]))), (1, 1, (.c (.str [61, 62]))), (2, 1, (.c (.str [58, 58]))), (3, 1, (.c (.str [40]))), (4, 1, (.c (.str [41]))), (5, 1, (.c (.str [123]))), (6, 1, (.c (.str [125]))), (7, 1, (.c (.str [59]))), (8, 1, (.c (.str [44]))), (9, 1, (.c (.str [61]))), (10, 1, (.c (.str [124]))), (11, 1, (.c (.str [92])))]), zv 6 (.mov (zc 0))]
def qbuk : IC := zr [zv 7 (.bin .lss .no (.t 6) (zc 12))]
def qbl5 : IC := zr [zv 8 (.ida false 1 12 (.t 5) (.t 6)), zm 4 8]
def qbij : IC := zr [zm 9 0, zm 10 4, zi 11 (.call (.c (.fn 186 [] [])) [((.t 9), .id), ((.t 10), .id)])]
def qbp7 : IC := zr [zm 12 4, zv 13 (.len true (.t 12)), zm 2 13]
def qbf7 : IC := zr [zv 14 (.bin .add .no (.t 6) (zc 1)), zm 6 14]
def qbht : IC := (.seq qbuk (.seq (.cond (.t 7) .skip (.exit 0)) (.seq (.block 1 (.seq qbl5 (.seq qbij (.cond (.t 11) (.seq qbp7 .ret) .skip)))) qbf7)))
def qbg3 : IC := zr [zv 2 (.mov (zc 0))]
def k0cr : IC := (.seq qbvk (.seq (.seq qbik (.block 0 (.loop qbht))) (.seq qbg3 .ret)))
@[go_sem] def s0cr : List (RV × Co) := [(.t 2, .id)]
theorem c0cr : cFun Tryz.prog 192 = some (15, k0cr, s0cr) := by kernel_rfl

def qbqw : IC := zr [zi 2 (.box (.t 0)), zv 4 zf]
def qbkh : IC := zr [zv 7 (.fad (.t 2) 0), zv 8 (.ld false 1 (.t 7)), zv 9 (.bin .neq .no (.t 8) (zc 4)), zm 10 9, zw 10 true 11 (.fad (.t 2) 0), zw 10 true 12 (.ld false 1 (.t 11)), zw 10 true 13 (.bin .neq .no (.t 12) (zc 5)), zv 14 (.pick (.t 10) (.t 13) (.c (.bool false)))]
def qbfy : IC := zr [zv 4 zf]
def qbu9 : IC := zr [zm 15 1, zv 16 (.len false (.t 15)), zv 17 (.mov (zc 0))]
def qbvt : IC := zr [zv 18 (.bin .lss .no (.t 17) (.t 16))]
def qbhy : IC := zr [zv 19 (.iad 1 (.t 15) (.t 17)), zv 20 (.ld false 1 (.t 19)), zm 6 20]
def qbjs : IC := zr [zv 21 (.fad (.t 2) 3), zv 22 (.ld false 1 (.t 21)), zm 23 6, zv 24 (.bin .eql .no (.t 22) (.t 23))]
def qbuu : IC := zr [zv 4 (.mov (.c (.bool true)))]
def qbdm : IC := zr [zv 25 (.bin .add .no (.t 17) (zc 1)), zm 17 25]
def k0ei_l4 : IC := (.seq qbvt (.seq (.cond (.t 18) .skip (.exit 0)) (.seq (.block 1 (.seq qbhy (.seq qbjs (.cond (.t 24) (.seq qbuu .ret) .skip)))) qbdm)))
def k0ei_r11 : IC := zr [zv 4 zf]
def k0ei : IC := (.seq qbqw (.seq (.seq qbkh (.cond (.t 14) (.seq qbfy .ret) .skip)) (.seq (.seq qbu9 (.block 0 (.loop k0ei_l4))) (.seq k0ei_r11 .ret))))
@[go_sem] def s0ei : List (RV × Co) := [(.t 4, .id)]
theorem c0ei : cFun Tryz.prog 193 = some (26, k0ei, s0ei) := by kernel_rfl

def qbho : IC := zr [zv 4 (.mov (.c .nils)), zv 5 zf]
def qbig : IC := zr [zm 9 0, zi 10 (.call (.c (.fn 156 [] [])) [((.t 9), .id), ((.c (.str [123])), .id)]), zv 11 (.un .not (.t 10))]
def qbix : IC := zr [zv 4 (.mov (.c .nils)), zv 5 zf]
def qbkj : IC := zr [zv 6 (.mov (.c .nils))]
def qbdy : IC := zr [zm 13 1, zi 14 (.call (.t 13) []), zm 12 14, zv 15 (.ext (.t 12) 0), zv 16 (.ext (.t 12) 1), zi 7 zaN, zn (.st 5 zN (.t 7) (.t 15)), zm 8 16]
def qbfd : IC := zr [zm 17 8, zv 18 (.un .not (.t 17))]
def qbxc : IC := zr [zv 4 (.mov (.c .nils)), zv 5 zf]
def qbjb : IC := zr [zm 19 6, zv 20 (.ld true 5 (.t 7)), zv 21 (.bsl 5 [((.t 20), zN)]), zi 22 (.app 5 zZ 64 (.sl 5) (.t 19) (.t 21)), zm 6 22]
def q0g : IC := zr [zm 23 0, zi 24 (.call (.c (.fn 105 [] [])) [((.t 23), .id), ((.c (.str [59])), .id)]), zv 25 (.un .not (.t 24)), zm 26 25, zw 26 false 27 (.mov (.t 0)), ⟨some (26, false), some 28, .call (.c (.fn 155 [] [])) [((.t 27), .id), ((.c (.str [125])), .id)]⟩, zv 29 (.pick (.t 26) (.c (.bool true)) (.t 28))]
def q9m : IC := zr [zm 30 6, zm 31 0, zi 32 (.call (.c (.fn 156 [] [])) [((.t 31), .id), ((.c (.str [125])), .id)]), zm 4 30, zm 5 32]
def qz6 : IC := (.block 1 (.seq qbdy (.seq (.seq qbfd (.cond (.t 18) (.seq qbxc .ret) .skip)) (.seq qbjb (.seq q0g (.cond (.t 29) (.seq q9m .ret) .skip))))))
def k0dj : IC := (.seq qbho (.seq (.seq qbig (.cond (.t 11) (.seq qbix .ret) .skip)) (.seq qbkj (.block 0 (.loop qz6)))))
@[go_sem] def s0dj : List (RV × Co) := [(.t 4, (.sl 5)), (.t 5, .id)]
theorem c0dj : cFun Tryz.prog 194 = some (33, k0dj, s0dj) := by kernel_rfl

def qbe4 : IC := zr [zi 1 zaN, zv 2 zf]
def qbl8 : IC := zr [zv 3 (.ld false 1 (.t 0)), zi 4 (.call (.c (.fn 108 [] [])) [((.t 3), .id)]), zv 5 (.ext (.t 4) 0), zv 6 (.ext (.t 4) 1), zn (.st 5 zN (.t 1) (.t 5)), zm 2 6]
def k0dh : IC := (.seq qbe4 (.seq qbl8 .ret))
@[go_sem] def s0dh : List (RV × Co) := [(.c true 5 1, zN), (.t 2, .id)]
theorem c0dh : cFun Tryz.prog 195 = some (7, k0dh, s0dh) := by kernel_rfl

def qbhw : IC := zr [zi 1 zaN, zv 2 zf]
def qbe9 : IC := zr [zv 7 (.ld false 1 (.t 0)), zi 8 (.call (.c (.fn 54 [] [])) [((.t 7), .id)]), zm 6 8, zv 9 (.ext (.t 6) 0), zv 10 (.ext (.t 6) 1), zi 3 zaN, zn (.st 5 zN (.t 3) (.t 9)), zm 4 10]
def qbke : IC := zr [zm 11 4, zv 12 (.un .not (.t 11)), zm 13 12, zw 13 false 14 (.ld false 1 (.t 0)), ⟨some (13, false), some 15, .call (.c (.fn 156 [] [])) [((.t 14), .id), ((.c (.str [45, 62])), .id)]⟩, zw 13 false 16 (.un .not (.t 15)), zv 17 (.pick (.t 13) (.c (.bool true)) (.t 16))]
def qbuv : IC := zr [zv 18 (.ld true 5 (.t 3)), zn (.st 5 zN (.t 1) (.t 18)), zv 2 zf]
def qblr : IC := zr [zv 20 (.ld false 1 (.t 0)), zi 21 (.call (.c (.fn 58 [] [])) [((.t 20), .id)]), zm 19 21, zv 22 (.ext (.t 19) 0), zv 23 (.ext (.t 19) 1), zi 5 zaN, zn (.st 5 zN (.t 5) (.t 22)), zm 4 23]
def qbqc : IC := zr [zv 24 (.fad (.t 3) 1), zv 25 (.ld false 1 (.t 24)), zv 26 (.ld true 5 (.t 3)), zv 27 (.ld true 5 (.t 5)), zv 28 (.bsl 5 [((.t 26), zN), ((.t 27), zN)]), zv 29 (.bld [(.int .i64 0), (.int .i64 0), (.int .i64 0), (.str []), .nils] [(0, 1, (zc 15)), (1, 1, (.t 25)), (4, 1, (.t 28))]), zm 30 4, zn (.st 5 zN (.t 1) (.t 29)), zm 2 30]
def k0di : IC := (.seq qbhw (.seq qbe9 (.seq (.seq qbke (.cond (.t 17) (.seq qbuv .ret) .skip)) (.seq qblr (.seq qbqc .ret)))))
@[go_sem] def s0di : List (RV × Co) := [(.c true 5 1, zN), (.t 2, .id)]
theorem c0di : cFun Tryz.prog 196 = some (31, k0di, s0di) := by kernel_rfl

def qbfz : IC := zr [zi 2 zaN, zv 3 zf]
def qbun : IC := zr [zm 9 0, zi 10 (.call (.c (.fn 198 [] [])) [((.t 9), .id)]), zm 8 10, zv 11 (.ext (.t 8) 0), zv 12 (.ext (.t 8) 1), zi 4 zaN, zn (.st 5 zN (.t 4) (.t 11)), zm 5 12]
def qbmp : IC := zr [zm 13 5]
def qbhb : IC := zr [zm 14 0, zi 15 (.call (.c (.fn 154 [] [])) [((.t 14), .id)])]
def qbss : IC := zr [zv 16 (.ld true 5 (.t 4)), zn (.st 5 zN (.t 2) (.t 16)), zv 3 (.mov (.c (.bool true)))]
def qbdj : IC := zr [zm 17 0, zi 18 (.call (.c (.fn 155 [] [])) [((.t 17), .id), ((.c (.str [40])), .id)]), zv 19 (.un .not (.t 18))]
def qbtb : IC := zr [zv 20 (.bld [(.int .i64 0), (.int .i64 0), (.int .i64 0), (.str []), .nils] []), zm 21 0, zi 22 (.call (.c (.fn 152 [] [])) [((.t 21), .id), ((zc 5), .id)]), zn (.st 5 zN (.t 2) (.t 20)), zm 3 22]
def qbiz : IC := zr [zm 23 0, zi 24 (.call (.c (.fn 95 [] [])) [((.t 23), .id)]), zv 25 (.un .not (.t 24))]
def qboo : IC := zr [zv 26 (.bld [(.int .i64 0), (.int .i64 0), (.int .i64 0), (.str []), .nils] []), zn (.st 5 zN (.t 2) (.t 26)), zv 3 zf]
def qbm1 : IC := zr [zm 27 0, zi 28 (.call (.c (.fn 154 [] [])) [((.t 27), .id)])]
def qbbl : IC := zr [zm 30 0, zi 31 (.call (.c (.fn 58 [] [])) [((.t 30), .id)]), zm 29 31, zv 32 (.ext (.t 29) 0), zv 33 (.ext (.t 29) 1), zi 6 zaN, zn (.st 5 zN (.t 6) (.t 32)), zm 7 33]
def qbac : IC := zr [zm 34 7, zv 35 (.un .not (.t 34)), zm 36 35, zw 36 false 37 (.mov (.t 0)), ⟨some (36, false), some 38, .call (.c (.fn 156 [] [])) [((.t 37), .id), ((.c (.str [41])), .id)]⟩, zw 36 false 39 (.un .not (.t 38)), zv 40 (.pick (.t 36) (.c (.bool true)) (.t 39))]
def qbbh : IC := zr [zv 41 (.bld [(.int .i64 0), (.int .i64 0), (.int .i64 0), (.str []), .nils] []), zn (.st 5 zN (.t 2) (.t 41)), zv 3 zf]
def q73 : IC := zr [zm 42 0, zi 43 (.call (.c (.fn 98 [] [])) [((.t 42), .id)])]
def qba6 : IC := zr [zv 44 (.ld true 5 (.t 6)), zn (.st 5 zN (.t 2) (.t 44)), zv 3 (.mov (.c (.bool true)))]
def k0dn : IC := (.seq qbfz (.seq (.seq qbun (.seq qbmp (.cond (.t 13) (.seq qbhb (.seq qbss .ret)) .skip))) (.seq (.seq qbdj (.cond (.t 19) (.seq qbtb .ret) .skip)) (.seq (.seq qbiz (.cond (.t 25) (.seq qboo .ret) .skip)) (.seq qbm1 (.seq qbbl (.seq (.seq qbac (.cond (.t 40) (.seq qbbh .ret) .skip)) (.seq q73 (.seq qba6 .ret)))))))))
@[go_sem] def s0dn : List (RV × Co) := [(.c true 5 2, zN), (.t 3, .id)]
theorem c0dn : cFun Tryz.prog 197 = some (45, k0dn, s0dn) := by kernel_rfl

def qbim : IC := zr [zi 2 zaN, zv 3 zf]
def qbua : IC := zr [zm 5 0, zi 6 (.call (.c (.fn 66 [] [])) [((.t 5), .id)]), zi 4 zaT, zn (.st 4 .id (.t 4) (.t 6))]
def qbp2 : IC := zr [zv 7 (.fad (.t 4) 0), zv 8 (.ld false 1 (.t 7))]
def qbjn : IC := zr [zv 10 (.bin .eql .no (.t 8) (zc 1)), zm 9 10]
def qbwq : IC := zr [zv 11 (.fad (.t 4) 1), zv 12 (.ld false 1 (.t 11)), zv 13 (.fad (.t 4) 3), zv 14 (.ld false 1 (.t 13)), zv 15 (.bld [(.int .i64 0), (.int .i64 0), (.int .i64 0), (.str []), .nils] [(0, 1, (zc 21)), (1, 1, (.t 12)), (3, 1, (.t 14))]), zn (.st 5 zN (.t 2) (.t 15)), zv 3 (.mov (.c (.bool true)))]
def qbp4 : IC := zr [zv 17 (.bin .eql .no (.t 8) (zc 2)), zm 16 17]
def qbsv : IC := zr [zv 18 (.fad (.t 4) 1), zv 19 (.ld false 1 (.t 18)), zv 20 (.fad (.t 4) 3), zv 21 (.ld false 1 (.t 20)), zv 22 (.bld [(.int .i64 0), (.int .i64 0), (.int .i64 0), (.str []), .nils] [(0, 1, (zc 22)), (1, 1, (.t 19)), (3, 1, (.t 21))]), zn (.st 5 zN (.t 2) (.t 22)), zv 3 (.mov (.c (.bool true)))]
def qbnd : IC := zr [zv 24 (.bin .eql .no (.t 8) (zc 3)), zm 23 24]
def qbnt : IC := zr [zv 25 (.fad (.t 4) 1), zv 26 (.ld false 1 (.t 25)), zv 27 (.fad (.t 4) 2), zv 28 (.ld false 1 (.t 27)), zv 29 (.bld [(.int .i64 0), (.int .i64 0), (.int .i64 0), (.str []), .nils] [(0, 1, (zc 23)), (1, 1, (.t 26)), (2, 1, (.t 28))]), zn (.st 5 zN (.t 2) (.t 29)), zv 3 (.mov (.c (.bool true)))]
def qbv4 : IC := zr [zv 30 (.bld [(.int .i64 0), (.int .i64 0), (.int .i64 0), (.str []), .nils] []), zn (.st 5 zN (.t 2) (.t 30)), zv 3 zf]
def k0dm : IC := (.seq qbim (.seq qbua (.seq (.seq qbp2 (.block 0 (.seq qbjn (.cond (.t 9) (.seq qbwq .ret) (.seq qbp4 (.cond (.t 16) (.seq qbsv .ret) (.seq qbnd (.cond (.t 23) (.seq qbnt .ret) .skip)))))))) (.seq qbv4 .ret))))
@[go_sem] def s0dm : List (RV × Co) := [(.c true 5 2, zN), (.t 3, .id)]
theorem c0dm : cFun Tryz.prog 198 = some (31, k0dm, s0dm) := by kernel_rfl

def qbsl : IC := zr [zv 4 zf]
def qbgy : IC := zr [zm 5 0, zv 6 (.len true (.t 5)), zm 7 1, zv 8 (.len true (.t 7)), zv 9 (.bin .geq .no (.t 6) (.t 8)), zm 10 9, zw 10 true 11 (.mov (.t 0)), zw 10 true 12 (.mov (.t 1)), zw 10 true 13 (.len true (.t 12)), zw 10 true 14 (.sls (.t 11) none (some (.t 13))), zw 10 true 15 (.mov (.t 1)), zw 10 true 16 (.bin .eql .no (.t 14) (.t 15)), zv 17 (.pick (.t 10) (.t 16) (.c (.bool false))), zm 4 17]
def k0cy : IC := (.seq qbsl (.seq qbgy .ret))
@[go_sem] def s0cy : List (RV × Co) := [(.t 4, .id)]
theorem c0cy : cFun Tryz.prog 209 = some (18, k0cy, s0cy) := by kernel_rfl

end Go.Proofs.YtlmcofjcpadmiaaGreat
