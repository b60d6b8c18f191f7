/- A text of this proof. -/
import Derived.Test.YtfpobiheiloamaaPaf
import Derived.Test.YtfpobiheiloamaaProg
/- The compiled code of the functions. -/
namespace Go.Proofs.Ytfpobiheiloamaa
open Go Go.V
@[reducible] def zm (d s : Nat) : GI := ⟨none, some d, .v (.mov (.t s))⟩
@[reducible] def zv (d : Nat) (x : IV) : GI := ⟨none, some d, .v x⟩
@[reducible] def zi (d : Nat) (i : I) : GI := ⟨none, some d, i⟩
@[reducible] def zn (i : I) : GI := ⟨none, none, i⟩
@[reducible] def zw (j : Nat) (b : Bool) (d : Nat) (x : IV) : GI := ⟨some (j, b), some d, .v x⟩
@[reducible] def zp (g : GI) : GI × List Nat := (g, [])
@[reducible] def zN : Co := .agg [.id, .id, .id, .id, (.sl 5)]
@[reducible] def zC : Co := .agg [(.sl 4), .id, .id, .id, .id, .id, .id, .id]
@[reducible] def zaN : I := .alo [(.int .i64 0), (.int .i64 0), (.int .i64 0), (.str []), .nils]
@[reducible] def zaC : I := .alo [.nils, (.int .i64 0), (.int .i64 0), (.int .i64 0), (.str []), (.int .i64 0), (.int .i64 0), (.int .i64 0)]
@[reducible] def zaT : I := .alo [(.int .i64 0), (.int .i64 0), (.int .i64 0), (.str [])]
@[reducible] def zZ : AV := .agg [(.int .i64 0), (.int .i64 0), (.int .i64 0), (.str []), .nils]
@[reducible] def zc (n : Int) : Opd := .c (.int .i64 n)
@[reducible] def zf : IV := .mov (.c (.bool false))
@[reducible] def zr (l : List GI) : IC := .reg false l
def q4v : IC := zr [zv 2 zf]
def q4z : IC := zr [zm 6 0, zi 7 (.call (.c (.fn 15 [] [])) [((.t 6), (.sl 4))]), zv 8 (.bin .eql .no (.t 7) (zc 0))]
def q7x : IC := zr [zi 9 (.call (.c (.fn 16 [] [])) []), zm 2 9]
def q2r : IC := zr [zm 10 0, zi 11 (.call (.c (.fn 18 [] [])) [((.t 10), (.sl 4))]), zm 3 11]
def q3l : IC := zr [zv 4 (.mov (zc 0))]
def q3y : IC := zr [zm 12 4, zm 13 3, zv 14 (.len false (.t 13)), zv 15 (.bin .lss .no (.t 12) (.t 14))]
def q45 : IC := .drw [zp (zm 18 3), zp (zm 19 4), zp (zv 20 (.slv 4 (.t 18) none (some (.t 19)) none)), zp (zm 21 3), zp (zm 22 4), zp (zv 23 (.iad 4 (.t 21) (.t 22))), zp (zv 24 (.ld true 4 (.t 23))), (zi 25 (.call (.c (.fn 20 [] [])) [((.t 20), (.sl 4)), ((.t 24), (.agg [.id, .id, .id, (.sl 3)]))]), []), zp (zm 26 25), zp (zw 26 false 27 (.mov (.t 0))), zp (zw 26 false 28 (.mov (.t 3))), zp (zw 26 false 29 (.mov (.t 4))), zp (zw 26 false 30 (.iad 4 (.t 28) (.t 29))), zp (zw 26 false 31 (.ld true 4 (.t 30))), (⟨some (26, false), some 32, .call (.c (.fn 20 [] [])) [((.t 27), (.sl 4)), ((.t 31), (.agg [.id, .id, .id, (.sl 3)]))]⟩, []), zp (zw 26 false 33 (.un .not (.t 32))), zp (zv 34 (.pick (.t 26) (.c (.bool true)) (.t 33)))]
def q3e : IC := zr [zv 2 zf]
def q35 : IC := zr [zm 16 4, zv 17 (.bin .add .no (.t 16) (zc 1)), zm 4 17]
def q8j : IC := (.seq (.seq q3y (.cond (.t 15) .skip (.exit 0))) (.seq (.block 1 (.seq q45 (.cond (.t 34) (.seq q3e .ret) .skip))) q35))
def qxp : IC := zr [zv 5 (.mov (zc 0))]
def q0i : IC := zr [zm 35 5, zm 36 0, zv 37 (.len false (.t 36)), zv 38 (.bin .lss .no (.t 35) (.t 37))]
def q03 : IC := zr [zm 41 3, zm 42 0, zm 43 5, zv 44 (.iad 4 (.t 42) (.t 43)), zv 45 (.ld true 4 (.t 44)), zi 46 (.call (.c (.fn 20 [] [])) [((.t 41), (.sl 4)), ((.t 45), (.agg [.id, .id, .id, (.sl 3)]))]), zv 47 (.un .not (.t 46))]
def qxm : IC := zr [zv 2 zf]
def qzm : IC := zr [zm 39 5, zv 40 (.bin .add .no (.t 39) (zc 1)), zm 5 40]
def qwo : IC := (.seq (.seq q0i (.cond (.t 38) .skip (.exit 2))) (.seq (.block 3 (.seq q03 (.cond (.t 47) (.seq qxm .ret) .skip))) qzm))
def qxj : IC := zr [zm 48 3, zi 49 (.call (.c (.fn 18 [] [])) [((.t 48), (.sl 4))]), zm 50 3, zi 51 (.call (.c (.fn 17 [] [])) [((.t 49), (.sl 4)), ((.t 50), (.sl 4))]), zm 52 51, ⟨some (52, true), some 53, .call (.c (.fn 16 [] [])) []⟩, zv 54 (.pick (.t 52) (.t 53) (.c (.bool false))), zm 2 54]
def k0a : IC := (.seq q4v (.seq (.seq q4z (.cond (.t 8) (.seq q7x .ret) .skip)) (.seq q2r (.seq (.seq q3l (.block 0 (.loop q8j))) (.seq (.seq qxp (.block 2 (.loop qwo))) (.seq qxj .ret))))))
@[go_sem] def s0a : List (RV × Co) := [(.t 2, .id)]
theorem c0a : cFun Try.prog 5 = some (55, k0a, s0a) := by kernel_rfl

def q8q : IC := zr [zv 2 (.mov (zc 0))]
def q7c : IC := zr [zm 5 0, zv 6 (.len false (.t 5)), zv 7 (.bin .gtr .no (.t 6) (zc 30))]
def q51 : IC := zr [zv 2 (.mov (zc 0))]
def q3j : IC := zr [zv 3 (.mov (.c .nils))]
def q2f : IC := zr [zv 4 (.mov (zc 0))]
def q6j : IC := zr [zm 8 4, zm 9 0, zv 10 (.len false (.t 9)), zv 11 (.bin .lss .no (.t 8) (.t 10))]
def q3b : IC := zr [zm 14 3, zm 15 0, zm 16 4, zv 17 (.iad 4 (.t 15) (.t 16)), zv 18 (.fad (.t 17) 1), zv 19 (.ld true 3 (.t 18)), zv 20 (.bsl 3 [((.t 19), (.agg [.id, .id, (.sl 3)]))]), zi 21 (.app 3 (.agg [(.str []), (.int .i64 0), .nils]) 48 (.sl 3) (.t 14) (.t 20)), zm 3 21]
def q5r : IC := zr [zm 12 4, zv 13 (.bin .add .no (.t 12) (zc 1)), zm 4 13]
def q3z : IC := (.seq (.seq q6j (.cond (.t 11) .skip (.exit 0))) (.seq (.block 1 q3b) q5r))
def q19 : IC := zr [zm 22 3, zi 23 (.call (.c (.fn 31 [] [])) [((.t 22), (.sl 3))]), zm 2 23]
def k0m : IC := (.seq q8q (.seq (.seq q7c (.cond (.t 7) (.seq q51 .ret) .skip)) (.seq q3j (.seq (.seq q2f (.block 0 (.loop q3z))) (.seq q19 .ret)))))
@[go_sem] def s0m : List (RV × Co) := [(.t 2, .id)]
theorem c0m : cFun Try.prog 15 = some (24, k0m, s0m) := by kernel_rfl

def q6w : IC := zr [zv 0 zf]
def q26 : IC := zr [zv 3 (.bld [(.str []), (.str []), (.int .i64 0), .nils] [(0, 1, (.c (.str [67])))]), zi 1 (.alo [(.str []), (.str []), (.int .i64 0), .nils]), zn (.st 4 (.agg [.id, .id, .id, (.sl 3)]) (.t 1) (.t 3))]
def q77 : IC := zr [zv 4 (.bld [(.str []), (.int .i64 0), .nils] [(1, 1, (zc 1))]), zv 5 (.bsl 3 [((.t 4), (.agg [.id, .id, (.sl 3)]))]), zv 6 (.bld [(.str []), (.int .i64 0), .nils] [(0, 1, (.c (.str [84]))), (2, 1, (.t 5))]), zv 7 (.bld [(.str []), (.str []), (.int .i64 0), .nils] [(0, 1, (.c (.str [68]))), (1, 3, (.t 6))]), zi 2 (.alo [(.str []), (.str []), (.int .i64 0), .nils]), zn (.st 4 (.agg [.id, .id, .id, (.sl 3)]) (.t 2) (.t 7))]
def q4k : IC := zr [zv 8 (.ld true 4 (.t 1)), zv 9 (.ld true 4 (.t 2)), zv 10 (.bsl 4 [((.t 8), (.agg [.id, .id, .id, (.sl 3)])), ((.t 9), (.agg [.id, .id, .id, (.sl 3)]))]), zi 11 (.call (.c (.fn 25 [] [])) [((.t 10), (.sl 4))]), zv 12 (.bin .eql .no (.t 11) (.c (.str [40, 67, 32, 97, 44, 32, 68, 32, 40, 84, 32, 98, 41, 41]))), zm 13 12, zw 13 true 14 (.ld true 4 (.t 1)), zw 13 true 15 (.bsl 4 [((.t 14), (.agg [.id, .id, .id, (.sl 3)]))]), ⟨some (13, true), some 16, .call (.c (.fn 25 [] [])) [((.t 15), (.sl 4))]⟩, zw 13 true 17 (.bin .eql .no (.t 16) (.c (.str [67, 32, 97]))), zv 18 (.pick (.t 13) (.t 17) (.c (.bool false))), zm 19 18, ⟨some (19, true), some 20, .call (.c (.fn 25 [] [])) [((.c .nils), (.sl 4))]⟩, zw 19 true 21 (.bin .eql .no (.t 20) (.c (.str []))), zv 22 (.pick (.t 19) (.t 21) (.c (.bool false))), zm 23 22, zw 23 true 24 (.ld true 4 (.t 1)), zw 23 true 25 (.ld true 4 (.t 2)), ⟨some (23, true), some 26, .call (.c (.fn 28 [] [])) [((.t 24), (.agg [.id, .id, .id, (.sl 3)])), ((.t 25), (.agg [.id, .id, .id, (.sl 3)]))]⟩, zw 23 true 27 (.bin .eql .no (.t 26) (zc (-1))), zv 28 (.pick (.t 23) (.t 27) (.c (.bool false))), zm 29 28, zw 29 true 30 (.ld true 4 (.t 2)), zw 29 true 31 (.ld true 4 (.t 1)), ⟨some (29, true), some 32, .call (.c (.fn 28 [] [])) [((.t 30), (.agg [.id, .id, .id, (.sl 3)])), ((.t 31), (.agg [.id, .id, .id, (.sl 3)]))]⟩, zw 29 true 33 (.bin .eql .no (.t 32) (zc 1)), zv 34 (.pick (.t 29) (.t 33) (.c (.bool false))), zm 35 34, zw 35 true 36 (.ld true 4 (.t 1)), zw 35 true 37 (.ld true 4 (.t 1)), ⟨some (35, true), some 38, .call (.c (.fn 29 [] [])) [((.t 36), (.agg [.id, .id, .id, (.sl 3)])), ((.t 37), (.agg [.id, .id, .id, (.sl 3)]))]⟩, zv 39 (.pick (.t 35) (.t 38) (.c (.bool false))), zm 40 39, zw 40 true 41 (.ld true 4 (.t 1)), zw 40 true 42 (.bsl 4 [((.t 41), (.agg [.id, .id, .id, (.sl 3)]))]), zw 40 true 43 (.ld true 4 (.t 1)), ⟨some (40, true), some 44, .call (.c (.fn 20 [] [])) [((.t 42), (.sl 4)), ((.t 43), (.agg [.id, .id, .id, (.sl 3)]))]⟩, zv 45 (.pick (.t 40) (.t 44) (.c (.bool false))), zm 46 45, zw 46 true 47 (.ld true 4 (.t 1)), zw 46 true 48 (.bsl 4 [((.t 47), (.agg [.id, .id, .id, (.sl 3)]))]), zw 46 true 49 (.ld true 4 (.t 2)), ⟨some (46, true), some 50, .call (.c (.fn 20 [] [])) [((.t 48), (.sl 4)), ((.t 49), (.agg [.id, .id, .id, (.sl 3)]))]⟩, zw 46 true 51 (.un .not (.t 50)), zv 52 (.pick (.t 46) (.t 51) (.c (.bool false))), zm 53 52, zw 53 true 54 (.ld true 4 (.t 1)), zw 53 true 55 (.ld true 4 (.t 2)), zw 53 true 56 (.ld true 4 (.t 1)), zw 53 true 57 (.bsl 4 [((.t 54), (.agg [.id, .id, .id, (.sl 3)])), ((.t 55), (.agg [.id, .id, .id, (.sl 3)])), ((.t 56), (.agg [.id, .id, .id, (.sl 3)]))]), ⟨some (53, true), some 58, .call (.c (.fn 18 [] [])) [((.t 57), (.sl 4))]⟩, zw 53 true 59 (.len false (.t 58)), zw 53 true 60 (.bin .eql .no (.t 59) (zc 2)), zv 61 (.pick (.t 53) (.t 60) (.c (.bool false))), zm 62 61, zw 62 true 63 (.ld true 4 (.t 2)), zw 62 true 64 (.ld true 4 (.t 1)), zw 62 true 65 (.bsl 4 [((.t 63), (.agg [.id, .id, .id, (.sl 3)])), ((.t 64), (.agg [.id, .id, .id, (.sl 3)]))]), ⟨some (62, true), some 66, .call (.c (.fn 23 [] [])) [((.t 65), (.sl 4))]⟩, zw 62 true 67 (.bsl 1 [((zc 1), .id), ((zc 0), .id)]), ⟨some (62, true), some 68, .call (.c (.fn 22 [] [])) [((.t 66), (.sl 1)), ((.t 67), (.sl 1))]⟩, zv 69 (.pick (.t 62) (.t 68) (.c (.bool false))), zm 70 69, zw 70 true 71 (.ld true 4 (.t 1)), ⟨some (70, true), some 72, .call (.c (.fn 61 [] [])) [((.t 71), (.agg [.id, .id, .id, (.sl 3)]))]⟩, zv 73 (.pick (.t 70) (.t 72) (.c (.bool false))), zm 74 73, zw 74 true 75 (.ld true 4 (.t 2)), ⟨some (74, true), some 76, .call (.c (.fn 61 [] [])) [((.t 75), (.agg [.id, .id, .id, (.sl 3)]))]⟩, zw 74 true 77 (.un .not (.t 76)), zv 78 (.pick (.t 74) (.t 77) (.c (.bool false))), zm 79 78, zw 79 true 80 (.ld true 4 (.t 2)), ⟨some (79, true), some 81, .call (.c (.fn 27 [] [])) [((.t 80), (.agg [.id, .id, .id, (.sl 3)]))]⟩, zv 82 (.pick (.t 79) (.t 81) (.c (.bool false))), zm 83 82, zw 83 true 84 (.bld [(.str []), (.str []), (.int .i64 0), .nils] [(0, 1, (.c (.str [99])))]), ⟨some (83, true), some 85, .call (.c (.fn 27 [] [])) [((.t 84), (.agg [.id, .id, .id, (.sl 3)]))]⟩, zw 83 true 86 (.un .not (.t 85)), zv 87 (.pick (.t 83) (.t 86) (.c (.bool false))), zm 0 87]
def k0b : IC := (.seq q6w (.seq q26 (.seq q77 (.seq q4k .ret))))
@[go_sem] def s0b : List (RV × Co) := [(.t 0, .id)]
theorem c0b : cFun Try.prog 16 = some (88, k0b, s0b) := by kernel_rfl

def q2l : IC := zr [zv 4 zf]
def q53 : IC := zr [zm 6 0, zv 7 (.len false (.t 6)), zm 8 1, zv 9 (.len false (.t 8)), zv 10 (.bin .neq .no (.t 7) (.t 9))]
def q5q : IC := zr [zv 4 zf]
def q8o : IC := zr [zv 5 (.mov (zc 0))]
def q5z : IC := zr [zm 11 5, zm 12 0, zv 13 (.len false (.t 12)), zv 14 (.bin .lss .no (.t 11) (.t 13))]
def q62 : IC := .drw [zp (zm 17 0), zp (zm 18 5), zp (zv 19 (.iad 4 (.t 17) (.t 18))), zp (zv 20 (.ld true 4 (.t 19))), zp (zm 21 1), zp (zm 22 5), zp (zv 23 (.iad 4 (.t 21) (.t 22))), zp (zv 24 (.ld true 4 (.t 23))), (zi 25 (.call (.c (.fn 62 [] [])) [((.t 20), (.agg [.id, .id, .id, (.sl 3)])), ((.t 24), (.agg [.id, .id, .id, (.sl 3)]))]), []), zp (zv 26 (.un .not (.t 25)))]
def q7k : IC := zr [zv 4 zf]
def q27 : IC := zr [zm 15 5, zv 16 (.bin .add .no (.t 15) (zc 1)), zm 5 16]
def q7u : IC := (.seq (.seq q5z (.cond (.t 14) .skip (.exit 0))) (.seq (.block 1 (.seq q62 (.cond (.t 26) (.seq q7k .ret) .skip))) q27))
def q08 : IC := zr [zv 4 (.mov (.c (.bool true)))]
def k0j : IC := (.seq q2l (.seq (.seq q53 (.cond (.t 10) (.seq q5q .ret) .skip)) (.seq (.seq q8o (.block 0 (.loop q7u))) (.seq q08 .ret))))
@[go_sem] def s0j : List (RV × Co) := [(.t 4, .id)]
theorem c0j : cFun Try.prog 17 = some (27, k0j, s0j) := by kernel_rfl

def q3f : IC := zr [zv 2 (.mov (.c .nils))]
def q63 : IC := zr [zv 3 (.mov (.c .nils))]
def q5f : IC := zr [zm 6 0, zv 7 (.len false (.t 6)), zv 8 (.mov (zc 0))]
def q2h : IC := zr [zv 9 (.bin .lss .no (.t 8) (.t 7))]
def q3h : IC := zr [zv 10 (.iad 4 (.t 6) (.t 8)), zv 11 (.ld true 4 (.t 10)), zi 5 (.alo [(.str []), (.str []), (.int .i64 0), .nils]), zn (.st 4 (.agg [.id, .id, .id, (.sl 3)]) (.t 5) (.t 11))]
def q80 : IC := zr [zm 12 3, zv 13 (.ld true 4 (.t 5)), zi 14 (.call (.c (.fn 20 [] [])) [((.t 12), (.sl 4)), ((.t 13), (.agg [.id, .id, .id, (.sl 3)]))]), zv 15 (.un .not (.t 14))]
def q2e : IC := .drw [zp (zm 16 3), zp (zm 17 3), zp (zv 18 (.len false (.t 17))), zp (zm 19 3), zp (zv 20 (.len false (.t 19))), zp (zv 21 (.slv 4 (.t 16) none (some (.t 18)) (some (.t 20)))), zp (zv 22 (.ld true 4 (.t 5))), (zv 23 (.bsl 4 [((.t 22), (.agg [.id, .id, .id, (.sl 3)]))]), []), (zi 24 (.app 4 (.agg [(.str []), (.str []), (.int .i64 0), .nils]) 64 (.sl 4) (.t 21) (.t 23)), []), zp (zm 3 24)]
def q4q : IC := zr [zv 25 (.bin .add .no (.t 8) (zc 1)), zm 8 25]
def q5m : IC := (.seq q2h (.seq (.cond (.t 9) .skip (.exit 0)) (.seq (.block 1 (.seq q3h (.seq q80 (.cond (.t 15) q2e .skip)))) q4q)))
def qxn : IC := zr [zm 26 3, zm 2 26]
def k0u : IC := (.seq q3f (.seq q63 (.seq (.seq q5f (.block 0 (.loop q5m))) (.seq qxn .ret))))
@[go_sem] def s0u : List (RV × Co) := [(.t 2, (.sl 4))]
theorem c0u : cFun Try.prog 18 = some (27, k0u, s0u) := by kernel_rfl

def q2n : IC := zr [zi 3 (.box (.t 1)), zv 4 zf]
def q4i : IC := zr [zm 5 0, zv 6 (.mfn 64 [] [(.t 3)]), zi 7 (.call (.c (.fn 63 [] [])) [((.t 5), (.sl 4)), ((.t 6), .id)]), zm 4 7]
def k0s : IC := (.seq q2n (.seq q4i .ret))
@[go_sem] def s0s : List (RV × Co) := [(.t 4, .id)]
theorem c0s : cFun Try.prog 20 = some (8, k0s, s0s) := by kernel_rfl

def q3x : IC := zr [zi 3 (.box (.t 1)), zv 4 zf]
def q7b : IC := zr [zv 5 (.mov (zc 0))]
def q3u : IC := zr [zm 6 5, zm 7 0, zv 8 (.len false (.t 7)), zv 9 (.bin .lss .no (.t 6) (.t 8))]
def q6n : IC := .drw [zp (zm 12 0), zp (zm 13 5), zp (zv 14 (.iad 4 (.t 12) (.t 13))), zp (zv 15 (.ld true 4 (.t 14))), zp (zv 16 (.ld true 4 (.t 3))), (zi 17 (.call (.c (.fn 62 [] [])) [((.t 15), (.agg [.id, .id, .id, (.sl 3)])), ((.t 16), (.agg [.id, .id, .id, (.sl 3)]))]), [])]
def q8g : IC := zr [zv 4 (.mov (.c (.bool true)))]
def q28 : IC := zr [zm 10 5, zv 11 (.bin .add .no (.t 10) (zc 1)), zm 5 11]
def q8m : IC := (.seq (.seq q3u (.cond (.t 9) .skip (.exit 0))) (.seq (.block 1 (.seq q6n (.cond (.t 17) (.seq q8g .ret) .skip))) q28))
def q8f : IC := zr [zv 4 zf]
def k0t : IC := (.seq q3x (.seq (.seq q7b (.block 0 (.loop q8m))) (.seq q8f .ret)))
@[go_sem] def s0t : List (RV × Co) := [(.t 4, .id)]
theorem c0t : cFun Try.prog 21 = some (18, k0t, s0t) := by kernel_rfl

def q0z : IC := zr [zv 4 zf]
def qw2 : IC := zr [zm 6 0, zv 7 (.len false (.t 6)), zm 8 1, zv 9 (.len false (.t 8)), zv 10 (.bin .neq .no (.t 7) (.t 9))]
def qv7 : IC := zr [zv 4 zf]
def qvy : IC := zr [zv 5 (.mov (zc 0))]
def qwu : IC := zr [zm 11 5, zm 12 0, zv 13 (.len false (.t 12)), zv 14 (.bin .lss .no (.t 11) (.t 13))]
def qyo : IC := .drw [zp (zm 17 0), zp (zm 18 5), zp (zv 19 (.iad 1 (.t 17) (.t 18))), zp (zv 20 (.ld false 1 (.t 19))), zp (zm 21 1), zp (zm 22 5), zp (zv 23 (.iad 1 (.t 21) (.t 22))), zp (zv 24 (.ld false 1 (.t 23))), zp (zv 25 (.bin .neq .no (.t 20) (.t 24)))]
def qxv : IC := zr [zv 4 zf]
def q1x : IC := zr [zm 15 5, zv 16 (.bin .add .no (.t 15) (zc 1)), zm 5 16]
def qxd : IC := (.seq (.seq qwu (.cond (.t 14) .skip (.exit 0))) (.seq (.block 1 (.seq qyo (.cond (.t 25) (.seq qxv .ret) .skip))) q1x))
def qun : IC := zr [zv 4 (.mov (.c (.bool true)))]
def k0bf : IC := (.seq q0z (.seq (.seq qw2 (.cond (.t 10) (.seq qv7 .ret) .skip)) (.seq (.seq qvy (.block 0 (.loop qxd))) (.seq qun .ret))))
@[go_sem] def s0bf : List (RV × Co) := [(.t 4, .id)]
theorem c0bf : cFun Try.prog 22 = some (26, k0bf, s0bf) := by kernel_rfl

def q4u : IC := zr [zv 2 (.mov (.c .nils))]
def q5o : IC := zr [zv 3 (.mov (.c .nils))]
def q7w : IC := zr [zm 8 0, zv 9 (.len false (.t 8)), zv 10 (.mov (zc 0))]
def q7a : IC := zr [zv 11 (.bin .lss .no (.t 10) (.t 9))]
def q55 : IC := zr [zv 12 (.iad 4 (.t 8) (.t 10)), zv 13 (.ld true 4 (.t 12)), zi 5 (.alo [(.str []), (.str []), (.int .i64 0), .nils]), zn (.st 4 (.agg [.id, .id, .id, (.sl 3)]) (.t 5) (.t 13))]
def q42 : IC := zr [zv 14 (.fad (.t 5) 1), zv 15 (.ld true 3 (.t 14)), zi 16 (.call (.c (.fn 65 [] [])) [((.t 15), (.agg [.id, .id, (.sl 3)]))]), zv 17 (.len false (.t 16)), zv 18 (.mov (zc 0))]
def q3i : IC := zr [zv 19 (.bin .lss .no (.t 18) (.t 17))]
def q52 : IC := zr [zv 20 (.iad 1 (.t 16) (.t 18)), zv 21 (.ld false 1 (.t 20)), zm 7 21]
def q0l : IC := zr [zm 22 3, zm 23 7, zi 24 (.call (.c (.fn 66 [] [])) [((.t 22), (.sl 1)), ((.t 23), .id)]), zv 25 (.un .not (.t 24))]
def qx6 : IC := zr [zm 26 3, zm 27 7, zv 28 (.bsl 1 [((.t 27), .id)]), zi 29 (.app 1 (.int .i64 0) 8 (.sl 1) (.t 26) (.t 28)), zm 3 29]
def q0m : IC := zr [zv 30 (.bin .add .no (.t 18) (zc 1)), zm 18 30]
def qu4 : IC := (.seq q3i (.seq (.cond (.t 19) .skip (.exit 2)) (.seq (.block 3 (.seq q52 (.seq q0l (.cond (.t 25) qx6 .skip)))) q0m)))
def qxr : IC := zr [zv 31 (.bin .add .no (.t 10) (zc 1)), zm 10 31]
def q4x : IC := (.seq q7a (.seq (.cond (.t 11) .skip (.exit 0)) (.seq (.block 1 (.seq q55 (.seq q42 (.block 2 (.loop qu4))))) qxr)))
def q0w : IC := zr [zm 32 3, zm 2 32]
def k0i : IC := (.seq q4u (.seq q5o (.seq (.seq q7w (.block 0 (.loop q4x))) (.seq q0w .ret))))
@[go_sem] def s0i : List (RV × Co) := [(.t 2, (.sl 1))]
theorem c0i : cFun Try.prog 23 = some (33, k0i, s0i) := by kernel_rfl

def q8x : IC := zr [zv 2 (.mov (.c (.str [])))]
def q2x : IC := zr [zv 3 (.mov (.c .nils))]
def q6a : IC := zr [zm 7 0, zv 8 (.len false (.t 7)), zv 9 (.mov (zc 0))]
def q2p : IC := zr [zv 10 (.bin .lss .no (.t 9) (.t 8))]
def q5k : IC := zr [zv 11 (.iad 4 (.t 7) (.t 9)), zv 12 (.ld true 4 (.t 11)), zi 5 (.alo [(.str []), (.str []), (.int .i64 0), .nils]), zn (.st 4 (.agg [.id, .id, .id, (.sl 3)]) (.t 5) (.t 12))]
def q69 : IC := zr [zv 13 (.ld true 4 (.t 5)), zi 14 (.call (.c (.fn 27 [] [])) [((.t 13), (.agg [.id, .id, .id, (.sl 3)]))]), zv 15 (.un .not (.t 14))]
def q4a : IC := zr [zv 2 (.mov (.c (.str [])))]
def q33 : IC := zr [zm 16 3, zv 17 (.ld true 4 (.t 5)), zi 18 (.call (.c (.fn 68 [] [])) [((.t 17), (.agg [.id, .id, .id, (.sl 3)]))]), zv 19 (.bsl 1 [((.t 18), .id)]), zi 20 (.app 1 (.str []) 16 (.sl 1) (.t 16) (.t 19)), zm 3 20]
def q4j : IC := zr [zv 21 (.bin .add .no (.t 9) (zc 1)), zm 9 21]
def q6c : IC := (.seq q2p (.seq (.cond (.t 10) .skip (.exit 0)) (.seq (.block 1 (.seq q5k (.seq (.seq q69 (.cond (.t 15) (.seq q4a .ret) .skip)) q33))) q4j)))
def qz8 : IC := zr [zm 22 3, zi 23 (.call (.c (.fn 69 [] [])) [((.t 22), (.sl 1)), ((.c (.str [44, 32])), .id)]), zm 6 23]
def q1r : IC := zr [zm 24 0, zv 25 (.len false (.t 24)), zv 26 (.bin .gtr .no (.t 25) (zc 1))]
def qy6 : IC := zr [zm 27 6, zv 28 (.bin .add .no (.c (.str [40])) (.t 27)), zv 29 (.bin .add .no (.t 28) (.c (.str [41]))), zm 2 29]
def q1g : IC := zr [zm 30 6, zm 2 30]
def k0d : IC := (.seq q8x (.seq q2x (.seq (.seq q6a (.block 0 (.loop q6c))) (.seq qz8 (.seq (.seq q1r (.cond (.t 26) (.seq qy6 .ret) .skip)) (.seq q1g .ret))))))
@[go_sem] def s0d : List (RV × Co) := [(.t 2, .id)]
theorem c0d : cFun Try.prog 25 = some (31, k0d, s0d) := by kernel_rfl

def q72 : IC := zr [zi 1 (.box (.t 0)), zv 2 zf]
def q4p : IC := zr [zv 3 (.fad (.t 1) 0), zv 4 (.ld false 1 (.t 3)), zi 5 (.call (.c (.fn 72 [] [])) [((.t 4), .id)]), zm 6 5, zw 6 true 7 (.fad (.t 1) 1), zw 6 true 8 (.ld true 3 (.t 7)), ⟨some (6, true), some 9, .call (.c (.fn 48 [] [])) [((.t 8), (.agg [.id, .id, (.sl 3)]))]⟩, zv 10 (.pick (.t 6) (.t 9) (.c (.bool false))), zm 2 10]
def k0l : IC := (.seq q72 (.seq q4p .ret))
@[go_sem] def s0l : List (RV × Co) := [(.t 2, .id)]
theorem c0l : cFun Try.prog 27 = some (11, k0l, s0l) := by kernel_rfl

def q81 : IC := zr [zi 2 (.box (.t 0)), zi 3 (.box (.t 1)), zv 4 (.mov (zc 0))]
def q4y : IC := .drw [zp (zv 5 (.fad (.t 2) 0)), zp (zv 6 (.ld false 1 (.t 5))), zp (zv 7 (.fad (.t 3) 0)), zp (zv 8 (.ld false 1 (.t 7))), (zi 9 (.call (.c (.fn 74 [] [])) [((.t 6), .id), ((.t 8), .id)]), []), zp (zv 10 (.fad (.t 2) 1)), (zv 11 (.ld true 3 (.t 10)), [4]), (zi 12 (.call (.c (.fn 75 [] [])) [((.t 11), (.agg [.id, .id, (.sl 3)]))]), []), zp (zv 13 (.fad (.t 3) 1)), (zv 14 (.ld true 3 (.t 13)), [4, 7]), (zi 15 (.call (.c (.fn 75 [] [])) [((.t 14), (.agg [.id, .id, (.sl 3)]))]), []), (zi 16 (.call (.c (.fn 74 [] [])) [((.t 12), .id), ((.t 15), .id)]), []), (zv 17 (.bsl 1 [((.t 9), .id), ((.t 16), .id)]), []), (zi 18 (.call (.c (.fn 73 [] [])) [((.t 17), (.sl 1))]), []), zp (zm 4 18)]
def k0h : IC := (.seq q81 (.seq q4y .ret))
@[go_sem] def s0h : List (RV × Co) := [(.t 4, .id)]
theorem c0h : cFun Try.prog 28 = some (19, k0h, s0h) := by kernel_rfl

def q7z : IC := zr [zi 2 (.box (.t 0)), zi 3 (.box (.t 1)), zv 4 zf]
def q36 : IC := zr [zv 5 (.fad (.t 2) 0), zv 6 (.ld false 1 (.t 5)), zv 7 (.fad (.t 3) 0), zv 8 (.ld false 1 (.t 7)), zv 9 (.bin .eql .no (.t 6) (.t 8)), zm 10 9, zw 10 true 11 (.fad (.t 2) 1), zw 10 true 12 (.ld true 3 (.t 11)), zw 10 true 13 (.fad (.t 3) 1), zw 10 true 14 (.ld true 3 (.t 13)), ⟨some (10, true), some 15, .call (.c (.fn 76 [] [])) [((.t 12), (.agg [.id, .id, (.sl 3)])), ((.t 14), (.agg [.id, .id, (.sl 3)]))]⟩, zv 16 (.pick (.t 10) (.t 15) (.c (.bool false))), zm 4 16]
def k0n : IC := (.seq q7z (.seq q36 .ret))
@[go_sem] def s0n : List (RV × Co) := [(.t 4, .id)]
theorem c0n : cFun Try.prog 29 = some (17, k0n, s0n) := by kernel_rfl

def qz5 : IC := zr [zv 2 (.mov (zc 0))]
def qyu : IC := zr [zv 3 (.mov (zc 20000))]
def q1q : IC := zr [zv 4 (.mov (zc 0))]
def q1t : IC := zr [zm 5 4, zm 6 0, zv 7 (.len false (.t 6)), zv 8 (.bin .lss .no (.t 5) (.t 7))]
def qx8 : IC := zr [zm 11 0, zm 12 4, zv 13 (.iad 3 (.t 11) (.t 12)), zv 14 (.ld true 3 (.t 13)), zm 15 3, zi 16 (.call (.c (.fn 77 [] [])) [((.t 14), (.agg [.id, .id, (.sl 3)])), ((.t 15), .id), ((zc 300), .id)]), zm 3 16]
def q1v : IC := zr [zm 9 4, zv 10 (.bin .add .no (.t 9) (zc 1)), zm 4 10]
def q0e : IC := (.seq (.seq q1t (.cond (.t 8) .skip (.exit 0))) (.seq (.block 1 qx8) q1v))
def qze : IC := zr [zm 17 3, zv 18 (.bin .lss .no (.t 17) (zc 0))]
def qx4 : IC := zr [zv 2 (.mov (zc 0))]
def qrn : IC := zr [zv 2 (.mov (zc 1))]
def k0bc : IC := (.seq qz5 (.seq qyu (.seq (.seq q1q (.block 0 (.loop q0e))) (.seq (.seq qze (.cond (.t 18) (.seq qx4 .ret) .skip)) (.seq qrn .ret)))))
@[go_sem] def s0bc : List (RV × Co) := [(.t 2, .id)]
theorem c0bc : cFun Try.prog 31 = some (19, k0bc, s0bc) := by kernel_rfl

def qwq : IC := zr [zi 2 (.box (.t 0)), zi 3 (.box (.t 1)), zv 4 zf]
def qym : IC := zr [zv 6 (.fad (.t 2) 0), zv 7 (.ld false 1 (.t 6)), zv 8 (.fad (.t 3) 0), zv 9 (.ld false 1 (.t 8)), zv 10 (.bin .neq .no (.t 7) (.t 9)), zm 11 10, zw 11 false 12 (.fad (.t 2) 1), zw 11 false 13 (.ld false 1 (.t 12)), zw 11 false 14 (.fad (.t 3) 1), zw 11 false 15 (.ld false 1 (.t 14)), zw 11 false 16 (.bin .neq .no (.t 13) (.t 15)), zv 17 (.pick (.t 11) (.c (.bool true)) (.t 16)), zm 18 17, zw 18 false 19 (.fad (.t 2) 2), zw 18 false 20 (.ld false 1 (.t 19)), zw 18 false 21 (.len false (.t 20)), zw 18 false 22 (.fad (.t 3) 2), zw 18 false 23 (.ld false 1 (.t 22)), zw 18 false 24 (.len false (.t 23)), zw 18 false 25 (.bin .neq .no (.t 21) (.t 24)), zv 26 (.pick (.t 18) (.c (.bool true)) (.t 25))]
def qwc : IC := zr [zv 4 zf]
def qzy : IC := zr [zv 5 (.mov (zc 0))]
def qw8 : IC := zr [zm 27 5, zv 28 (.fad (.t 2) 2), zv 29 (.ld false 1 (.t 28)), zv 30 (.len false (.t 29)), zv 31 (.bin .lss .no (.t 27) (.t 30))]
def qwd : IC := .drw [zp (zv 34 (.fad (.t 2) 2)), zp (zv 35 (.ld false 1 (.t 34))), zp (zm 36 5), zp (zv 37 (.iad 3 (.t 35) (.t 36))), zp (zv 38 (.ld true 3 (.t 37))), zp (zv 39 (.fad (.t 3) 2)), zp (zv 40 (.ld false 1 (.t 39))), zp (zm 41 5), zp (zv 42 (.iad 3 (.t 40) (.t 41))), zp (zv 43 (.ld true 3 (.t 42))), (zi 44 (.call (.c (.fn 39 [] [])) [((.t 38), (.agg [.id, .id, (.sl 3)])), ((.t 43), (.agg [.id, .id, (.sl 3)]))]), []), zp (zv 45 (.un .not (.t 44)))]
def qvt : IC := zr [zv 4 zf]
def qwr : IC := zr [zm 32 5, zv 33 (.bin .add .no (.t 32) (zc 1)), zm 5 33]
def qzr : IC := (.seq (.seq qw8 (.cond (.t 31) .skip (.exit 0))) (.seq (.block 1 (.seq qwd (.cond (.t 45) (.seq qvt .ret) .skip))) qwr))
def qtg : IC := zr [zv 4 (.mov (.c (.bool true)))]
def k0bk : IC := (.seq qwq (.seq (.seq qym (.cond (.t 26) (.seq qwc .ret) .skip)) (.seq (.seq qzy (.block 0 (.loop qzr))) (.seq qtg .ret))))
@[go_sem] def s0bk : List (RV × Co) := [(.t 4, .id)]
theorem c0bk : cFun Try.prog 39 = some (46, k0bk, s0bk) := by kernel_rfl

def q1s : IC := zr [zi 1 (.box (.t 0)), zv 2 zf]
def qz4 : IC := zr [zi 3 (.alo [(.int .i64 0)]), zn (.st 1 .id (.t 3) (zc 0))]
def qyc : IC := zr [zv 4 (.ld true 3 (.t 1)), zv 5 (.mfn 87 [] [(.t 3)]), zi 6 (.call (.c (.fn 86 [] [])) [((.t 4), (.agg [.id, .id, (.sl 3)])), ((zc 1), .id), ((.t 5), .id)]), zm 2 6]
def k0ba : IC := (.seq q1s (.seq qz4 (.seq qyc .ret)))
@[go_sem] def s0ba : List (RV × Co) := [(.t 2, .id)]
theorem c0ba : cFun Try.prog 48 = some (7, k0ba, s0ba) := by kernel_rfl

def q4o : IC := zr [zi 1 (.box (.t 0)), zv 2 zf]
def q2u : IC := zr [zv 3 (.fad (.t 1) 1), zv 4 (.fad (.t 3) 0), zv 5 (.ld false 1 (.t 4)), zv 6 (.bin .eql .no (.t 5) (.c (.str []))), zm 2 6]
def k0k : IC := (.seq q4o (.seq q2u .ret))
@[go_sem] def s0k : List (RV × Co) := [(.t 2, .id)]
theorem c0k : cFun Try.prog 61 = some (7, k0k, s0k) := by kernel_rfl

def q5v : IC := zr [zi 2 (.box (.t 0)), zi 3 (.box (.t 1)), zv 4 zf]
def q5l : IC := zr [zv 5 (.fad (.t 2) 0), zv 6 (.ld false 1 (.t 5)), zv 7 (.fad (.t 3) 0), zv 8 (.ld false 1 (.t 7)), zv 9 (.bin .eql .no (.t 6) (.t 8)), zm 10 9, zw 10 true 11 (.fad (.t 2) 1), zw 10 true 12 (.ld true 3 (.t 11)), zw 10 true 13 (.fad (.t 3) 1), zw 10 true 14 (.ld true 3 (.t 13)), ⟨some (10, true), some 15, .call (.c (.fn 39 [] [])) [((.t 12), (.agg [.id, .id, (.sl 3)])), ((.t 14), (.agg [.id, .id, (.sl 3)]))]⟩, zv 16 (.pick (.t 10) (.t 15) (.c (.bool false))), zm 4 16]
def k0o : IC := (.seq q5v (.seq q5l .ret))
@[go_sem] def s0o : List (RV × Co) := [(.t 4, .id)]
theorem c0o : cFun Try.prog 62 = some (17, k0o, s0o) := by kernel_rfl

def q5e : IC := zr [zv 4 zf]
def q8p : IC := zr [zm 5 0, zm 6 1, zi 7 (.call (.c (.fn 98 [] [])) [((.t 5), (.sl 4)), ((.t 6), .id)]), zv 8 (.bin .geq .no (.t 7) (zc 0)), zm 4 8]
def k0r : IC := (.seq q5e (.seq q8p .ret))
@[go_sem] def s0r : List (RV × Co) := [(.t 4, .id)]
theorem c0r : cFun Try.prog 63 = some (9, k0r, s0r) := by kernel_rfl

def q8c : IC := zr [zi 2 (.box (.t 0)), zv 3 zf]
def q6z : IC := zr [zv 4 (.ld true 4 (.t 1)), zv 5 (.ld true 4 (.t 2)), zi 6 (.call (.c (.fn 29 [] [])) [((.t 4), (.agg [.id, .id, .id, (.sl 3)])), ((.t 5), (.agg [.id, .id, .id, (.sl 3)]))]), zm 3 6]
def k0p : IC := (.seq q8c (.seq q6z .ret))
@[go_sem] def s0p : List (RV × Co) := [(.t 3, .id)]
theorem c0p : cFun Try.prog 64 = some (7, k0p, s0p) := by kernel_rfl

def qx0 : IC := zr [zi 1 (.box (.t 0)), zv 2 (.mov (.c .nils))]
def q09 : IC := zr [zi 3 (.alo [.nils])]
def qwh : IC := zr [zv 4 (.ld true 3 (.t 1)), zv 5 (.mfn 99 [] [(.t 3)]), zi 6 (.call (.c (.fn 86 [] [])) [((.t 4), (.agg [.id, .id, (.sl 3)])), ((zc 1), .id), ((.t 5), .id)])]
def qys : IC := zr [zv 7 (.ld false 1 (.t 3)), zm 2 7]
def k0bh : IC := (.seq qx0 (.seq q09 (.seq qwh (.seq qys .ret))))
@[go_sem] def s0bh : List (RV × Co) := [(.t 2, (.sl 1))]
theorem c0bh : cFun Try.prog 65 = some (8, k0bh, s0bh) := by kernel_rfl

def qyd : IC := zr [zv 4 zf]
def qxi : IC := zr [zm 5 0, zm 6 1, zi 7 (.call (.c (.fn 100 [] [])) [((.t 5), (.sl 1)), ((.t 6), .id)]), zv 8 (.bin .geq .no (.t 7) (zc 0)), zm 4 8]
def k0be : IC := (.seq qyd (.seq qxi .ret))
@[go_sem] def s0be : List (RV × Co) := [(.t 4, .id)]
theorem c0be : cFun Try.prog 66 = some (9, k0be, s0be) := by kernel_rfl

def q7o : IC := zr [zi 1 (.box (.t 0)), zv 2 (.mov (.c (.str [])))]
def q6q : IC := zr [zv 4 (.fad (.t 1) 1), zv 5 (.ld true 3 (.t 4)), zi 6 (.call (.c (.fn 75 [] [])) [((.t 5), (.agg [.id, .id, (.sl 3)]))]), zm 3 6]
def q5y : IC := zr [zv 7 (.fad (.t 1) 1), zv 8 (.fad (.t 7) 2), zv 9 (.ld false 1 (.t 8)), zv 10 (.len false (.t 9)), zv 11 (.bin .gtr .no (.t 10) (zc 0))]
def q6o : IC := zr [zm 12 3, zv 13 (.bin .add .no (.c (.str [40])) (.t 12)), zv 14 (.bin .add .no (.t 13) (.c (.str [41]))), zm 3 14]
def q7l : IC := zr [zv 15 (.fad (.t 1) 0), zv 16 (.ld false 1 (.t 15)), zv 17 (.bin .add .no (.t 16) (.c (.str [32]))), zm 18 3, zv 19 (.bin .add .no (.t 17) (.t 18)), zm 2 19]
def k0c : IC := (.seq q7o (.seq q6q (.seq (.seq q5y (.cond (.t 11) q6o .skip)) (.seq q7l .ret))))
@[go_sem] def s0c : List (RV × Co) := [(.t 2, .id)]
theorem c0c : cFun Try.prog 68 = some (20, k0c, s0c) := by kernel_rfl

def qwm : IC := zr [zv 2 zf]
def qvz : IC := zr [zm 3 0, zv 4 (.bin .neq .no (.t 3) (.c (.str []))), zm 5 4, zw 5 true 6 (.mov (.t 0)), zw 5 true 7 (.idx (.t 6) (zc 0)), ⟨some (5, true), some 8, .call (.c (.fn 106 [] [])) [((.t 7), .id)]⟩, zv 9 (.pick (.t 5) (.t 8) (.c (.bool false))), zm 10 9, zw 10 true 11 (.mov (.t 0)), ⟨some (10, true), some 12, .call (.c (.fn 107 [] [])) [((.t 11), .id)]⟩, zv 13 (.pick (.t 10) (.t 12) (.c (.bool false))), zm 2 13]
def k0bv : IC := (.seq qwm (.seq qvz .ret))
@[go_sem] def s0bv : List (RV × Co) := [(.t 2, .id)]
theorem c0bv : cFun Try.prog 72 = some (14, k0bv, s0bv) := by kernel_rfl

def q3m : IC := zr [zv 2 (.mov (zc 0))]
def q6i : IC := zr [zv 3 (.mov (zc 0))]
def q7d : IC := zr [zm 6 0, zv 7 (.len false (.t 6)), zv 8 (.mov (zc 0))]
def q59 : IC := zr [zv 9 (.bin .lss .no (.t 8) (.t 7))]
def q6g : IC := zr [zv 10 (.iad 1 (.t 6) (.t 8)), zv 11 (.ld false 1 (.t 10)), zm 5 11]
def q7v : IC := zr [zm 12 5, zm 13 3, zv 14 (.bin .neq .no (.t 12) (.t 13))]
def q8u : IC := zr [zm 15 5, zm 2 15]
def q22 : IC := zr [zv 16 (.bin .add .no (.t 8) (zc 1)), zm 8 16]
def q6y : IC := (.seq q59 (.seq (.cond (.t 9) .skip (.exit 0)) (.seq (.block 1 (.seq q6g (.seq q7v (.cond (.t 14) (.seq q8u .ret) .skip)))) q22)))
def qxw : IC := zr [zm 17 3, zm 2 17]
def k0g : IC := (.seq q3m (.seq q6i (.seq (.seq q7d (.block 0 (.loop q6y))) (.seq qxw .ret))))
@[go_sem] def s0g : List (RV × Co) := [(.t 2, .id)]
theorem c0g : cFun Try.prog 73 = some (18, k0g, s0g) := by kernel_rfl

def q4g : IC := zr [zv 4 (.mov (zc 0))]
def q29 : IC := zr [zm 7 0, zi 8 (.call (.c (.fn 108 [] [])) [((.t 7), .id)]), zm 5 8]
def q8a : IC := zr [zm 9 1, zi 10 (.call (.c (.fn 108 [] [])) [((.t 9), .id)]), zm 6 10]
def q54 : IC := zr [zm 11 5]
def q8d : IC := zr [zm 12 6]
def q5n : IC := zr [zv 4 (.mov (zc 0))]
def q76 : IC := zr [zv 4 (.mov (zc (-1)))]
def q8y : IC := zr [zm 13 6]
def q4b : IC := zr [zv 4 (.mov (zc 1))]
def q7p : IC := zr [zm 14 0, zm 15 1, zv 16 (.bin .lss .no (.t 14) (.t 15))]
def qy1 : IC := zr [zv 4 (.mov (zc (-1)))]
def qx7 : IC := zr [zm 17 0, zm 18 1, zv 19 (.bin .gtr .no (.t 17) (.t 18))]
def q07 : IC := zr [zv 4 (.mov (zc 1))]
def qz9 : IC := zr [zv 4 (.mov (zc 0))]
def k0f : IC := (.seq q4g (.seq q29 (.seq q8a (.seq (.seq q54 (.cond (.t 11) (.seq (.seq q8d (.cond (.t 12) (.seq q5n .ret) .skip)) (.seq q76 .ret)) .skip)) (.seq (.seq q8y (.cond (.t 13) (.seq q4b .ret) .skip)) (.seq (.seq q7p (.cond (.t 16) (.seq qy1 .ret) .skip)) (.seq (.seq qx7 (.cond (.t 19) (.seq q07 .ret) .skip)) (.seq qz9 .ret))))))))
@[go_sem] def s0f : List (RV × Co) := [(.t 4, .id)]
theorem c0f : cFun Try.prog 74 = some (20, k0f, s0f) := by kernel_rfl

def q31 : IC := zr [zi 1 (.box (.t 0)), zv 2 (.mov (.c (.str [])))]
def q3d : IC := zr [zv 3 (.ld true 3 (.t 1)), zi 4 (.call (.c (.fn 48 [] [])) [((.t 3), (.agg [.id, .id, (.sl 3)]))]), zv 5 (.un .not (.t 4))]
def q6t : IC := zr [zv 2 (.mov (.c (.str [])))]
def q7t : IC := zr [zv 6 (.ld true 3 (.t 1)), zi 7 (.call (.c (.fn 109 [] [])) [((.t 6), (.agg [.id, .id, (.sl 3)]))]), zm 2 7]
def k0y : IC := (.seq q31 (.seq (.seq q3d (.cond (.t 5) (.seq q6t .ret) .skip)) (.seq q7t .ret)))
@[go_sem] def s0y : List (RV × Co) := [(.t 2, .id)]
theorem c0y : cFun Try.prog 75 = some (8, k0y, s0y) := by kernel_rfl

def qzk : IC := zr [zi 2 (.box (.t 0)), zi 3 (.box (.t 1)), zv 4 zf]
def qyy : IC := .drw [zp (zv 6 (.ld true 3 (.t 2))), (zi 7 (.call (.c (.fn 88 [] [])) [((.t 6), (.agg [.id, .id, (.sl 3)]))]), []), (zv 8 (.ld true 3 (.t 3)), [1]), (zi 9 (.call (.c (.fn 88 [] [])) [((.t 8), (.agg [.id, .id, (.sl 3)]))]), []), (zv 10 (.bin .neq (.cells [.str, (.int .i64), (.int .i64)]) (.t 7) (.t 9)), [])]
def qzh : IC := zr [zv 4 zf]
def qw6 : IC := zr [zv 11 (.fad (.t 2) 2), zv 12 (.ld false 1 (.t 11)), zv 13 (.len false (.t 12)), zv 14 (.mov (zc 0))]
def qvx : IC := zr [zv 15 (.bin .lss .no (.t 14) (.t 13))]
def qy9 : IC := zr [zm 16 14, zm 5 16]
def qw0 : IC := .drw [zp (zv 17 (.fad (.t 2) 2)), zp (zv 18 (.ld false 1 (.t 17))), zp (zm 19 5), zp (zv 20 (.iad 3 (.t 18) (.t 19))), zp (zv 21 (.ld true 3 (.t 20))), zp (zv 22 (.fad (.t 3) 2)), zp (zv 23 (.ld false 1 (.t 22))), zp (zm 24 5), zp (zv 25 (.iad 3 (.t 23) (.t 24))), zp (zv 26 (.ld true 3 (.t 25))), (zi 27 (.call (.c (.fn 76 [] [])) [((.t 21), (.agg [.id, .id, (.sl 3)])), ((.t 26), (.agg [.id, .id, (.sl 3)]))]), []), zp (zv 28 (.un .not (.t 27)))]
def qvs : IC := zr [zv 4 zf]
def q0s : IC := zr [zv 29 (.bin .add .no (.t 14) (zc 1)), zm 14 29]
def q1k : IC := (.seq qvx (.seq (.cond (.t 15) .skip (.exit 0)) (.seq (.block 1 (.seq qy9 (.seq qw0 (.cond (.t 28) (.seq qvs .ret) .skip)))) q0s)))
def quf : IC := zr [zv 4 (.mov (.c (.bool true)))]
def k0bj : IC := (.seq qzk (.seq (.seq qyy (.cond (.t 10) (.seq qzh .ret) .skip)) (.seq (.seq qw6 (.block 0 (.loop q1k))) (.seq quf .ret))))
@[go_sem] def s0bj : List (RV × Co) := [(.t 4, .id)]
theorem c0bj : cFun Try.prog 76 = some (30, k0bj, s0bj) := by kernel_rfl

def qxy : IC := zr [zi 3 (.box (.t 0)), zv 6 (.mov (zc 0))]
def qyg : IC := zr [zm 8 1, zv 9 (.bin .sub .no (.t 8) (zc 1)), zm 1 9]
def q0v : IC := zr [zm 10 2, zv 11 (.bin .lss .no (.t 10) (zc 1))]
def q0c : IC := zr [zv 6 (.mov (zc (-1)))]
def qz3 : IC := zr [zv 7 (.mov (zc 0))]
def qvo : IC := zr [zm 12 7, zv 13 (.fad (.t 3) 2), zv 14 (.ld false 1 (.t 13)), zv 15 (.len false (.t 14)), zv 16 (.bin .lss .no (.t 12) (.t 15)), zm 17 16, zw 17 true 18 (.mov (.t 1)), zw 17 true 19 (.bin .geq .no (.t 18) (zc 0)), zv 20 (.pick (.t 17) (.t 19) (.c (.bool false)))]
def qya : IC := zr [zv 23 (.fad (.t 3) 2), zv 24 (.ld false 1 (.t 23)), zm 25 7, zv 26 (.iad 3 (.t 24) (.t 25)), zv 27 (.ld true 3 (.t 26)), zm 28 1, zm 29 2, zv 30 (.bin .sub .no (.t 29) (zc 1)), zi 31 (.call (.c (.fn 77 [] [])) [((.t 27), (.agg [.id, .id, (.sl 3)])), ((.t 28), .id), ((.t 30), .id)]), zm 1 31]
def q02 : IC := zr [zm 21 7, zv 22 (.bin .add .no (.t 21) (zc 1)), zm 7 22]
def qvv : IC := (.seq (.seq qvo (.cond (.t 20) .skip (.exit 0))) (.seq (.block 1 qya) q02))
def que : IC := zr [zm 32 1, zm 6 32]
def k0bb : IC := (.seq qxy (.seq qyg (.seq (.seq q0v (.cond (.t 11) (.seq q0c .ret) .skip)) (.seq (.seq qz3 (.block 0 (.loop qvv))) (.seq que .ret)))))
@[go_sem] def s0bb : List (RV × Co) := [(.t 6, .id)]
theorem c0bb : cFun Try.prog 77 = some (33, k0bb, s0bb) := by kernel_rfl

def qvc : IC := zr [zi 3 (.box (.t 0)), zv 6 zf]
def qvh : IC := zr [zm 9 2, zv 10 (.ld true 3 (.t 3)), zm 11 1, zi 12 (.call (.t 9) [((.t 10), (.agg [.id, .id, (.sl 3)])), ((.t 11), .id)]), zv 13 (.un .not (.t 12))]
def qv3 : IC := zr [zv 6 zf]
def q16 : IC := zr [zv 14 (.fad (.t 3) 2), zv 15 (.ld false 1 (.t 14)), zv 16 (.len false (.t 15)), zv 17 (.mov (zc 0))]
def qwy : IC := zr [zv 18 (.bin .lss .no (.t 17) (.t 16))]
def qv9 : IC := zr [zv 19 (.iad 3 (.t 15) (.t 17)), zv 20 (.ld true 3 (.t 19)), zi 8 (.alo [(.str []), (.int .i64 0), .nils]), zn (.st 3 (.agg [.id, .id, (.sl 3)]) (.t 8) (.t 20))]
def qv0 : IC := zr [zv 21 (.ld true 3 (.t 8)), zm 22 1, zv 23 (.bin .add .no (.t 22) (zc 1)), zm 24 2, zi 25 (.call (.c (.fn 86 [] [])) [((.t 21), (.agg [.id, .id, (.sl 3)])), ((.t 23), .id), ((.t 24), .id)]), zv 26 (.un .not (.t 25))]
def qyi : IC := zr [zv 6 zf]
def qw7 : IC := zr [zv 27 (.bin .add .no (.t 17) (zc 1)), zm 17 27]
def q2a : IC := (.seq qwy (.seq (.cond (.t 18) .skip (.exit 0)) (.seq (.block 1 (.seq qv9 (.seq qv0 (.cond (.t 26) (.seq qyi .ret) .skip)))) qw7)))
def qs5 : IC := zr [zv 6 (.mov (.c (.bool true)))]
def k0bn : IC := (.seq qvc (.seq (.seq qvh (.cond (.t 13) (.seq qv3 .ret) .skip)) (.seq (.seq q16 (.block 0 (.loop q2a))) (.seq qs5 .ret))))
@[go_sem] def s0bn : List (RV × Co) := [(.t 6, .id)]
theorem c0bn : cFun Try.prog 86 = some (28, k0bn, s0bn) := by kernel_rfl

def q25 : IC := zr [zi 3 (.box (.t 0)), zv 5 zf]
def q3a : IC := zr [zv 6 (.ld false 1 (.t 2)), zv 7 (.bin .add .no (.t 6) (zc 1)), zn (.st 1 .id (.t 2) (.t 7))]
def q2y : IC := zr [zv 8 (.ld false 1 (.t 2)), zv 9 (.bin .leq .no (.t 8) (zc 4096)), zm 10 9, zw 10 true 11 (.mov (.t 1)), zw 10 true 12 (.bin .leq .no (.t 11) (zc 100)), zv 13 (.pick (.t 10) (.t 12) (.c (.bool false))), zm 14 13, zw 14 true 15 (.ld true 3 (.t 3)), ⟨some (14, true), some 16, .call (.c (.fn 88 [] [])) [((.t 15), (.agg [.id, .id, (.sl 3)]))]⟩, ⟨some (14, true), some 17, .call (.c (.fn 89 [] [])) [((.t 16), .id)]⟩, zv 18 (.pick (.t 14) (.t 17) (.c (.bool false))), zm 5 18]
def k0z : IC := (.seq q25 (.seq q3a (.seq q2y .ret)))
@[go_sem] def s0z : List (RV × Co) := [(.t 5, .id)]
theorem c0z : cFun Try.prog 87 = some (19, k0z, s0z) := by kernel_rfl

def qyw : IC := zr [zi 1 (.box (.t 0)), zi 2 (.alo [(.str []), (.int .i64 0), (.int .i64 0)])]
def qwx : IC := zr [zv 3 (.fad (.t 1) 0), zv 4 (.ld false 1 (.t 3)), zv 5 (.fad (.t 1) 1), zv 6 (.ld false 1 (.t 5)), zv 7 (.fad (.t 1) 2), zv 8 (.ld false 1 (.t 7)), zv 9 (.len false (.t 8)), zv 10 (.bld [(.str []), (.int .i64 0), (.int .i64 0)] [(0, 1, (.t 4)), (1, 1, (.t 6)), (2, 1, (.t 9))]), zn (.st 3 .id (.t 2) (.t 10))]
def k0bi : IC := (.seq qyw (.seq qwx .ret))
@[go_sem] def s0bi : List (RV × Co) := [(.c true 3 2, .id)]
theorem c0bi : cFun Try.prog 88 = some (11, k0bi, s0bi) := by kernel_rfl

def qz2 : IC := zr [zi 1 (.box (.t 0)), zv 2 zf]
def qz0 : IC := zr [zv 4 (.fad (.t 1) 0), zv 5 (.ld false 1 (.t 4)), zv 6 (.bin .eql .no (.t 5) (.c (.str []))), zm 3 6]
def q1h : IC := zr [zv 7 (.fad (.t 1) 2), zv 8 (.ld false 1 (.t 7)), zv 9 (.bin .eql .no (.t 8) (zc 0)), zm 2 9]
def qvd : IC := zr [zv 11 (.fad (.t 1) 0), zv 12 (.ld false 1 (.t 11)), zv 13 (.bin .eql .no (.t 12) (.c (.str [45, 62]))), zm 10 13]
def qxa : IC := zr [zv 14 (.ld true 3 (.t 1)), zv 15 (.bld [(.str []), (.int .i64 0), (.int .i64 0)] [(0, 1, (.c (.str [45, 62]))), (1, 1, (zc 0)), (2, 1, (zc 2))]), zv 16 (.bin .eql (.cells [.str, (.int .i64), (.int .i64)]) (.t 14) (.t 15)), zm 2 16]
def q14 : IC := zr [zv 18 (.fad (.t 1) 0), zv 19 (.ld false 1 (.t 18)), zi 20 (.call (.c (.fn 119 [] [])) [((.t 19), .id)]), zm 17 20]
def q1n : IC := zr [zv 21 (.ld true 3 (.t 1)), zv 22 (.fad (.t 1) 0), zv 23 (.ld false 1 (.t 22)), zv 24 (.bld [(.str []), (.int .i64 0), (.int .i64 0)] [(0, 1, (.t 23))]), zv 25 (.bin .eql (.cells [.str, (.int .i64), (.int .i64)]) (.t 21) (.t 24)), zm 2 25]
def qy3 : IC := zr [zv 26 (.fad (.t 1) 1), zv 27 (.ld false 1 (.t 26)), zv 28 (.bin .eql .no (.t 27) (zc 0)), zm 29 28, zw 29 true 30 (.fad (.t 1) 0), zw 29 true 31 (.ld false 1 (.t 30)), ⟨some (29, true), some 32, .call (.c (.fn 72 [] [])) [((.t 31), .id)]⟩, zv 33 (.pick (.t 29) (.t 32) (.c (.bool false))), zm 2 33]
def k0bm : IC := (.seq qz2 (.seq (.block 0 (.seq qz0 (.cond (.t 3) (.seq q1h .ret) (.seq qvd (.cond (.t 10) (.seq qxa .ret) (.seq q14 (.cond (.t 17) (.seq q1n .ret) .skip))))))) (.seq qy3 .ret)))
@[go_sem] def s0bm : List (RV × Co) := [(.t 2, .id)]
theorem c0bm : cFun Try.prog 89 = some (34, k0bm, s0bm) := by kernel_rfl

def q23 : IC := zr [zv 4 (.mov (zc 0))]
def q49 : IC := zr [zm 6 0, zv 7 (.len false (.t 6)), zv 8 (.mov (zc 0))]
def q3s : IC := zr [zv 9 (.bin .lss .no (.t 8) (.t 7))]
def q4f : IC := zr [zm 10 8, zm 5 10]
def q79 : IC := zr [zm 11 1, zm 12 0, zm 13 5, zv 14 (.iad 4 (.t 12) (.t 13)), zv 15 (.ld true 4 (.t 14)), zi 16 (.call (.t 11) [((.t 15), (.agg [.id, .id, .id, (.sl 3)]))])]
def q5x : IC := zr [zm 17 5, zm 4 17]
def q8n : IC := zr [zv 18 (.bin .add .no (.t 8) (zc 1)), zm 8 18]
def q5b : IC := (.seq q3s (.seq (.cond (.t 9) .skip (.exit 0)) (.seq (.block 1 (.seq q4f (.seq q79 (.cond (.t 16) (.seq q5x .ret) .skip)))) q8n)))
def q30 : IC := zr [zv 4 (.mov (zc (-1)))]
def k0q : IC := (.seq q23 (.seq (.seq q49 (.block 0 (.loop q5b))) (.seq q30 .ret)))
@[go_sem] def s0q : List (RV × Co) := [(.t 4, .id)]
theorem c0q : cFun Try.prog 98 = some (19, k0q, s0q) := by kernel_rfl

def q0f : IC := zr [zi 3 (.box (.t 0)), zv 5 zf]
def q15 : IC := zr [zv 6 (.fad (.t 3) 0), zv 7 (.ld false 1 (.t 6)), zv 8 (.bin .eql .no (.t 7) (.c (.str []))), zm 9 8, zw 9 true 10 (.ld false 1 (.t 2)), zw 9 true 11 (.fad (.t 3) 1), zw 9 true 12 (.ld false 1 (.t 11)), ⟨some (9, true), some 13, .call (.c (.fn 66 [] [])) [((.t 10), (.sl 1)), ((.t 12), .id)]⟩, zw 9 true 14 (.un .not (.t 13)), zv 15 (.pick (.t 9) (.t 14) (.c (.bool false)))]
def qzb : IC := zr [zv 16 (.ld false 1 (.t 2)), zv 17 (.fad (.t 3) 1), zv 18 (.ld false 1 (.t 17)), zv 19 (.bsl 1 [((.t 18), .id)]), zi 20 (.app 1 (.int .i64 0) 8 (.sl 1) (.t 16) (.t 19)), zn (.st 1 (.sl 1) (.t 2) (.t 20))]
def qyh : IC := zr [zv 5 (.mov (.c (.bool true)))]
def k0bg : IC := (.seq q0f (.seq (.seq q15 (.cond (.t 15) qzb .skip)) (.seq qyh .ret)))
@[go_sem] def s0bg : List (RV × Co) := [(.t 5, .id)]
theorem c0bg : cFun Try.prog 99 = some (21, k0bg, s0bg) := by kernel_rfl

def q1f : IC := zr [zv 4 (.mov (zc 0))]
def qwl : IC := zr [zm 6 0, zv 7 (.len false (.t 6)), zv 8 (.mov (zc 0))]
def qx3 : IC := zr [zv 9 (.bin .lss .no (.t 8) (.t 7))]
def qy8 : IC := zr [zm 10 8, zm 5 10]
def qxh : IC := zr [zm 11 1, zm 12 0, zm 13 5, zv 14 (.iad 1 (.t 12) (.t 13)), zv 15 (.ld false 1 (.t 14)), zv 16 (.bin .eql .no (.t 11) (.t 15))]
def qzt : IC := zr [zm 17 5, zm 4 17]
def qyp : IC := zr [zv 18 (.bin .add .no (.t 8) (zc 1)), zm 8 18]
def q1w : IC := (.seq qx3 (.seq (.cond (.t 9) .skip (.exit 0)) (.seq (.block 1 (.seq qy8 (.seq qxh (.cond (.t 16) (.seq qzt .ret) .skip)))) qyp)))
def qyl : IC := zr [zv 4 (.mov (zc (-1)))]
def k0bd : IC := (.seq q1f (.seq (.seq qwl (.block 0 (.loop q1w))) (.seq qyl .ret)))
@[go_sem] def s0bd : List (RV × Co) := [(.t 4, .id)]
theorem c0bd : cFun Try.prog 100 = some (19, k0bd, s0bd) := by kernel_rfl

def qvk : IC := zr [zv 2 zf]
def qy2 : IC := zr [zm 3 0, zv 4 (.bin .geq .no (.t 3) (.c (.int .u8 65))), zm 5 4, zw 5 true 6 (.mov (.t 0)), zw 5 true 7 (.bin .leq .no (.t 6) (.c (.int .u8 90))), zv 8 (.pick (.t 5) (.t 7) (.c (.bool false))), zm 2 8]
def k0bt : IC := (.seq qvk (.seq qy2 .ret))
@[go_sem] def s0bt : List (RV × Co) := [(.t 2, .id)]
theorem c0bt : cFun Try.prog 106 = some (9, k0bt, s0bt) := by kernel_rfl

def q0g : IC := zr [zv 2 zf]
def qzs : IC := zr [zm 5 0, zv 6 (.len true (.t 5)), zv 7 (.mov (zc 0))]
def q17 : IC := zr [zv 8 (.bin .lss .no (.t 7) (.t 6))]
def qwa : IC := zr [zm 9 7, zm 3 9]
def q0q : IC := zr [zm 10 0, zm 11 3, zv 12 (.idx (.t 10) (.t 11)), zm 4 12]
def qz7 : IC := zr [zm 13 4, zi 14 (.call (.c (.fn 128 [] [])) [((.t 13), .id)]), zv 15 (.un .not (.t 14)), zm 16 15, zw 16 true 17 (.mov (.t 4)), ⟨some (16, true), some 18, .call (.c (.fn 106 [] [])) [((.t 17), .id)]⟩, zw 16 true 19 (.un .not (.t 18)), zv 20 (.pick (.t 16) (.t 19) (.c (.bool false))), zm 21 20, zw 21 true 22 (.mov (.t 4)), zw 21 true 23 (.bin .lss .no (.t 22) (.c (.int .u8 48))), zw 21 true 24 (.mov (.t 23)), zw 24 false 25 (.mov (.t 4)), zw 24 false 26 (.bin .gtr .no (.t 25) (.c (.int .u8 57))), zw 21 true 27 (.pick (.t 24) (.c (.bool true)) (.t 26)), zv 28 (.pick (.t 21) (.t 27) (.c (.bool false))), zm 29 28, zw 29 true 30 (.mov (.t 4)), zw 29 true 31 (.bin .neq .no (.t 30) (.c (.int .u8 39))), zv 32 (.pick (.t 29) (.t 31) (.c (.bool false)))]
def qzj : IC := zr [zv 2 zf]
def qzc : IC := zr [zv 33 (.bin .add .no (.t 7) (zc 1)), zm 7 33]
def qyb : IC := (.seq q17 (.seq (.cond (.t 8) .skip (.exit 0)) (.seq (.block 1 (.seq qwa (.seq q0q (.seq qz7 (.cond (.t 32) (.seq qzj .ret) .skip))))) qzc)))
def qtl : IC := zr [zv 2 (.mov (.c (.bool true)))]
def k0bu : IC := (.seq q0g (.seq (.seq qzs (.block 0 (.loop qyb))) (.seq qtl .ret)))
@[go_sem] def s0bu : List (RV × Co) := [(.t 2, .id)]
theorem c0bu : cFun Try.prog 107 = some (34, k0bu, s0bu) := by kernel_rfl

def q2s : IC := zr [zv 2 zf]
def q4l : IC := zr [zm 3 0, zm 4 0, zv 5 (.bin .neq .no (.t 3) (.t 4)), zm 2 5]
def k0e : IC := (.seq q2s (.seq q4l .ret))
@[go_sem] def s0e : List (RV × Co) := [(.t 2, .id)]
theorem c0e : cFun Try.prog 108 = some (6, k0e, s0e) := by kernel_rfl

def q5i : IC := zr [zi 1 (.box (.t 0)), zv 2 (.mov (.c (.str [])))]
def q6k : IC := zr [zv 6 (.fad (.t 1) 0), zv 7 (.ld false 1 (.t 6)), zv 8 (.bin .eql .no (.t 7) (.c (.str [45, 62])))]
def q48 : IC := .drw [zp (zv 9 (.fad (.t 1) 2)), zp (zv 10 (.ld false 1 (.t 9))), zp (zv 11 (.iad 3 (.t 10) (zc 0))), zp (zv 12 (.ld true 3 (.t 11))), zp (zv 13 (.fad (.t 1) 2)), zp (zv 14 (.ld false 1 (.t 13))), zp (zv 15 (.iad 3 (.t 14) (zc 0))), zp (zv 16 (.fad (.t 15) 0)), zp (zv 17 (.ld false 1 (.t 16))), (zv 18 (.bin .eql .no (.t 17) (.c (.str [45, 62]))), []), (zi 19 (.call (.c (.fn 129 [] [])) [((.t 12), (.agg [.id, .id, (.sl 3)])), ((.t 18), .id)]), []), (zv 20 (.bin .add .no (.t 19) (.c (.str [32, 45, 62, 32]))), []), zp (zv 21 (.fad (.t 1) 2)), (zv 22 (.ld false 1 (.t 21)), [10]), zp (zv 23 (.iad 3 (.t 22) (zc 1))), (zv 24 (.ld true 3 (.t 23)), [10]), (zi 25 (.call (.c (.fn 109 [] [])) [((.t 24), (.agg [.id, .id, (.sl 3)]))]), []), zp (zv 26 (.bin .add .no (.t 20) (.t 25))), zp (zm 2 26)]
def q3t : IC := zr [zi 3 (.bld 125 5)]
def q3q : IC := zr [zv 27 (.ld true 3 (.t 1)), zi 28 (.call (.c (.fn 88 [] [])) [((.t 27), (.agg [.id, .id, (.sl 3)]))]), zi 29 (.call (.c (.fn 130 [] [])) [((.t 28), .id)]), zi 30 (.call (.c (.fn 102 [] [])) [((.t 3), (.agg [.id, (.sl 1)])), ((.t 29), .id)])]
def q4m : IC := zr [zv 31 (.fad (.t 1) 2), zv 32 (.ld false 1 (.t 31)), zv 33 (.len false (.t 32)), zv 34 (.mov (zc 0))]
def q4s : IC := zr [zv 35 (.bin .lss .no (.t 34) (.t 33))]
def q7g : IC := zr [zv 36 (.iad 3 (.t 32) (.t 34)), zv 37 (.ld true 3 (.t 36)), zi 5 (.alo [(.str []), (.int .i64 0), .nils]), zn (.st 3 (.agg [.id, .id, (.sl 3)]) (.t 5) (.t 37))]
def q2z : IC := zr [zv 38 (.ld true 3 (.t 5)), zv 39 (.fad (.t 5) 2), zv 40 (.ld false 1 (.t 39)), zv 41 (.len false (.t 40)), zv 42 (.bin .gtr .no (.t 41) (zc 0)), zi 43 (.call (.c (.fn 129 [] [])) [((.t 38), (.agg [.id, .id, (.sl 3)])), ((.t 42), .id)]), zv 44 (.bin .add .no (.c (.str [32])) (.t 43)), zi 45 (.call (.c (.fn 102 [] [])) [((.t 3), (.agg [.id, (.sl 1)])), ((.t 44), .id)])]
def qvr : IC := zr [zv 46 (.bin .add .no (.t 34) (zc 1)), zm 34 46]
def q6b : IC := (.seq q4s (.seq (.cond (.t 35) .skip (.exit 0)) (.seq (.block 1 (.seq q7g q2z)) qvr)))
def qzw : IC := zr [zi 47 (.call (.c (.fn 103 [] [])) [((.t 3), (.agg [.id, (.sl 1)]))]), zm 2 47]
def k0x : IC := (.seq q5i (.seq (.seq q6k (.cond (.t 8) (.seq q48 .ret) .skip)) (.seq q3t (.seq q3q (.seq (.seq q4m (.block 0 (.loop q6b))) (.seq qzw .ret))))))
@[go_sem] def s0x : List (RV × Co) := [(.t 2, .id)]
theorem c0x : cFun Try.prog 109 = some (48, k0x, s0x) := by kernel_rfl

def qwv : IC := zr [zv 2 zf]
def qww : IC := zr [zm 5 0, zi 6 (.call (.c (.fn 135 [] [])) [((.t 5), .id), ((.c (.str [33])), .id)]), zv 7 (.un .not (.t 6))]
def q1e : IC := zr [zv 2 zf]
def qxt : IC := zr [zm 9 0, zv 10 (.sls (.t 9) (some (zc 1)) none), zi 11 (.call (.c (.fn 136 [] [])) [((.t 10), .id)]), zm 8 11, zv 12 (.ext (.t 8) 0), zv 13 (.ext (.t 8) 1), zm 3 12, zm 4 13]
def q0p : IC := .drw [zp (zm 14 4), zp (zv 15 (.bin .eql .no (.t 14) (zc 0))), zp (zm 16 15), zp (zw 16 true 17 (.mov (.t 3))), (⟨some (16, true), some 18, .call (.c (.fn 137 [] [])) [((.t 17), .id)]⟩, []), zp (zw 16 true 19 (.mov (.t 0))), zp (zw 16 true 20 (.sls (.t 19) (some (zc 1)) none)), zp (zw 16 true 21 (.bin .eql .no (.t 18) (.t 20))), zp (zv 22 (.pick (.t 16) (.t 21) (.c (.bool false)))), zp (zm 2 22)]
def k0bl : IC := (.seq qwv (.seq (.seq qww (.cond (.t 7) (.seq q1e .ret) .skip)) (.seq qxt (.seq q0p .ret))))
@[go_sem] def s0bl : List (RV × Co) := [(.t 2, .id)]
theorem c0bl : cFun Try.prog 119 = some (23, k0bl, s0bl) := by kernel_rfl

def qx5 : IC := zr [zv 2 (.mov (.c (.str [])))]
def q06 : IC := zr [zm 5 0, zi 6 (.call (.c (.fn 143 [] [])) [((.t 5), .id)]), zm 3 6]
def qu8 : IC := zr [zv 4 (.mov (.c (.str [])))]
def qxe : IC := zr [zm 7 3, zv 8 (.bin .gtr .no (.t 7) (.c (.int .u64 9)))]
def qvp : IC := zr [zm 9 3, zv 10 (.bin .rem .no (.t 9) (.c (.int .u64 10))), zv 11 (.bin .add .no (.c (.int .u64 48)) (.t 10)), zv 12 (.cvi .u8 (.t 11)), zv 13 (.bsl 1 [((.t 12), .id)]), zv 14 (.cbs (.t 13)), zm 15 4, zv 16 (.bin .add .no (.t 14) (.t 15)), zm 4 16]
def q1z : IC := zr [zm 17 3, zv 18 (.bin .quo .no (.t 17) (.c (.int .u64 10))), zm 3 18]
def qwb : IC := (.seq (.seq qxe (.cond (.t 8) .skip (.exit 0))) (.block 1 (.seq qvp q1z)))
def qzi : IC := zr [zm 19 3, zv 20 (.bin .add .no (.c (.int .u64 48)) (.t 19)), zv 21 (.cvi .u8 (.t 20)), zv 22 (.bsl 1 [((.t 21), .id)]), zv 23 (.cbs (.t 22)), zm 24 4, zv 25 (.bin .add .no (.t 23) (.t 24)), zm 4 25]
def qw1 : IC := zr [zm 26 0, zv 27 (.bin .lss .no (.t 26) (zc 0))]
def qrl : IC := zr [zm 28 4, zv 29 (.bin .add .no (.c (.str [45])) (.t 28)), zm 2 29]
def qs6 : IC := zr [zm 30 4, zm 2 30]
def k0bx : IC := (.seq qx5 (.seq q06 (.seq qu8 (.seq (.block 0 (.loop qwb)) (.seq qzi (.seq (.seq qw1 (.cond (.t 27) (.seq qrl .ret) .skip)) (.seq qs6 .ret)))))))
@[go_sem] def s0bx : List (RV × Co) := [(.t 2, .id)]
theorem c0bx : cFun Try.prog 127 = some (31, k0bx, s0bx) := by kernel_rfl

def q0o : IC := zr [zv 2 zf]
def qv6 : IC := zr [zm 3 0, zv 4 (.bin .geq .no (.t 3) (.c (.int .u8 97))), zm 5 4, zw 5 true 6 (.mov (.t 0)), zw 5 true 7 (.bin .leq .no (.t 6) (.c (.int .u8 122))), zv 8 (.pick (.t 5) (.t 7) (.c (.bool false))), zm 9 8, zw 9 false 10 (.mov (.t 0)), zw 9 false 11 (.bin .eql .no (.t 10) (.c (.int .u8 95))), zv 12 (.pick (.t 9) (.c (.bool true)) (.t 11)), zm 2 12]
def k0bs : IC := (.seq q0o (.seq qv6 .ret))
@[go_sem] def s0bs : List (RV × Co) := [(.t 2, .id)]
theorem c0bs : cFun Try.prog 128 = some (13, k0bs, s0bs) := by kernel_rfl

def q6f : IC := zr [zi 2 (.box (.t 0)), zv 4 (.mov (.c (.str [])))]
def q56 : IC := zr [zm 5 1]
def q64 : IC := zr [zv 6 (.ld true 3 (.t 2)), zi 7 (.call (.c (.fn 109 [] [])) [((.t 6), (.agg [.id, .id, (.sl 3)]))]), zv 8 (.bin .add .no (.c (.str [40])) (.t 7)), zv 9 (.bin .add .no (.t 8) (.c (.str [41]))), zm 4 9]
def q65 : IC := zr [zv 10 (.ld true 3 (.t 2)), zi 11 (.call (.c (.fn 109 [] [])) [((.t 10), (.agg [.id, .id, (.sl 3)]))]), zm 4 11]
def k0w : IC := (.seq q6f (.seq (.seq q56 (.cond (.t 5) (.seq q64 .ret) .skip)) (.seq q65 .ret)))
@[go_sem] def s0w : List (RV × Co) := [(.t 4, .id)]
theorem c0w : cFun Try.prog 129 = some (12, k0w, s0w) := by kernel_rfl

def q46 : IC := zr [zi 1 (.box (.t 0)), zv 2 (.mov (.c (.str [])))]
def q8k : IC := zr [zv 4 (.fad (.t 1) 0), zv 5 (.ld false 1 (.t 4)), zv 6 (.bin .neq .no (.t 5) (.c (.str []))), zm 3 6]
def q7j : IC := zr [zv 7 (.fad (.t 1) 0), zv 8 (.ld false 1 (.t 7)), zm 2 8]
def q71 : IC := zr [zv 10 (.fad (.t 1) 1), zv 11 (.ld false 1 (.t 10)), zv 12 (.bin .geq .no (.t 11) (zc 0)), zm 9 12]
def q50 : IC := zr [zv 13 (.fad (.t 1) 1), zv 14 (.ld false 1 (.t 13)), zi 15 (.call (.c (.fn 144 [] [])) [((.t 14), .id)]), zm 2 15]
def q40 : IC := zr [zv 16 (.fad (.t 1) 1), zv 17 (.ld false 1 (.t 16)), zv 18 (.bin .sub .no (zc (-1)) (.t 17)), zi 19 (.call (.c (.fn 137 [] [])) [((.t 18), .id)]), zv 20 (.bin .add .no (.c (.str [63])) (.t 19)), zm 2 20]
def k0v : IC := (.seq q46 (.seq (.block 0 (.seq q8k (.cond (.t 3) (.seq q7j .ret) (.seq q71 (.cond (.t 9) (.seq q50 .ret) .skip))))) (.seq q40 .ret)))
@[go_sem] def s0v : List (RV × Co) := [(.t 2, .id)]
theorem c0v : cFun Try.prog 130 = some (21, k0v, s0v) := by kernel_rfl

def q0x : IC := zr [zv 4 zf]
def q10 : IC := zr [zm 5 0, zm 6 1, zi 7 (.call (.c (.fn 147 [] [])) [((.t 5), .id), ((.t 6), .id)]), zm 4 7]
def k0bp : IC := (.seq q0x (.seq q10 .ret))
@[go_sem] def s0bp : List (RV × Co) := [(.t 4, .id)]
theorem c0bp : cFun Try.prog 135 = some (8, k0bp, s0bp) := by kernel_rfl

def qv2 : IC := zr [zv 2 (.mov (zc 0)), zv 3 (.mov (zc 0))]
def qwj : IC := zr [zm 8 0, zv 9 (.len true (.t 8)), zv 10 (.mov (zc 0))]
def q0k : IC := zr [zv 11 (.bin .lss .no (.t 10) (.t 9))]
def q0y : IC := zr [zm 12 10, zm 4 12]
def qvf : IC := zr [zm 13 0, zm 14 4, zv 15 (.idx (.t 13) (.t 14)), zv 16 (.bin .lss .no (.t 15) (.c (.int .u8 48))), zm 17 16, zw 17 false 18 (.mov (.t 0)), zw 17 false 19 (.mov (.t 4)), zw 17 false 20 (.idx (.t 18) (.t 19)), zw 17 false 21 (.bin .gtr .no (.t 20) (.c (.int .u8 57))), zv 22 (.pick (.t 17) (.c (.bool true)) (.t 21))]
def q0h : IC := zr [zv 2 (.mov (zc 0)), zv 3 (.mov (zc 5))]
def qyn : IC := zr [zv 23 (.bin .add .no (.t 10) (zc 1)), zm 10 23]
def q13 : IC := (.seq q0k (.seq (.cond (.t 11) .skip (.exit 0)) (.seq (.block 1 (.seq q0y (.seq qvf (.cond (.t 22) (.seq q0h .ret) .skip)))) qyn)))
def qwk : IC := zr [zm 24 0, zv 25 (.bin .eql .no (.t 24) (.c (.str [])))]
def qsq : IC := zr [zv 2 (.mov (zc 0)), zv 3 (.mov (zc 5))]
def qrr : IC := zr [zv 5 (.mov (zc 0)), zv 6 (.mov (zc 0))]
def qtq : IC := zr [zm 26 0, zm 27 6, zv 28 (.idx (.t 26) (.t 27)), zv 29 (.bin .sub .no (.t 28) (.c (.int .u8 48))), zv 30 (.cvi .i64 (.t 29)), zm 7 30]
def qt2 : IC := zr [zm 31 5, zm 32 7, zv 33 (.bin .sub .no (zc 9223372036854775807) (.t 32)), zv 34 (.bin .quo .no (.t 33) (zc 10)), zv 35 (.bin .gtr .no (.t 31) (.t 34))]
def qry : IC := zr [zv 2 (.mov (zc 0)), zv 3 (.mov (zc 4))]
def quk : IC := zr [zm 36 5, zv 37 (.bin .mul .no (zc 10) (.t 36)), zm 38 7, zv 39 (.bin .add .no (.t 37) (.t 38)), zm 5 39]
def quj : IC := zr [zm 40 6, zv 41 (.bin .add .no (.t 40) (zc 1)), zm 6 41]
def qsp : IC := zr [zm 42 6, zm 43 0, zv 44 (.len true (.t 43)), zv 45 (.bin .lss .no (.t 42) (.t 44))]
def qtj : IC := zr [zm 46 5, zm 2 46, zv 3 (.mov (zc 0))]
def k0br : IC := (.seq qv2 (.scope (.seq (.seq qwj (.block 0 (.loop q13))) (.seq (.seq qwk (.cond (.t 25) (.seq qsq .ret) .skip)) (.seq qrr (.seq (.label 0) (.seq qtq (.seq (.seq qt2 (.cond (.t 35) (.seq qry .ret) .skip)) (.seq quk (.seq (.seq quj (.seq qsp (.cond (.t 45) (.goto 0) .skip))) (.seq qtj .ret)))))))))))
@[go_sem] def s0br : List (RV × Co) := [(.t 2, .id), (.t 3, .id)]
theorem c0br : cFun Try.prog 136 = some (47, k0br, s0br) := by kernel_rfl

def qwn : IC := zr [zv 2 (.mov (.c (.str [])))]
def q1u : IC := zr [zm 6 0, zv 7 (.cvi .u64 (.t 6)), zm 3 7]
def qv5 : IC := zr [zm 8 0, zv 9 (.bin .lss .no (.t 8) (zc 0))]
def q04 : IC := zr [zm 10 3, zv 11 (.un .neg (.t 10)), zm 3 11]
def qyz : IC := zr [zi 4 (.alo [(.int .u8 0), (.int .u8 0), (.int .u8 0), (.int .u8 0), (.int .u8 0), (.int .u8 0), (.int .u8 0), (.int .u8 0), (.int .u8 0), (.int .u8 0), (.int .u8 0), (.int .u8 0), (.int .u8 0), (.int .u8 0), (.int .u8 0), (.int .u8 0), (.int .u8 0), (.int .u8 0), (.int .u8 0), (.int .u8 0)])]
def qzf : IC := zr [zv 5 (.mov (zc 20))]
def qye : IC := zr [zm 12 5, zv 13 (.bin .sub .no (.t 12) (zc 1)), zm 5 13]
def q0d : IC := zr [zm 14 5, zm 15 3, zv 16 (.bin .rem .no (.t 15) (.c (.int .u64 10))), zv 17 (.bin .add .no (.c (.int .u64 48)) (.t 16)), zv 18 (.cvi .u8 (.t 17)), zv 19 (.aad 1 20 (.t 4) (.t 14)), zn (.st 1 .id (.t 19) (.t 18))]
def q1o : IC := zr [zm 20 3, zv 21 (.bin .quo .no (.t 20) (.c (.int .u64 10))), zm 3 21]
def qse : IC := zr [zm 22 3, zv 23 (.bin .eql .no (.t 22) (.c (.int .u64 0)))]
def qv1 : IC := (.block 1 (.seq qye (.seq q0d (.seq q1o (.seq qse (.cond (.t 23) (.exit 0) .skip))))))
def qup : IC := zr [zm 24 0, zv 25 (.bin .lss .no (.t 24) (zc 0))]
def qrh : IC := zr [zm 26 5, zv 27 (.sla 20 (.t 4) (.t 26)), zv 28 (.cbs (.t 27)), zv 29 (.bin .add .no (.c (.str [45])) (.t 28)), zm 2 29]
def qug : IC := zr [zm 30 5, zv 31 (.sla 20 (.t 4) (.t 30)), zv 32 (.cbs (.t 31)), zm 2 32]
def k0by : IC := (.seq qwn (.seq q1u (.seq (.seq qv5 (.cond (.t 9) q04 .skip)) (.seq qyz (.seq qzf (.seq (.block 0 (.loop qv1)) (.seq (.seq qup (.cond (.t 25) (.seq qrh .ret) .skip)) (.seq qug .ret))))))))
@[go_sem] def s0by : List (RV × Co) := [(.t 2, .id)]
theorem c0by : cFun Try.prog 137 = some (33, k0by, s0by) := by kernel_rfl

def qva : IC := zr [zv 2 (.mov (.c (.int .u64 0)))]
def q0a : IC := zr [zm 3 0, zv 4 (.bin .lss .no (.t 3) (zc 0))]
def qvn : IC := zr [zm 5 0, zv 6 (.cvi .u64 (.t 5)), zv 7 (.un .neg (.t 6)), zm 2 7]
def qzv : IC := zr [zm 8 0, zv 9 (.cvi .u64 (.t 8)), zm 2 9]
def k0bw : IC := (.seq qva (.seq (.seq q0a (.cond (.t 4) (.seq qvn .ret) .skip)) (.seq qzv .ret)))
@[go_sem] def s0bw : List (RV × Co) := [(.t 2, .id)]
theorem c0bw : cFun Try.prog 143 = some (10, k0bw, s0bw) := by kernel_rfl

def qyj : IC := zr [zv 2 (.mov (.c (.str [])))]
def q0j : IC := zr [zm 4 0, zv 5 (.bin .lss .no (.t 4) (zc 0))]
def qxx : IC := zr [zv 2 (.mov (.c (.str [])))]
def qxg : IC := zr [zm 6 0, zv 7 (.bin .rem .no (.t 6) (zc 26)), zv 8 (.bin .add .no (zc 97) (.t 7)), zv 9 (.cvi .u8 (.t 8)), zv 10 (.bsl 1 [((.t 9), .id)]), zv 11 (.cbs (.t 10)), zm 3 11]
def q1d : IC := zr [zm 12 0, zv 13 (.bin .lss .no (.t 12) (zc 26))]
def qws : IC := zr [zm 14 3, zm 2 14]
def q1c : IC := zr [zm 15 3, zm 16 0, zv 17 (.bin .quo .no (.t 16) (zc 26)), zi 18 (.call (.c (.fn 137 [] [])) [((.t 17), .id)]), zv 19 (.bin .add .no (.t 15) (.t 18)), zm 2 19]
def k0bz : IC := (.seq qyj (.seq (.seq q0j (.cond (.t 5) (.seq qxx .ret) .skip)) (.seq qxg (.seq (.seq q1d (.cond (.t 13) (.seq qws .ret) .skip)) (.seq q1c .ret)))))
@[go_sem] def s0bz : List (RV × Co) := [(.t 2, .id)]
theorem c0bz : cFun Try.prog 144 = some (20, k0bz, s0bz) := by kernel_rfl

def qxz : IC := zr [zv 2 (.mov (zc 0)), zv 3 (.mov (zc 0))]
def qwg : IC := zr [zm 8 0, zv 9 (.bin .eql .no (.t 8) (.c (.str [])))]
def qxs : IC := zr [zv 2 (.mov (zc 0)), zv 3 (.mov (zc 5))]
def qzg : IC := zr [zv 4 (.mov (zc 0))]
def qza : IC := zr [zm 10 4, zm 11 0, zv 12 (.len true (.t 11)), zv 13 (.bin .lss .no (.t 10) (.t 12))]
def qy0 : IC := zr [zm 16 0, zm 17 4, zv 18 (.idx (.t 16) (.t 17)), zv 19 (.bin .lss .no (.t 18) (.c (.int .u8 48))), zm 20 19, zw 20 false 21 (.mov (.t 0)), zw 20 false 22 (.mov (.t 4)), zw 20 false 23 (.idx (.t 21) (.t 22)), zw 20 false 24 (.bin .gtr .no (.t 23) (.c (.int .u8 57))), zv 25 (.pick (.t 20) (.c (.bool true)) (.t 24))]
def q1p : IC := zr [zv 2 (.mov (zc 0)), zv 3 (.mov (zc 5))]
def qz6 : IC := zr [zm 14 4, zv 15 (.bin .add .no (.t 14) (zc 1)), zm 4 15]
def qxc : IC := (.seq (.seq qza (.cond (.t 13) .skip (.exit 0))) (.seq (.block 1 (.seq qy0 (.cond (.t 25) (.seq q1p .ret) .skip))) qz6))
def qsn : IC := zr [zv 5 (.mov (zc 0))]
def qtu : IC := zr [zv 6 (.mov (zc 0))]
def qul : IC := zr [zm 26 6, zm 27 0, zv 28 (.len true (.t 27)), zv 29 (.bin .lss .no (.t 26) (.t 28))]
def qta : IC := zr [zm 32 0, zm 33 6, zv 34 (.idx (.t 32) (.t 33)), zv 35 (.bin .sub .no (.t 34) (.c (.int .u8 48))), zv 36 (.cvi .i64 (.t 35)), zm 7 36]
def qui : IC := zr [zm 37 5, zm 38 7, zv 39 (.bin .sub .no (zc 9223372036854775807) (.t 38)), zv 40 (.bin .quo .no (.t 39) (zc 10)), zv 41 (.bin .gtr .no (.t 37) (.t 40))]
def qr5 : IC := zr [zv 2 (.mov (zc 0)), zv 3 (.mov (zc 4))]
def qsm : IC := zr [zm 42 5, zv 43 (.bin .mul .no (zc 10) (.t 42)), zm 44 7, zv 45 (.bin .add .no (.t 43) (.t 44)), zm 5 45]
def qsc : IC := zr [zm 30 6, zv 31 (.bin .add .no (.t 30) (zc 1)), zm 6 31]
def qr2 : IC := (.seq (.seq qul (.cond (.t 29) .skip (.exit 2))) (.seq (.block 3 (.seq qta (.seq (.seq qui (.cond (.t 41) (.seq qr5 .ret) .skip)) qsm))) qsc))
def qtf : IC := zr [zm 46 5, zm 2 46, zv 3 (.mov (zc 0))]
def k0bq : IC := (.seq qxz (.seq (.seq qwg (.cond (.t 9) (.seq qxs .ret) .skip)) (.seq (.seq qzg (.block 0 (.loop qxc))) (.seq qsn (.seq (.seq qtu (.block 2 (.loop qr2))) (.seq qtf .ret))))))
@[go_sem] def s0bq : List (RV × Co) := [(.t 2, .id), (.t 3, .id)]
theorem c0bq : cFun Try.prog 145 = some (47, k0bq, s0bq) := by kernel_rfl

def q1i : IC := zr [zv 4 zf]
def qxl : IC := zr [zm 5 0, zv 6 (.len true (.t 5)), zm 7 1, zv 8 (.len true (.t 7)), zv 9 (.bin .geq .no (.t 6) (.t 8)), zm 10 9, zw 10 true 11 (.mov (.t 0)), zw 10 true 12 (.mov (.t 1)), zw 10 true 13 (.len true (.t 12)), zw 10 true 14 (.sls (.t 11) none (some (.t 13))), zw 10 true 15 (.mov (.t 1)), zw 10 true 16 (.bin .eql .no (.t 14) (.t 15)), zv 17 (.pick (.t 10) (.t 16) (.c (.bool false))), zm 4 17]
def k0bo : IC := (.seq q1i (.seq qxl .ret))
@[go_sem] def s0bo : List (RV × Co) := [(.t 4, .id)]
theorem c0bo : cFun Try.prog 147 = some (18, k0bo, s0bo) := by kernel_rfl

end Go.Proofs.Ytfpobiheiloamaa
