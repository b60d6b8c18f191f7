/- A text of this proof. -/
import Derived.Test.YtfpobiheiloamaaQaf
import Derived.Test.YtfpobiheiloamaaProg
/- The compiled code of the functions. -/
namespace Go.Proofs.Ytfpobiheiloamaa
open Go Go.V
@[reducible] def zm (d s : Nat) : GI := ⟨none, some d, .v (.mov (.t s))⟩
@[reducible] def zv (d : Nat) (x : IV) : GI := ⟨none, some d, .v x⟩
@[reducible] def zi (d : Nat) (i : I) : GI := ⟨none, some d, i⟩
@[reducible] def zn (i : I) : GI := ⟨none, none, i⟩
@[reducible] def zw (j : Nat) (b : Bool) (d : Nat) (x : IV) : GI := ⟨some (j, b), some d, .v x⟩
@[reducible] def zp (g : GI) : GI × List Nat := (g, [])
@[reducible] def zN : Co := .agg [.id, .id, .id, .id, (.sl 5)]
@[reducible] def zC : Co := .agg [(.sl 4), .id, .id, .id, .id, .id, .id, .id]
@[reducible] def zaN : I := .alo [(.int .i64 0), (.int .i64 0), (.int .i64 0), (.str []), .nils]
@[reducible] def zaC : I := .alo [.nils, (.int .i64 0), (.int .i64 0), (.int .i64 0), (.str []), (.int .i64 0), (.int .i64 0), (.int .i64 0)]
@[reducible] def zaT : I := .alo [(.int .i64 0), (.int .i64 0), (.int .i64 0), (.str [])]
@[reducible] def zZ : AV := .agg [(.int .i64 0), (.int .i64 0), (.int .i64 0), (.str []), .nils]
@[reducible] def zc (n : Int) : Opd := .c (.int .i64 n)
@[reducible] def zf : IV := .mov (.c (.bool false))
@[reducible] def zr (l : List GI) : IC := .reg false l
def q5l : IC := zr [zi 3 (.box (.t 1)), zv 4 zf]
def q16 : IC := zr [zm 5 0, zi 6 (.call (.c (.fn 15 [] [])) [((.t 5), (.sl 4))]), zv 7 (.bin .eql .no (.t 6) (zc 0)), zm 8 7, zw 8 false 9 (.ld true 4 (.t 3)), zw 8 false 10 (.bsl 4 [((.t 9), (.agg [.id, .id, .id, (.sl 3)]))]), ⟨some (8, false), some 11, .call (.c (.fn 15 [] [])) [((.t 10), (.sl 4))]⟩, zw 8 false 12 (.bin .eql .no (.t 11) (zc 0)), zv 13 (.pick (.t 8) (.c (.bool true)) (.t 12))]
def q3t : IC := zr [zi 14 (.call (.c (.fn 16 [] [])) []), zm 4 14]
def q00 : IC := .drw [zp (zm 15 0), (zi 16 (.call (.c (.fn 18 [] [])) [((.t 15), (.sl 4))]), []), zp (zm 17 0), (zi 18 (.call (.c (.fn 19 [] [])) [((.t 17), (.sl 4))]), []), (zi 19 (.call (.c (.fn 17 [] [])) [((.t 16), (.sl 4)), ((.t 18), (.sl 4))]), []), zp (zm 20 19), zp (zw 20 true 21 (.mov (.t 0))), zp (zw 20 true 22 (.ld true 4 (.t 3))), (⟨some (20, true), some 23, .call (.c (.fn 20 [] [])) [((.t 21), (.sl 4)), ((.t 22), (.agg [.id, .id, .id, (.sl 3)]))]⟩, []), zp (zw 20 true 24 (.mov (.t 0))), (zw 20 true 25 (.ld true 4 (.t 3)), [8]), (⟨some (20, true), some 26, .call (.c (.fn 21 [] [])) [((.t 24), (.sl 4)), ((.t 25), (.agg [.id, .id, .id, (.sl 3)]))]⟩, []), zp (zw 20 true 27 (.bin .eql .bool (.t 23) (.t 26))), zp (zv 28 (.pick (.t 20) (.t 27) (.c (.bool false)))), zp (zm 29 28), zp (zw 29 true 30 (.mov (.t 0))), (⟨some (29, true), some 31, .call (.c (.fn 23 [] [])) [((.t 30), (.sl 4))]⟩, []), zp (zw 29 true 32 (.mov (.t 0))), (⟨some (29, true), some 33, .call (.c (.fn 24 [] [])) [((.t 32), (.sl 4))]⟩, []), (⟨some (29, true), some 34, .call (.c (.fn 22 [] [])) [((.t 31), (.sl 1)), ((.t 33), (.sl 1))]⟩, []), zp (zv 35 (.pick (.t 29) (.t 34) (.c (.bool false)))), zp (zm 36 35), zp (zw 36 true 37 (.mov (.t 0))), (⟨some (36, true), some 38, .call (.c (.fn 25 [] [])) [((.t 37), (.sl 4))]⟩, []), zp (zw 36 true 39 (.mov (.t 0))), (⟨some (36, true), some 40, .call (.c (.fn 26 [] [])) [((.t 39), (.sl 4))]⟩, []), zp (zw 36 true 41 (.bin .eql .no (.t 38) (.t 40))), zp (zv 42 (.pick (.t 36) (.t 41) (.c (.bool false)))), zp (zm 43 42), (⟨some (43, true), some 44, .call (.c (.fn 16 [] [])) []⟩, []), zp (zv 45 (.pick (.t 43) (.t 44) (.c (.bool false)))), zp (zm 4 45)]
def k0cv : IC := (.seq q5l (.seq (.seq q16 (.cond (.t 13) (.seq q3t .ret) .skip)) (.seq q00 .ret)))
@[go_sem] def s0cv : List (RV × Co) := [(.t 4, .id)]
theorem c0cv : cFun Try.prog 3 = some (46, k0cv, s0cv) := by kernel_rfl

def q03 : IC := zr [zv 2 (.mov (zc 0))]
def q20 : IC := zr [zm 5 0, zv 6 (.len false (.t 5)), zv 7 (.bin .gtr .no (.t 6) (zc 30))]
def q3s : IC := zr [zv 2 (.mov (zc 0))]
def q6b : IC := zr [zv 3 (.mov (.c .nils))]
def q58 : IC := zr [zv 4 (.mov (zc 0))]
def qyv : IC := zr [zm 8 4, zm 9 0, zv 10 (.len false (.t 9)), zv 11 (.bin .lss .no (.t 8) (.t 10))]
def q7s : IC := zr [zm 14 3, zm 15 0, zm 16 4, zv 17 (.iad 4 (.t 15) (.t 16)), zv 18 (.fad (.t 17) 1), zv 19 (.ld true 3 (.t 18)), zv 20 (.bsl 3 [((.t 19), (.agg [.id, .id, (.sl 3)]))]), zi 21 (.app 3 (.agg [(.str []), (.int .i64 0), .nils]) 48 (.sl 3) (.t 14) (.t 20)), zm 3 21]
def q72 : IC := zr [zm 12 4, zv 13 (.bin .add .no (.t 12) (zc 1)), zm 4 13]
def qzd : IC := (.seq (.seq qyv (.cond (.t 11) .skip (.exit 0))) (.seq (.block 1 q7s) q72))
def qxf : IC := zr [zm 22 3, zi 23 (.call (.c (.fn 31 [] [])) [((.t 22), (.sl 3))]), zm 2 23]
def k0cl : IC := (.seq q03 (.seq (.seq q20 (.cond (.t 7) (.seq q3s .ret) .skip)) (.seq q6b (.seq (.seq q58 (.block 0 (.loop qzd))) (.seq qxf .ret)))))
@[go_sem] def s0cl : List (RV × Co) := [(.t 2, .id)]
theorem c0cl : cFun Try.prog 15 = some (24, k0cl, s0cl) := by kernel_rfl

def q6j : IC := zr [zv 0 zf]
def q1y : IC := zr [zv 3 (.bld [(.str []), (.str []), (.int .i64 0), .nils] [(0, 1, (.c (.str [67])))]), zi 1 (.alo [(.str []), (.str []), (.int .i64 0), .nils]), zn (.st 4 (.agg [.id, .id, .id, (.sl 3)]) (.t 1) (.t 3))]
def q0o : IC := zr [zv 4 (.bld [(.str []), (.int .i64 0), .nils] [(1, 1, (zc 1))]), zv 5 (.bsl 3 [((.t 4), (.agg [.id, .id, (.sl 3)]))]), zv 6 (.bld [(.str []), (.int .i64 0), .nils] [(0, 1, (.c (.str [84]))), (2, 1, (.t 5))]), zv 7 (.bld [(.str []), (.str []), (.int .i64 0), .nils] [(0, 1, (.c (.str [68]))), (1, 3, (.t 6))]), zi 2 (.alo [(.str []), (.str []), (.int .i64 0), .nils]), zn (.st 4 (.agg [.id, .id, .id, (.sl 3)]) (.t 2) (.t 7))]
def q6g : IC := zr [zv 8 (.ld true 4 (.t 1)), zv 9 (.ld true 4 (.t 2)), zv 10 (.bsl 4 [((.t 8), (.agg [.id, .id, .id, (.sl 3)])), ((.t 9), (.agg [.id, .id, .id, (.sl 3)]))]), zi 11 (.call (.c (.fn 25 [] [])) [((.t 10), (.sl 4))]), zv 12 (.bin .eql .no (.t 11) (.c (.str [40, 67, 32, 97, 44, 32, 68, 32, 40, 84, 32, 98, 41, 41]))), zm 13 12, zw 13 true 14 (.ld true 4 (.t 1)), zw 13 true 15 (.bsl 4 [((.t 14), (.agg [.id, .id, .id, (.sl 3)]))]), ⟨some (13, true), some 16, .call (.c (.fn 25 [] [])) [((.t 15), (.sl 4))]⟩, zw 13 true 17 (.bin .eql .no (.t 16) (.c (.str [67, 32, 97]))), zv 18 (.pick (.t 13) (.t 17) (.c (.bool false))), zm 19 18, ⟨some (19, true), some 20, .call (.c (.fn 25 [] [])) [((.c .nils), (.sl 4))]⟩, zw 19 true 21 (.bin .eql .no (.t 20) (.c (.str []))), zv 22 (.pick (.t 19) (.t 21) (.c (.bool false))), zm 23 22, zw 23 true 24 (.ld true 4 (.t 1)), zw 23 true 25 (.ld true 4 (.t 2)), ⟨some (23, true), some 26, .call (.c (.fn 28 [] [])) [((.t 24), (.agg [.id, .id, .id, (.sl 3)])), ((.t 25), (.agg [.id, .id, .id, (.sl 3)]))]⟩, zw 23 true 27 (.bin .eql .no (.t 26) (zc (-1))), zv 28 (.pick (.t 23) (.t 27) (.c (.bool false))), zm 29 28, zw 29 true 30 (.ld true 4 (.t 2)), zw 29 true 31 (.ld true 4 (.t 1)), ⟨some (29, true), some 32, .call (.c (.fn 28 [] [])) [((.t 30), (.agg [.id, .id, .id, (.sl 3)])), ((.t 31), (.agg [.id, .id, .id, (.sl 3)]))]⟩, zw 29 true 33 (.bin .eql .no (.t 32) (zc 1)), zv 34 (.pick (.t 29) (.t 33) (.c (.bool false))), zm 35 34, zw 35 true 36 (.ld true 4 (.t 1)), zw 35 true 37 (.ld true 4 (.t 1)), ⟨some (35, true), some 38, .call (.c (.fn 29 [] [])) [((.t 36), (.agg [.id, .id, .id, (.sl 3)])), ((.t 37), (.agg [.id, .id, .id, (.sl 3)]))]⟩, zv 39 (.pick (.t 35) (.t 38) (.c (.bool false))), zm 40 39, zw 40 true 41 (.ld true 4 (.t 1)), zw 40 true 42 (.bsl 4 [((.t 41), (.agg [.id, .id, .id, (.sl 3)]))]), zw 40 true 43 (.ld true 4 (.t 1)), ⟨some (40, true), some 44, .call (.c (.fn 20 [] [])) [((.t 42), (.sl 4)), ((.t 43), (.agg [.id, .id, .id, (.sl 3)]))]⟩, zv 45 (.pick (.t 40) (.t 44) (.c (.bool false))), zm 46 45, zw 46 true 47 (.ld true 4 (.t 1)), zw 46 true 48 (.bsl 4 [((.t 47), (.agg [.id, .id, .id, (.sl 3)]))]), zw 46 true 49 (.ld true 4 (.t 2)), ⟨some (46, true), some 50, .call (.c (.fn 20 [] [])) [((.t 48), (.sl 4)), ((.t 49), (.agg [.id, .id, .id, (.sl 3)]))]⟩, zw 46 true 51 (.un .not (.t 50)), zv 52 (.pick (.t 46) (.t 51) (.c (.bool false))), zm 53 52, zw 53 true 54 (.ld true 4 (.t 1)), zw 53 true 55 (.ld true 4 (.t 2)), zw 53 true 56 (.ld true 4 (.t 1)), zw 53 true 57 (.bsl 4 [((.t 54), (.agg [.id, .id, .id, (.sl 3)])), ((.t 55), (.agg [.id, .id, .id, (.sl 3)])), ((.t 56), (.agg [.id, .id, .id, (.sl 3)]))]), ⟨some (53, true), some 58, .call (.c (.fn 18 [] [])) [((.t 57), (.sl 4))]⟩, zw 53 true 59 (.len false (.t 58)), zw 53 true 60 (.bin .eql .no (.t 59) (zc 2)), zv 61 (.pick (.t 53) (.t 60) (.c (.bool false))), zm 62 61, zw 62 true 63 (.ld true 4 (.t 2)), zw 62 true 64 (.ld true 4 (.t 1)), zw 62 true 65 (.bsl 4 [((.t 63), (.agg [.id, .id, .id, (.sl 3)])), ((.t 64), (.agg [.id, .id, .id, (.sl 3)]))]), ⟨some (62, true), some 66, .call (.c (.fn 23 [] [])) [((.t 65), (.sl 4))]⟩, zw 62 true 67 (.bsl 1 [((zc 1), .id), ((zc 0), .id)]), ⟨some (62, true), some 68, .call (.c (.fn 22 [] [])) [((.t 66), (.sl 1)), ((.t 67), (.sl 1))]⟩, zv 69 (.pick (.t 62) (.t 68) (.c (.bool false))), zm 70 69, zw 70 true 71 (.ld true 4 (.t 1)), ⟨some (70, true), some 72, .call (.c (.fn 61 [] [])) [((.t 71), (.agg [.id, .id, .id, (.sl 3)]))]⟩, zv 73 (.pick (.t 70) (.t 72) (.c (.bool false))), zm 74 73, zw 74 true 75 (.ld true 4 (.t 2)), ⟨some (74, true), some 76, .call (.c (.fn 61 [] [])) [((.t 75), (.agg [.id, .id, .id, (.sl 3)]))]⟩, zw 74 true 77 (.un .not (.t 76)), zv 78 (.pick (.t 74) (.t 77) (.c (.bool false))), zm 79 78, zw 79 true 80 (.ld true 4 (.t 2)), ⟨some (79, true), some 81, .call (.c (.fn 27 [] [])) [((.t 80), (.agg [.id, .id, .id, (.sl 3)]))]⟩, zv 82 (.pick (.t 79) (.t 81) (.c (.bool false))), zm 83 82, zw 83 true 84 (.bld [(.str []), (.str []), (.int .i64 0), .nils] [(0, 1, (.c (.str [99])))]), ⟨some (83, true), some 85, .call (.c (.fn 27 [] [])) [((.t 84), (.agg [.id, .id, .id, (.sl 3)]))]⟩, zw 83 true 86 (.un .not (.t 85)), zv 87 (.pick (.t 83) (.t 86) (.c (.bool false))), zm 0 87]
def k0cw : IC := (.seq q6j (.seq q1y (.seq q0o (.seq q6g .ret))))
@[go_sem] def s0cw : List (RV × Co) := [(.t 0, .id)]
theorem c0cw : cFun Try.prog 16 = some (88, k0cw, s0cw) := by kernel_rfl

def q2l : IC := zr [zv 4 zf]
def qz0 : IC := zr [zm 6 0, zv 7 (.len false (.t 6)), zm 8 1, zv 9 (.len false (.t 8)), zv 10 (.bin .neq .no (.t 7) (.t 9))]
def qyj : IC := zr [zv 4 zf]
def q4k : IC := zr [zv 5 (.mov (zc 0))]
def q8c : IC := zr [zm 11 5, zm 12 0, zv 13 (.len false (.t 12)), zv 14 (.bin .lss .no (.t 11) (.t 13))]
def q8d : IC := .drw [zp (zm 17 0), zp (zm 18 5), zp (zv 19 (.iad 4 (.t 17) (.t 18))), zp (zv 20 (.ld true 4 (.t 19))), zp (zm 21 1), zp (zm 22 5), zp (zv 23 (.iad 4 (.t 21) (.t 22))), zp (zv 24 (.ld true 4 (.t 23))), (zi 25 (.call (.c (.fn 62 [] [])) [((.t 20), (.agg [.id, .id, .id, (.sl 3)])), ((.t 24), (.agg [.id, .id, .id, (.sl 3)]))]), []), zp (zv 26 (.un .not (.t 25)))]
def q4j : IC := zr [zv 4 zf]
def qyl : IC := zr [zm 15 5, zv 16 (.bin .add .no (.t 15) (zc 1)), zm 5 16]
def qzo : IC := (.seq (.seq q8c (.cond (.t 14) .skip (.exit 0))) (.seq (.block 1 (.seq q8d (.cond (.t 26) (.seq q4j .ret) .skip))) qyl))
def qu8 : IC := zr [zv 4 (.mov (.c (.bool true)))]
def k0cg : IC := (.seq q2l (.seq (.seq qz0 (.cond (.t 10) (.seq qyj .ret) .skip)) (.seq (.seq q4k (.block 0 (.loop qzo))) (.seq qu8 .ret))))
@[go_sem] def s0cg : List (RV × Co) := [(.t 4, .id)]
theorem c0cg : cFun Try.prog 17 = some (27, k0cg, s0cg) := by kernel_rfl

def q0p : IC := zr [zv 2 (.mov (.c .nils))]
def q0i : IC := zr [zv 3 (.mov (.c .nils))]
def q4d : IC := zr [zm 6 0, zv 7 (.len false (.t 6)), zv 8 (.mov (zc 0))]
def q5z : IC := zr [zv 9 (.bin .lss .no (.t 8) (.t 7))]
def q0h : IC := zr [zv 10 (.iad 4 (.t 6) (.t 8)), zv 11 (.ld true 4 (.t 10)), zi 5 (.alo [(.str []), (.str []), (.int .i64 0), .nils]), zn (.st 4 (.agg [.id, .id, .id, (.sl 3)]) (.t 5) (.t 11))]
def q0a : IC := zr [zm 12 3, zv 13 (.ld true 4 (.t 5)), zi 14 (.call (.c (.fn 20 [] [])) [((.t 12), (.sl 4)), ((.t 13), (.agg [.id, .id, .id, (.sl 3)]))]), zv 15 (.un .not (.t 14))]
def q6m : IC := .drw [zp (zm 16 3), zp (zm 17 3), zp (zv 18 (.len false (.t 17))), zp (zm 19 3), zp (zv 20 (.len false (.t 19))), zp (zv 21 (.slv 4 (.t 16) none (some (.t 18)) (some (.t 20)))), zp (zv 22 (.ld true 4 (.t 5))), (zv 23 (.bsl 4 [((.t 22), (.agg [.id, .id, .id, (.sl 3)]))]), []), (zi 24 (.app 4 (.agg [(.str []), (.str []), (.int .i64 0), .nils]) 64 (.sl 4) (.t 21) (.t 23)), []), zp (zm 3 24)]
def q69 : IC := zr [zv 25 (.bin .add .no (.t 8) (zc 1)), zm 8 25]
def q27 : IC := (.seq q5z (.seq (.cond (.t 9) .skip (.exit 0)) (.seq (.block 1 (.seq q0h (.seq q0a (.cond (.t 15) q6m .skip)))) q69)))
def qv5 : IC := zr [zm 26 3, zm 2 26]
def k0ct : IC := (.seq q0p (.seq q0i (.seq (.seq q4d (.block 0 (.loop q27))) (.seq qv5 .ret))))
@[go_sem] def s0ct : List (RV × Co) := [(.t 2, (.sl 4))]
theorem c0ct : cFun Try.prog 18 = some (27, k0ct, s0ct) := by kernel_rfl

def q3o : IC := zr [zv 2 (.mov (.c .nils))]
def q5u : IC := zr [zv 3 (.mov (.c .nils))]
def q1q : IC := zr [zv 4 (.mov (zc 0))]
def q5j : IC := zr [zm 5 4, zm 6 0, zv 7 (.len false (.t 6)), zv 8 (.bin .lss .no (.t 5) (.t 7))]
def q7t : IC := zr [zm 11 3, zm 12 0, zm 13 4, zv 14 (.iad 4 (.t 12) (.t 13)), zv 15 (.ld true 4 (.t 14)), zi 16 (.call (.c (.fn 21 [] [])) [((.t 11), (.sl 4)), ((.t 15), (.agg [.id, .id, .id, (.sl 3)]))]), zv 17 (.un .not (.t 16))]
def q36 : IC := zr [zm 18 3, zm 19 0, zm 20 4, zv 21 (.iad 4 (.t 19) (.t 20)), zv 22 (.ld true 4 (.t 21)), zv 23 (.bsl 4 [((.t 22), (.agg [.id, .id, .id, (.sl 3)]))]), zi 24 (.app 4 (.agg [(.str []), (.str []), (.int .i64 0), .nils]) 64 (.sl 4) (.t 18) (.t 23)), zm 3 24]
def q1b : IC := zr [zm 9 4, zv 10 (.bin .add .no (.t 9) (zc 1)), zm 4 10]
def q1h : IC := (.seq (.seq q5j (.cond (.t 8) .skip (.exit 0))) (.seq (.block 1 (.seq q7t (.cond (.t 17) q36 .skip))) q1b))
def q2h : IC := zr [zm 25 3, zm 2 25]
def k0cu : IC := (.seq q3o (.seq q5u (.seq (.seq q1q (.block 0 (.loop q1h))) (.seq q2h .ret))))
@[go_sem] def s0cu : List (RV × Co) := [(.t 2, (.sl 4))]
theorem c0cu : cFun Try.prog 19 = some (26, k0cu, s0cu) := by kernel_rfl

def q09 : IC := zr [zi 3 (.box (.t 1)), zv 4 zf]
def qzr : IC := zr [zm 5 0, zv 6 (.mfn 64 [] [(.t 3)]), zi 7 (.call (.c (.fn 63 [] [])) [((.t 5), (.sl 4)), ((.t 6), .id)]), zm 4 7]
def k0cr : IC := (.seq q09 (.seq qzr .ret))
@[go_sem] def s0cr : List (RV × Co) := [(.t 4, .id)]
theorem c0cr : cFun Try.prog 20 = some (8, k0cr, s0cr) := by kernel_rfl

def q7o : IC := zr [zi 3 (.box (.t 1)), zv 4 zf]
def q1d : IC := zr [zv 5 (.mov (zc 0))]
def q5e : IC := zr [zm 6 5, zm 7 0, zv 8 (.len false (.t 7)), zv 9 (.bin .lss .no (.t 6) (.t 8))]
def q2w : IC := .drw [zp (zm 12 0), zp (zm 13 5), zp (zv 14 (.iad 4 (.t 12) (.t 13))), zp (zv 15 (.ld true 4 (.t 14))), zp (zv 16 (.ld true 4 (.t 3))), (zi 17 (.call (.c (.fn 62 [] [])) [((.t 15), (.agg [.id, .id, .id, (.sl 3)])), ((.t 16), (.agg [.id, .id, .id, (.sl 3)]))]), [])]
def q49 : IC := zr [zv 4 (.mov (.c (.bool true)))]
def q02 : IC := zr [zm 10 5, zv 11 (.bin .add .no (.t 10) (zc 1)), zm 5 11]
def q4v : IC := (.seq (.seq q5e (.cond (.t 9) .skip (.exit 0))) (.seq (.block 1 (.seq q2w (.cond (.t 17) (.seq q49 .ret) .skip))) q02))
def q2u : IC := zr [zv 4 zf]
def k0cs : IC := (.seq q7o (.seq (.seq q1d (.block 0 (.loop q4v))) (.seq q2u .ret)))
@[go_sem] def s0cs : List (RV × Co) := [(.t 4, .id)]
theorem c0cs : cFun Try.prog 21 = some (18, k0cs, s0cs) := by kernel_rfl

def qbbl : IC := zr [zv 4 zf]
def qbej : IC := zr [zm 6 0, zv 7 (.len false (.t 6)), zm 8 1, zv 9 (.len false (.t 8)), zv 10 (.bin .neq .no (.t 7) (.t 9))]
def qbdj : IC := zr [zv 4 zf]
def q9j : IC := zr [zv 5 (.mov (zc 0))]
def qbey : IC := zr [zm 11 5, zm 12 0, zv 13 (.len false (.t 12)), zv 14 (.bin .lss .no (.t 11) (.t 13))]
def qbby : IC := .drw [zp (zm 17 0), zp (zm 18 5), zp (zv 19 (.iad 1 (.t 17) (.t 18))), zp (zv 20 (.ld false 1 (.t 19))), zp (zm 21 1), zp (zm 22 5), zp (zv 23 (.iad 1 (.t 21) (.t 22))), zp (zv 24 (.ld false 1 (.t 23))), zp (zv 25 (.bin .neq .no (.t 20) (.t 24)))]
def qbfa : IC := zr [zv 4 zf]
def qbb8 : IC := zr [zm 15 5, zv 16 (.bin .add .no (.t 15) (zc 1)), zm 5 16]
def q9a : IC := (.seq (.seq qbey (.cond (.t 14) .skip (.exit 0))) (.seq (.block 1 (.seq qbby (.cond (.t 25) (.seq qbfa .ret) .skip))) qbb8))
def q2c : IC := zr [zv 4 (.mov (.c (.bool true)))]
def k0r : IC := (.seq qbbl (.seq (.seq qbej (.cond (.t 10) (.seq qbdj .ret) .skip)) (.seq (.seq q9j (.block 0 (.loop q9a))) (.seq q2c .ret))))
@[go_sem] def s0r : List (RV × Co) := [(.t 4, .id)]
theorem c0r : cFun Try.prog 22 = some (26, k0r, s0r) := by kernel_rfl

def q1c : IC := zr [zv 2 (.mov (.c .nils))]
def q57 : IC := zr [zv 3 (.mov (.c .nils))]
def qy2 : IC := zr [zm 8 0, zv 9 (.len false (.t 8)), zv 10 (.mov (zc 0))]
def q3h : IC := zr [zv 11 (.bin .lss .no (.t 10) (.t 9))]
def qzq : IC := zr [zv 12 (.iad 4 (.t 8) (.t 10)), zv 13 (.ld true 4 (.t 12)), zi 5 (.alo [(.str []), (.str []), (.int .i64 0), .nils]), zn (.st 4 (.agg [.id, .id, .id, (.sl 3)]) (.t 5) (.t 13))]
def q1r : IC := zr [zv 14 (.fad (.t 5) 1), zv 15 (.ld true 3 (.t 14)), zi 16 (.call (.c (.fn 65 [] [])) [((.t 15), (.agg [.id, .id, (.sl 3)]))]), zv 17 (.len false (.t 16)), zv 18 (.mov (zc 0))]
def q6h : IC := zr [zv 19 (.bin .lss .no (.t 18) (.t 17))]
def q5h : IC := zr [zv 20 (.iad 1 (.t 16) (.t 18)), zv 21 (.ld false 1 (.t 20)), zm 7 21]
def qvo : IC := zr [zm 22 3, zm 23 7, zi 24 (.call (.c (.fn 66 [] [])) [((.t 22), (.sl 1)), ((.t 23), .id)]), zv 25 (.un .not (.t 24))]
def qt4 : IC := zr [zm 26 3, zm 27 7, zv 28 (.bsl 1 [((.t 27), .id)]), zi 29 (.app 1 (.int .i64 0) 8 (.sl 1) (.t 26) (.t 28)), zm 3 29]
def qwg : IC := zr [zv 30 (.bin .add .no (.t 18) (zc 1)), zm 18 30]
def qqa : IC := (.seq q6h (.seq (.cond (.t 19) .skip (.exit 2)) (.seq (.block 3 (.seq q5h (.seq qvo (.cond (.t 25) qt4 .skip)))) qwg)))
def qwt : IC := zr [zv 31 (.bin .add .no (.t 10) (zc 1)), zm 10 31]
def q51 : IC := (.seq q3h (.seq (.cond (.t 11) .skip (.exit 0)) (.seq (.block 1 (.seq qzq (.seq q1r (.block 2 (.loop qqa))))) qwt)))
def qv9 : IC := zr [zm 32 3, zm 2 32]
def k0ce : IC := (.seq q1c (.seq q57 (.seq (.seq qy2 (.block 0 (.loop q51))) (.seq qv9 .ret))))
@[go_sem] def s0ce : List (RV × Co) := [(.t 2, (.sl 1))]
theorem c0ce : cFun Try.prog 23 = some (33, k0ce, s0ce) := by kernel_rfl

def qzx : IC := zr [zv 2 (.mov (.c .nils))]
def q45 : IC := zr [zv 3 (.mov (.c .nils))]
def q30 : IC := zr [zv 4 (.mov (zc 0))]
def q6n : IC := zr [zm 5 4, zm 6 0, zv 7 (.len false (.t 6)), zv 8 (.bin .lss .no (.t 5) (.t 7))]
def qy4 : IC := zr [zm 11 3, zm 12 0, zm 13 4, zv 14 (.iad 4 (.t 12) (.t 13)), zv 15 (.fad (.t 14) 1), zv 16 (.ld true 3 (.t 15)), zi 17 (.call (.c (.fn 60 [] [])) [((.t 16), (.agg [.id, .id, (.sl 3)]))]), zi 18 (.app 1 (.int .i64 0) 8 (.sl 1) (.t 11) (.t 17)), zm 3 18]
def q59 : IC := zr [zm 9 4, zv 10 (.bin .add .no (.t 9) (zc 1)), zm 4 10]
def qy0 : IC := (.seq (.seq q6n (.cond (.t 8) .skip (.exit 0))) (.seq (.block 1 qy4) q59))
def q1n : IC := zr [zm 19 3, zi 20 (.call (.c (.fn 67 [] [])) [((.t 19), (.sl 1))]), zm 2 20]
def k0cf : IC := (.seq qzx (.seq q45 (.seq (.seq q30 (.block 0 (.loop qy0))) (.seq q1n .ret))))
@[go_sem] def s0cf : List (RV × Co) := [(.t 2, (.sl 1))]
theorem c0cf : cFun Try.prog 24 = some (21, k0cf, s0cf) := by kernel_rfl

def q7p : IC := zr [zv 2 (.mov (.c (.str [])))]
def qz4 : IC := zr [zv 3 (.mov (.c .nils))]
def qyh : IC := zr [zm 7 0, zv 8 (.len false (.t 7)), zv 9 (.mov (zc 0))]
def qy5 : IC := zr [zv 10 (.bin .lss .no (.t 9) (.t 8))]
def qz3 : IC := zr [zv 11 (.iad 4 (.t 7) (.t 9)), zv 12 (.ld true 4 (.t 11)), zi 5 (.alo [(.str []), (.str []), (.int .i64 0), .nils]), zn (.st 4 (.agg [.id, .id, .id, (.sl 3)]) (.t 5) (.t 12))]
def q3v : IC := zr [zv 13 (.ld true 4 (.t 5)), zi 14 (.call (.c (.fn 27 [] [])) [((.t 13), (.agg [.id, .id, .id, (.sl 3)]))]), zv 15 (.un .not (.t 14))]
def q17 : IC := zr [zv 2 (.mov (.c (.str [])))]
def qz8 : IC := zr [zm 16 3, zv 17 (.ld true 4 (.t 5)), zi 18 (.call (.c (.fn 68 [] [])) [((.t 17), (.agg [.id, .id, .id, (.sl 3)]))]), zv 19 (.bsl 1 [((.t 18), .id)]), zi 20 (.app 1 (.str []) 16 (.sl 1) (.t 16) (.t 19)), zm 3 20]
def q1k : IC := zr [zv 21 (.bin .add .no (.t 9) (zc 1)), zm 9 21]
def qyu : IC := (.seq qy5 (.seq (.cond (.t 10) .skip (.exit 0)) (.seq (.block 1 (.seq qz3 (.seq (.seq q3v (.cond (.t 15) (.seq q17 .ret) .skip)) qz8))) q1k)))
def qu7 : IC := zr [zm 22 3, zi 23 (.call (.c (.fn 69 [] [])) [((.t 22), (.sl 1)), ((.c (.str [44, 32])), .id)]), zm 6 23]
def qwq : IC := zr [zm 24 0, zv 25 (.len false (.t 24)), zv 26 (.bin .gtr .no (.t 25) (zc 1))]
def qxo : IC := zr [zm 27 6, zv 28 (.bin .add .no (.c (.str [40])) (.t 27)), zv 29 (.bin .add .no (.t 28) (.c (.str [41]))), zm 2 29]
def qul : IC := zr [zm 30 6, zm 2 30]
def k0bz : IC := (.seq q7p (.seq qz4 (.seq (.seq qyh (.block 0 (.loop qyu))) (.seq qu7 (.seq (.seq qwq (.cond (.t 26) (.seq qxo .ret) .skip)) (.seq qul .ret))))))
@[go_sem] def s0bz : List (RV × Co) := [(.t 2, .id)]
theorem c0bz : cFun Try.prog 25 = some (31, k0bz, s0bz) := by kernel_rfl

def qza : IC := zr [zv 2 (.mov (.c (.str [])))]
def q3q : IC := zr [zm 5 0, zi 6 (.call (.c (.fn 70 [] [])) [((.t 5), (.sl 4))]), zv 7 (.un .not (.t 6)), zm 8 7, zw 8 false 9 (.mov (.t 0)), zw 8 false 10 (.len false (.t 9)), zw 8 false 11 (.bin .eql .no (.t 10) (zc 0)), zv 12 (.pick (.t 8) (.c (.bool true)) (.t 11))]
def q2y : IC := zr [zv 2 (.mov (.c (.str [])))]
def q3d : IC := zr [zv 3 (.mov (.c (.str [])))]
def q15 : IC := zr [zv 4 (.mov (zc 0))]
def q31 : IC := zr [zm 13 4, zm 14 0, zv 15 (.len false (.t 14)), zv 16 (.bin .lss .no (.t 13) (.t 15))]
def q5d : IC := zr [zm 19 4, zv 20 (.bin .gtr .no (.t 19) (zc 0))]
def q3g : IC := zr [zm 21 3, zv 22 (.bin .add .no (.t 21) (.c (.str [44, 32]))), zm 3 22]
def q2m : IC := .drw [zp (zm 23 3), zp (zm 24 0), zp (zm 25 4), zp (zv 26 (.iad 4 (.t 24) (.t 25))), zp (zv 27 (.fad (.t 26) 0)), zp (zv 28 (.ld false 1 (.t 27))), (zv 29 (.bin .add .no (.t 28) (.c (.str [32]))), []), zp (zm 30 0), zp (zm 31 4), zp (zv 32 (.iad 4 (.t 30) (.t 31))), zp (zv 33 (.fad (.t 32) 1)), zp (zv 34 (.ld true 3 (.t 33))), (zi 35 (.call (.c (.fn 71 [] [])) [((.t 34), (.agg [.id, .id, (.sl 3)]))]), [5]), zp (zv 36 (.bin .add .no (.t 29) (.t 35))), zp (zv 37 (.bin .add .no (.t 23) (.t 36))), zp (zm 3 37)]
def qvx : IC := zr [zm 17 4, zv 18 (.bin .add .no (.t 17) (zc 1)), zm 4 18]
def q2r : IC := (.seq (.seq q31 (.cond (.t 16) .skip (.exit 0))) (.seq (.block 1 (.seq (.seq q5d (.cond (.t 20) q3g .skip)) q2m)) qvx))
def qvk : IC := zr [zm 38 0, zv 39 (.len false (.t 38)), zv 40 (.bin .gtr .no (.t 39) (zc 1))]
def qxj : IC := zr [zm 41 3, zv 42 (.bin .add .no (.c (.str [40])) (.t 41)), zv 43 (.bin .add .no (.t 42) (.c (.str [41]))), zm 2 43]
def qup : IC := zr [zm 44 3, zm 2 44]
def k0bx : IC := (.seq qza (.seq (.seq q3q (.cond (.t 12) (.seq q2y .ret) .skip)) (.seq q3d (.seq (.seq q15 (.block 0 (.loop q2r))) (.seq (.seq qvk (.cond (.t 40) (.seq qxj .ret) .skip)) (.seq qup .ret))))))
@[go_sem] def s0bx : List (RV × Co) := [(.t 2, .id)]
theorem c0bx : cFun Try.prog 26 = some (45, k0bx, s0bx) := by kernel_rfl

def q41 : IC := zr [zi 1 (.box (.t 0)), zv 2 zf]
def qyx : IC := zr [zv 3 (.fad (.t 1) 0), zv 4 (.ld false 1 (.t 3)), zi 5 (.call (.c (.fn 72 [] [])) [((.t 4), .id)]), zm 6 5, zw 6 true 7 (.fad (.t 1) 1), zw 6 true 8 (.ld true 3 (.t 7)), ⟨some (6, true), some 9, .call (.c (.fn 48 [] [])) [((.t 8), (.agg [.id, .id, (.sl 3)]))]⟩, zv 10 (.pick (.t 6) (.t 9) (.c (.bool false))), zm 2 10]
def k0ci : IC := (.seq q41 (.seq qyx .ret))
@[go_sem] def s0ci : List (RV × Co) := [(.t 2, .id)]
theorem c0ci : cFun Try.prog 27 = some (11, k0ci, s0ci) := by kernel_rfl

def q32 : IC := zr [zi 2 (.box (.t 0)), zi 3 (.box (.t 1)), zv 4 (.mov (zc 0))]
def q1g : IC := .drw [zp (zv 5 (.fad (.t 2) 0)), zp (zv 6 (.ld false 1 (.t 5))), zp (zv 7 (.fad (.t 3) 0)), zp (zv 8 (.ld false 1 (.t 7))), (zi 9 (.call (.c (.fn 74 [] [])) [((.t 6), .id), ((.t 8), .id)]), []), zp (zv 10 (.fad (.t 2) 1)), (zv 11 (.ld true 3 (.t 10)), [4]), (zi 12 (.call (.c (.fn 75 [] [])) [((.t 11), (.agg [.id, .id, (.sl 3)]))]), []), zp (zv 13 (.fad (.t 3) 1)), (zv 14 (.ld true 3 (.t 13)), [4, 7]), (zi 15 (.call (.c (.fn 75 [] [])) [((.t 14), (.agg [.id, .id, (.sl 3)]))]), []), (zi 16 (.call (.c (.fn 74 [] [])) [((.t 12), .id), ((.t 15), .id)]), []), (zv 17 (.bsl 1 [((.t 9), .id), ((.t 16), .id)]), []), (zi 18 (.call (.c (.fn 73 [] [])) [((.t 17), (.sl 1))]), []), zp (zm 4 18)]
def k0cd : IC := (.seq q32 (.seq q1g .ret))
@[go_sem] def s0cd : List (RV × Co) := [(.t 4, .id)]
theorem c0cd : cFun Try.prog 28 = some (19, k0cd, s0cd) := by kernel_rfl

def q3l : IC := zr [zi 2 (.box (.t 0)), zi 3 (.box (.t 1)), zv 4 zf]
def q25 : IC := zr [zv 5 (.fad (.t 2) 0), zv 6 (.ld false 1 (.t 5)), zv 7 (.fad (.t 3) 0), zv 8 (.ld false 1 (.t 7)), zv 9 (.bin .eql .no (.t 6) (.t 8)), zm 10 9, zw 10 true 11 (.fad (.t 2) 1), zw 10 true 12 (.ld true 3 (.t 11)), zw 10 true 13 (.fad (.t 3) 1), zw 10 true 14 (.ld true 3 (.t 13)), ⟨some (10, true), some 15, .call (.c (.fn 76 [] [])) [((.t 12), (.agg [.id, .id, (.sl 3)])), ((.t 14), (.agg [.id, .id, (.sl 3)]))]⟩, zv 16 (.pick (.t 10) (.t 15) (.c (.bool false))), zm 4 16]
def k0cm : IC := (.seq q3l (.seq q25 .ret))
@[go_sem] def s0cm : List (RV × Co) := [(.t 4, .id)]
theorem c0cm : cFun Try.prog 29 = some (17, k0cm, s0cm) := by kernel_rfl

def qbdk : IC := zr [zv 2 (.mov (zc 0))]
def qbdt : IC := zr [zv 3 (.mov (zc 20000))]
def qbdn : IC := zr [zv 4 (.mov (zc 0))]
def q8s : IC := zr [zm 5 4, zm 6 0, zv 7 (.len false (.t 6)), zv 8 (.bin .lss .no (.t 5) (.t 7))]
def q9k : IC := zr [zm 11 0, zm 12 4, zv 13 (.iad 3 (.t 11) (.t 12)), zv 14 (.ld true 3 (.t 13)), zm 15 3, zi 16 (.call (.c (.fn 77 [] [])) [((.t 14), (.agg [.id, .id, (.sl 3)])), ((.t 15), .id), ((zc 300), .id)]), zm 3 16]
def q8j : IC := zr [zm 9 4, zv 10 (.bin .add .no (.t 9) (zc 1)), zm 4 10]
def qbbc : IC := (.seq (.seq q8s (.cond (.t 8) .skip (.exit 0))) (.seq (.block 1 q9k) q8j))
def qbe6 : IC := zr [zm 17 3, zv 18 (.bin .lss .no (.t 17) (zc 0))]
def qbaq : IC := zr [zv 2 (.mov (zc 0))]
def q4o : IC := zr [zv 2 (.mov (zc 1))]
def k0m : IC := (.seq qbdk (.seq qbdt (.seq (.seq qbdn (.block 0 (.loop qbbc))) (.seq (.seq qbe6 (.cond (.t 18) (.seq qbaq .ret) .skip)) (.seq q4o .ret)))))
@[go_sem] def s0m : List (RV × Co) := [(.t 2, .id)]
theorem c0m : cFun Try.prog 31 = some (19, k0m, s0m) := by kernel_rfl

def qbe5 : IC := zr [zi 2 (.box (.t 0)), zi 3 (.box (.t 1)), zv 4 zf]
def qbfi : IC := zr [zv 6 (.fad (.t 2) 0), zv 7 (.ld false 1 (.t 6)), zv 8 (.fad (.t 3) 0), zv 9 (.ld false 1 (.t 8)), zv 10 (.bin .neq .no (.t 7) (.t 9)), zm 11 10, zw 11 false 12 (.fad (.t 2) 1), zw 11 false 13 (.ld false 1 (.t 12)), zw 11 false 14 (.fad (.t 3) 1), zw 11 false 15 (.ld false 1 (.t 14)), zw 11 false 16 (.bin .neq .no (.t 13) (.t 15)), zv 17 (.pick (.t 11) (.c (.bool true)) (.t 16)), zm 18 17, zw 18 false 19 (.fad (.t 2) 2), zw 18 false 20 (.ld false 1 (.t 19)), zw 18 false 21 (.len false (.t 20)), zw 18 false 22 (.fad (.t 3) 2), zw 18 false 23 (.ld false 1 (.t 22)), zw 18 false 24 (.len false (.t 23)), zw 18 false 25 (.bin .neq .no (.t 21) (.t 24)), zv 26 (.pick (.t 18) (.c (.bool true)) (.t 25))]
def qba8 : IC := zr [zv 4 zf]
def q8o : IC := zr [zv 5 (.mov (zc 0))]
def q85 : IC := zr [zm 27 5, zv 28 (.fad (.t 2) 2), zv 29 (.ld false 1 (.t 28)), zv 30 (.len false (.t 29)), zv 31 (.bin .lss .no (.t 27) (.t 30))]
def qbar : IC := .drw [zp (zv 34 (.fad (.t 2) 2)), zp (zv 35 (.ld false 1 (.t 34))), zp (zm 36 5), zp (zv 37 (.iad 3 (.t 35) (.t 36))), zp (zv 38 (.ld true 3 (.t 37))), zp (zv 39 (.fad (.t 3) 2)), zp (zv 40 (.ld false 1 (.t 39))), zp (zm 41 5), zp (zv 42 (.iad 3 (.t 40) (.t 41))), zp (zv 43 (.ld true 3 (.t 42))), (zi 44 (.call (.c (.fn 39 [] [])) [((.t 38), (.agg [.id, .id, (.sl 3)])), ((.t 43), (.agg [.id, .id, (.sl 3)]))]), []), zp (zv 45 (.un .not (.t 44)))]
def q9q : IC := zr [zv 4 zf]
def qbfe : IC := zr [zm 32 5, zv 33 (.bin .add .no (.t 32) (zc 1)), zm 5 33]
def qbef : IC := (.seq (.seq q85 (.cond (.t 31) .skip (.exit 0))) (.seq (.block 1 (.seq qbar (.cond (.t 45) (.seq q9q .ret) .skip))) qbfe))
def qzu : IC := zr [zv 4 (.mov (.c (.bool true)))]
def k0z : IC := (.seq qbe5 (.seq (.seq qbfi (.cond (.t 26) (.seq qba8 .ret) .skip)) (.seq (.seq q8o (.block 0 (.loop qbef))) (.seq qzu .ret))))
@[go_sem] def s0z : List (RV × Co) := [(.t 4, .id)]
theorem c0z : cFun Try.prog 39 = some (46, k0z, s0z) := by kernel_rfl

def qba9 : IC := zr [zi 1 (.box (.t 0)), zv 2 zf]
def q80 : IC := zr [zi 3 (.alo [(.int .i64 0)]), zn (.st 1 .id (.t 3) (zc 0))]
def qbdo : IC := zr [zv 4 (.ld true 3 (.t 1)), zv 5 (.mfn 87 [] [(.t 3)]), zi 6 (.call (.c (.fn 86 [] [])) [((.t 4), (.agg [.id, .id, (.sl 3)])), ((zc 1), .id), ((.t 5), .id)]), zm 2 6]
def k0h : IC := (.seq qba9 (.seq q80 (.seq qbdo .ret)))
@[go_sem] def s0h : List (RV × Co) := [(.t 2, .id)]
theorem c0h : cFun Try.prog 48 = some (7, k0h, s0h) := by kernel_rfl

def qbd3 : IC := zr [zi 1 (.box (.t 0)), zv 2 (.mov (.c .nils))]
def qbb7 : IC := zr [zv 3 (.ld true 3 (.t 1)), zi 4 (.call (.c (.fn 97 [] [])) [((.t 3), (.agg [.id, .id, (.sl 3)]))]), zi 5 (.call (.c (.fn 67 [] [])) [((.t 4), (.sl 1))]), zm 2 5]
def k0u : IC := (.seq qbd3 (.seq qbb7 .ret))
@[go_sem] def s0u : List (RV × Co) := [(.t 2, (.sl 1))]
theorem c0u : cFun Try.prog 60 = some (6, k0u, s0u) := by kernel_rfl

def q2k : IC := zr [zi 1 (.box (.t 0)), zv 2 zf]
def q7u : IC := zr [zv 3 (.fad (.t 1) 1), zv 4 (.fad (.t 3) 0), zv 5 (.ld false 1 (.t 4)), zv 6 (.bin .eql .no (.t 5) (.c (.str []))), zm 2 6]
def k0ch : IC := (.seq q2k (.seq q7u .ret))
@[go_sem] def s0ch : List (RV × Co) := [(.t 2, .id)]
theorem c0ch : cFun Try.prog 61 = some (7, k0ch, s0ch) := by kernel_rfl

def q6e : IC := zr [zi 2 (.box (.t 0)), zi 3 (.box (.t 1)), zv 4 zf]
def q2i : IC := zr [zv 5 (.fad (.t 2) 0), zv 6 (.ld false 1 (.t 5)), zv 7 (.fad (.t 3) 0), zv 8 (.ld false 1 (.t 7)), zv 9 (.bin .eql .no (.t 6) (.t 8)), zm 10 9, zw 10 true 11 (.fad (.t 2) 1), zw 10 true 12 (.ld true 3 (.t 11)), zw 10 true 13 (.fad (.t 3) 1), zw 10 true 14 (.ld true 3 (.t 13)), ⟨some (10, true), some 15, .call (.c (.fn 39 [] [])) [((.t 12), (.agg [.id, .id, (.sl 3)])), ((.t 14), (.agg [.id, .id, (.sl 3)]))]⟩, zv 16 (.pick (.t 10) (.t 15) (.c (.bool false))), zm 4 16]
def k0cn : IC := (.seq q6e (.seq q2i .ret))
@[go_sem] def s0cn : List (RV × Co) := [(.t 4, .id)]
theorem c0cn : cFun Try.prog 62 = some (17, k0cn, s0cn) := by kernel_rfl

def q4c : IC := zr [zv 4 zf]
def q55 : IC := zr [zm 5 0, zm 6 1, zi 7 (.call (.c (.fn 98 [] [])) [((.t 5), (.sl 4)), ((.t 6), .id)]), zv 8 (.bin .geq .no (.t 7) (zc 0)), zm 4 8]
def k0cq : IC := (.seq q4c (.seq q55 .ret))
@[go_sem] def s0cq : List (RV × Co) := [(.t 4, .id)]
theorem c0cq : cFun Try.prog 63 = some (9, k0cq, s0cq) := by kernel_rfl

def q06 : IC := zr [zi 2 (.box (.t 0)), zv 3 zf]
def q26 : IC := zr [zv 4 (.ld true 4 (.t 1)), zv 5 (.ld true 4 (.t 2)), zi 6 (.call (.c (.fn 29 [] [])) [((.t 4), (.agg [.id, .id, .id, (.sl 3)])), ((.t 5), (.agg [.id, .id, .id, (.sl 3)]))]), zm 3 6]
def k0co : IC := (.seq q06 (.seq q26 .ret))
@[go_sem] def s0co : List (RV × Co) := [(.t 3, .id)]
theorem c0co : cFun Try.prog 64 = some (7, k0co, s0co) := by kernel_rfl

def q9l : IC := zr [zi 1 (.box (.t 0)), zv 2 (.mov (.c .nils))]
def q86 : IC := zr [zi 3 (.alo [.nils])]
def qbdx : IC := zr [zv 4 (.ld true 3 (.t 1)), zv 5 (.mfn 99 [] [(.t 3)]), zi 6 (.call (.c (.fn 86 [] [])) [((.t 4), (.agg [.id, .id, (.sl 3)])), ((zc 1), .id), ((.t 5), .id)])]
def q9z : IC := zr [zv 7 (.ld false 1 (.t 3)), zm 2 7]
def k0w : IC := (.seq q9l (.seq q86 (.seq qbdx (.seq q9z .ret))))
@[go_sem] def s0w : List (RV × Co) := [(.t 2, (.sl 1))]
theorem c0w : cFun Try.prog 65 = some (8, k0w, s0w) := by kernel_rfl

def q93 : IC := zr [zv 4 zf]
def qbc3 : IC := zr [zm 5 0, zm 6 1, zi 7 (.call (.c (.fn 100 [] [])) [((.t 5), (.sl 1)), ((.t 6), .id)]), zv 8 (.bin .geq .no (.t 7) (zc 0)), zm 4 8]
def k0p : IC := (.seq q93 (.seq qbc3 .ret))
@[go_sem] def s0p : List (RV × Co) := [(.t 4, .id)]
theorem c0p : cFun Try.prog 66 = some (9, k0p, s0p) := by kernel_rfl

def qbcj : IC := zr [zv 2 (.mov (.c .nils))]
def qbb4 : IC := zr [zv 3 (.mov (.c .nils))]
def q9u : IC := zr [zv 4 (.mov (zc 0))]
def qbbj : IC := zr [zm 5 4, zm 6 0, zv 7 (.len false (.t 6)), zv 8 (.bin .lss .no (.t 5) (.t 7))]
def q8k : IC := zr [zm 11 3, zm 12 0, zm 13 4, zv 14 (.iad 1 (.t 12) (.t 13)), zv 15 (.ld false 1 (.t 14)), zi 16 (.call (.c (.fn 84 [] [])) [((.t 11), (.sl 1)), ((.t 15), .id)]), zv 17 (.un .not (.t 16))]
def q89 : IC := zr [zm 18 3, zm 19 0, zm 20 4, zv 21 (.iad 1 (.t 19) (.t 20)), zv 22 (.ld false 1 (.t 21)), zv 23 (.bsl 1 [((.t 22), .id)]), zi 24 (.app 1 (.int .i64 0) 8 (.sl 1) (.t 18) (.t 23)), zm 3 24]
def q8i : IC := zr [zm 9 4, zv 10 (.bin .add .no (.t 9) (zc 1)), zm 4 10]
def qbbt : IC := (.seq (.seq qbbj (.cond (.t 8) .skip (.exit 0))) (.seq (.block 1 (.seq q8k (.cond (.t 17) q89 .skip))) q8i))
def qbbs : IC := zr [zm 25 3, zm 2 25]
def k0s : IC := (.seq qbcj (.seq qbb4 (.seq (.seq q9u (.block 0 (.loop qbbt))) (.seq qbbs .ret))))
@[go_sem] def s0s : List (RV × Co) := [(.t 2, (.sl 1))]
theorem c0s : cFun Try.prog 67 = some (26, k0s, s0s) := by kernel_rfl

def q3k : IC := zr [zi 1 (.box (.t 0)), zv 2 (.mov (.c (.str [])))]
def q8e : IC := zr [zv 4 (.fad (.t 1) 1), zv 5 (.ld true 3 (.t 4)), zi 6 (.call (.c (.fn 75 [] [])) [((.t 5), (.agg [.id, .id, (.sl 3)]))]), zm 3 6]
def q70 : IC := zr [zv 7 (.fad (.t 1) 1), zv 8 (.fad (.t 7) 2), zv 9 (.ld false 1 (.t 8)), zv 10 (.len false (.t 9)), zv 11 (.bin .gtr .no (.t 10) (zc 0))]
def q0n : IC := zr [zm 12 3, zv 13 (.bin .add .no (.c (.str [40])) (.t 12)), zv 14 (.bin .add .no (.t 13) (.c (.str [41]))), zm 3 14]
def q3z : IC := zr [zv 15 (.fad (.t 1) 0), zv 16 (.ld false 1 (.t 15)), zv 17 (.bin .add .no (.t 16) (.c (.str [32]))), zm 18 3, zv 19 (.bin .add .no (.t 17) (.t 18)), zm 2 19]
def k0by : IC := (.seq q3k (.seq q8e (.seq (.seq q70 (.cond (.t 11) q0n .skip)) (.seq q3z .ret))))
@[go_sem] def s0by : List (RV × Co) := [(.t 2, .id)]
theorem c0by : cFun Try.prog 68 = some (20, k0by, s0by) := by kernel_rfl

def q0j : IC := zr [zv 2 zf]
def q37 : IC := zr [zv 3 (.mov (zc 0))]
def q60 : IC := zr [zm 4 3, zm 5 0, zv 6 (.len false (.t 5)), zv 7 (.bin .lss .no (.t 4) (.t 6))]
def q0c : IC := zr [zm 10 0, zm 11 3, zv 12 (.iad 4 (.t 10) (.t 11)), zv 13 (.ld true 4 (.t 12)), zi 14 (.call (.c (.fn 104 [] [])) [((.t 13), (.agg [.id, .id, .id, (.sl 3)]))]), zv 15 (.un .not (.t 14))]
def q5v : IC := zr [zv 2 zf]
def q2z : IC := zr [zm 8 3, zv 9 (.bin .add .no (.t 8) (zc 1)), zm 3 9]
def q1p : IC := (.seq (.seq q60 (.cond (.t 7) .skip (.exit 0))) (.seq (.block 1 (.seq q0c (.cond (.t 15) (.seq q5v .ret) .skip))) q2z))
def q4s : IC := zr [zv 2 (.mov (.c (.bool true)))]
def k0ck : IC := (.seq q0j (.seq (.seq q37 (.block 0 (.loop q1p))) (.seq q4s .ret)))
@[go_sem] def s0ck : List (RV × Co) := [(.t 2, .id)]
theorem c0ck : cFun Try.prog 70 = some (16, k0ck, s0ck) := by kernel_rfl

def qbes : IC := zr [zi 1 (.box (.t 0)), zv 2 (.mov (.c (.str [])))]
def qbcf : IC := zr [zv 3 (.fad (.t 1) 2), zv 4 (.ld false 1 (.t 3)), zv 5 (.len false (.t 4)), zv 6 (.bin .gtr .no (.t 5) (zc 0))]
def qbcs : IC := zr [zv 7 (.ld true 3 (.t 1)), zi 8 (.call (.c (.fn 105 [] [])) [((.t 7), (.agg [.id, .id, (.sl 3)]))]), zv 9 (.bin .add .no (.c (.str [40])) (.t 8)), zv 10 (.bin .add .no (.t 9) (.c (.str [41]))), zm 2 10]
def qbcb : IC := zr [zv 11 (.ld true 3 (.t 1)), zi 12 (.call (.c (.fn 105 [] [])) [((.t 11), (.agg [.id, .id, (.sl 3)]))]), zm 2 12]
def k0e : IC := (.seq qbes (.seq (.seq qbcf (.cond (.t 6) (.seq qbcs .ret) .skip)) (.seq qbcb .ret)))
@[go_sem] def s0e : List (RV × Co) := [(.t 2, .id)]
theorem c0e : cFun Try.prog 71 = some (13, k0e, s0e) := by kernel_rfl

def q5c : IC := zr [zv 2 zf]
def qzi : IC := zr [zm 3 0, zv 4 (.bin .neq .no (.t 3) (.c (.str []))), zm 5 4, zw 5 true 6 (.mov (.t 0)), zw 5 true 7 (.idx (.t 6) (zc 0)), ⟨some (5, true), some 8, .call (.c (.fn 106 [] [])) [((.t 7), .id)]⟩, zv 9 (.pick (.t 5) (.t 8) (.c (.bool false))), zm 10 9, zw 10 true 11 (.mov (.t 0)), ⟨some (10, true), some 12, .call (.c (.fn 107 [] [])) [((.t 11), .id)]⟩, zv 13 (.pick (.t 10) (.t 12) (.c (.bool false))), zm 2 13]
def k0bq : IC := (.seq q5c (.seq qzi .ret))
@[go_sem] def s0bq : List (RV × Co) := [(.t 2, .id)]
theorem c0bq : cFun Try.prog 72 = some (14, k0bq, s0bq) := by kernel_rfl

def q1a : IC := zr [zv 2 (.mov (zc 0))]
def qz1 : IC := zr [zv 3 (.mov (zc 0))]
def qzn : IC := zr [zm 6 0, zv 7 (.len false (.t 6)), zv 8 (.mov (zc 0))]
def q4b : IC := zr [zv 9 (.bin .lss .no (.t 8) (.t 7))]
def q3n : IC := zr [zv 10 (.iad 1 (.t 6) (.t 8)), zv 11 (.ld false 1 (.t 10)), zm 5 11]
def q52 : IC := zr [zm 12 5, zm 13 3, zv 14 (.bin .neq .no (.t 12) (.t 13))]
def q2v : IC := zr [zm 15 5, zm 2 15]
def q4n : IC := zr [zv 16 (.bin .add .no (.t 8) (zc 1)), zm 8 16]
def q0m : IC := (.seq q4b (.seq (.cond (.t 9) .skip (.exit 0)) (.seq (.block 1 (.seq q3n (.seq q52 (.cond (.t 14) (.seq q2v .ret) .skip)))) q4n)))
def qtu : IC := zr [zm 17 3, zm 2 17]
def k0cc : IC := (.seq q1a (.seq qz1 (.seq (.seq qzn (.block 0 (.loop q0m))) (.seq qtu .ret))))
@[go_sem] def s0cc : List (RV × Co) := [(.t 2, .id)]
theorem c0cc : cFun Try.prog 73 = some (18, k0cc, s0cc) := by kernel_rfl

def q8a : IC := zr [zv 4 (.mov (zc 0))]
def q08 : IC := zr [zm 7 0, zi 8 (.call (.c (.fn 108 [] [])) [((.t 7), .id)]), zm 5 8]
def q75 : IC := zr [zm 9 1, zi 10 (.call (.c (.fn 108 [] [])) [((.t 9), .id)]), zm 6 10]
def qzp : IC := zr [zm 11 5]
def q2g : IC := zr [zm 12 6]
def q7i : IC := zr [zv 4 (.mov (zc 0))]
def q2f : IC := zr [zv 4 (.mov (zc (-1)))]
def q3c : IC := zr [zm 13 6]
def q4r : IC := zr [zv 4 (.mov (zc 1))]
def q5q : IC := zr [zm 14 0, zm 15 1, zv 16 (.bin .lss .no (.t 14) (.t 15))]
def qvd : IC := zr [zv 4 (.mov (zc (-1)))]
def que : IC := zr [zm 17 0, zm 18 1, zv 19 (.bin .gtr .no (.t 17) (.t 18))]
def qwv : IC := zr [zv 4 (.mov (zc 1))]
def qxg : IC := zr [zv 4 (.mov (zc 0))]
def k0cb : IC := (.seq q8a (.seq q08 (.seq q75 (.seq (.seq qzp (.cond (.t 11) (.seq (.seq q2g (.cond (.t 12) (.seq q7i .ret) .skip)) (.seq q2f .ret)) .skip)) (.seq (.seq q3c (.cond (.t 13) (.seq q4r .ret) .skip)) (.seq (.seq q5q (.cond (.t 16) (.seq qvd .ret) .skip)) (.seq (.seq que (.cond (.t 19) (.seq qwv .ret) .skip)) (.seq qxg .ret))))))))
@[go_sem] def s0cb : List (RV × Co) := [(.t 4, .id)]
theorem c0cb : cFun Try.prog 74 = some (20, k0cb, s0cb) := by kernel_rfl

def qbbx : IC := zr [zi 1 (.box (.t 0)), zv 2 (.mov (.c (.str [])))]
def q9g : IC := zr [zv 3 (.ld true 3 (.t 1)), zi 4 (.call (.c (.fn 48 [] [])) [((.t 3), (.agg [.id, .id, (.sl 3)]))]), zv 5 (.un .not (.t 4))]
def q82 : IC := zr [zv 2 (.mov (.c (.str [])))]
def qbd4 : IC := zr [zv 6 (.ld true 3 (.t 1)), zi 7 (.call (.c (.fn 109 [] [])) [((.t 6), (.agg [.id, .id, (.sl 3)]))]), zm 2 7]
def k0d : IC := (.seq qbbx (.seq (.seq q9g (.cond (.t 5) (.seq q82 .ret) .skip)) (.seq qbd4 .ret)))
@[go_sem] def s0d : List (RV × Co) := [(.t 2, .id)]
theorem c0d : cFun Try.prog 75 = some (8, k0d, s0d) := by kernel_rfl

def qba0 : IC := zr [zi 2 (.box (.t 0)), zi 3 (.box (.t 1)), zv 4 zf]
def q91 : IC := .drw [zp (zv 6 (.ld true 3 (.t 2))), (zi 7 (.call (.c (.fn 88 [] [])) [((.t 6), (.agg [.id, .id, (.sl 3)]))]), []), (zv 8 (.ld true 3 (.t 3)), [1]), (zi 9 (.call (.c (.fn 88 [] [])) [((.t 8), (.agg [.id, .id, (.sl 3)]))]), []), (zv 10 (.bin .neq (.cells [.str, (.int .i64), (.int .i64)]) (.t 7) (.t 9)), [])]
def q94 : IC := zr [zv 4 zf]
def qbeb : IC := zr [zv 11 (.fad (.t 2) 2), zv 12 (.ld false 1 (.t 11)), zv 13 (.len false (.t 12)), zv 14 (.mov (zc 0))]
def qbda : IC := zr [zv 15 (.bin .lss .no (.t 14) (.t 13))]
def qbbd : IC := zr [zm 16 14, zm 5 16]
def q9m : IC := .drw [zp (zv 17 (.fad (.t 2) 2)), zp (zv 18 (.ld false 1 (.t 17))), zp (zm 19 5), zp (zv 20 (.iad 3 (.t 18) (.t 19))), zp (zv 21 (.ld true 3 (.t 20))), zp (zv 22 (.fad (.t 3) 2)), zp (zv 23 (.ld false 1 (.t 22))), zp (zm 24 5), zp (zv 25 (.iad 3 (.t 23) (.t 24))), zp (zv 26 (.ld true 3 (.t 25))), (zi 27 (.call (.c (.fn 76 [] [])) [((.t 21), (.agg [.id, .id, (.sl 3)])), ((.t 26), (.agg [.id, .id, (.sl 3)]))]), []), zp (zv 28 (.un .not (.t 27)))]
def q9h : IC := zr [zv 4 zf]
def q8l : IC := zr [zv 29 (.bin .add .no (.t 14) (zc 1)), zm 14 29]
def qbds : IC := (.seq qbda (.seq (.cond (.t 15) .skip (.exit 0)) (.seq (.block 1 (.seq qbbd (.seq q9m (.cond (.t 28) (.seq q9h .ret) .skip)))) q8l)))
def q2e : IC := zr [zv 4 (.mov (.c (.bool true)))]
def k0y : IC := (.seq qba0 (.seq (.seq q91 (.cond (.t 10) (.seq q94 .ret) .skip)) (.seq (.seq qbeb (.block 0 (.loop qbds))) (.seq q2e .ret))))
@[go_sem] def s0y : List (RV × Co) := [(.t 4, .id)]
theorem c0y : cFun Try.prog 76 = some (30, k0y, s0y) := by kernel_rfl

def qbfc : IC := zr [zi 3 (.box (.t 0)), zv 6 (.mov (zc 0))]
def qbdu : IC := zr [zm 8 1, zv 9 (.bin .sub .no (.t 8) (zc 1)), zm 1 9]
def qbcp : IC := zr [zm 10 2, zv 11 (.bin .lss .no (.t 10) (zc 1))]
def q97 : IC := zr [zv 6 (.mov (zc (-1)))]
def qbat : IC := zr [zv 7 (.mov (zc 0))]
def q8y : IC := zr [zm 12 7, zv 13 (.fad (.t 3) 2), zv 14 (.ld false 1 (.t 13)), zv 15 (.len false (.t 14)), zv 16 (.bin .lss .no (.t 12) (.t 15)), zm 17 16, zw 17 true 18 (.mov (.t 1)), zw 17 true 19 (.bin .geq .no (.t 18) (zc 0)), zv 20 (.pick (.t 17) (.t 19) (.c (.bool false)))]
def q8m : IC := zr [zv 23 (.fad (.t 3) 2), zv 24 (.ld false 1 (.t 23)), zm 25 7, zv 26 (.iad 3 (.t 24) (.t 25)), zv 27 (.ld true 3 (.t 26)), zm 28 1, zm 29 2, zv 30 (.bin .sub .no (.t 29) (zc 1)), zi 31 (.call (.c (.fn 77 [] [])) [((.t 27), (.agg [.id, .id, (.sl 3)])), ((.t 28), .id), ((.t 30), .id)]), zm 1 31]
def qbc4 : IC := zr [zm 21 7, zv 22 (.bin .add .no (.t 21) (zc 1)), zm 7 22]
def qbep : IC := (.seq (.seq q8y (.cond (.t 20) .skip (.exit 0))) (.seq (.block 1 q8m) qbc4))
def q7j : IC := zr [zm 32 1, zm 6 32]
def k0l : IC := (.seq qbfc (.seq qbdu (.seq (.seq qbcp (.cond (.t 11) (.seq q97 .ret) .skip)) (.seq (.seq qbat (.block 0 (.loop qbep))) (.seq q7j .ret)))))
@[go_sem] def s0l : List (RV × Co) := [(.t 6, .id)]
theorem c0l : cFun Try.prog 77 = some (33, k0l, s0l) := by kernel_rfl

def qbbz : IC := zr [zi 1 (.box (.t 0)), zv 2 zf]
def q8t : IC := zr [zv 3 (.ld true 3 (.t 1)), zi 4 (.call (.c (.fn 112 [] [])) [((.t 3), (.agg [.id, .id, (.sl 3)]))]), zv 5 (.bin .leq .no (.t 4) (zc 4096)), zm 6 5, zw 6 true 7 (.ld true 3 (.t 1)), ⟨some (6, true), some 8, .call (.c (.fn 113 [] [])) [((.t 7), (.agg [.id, .id, (.sl 3)]))]⟩, zw 6 true 9 (.bin .leq .no (.t 8) (zc 100)), zv 10 (.pick (.t 6) (.t 9) (.c (.bool false))), zm 11 10, zw 11 true 12 (.ld true 3 (.t 1)), ⟨some (11, true), some 13, .call (.c (.fn 114 [] [])) [((.t 12), (.agg [.id, .id, (.sl 3)]))]⟩, zv 14 (.pick (.t 11) (.t 13) (.c (.bool false))), zm 2 14]
def k0n : IC := (.seq qbbz (.seq q8t .ret))
@[go_sem] def s0n : List (RV × Co) := [(.t 2, .id)]
theorem c0n : cFun Try.prog 79 = some (15, k0n, s0n) := by kernel_rfl

def qbbk : IC := zr [zv 4 zf]
def qbeo : IC := zr [zv 5 (.mov (zc 0))]
def qbc2 : IC := zr [zm 6 5, zm 7 0, zv 8 (.len false (.t 7)), zv 9 (.bin .lss .no (.t 6) (.t 8))]
def qbbu : IC := zr [zm 12 0, zm 13 5, zv 14 (.iad 1 (.t 12) (.t 13)), zv 15 (.ld false 1 (.t 14)), zm 16 1, zv 17 (.bin .eql .no (.t 15) (.t 16))]
def qbd7 : IC := zr [zv 4 (.mov (.c (.bool true)))]
def q9e : IC := zr [zm 10 5, zv 11 (.bin .add .no (.t 10) (zc 1)), zm 5 11]
def qban : IC := (.seq (.seq qbc2 (.cond (.t 9) .skip (.exit 0))) (.seq (.block 1 (.seq qbbu (.cond (.t 17) (.seq qbd7 .ret) .skip))) q9e))
def qbak : IC := zr [zv 4 zf]
def k0q : IC := (.seq qbbk (.seq (.seq qbeo (.block 0 (.loop qban))) (.seq qbak .ret)))
@[go_sem] def s0q : List (RV × Co) := [(.t 4, .id)]
theorem c0q : cFun Try.prog 84 = some (18, k0q, s0q) := by kernel_rfl

def q4q : IC := zr [zi 3 (.box (.t 0)), zv 6 zf]
def q7w : IC := zr [zm 9 2, zv 10 (.ld true 3 (.t 3)), zm 11 1, zi 12 (.call (.t 9) [((.t 10), (.agg [.id, .id, (.sl 3)])), ((.t 11), .id)]), zv 13 (.un .not (.t 12))]
def q21 : IC := zr [zv 6 zf]
def q0t : IC := zr [zv 14 (.fad (.t 3) 2), zv 15 (.ld false 1 (.t 14)), zv 16 (.len false (.t 15)), zv 17 (.mov (zc 0))]
def q2p : IC := zr [zv 18 (.bin .lss .no (.t 17) (.t 16))]
def q6x : IC := zr [zv 19 (.iad 3 (.t 15) (.t 17)), zv 20 (.ld true 3 (.t 19)), zi 8 (.alo [(.str []), (.int .i64 0), .nils]), zn (.st 3 (.agg [.id, .id, (.sl 3)]) (.t 8) (.t 20))]
def q5n : IC := zr [zv 21 (.ld true 3 (.t 8)), zm 22 1, zv 23 (.bin .add .no (.t 22) (zc 1)), zm 24 2, zi 25 (.call (.c (.fn 86 [] [])) [((.t 21), (.agg [.id, .id, (.sl 3)])), ((.t 23), .id), ((.t 24), .id)]), zv 26 (.un .not (.t 25))]
def q5p : IC := zr [zv 6 zf]
def qzj : IC := zr [zv 27 (.bin .add .no (.t 17) (zc 1)), zm 17 27]
def qzf : IC := (.seq q2p (.seq (.cond (.t 18) .skip (.exit 0)) (.seq (.block 1 (.seq q6x (.seq q5n (.cond (.t 26) (.seq q5p .ret) .skip)))) qzj)))
def qvm : IC := zr [zv 6 (.mov (.c (.bool true)))]
def k0bd : IC := (.seq q4q (.seq (.seq q7w (.cond (.t 13) (.seq q21 .ret) .skip)) (.seq (.seq q0t (.block 0 (.loop qzf))) (.seq qvm .ret))))
@[go_sem] def s0bd : List (RV × Co) := [(.t 6, .id)]
theorem c0bd : cFun Try.prog 86 = some (28, k0bd, s0bd) := by kernel_rfl

def q9i : IC := zr [zi 3 (.box (.t 0)), zv 5 zf]
def qba1 : IC := zr [zv 6 (.ld false 1 (.t 2)), zv 7 (.bin .add .no (.t 6) (zc 1)), zn (.st 1 .id (.t 2) (.t 7))]
def qbd0 : IC := zr [zv 8 (.ld false 1 (.t 2)), zv 9 (.bin .leq .no (.t 8) (zc 4096)), zm 10 9, zw 10 true 11 (.mov (.t 1)), zw 10 true 12 (.bin .leq .no (.t 11) (zc 100)), zv 13 (.pick (.t 10) (.t 12) (.c (.bool false))), zm 14 13, zw 14 true 15 (.ld true 3 (.t 3)), ⟨some (14, true), some 16, .call (.c (.fn 88 [] [])) [((.t 15), (.agg [.id, .id, (.sl 3)]))]⟩, ⟨some (14, true), some 17, .call (.c (.fn 89 [] [])) [((.t 16), .id)]⟩, zv 18 (.pick (.t 14) (.t 17) (.c (.bool false))), zm 5 18]
def k0g : IC := (.seq q9i (.seq qba1 (.seq qbd0 .ret)))
@[go_sem] def s0g : List (RV × Co) := [(.t 5, .id)]
theorem c0g : cFun Try.prog 87 = some (19, k0g, s0g) := by kernel_rfl

def q8u : IC := zr [zi 1 (.box (.t 0)), zi 2 (.alo [(.str []), (.int .i64 0), (.int .i64 0)])]
def qbct : IC := zr [zv 3 (.fad (.t 1) 0), zv 4 (.ld false 1 (.t 3)), zv 5 (.fad (.t 1) 1), zv 6 (.ld false 1 (.t 5)), zv 7 (.fad (.t 1) 2), zv 8 (.ld false 1 (.t 7)), zv 9 (.len false (.t 8)), zv 10 (.bld [(.str []), (.int .i64 0), (.int .i64 0)] [(0, 1, (.t 4)), (1, 1, (.t 6)), (2, 1, (.t 9))]), zn (.st 3 .id (.t 2) (.t 10))]
def k0x : IC := (.seq q8u (.seq qbct .ret))
@[go_sem] def s0x : List (RV × Co) := [(.c true 3 2, .id)]
theorem c0x : cFun Try.prog 88 = some (11, k0x, s0x) := by kernel_rfl

def qzw : IC := zr [zi 1 (.box (.t 0)), zv 2 zf]
def q1e : IC := zr [zv 4 (.fad (.t 1) 0), zv 5 (.ld false 1 (.t 4)), zv 6 (.bin .eql .no (.t 5) (.c (.str []))), zm 3 6]
def qyp : IC := zr [zv 7 (.fad (.t 1) 2), zv 8 (.ld false 1 (.t 7)), zv 9 (.bin .eql .no (.t 8) (zc 0)), zm 2 9]
def q54 : IC := zr [zv 11 (.fad (.t 1) 0), zv 12 (.ld false 1 (.t 11)), zv 13 (.bin .eql .no (.t 12) (.c (.str [45, 62]))), zm 10 13]
def qyc : IC := zr [zv 14 (.ld true 3 (.t 1)), zv 15 (.bld [(.str []), (.int .i64 0), (.int .i64 0)] [(0, 1, (.c (.str [45, 62]))), (1, 1, (zc 0)), (2, 1, (zc 2))]), zv 16 (.bin .eql (.cells [.str, (.int .i64), (.int .i64)]) (.t 14) (.t 15)), zm 2 16]
def qz7 : IC := zr [zv 18 (.fad (.t 1) 0), zv 19 (.ld false 1 (.t 18)), zi 20 (.call (.c (.fn 119 [] [])) [((.t 19), .id)]), zm 17 20]
def q01 : IC := zr [zv 21 (.ld true 3 (.t 1)), zv 22 (.fad (.t 1) 0), zv 23 (.ld false 1 (.t 22)), zv 24 (.bld [(.str []), (.int .i64 0), (.int .i64 0)] [(0, 1, (.t 23))]), zv 25 (.bin .eql (.cells [.str, (.int .i64), (.int .i64)]) (.t 21) (.t 24)), zm 2 25]
def q2s : IC := zr [zv 26 (.fad (.t 1) 1), zv 27 (.ld false 1 (.t 26)), zv 28 (.bin .eql .no (.t 27) (zc 0)), zm 29 28, zw 29 true 30 (.fad (.t 1) 0), zw 29 true 31 (.ld false 1 (.t 30)), ⟨some (29, true), some 32, .call (.c (.fn 72 [] [])) [((.t 31), .id)]⟩, zv 33 (.pick (.t 29) (.t 32) (.c (.bool false))), zm 2 33]
def k0bc : IC := (.seq qzw (.seq (.block 0 (.seq q1e (.cond (.t 3) (.seq qyp .ret) (.seq q54 (.cond (.t 10) (.seq qyc .ret) (.seq qz7 (.cond (.t 17) (.seq q01 .ret) .skip))))))) (.seq q2s .ret)))
@[go_sem] def s0bc : List (RV × Co) := [(.t 2, .id)]
theorem c0bc : cFun Try.prog 89 = some (34, k0bc, s0bc) := by kernel_rfl

def qbd5 : IC := zr [zi 1 (.box (.t 0)), zv 2 (.mov (.c .nils))]
def qbb5 : IC := zr [zv 3 (.mov (.c .nils))]
def qbb3 : IC := zr [zv 5 (.fad (.t 1) 0), zv 6 (.ld false 1 (.t 5)), zv 7 (.bin .eql .no (.t 6) (.c (.str [])))]
def qbdy : IC := zr [zv 8 (.fad (.t 1) 1), zv 9 (.ld false 1 (.t 8)), zv 10 (.bsl 1 [((.t 9), .id)]), zm 3 10]
def q88 : IC := zr [zv 4 (.mov (zc 0))]
def qbae : IC := zr [zm 11 4, zv 12 (.fad (.t 1) 2), zv 13 (.ld false 1 (.t 12)), zv 14 (.len false (.t 13)), zv 15 (.bin .lss .no (.t 11) (.t 14))]
def qbbi : IC := zr [zm 18 3, zv 19 (.fad (.t 1) 2), zv 20 (.ld false 1 (.t 19)), zm 21 4, zv 22 (.iad 3 (.t 20) (.t 21)), zv 23 (.ld true 3 (.t 22)), zi 24 (.call (.c (.fn 97 [] [])) [((.t 23), (.agg [.id, .id, (.sl 3)]))]), zi 25 (.app 1 (.int .i64 0) 8 (.sl 1) (.t 18) (.t 24)), zm 3 25]
def q9x : IC := zr [zm 16 4, zv 17 (.bin .add .no (.t 16) (zc 1)), zm 4 17]
def qbd2 : IC := (.seq (.seq qbae (.cond (.t 15) .skip (.exit 0))) (.seq (.block 1 qbbi) q9x))
def q3j : IC := zr [zm 26 3, zm 2 26]
def k0t : IC := (.seq qbd5 (.seq qbb5 (.seq (.seq qbb3 (.cond (.t 7) qbdy .skip)) (.seq (.seq q88 (.block 0 (.loop qbd2))) (.seq q3j .ret)))))
@[go_sem] def s0t : List (RV × Co) := [(.t 2, (.sl 1))]
theorem c0t : cFun Try.prog 97 = some (27, k0t, s0t) := by kernel_rfl

def q66 : IC := zr [zv 4 (.mov (zc 0))]
def qze : IC := zr [zm 6 0, zv 7 (.len false (.t 6)), zv 8 (.mov (zc 0))]
def q13 : IC := zr [zv 9 (.bin .lss .no (.t 8) (.t 7))]
def q5s : IC := zr [zm 10 8, zm 5 10]
def q53 : IC := zr [zm 11 1, zm 12 0, zm 13 5, zv 14 (.iad 4 (.t 12) (.t 13)), zv 15 (.ld true 4 (.t 14)), zi 16 (.call (.t 11) [((.t 15), (.agg [.id, .id, .id, (.sl 3)]))])]
def q0u : IC := zr [zm 17 5, zm 4 17]
def q0y : IC := zr [zv 18 (.bin .add .no (.t 8) (zc 1)), zm 8 18]
def q33 : IC := (.seq q13 (.seq (.cond (.t 9) .skip (.exit 0)) (.seq (.block 1 (.seq q5s (.seq q53 (.cond (.t 16) (.seq q0u .ret) .skip)))) q0y)))
def q5g : IC := zr [zv 4 (.mov (zc (-1)))]
def k0cp : IC := (.seq q66 (.seq (.seq qze (.block 0 (.loop q33))) (.seq q5g .ret)))
@[go_sem] def s0cp : List (RV × Co) := [(.t 4, .id)]
theorem c0cp : cFun Try.prog 98 = some (19, k0cp, s0cp) := by kernel_rfl

def qbek : IC := zr [zi 3 (.box (.t 0)), zv 5 zf]
def qbcv : IC := zr [zv 6 (.fad (.t 3) 0), zv 7 (.ld false 1 (.t 6)), zv 8 (.bin .eql .no (.t 7) (.c (.str []))), zm 9 8, zw 9 true 10 (.ld false 1 (.t 2)), zw 9 true 11 (.fad (.t 3) 1), zw 9 true 12 (.ld false 1 (.t 11)), ⟨some (9, true), some 13, .call (.c (.fn 66 [] [])) [((.t 10), (.sl 1)), ((.t 12), .id)]⟩, zw 9 true 14 (.un .not (.t 13)), zv 15 (.pick (.t 9) (.t 14) (.c (.bool false)))]
def qbe2 : IC := zr [zv 16 (.ld false 1 (.t 2)), zv 17 (.fad (.t 3) 1), zv 18 (.ld false 1 (.t 17)), zv 19 (.bsl 1 [((.t 18), .id)]), zi 20 (.app 1 (.int .i64 0) 8 (.sl 1) (.t 16) (.t 19)), zn (.st 1 (.sl 1) (.t 2) (.t 20))]
def qbc7 : IC := zr [zv 5 (.mov (.c (.bool true)))]
def k0v : IC := (.seq qbek (.seq (.seq qbcv (.cond (.t 15) qbe2 .skip)) (.seq qbc7 .ret)))
@[go_sem] def s0v : List (RV × Co) := [(.t 5, .id)]
theorem c0v : cFun Try.prog 99 = some (21, k0v, s0v) := by kernel_rfl

def qbbq : IC := zr [zv 4 (.mov (zc 0))]
def q96 : IC := zr [zm 6 0, zv 7 (.len false (.t 6)), zv 8 (.mov (zc 0))]
def qbbo : IC := zr [zv 9 (.bin .lss .no (.t 8) (.t 7))]
def qbea : IC := zr [zm 10 8, zm 5 10]
def qbba : IC := zr [zm 11 1, zm 12 0, zm 13 5, zv 14 (.iad 1 (.t 12) (.t 13)), zv 15 (.ld false 1 (.t 14)), zv 16 (.bin .eql .no (.t 11) (.t 15))]
def qbdq : IC := zr [zm 17 5, zm 4 17]
def qbe4 : IC := zr [zv 18 (.bin .add .no (.t 8) (zc 1)), zm 8 18]
def qbb2 : IC := (.seq qbbo (.seq (.cond (.t 9) .skip (.exit 0)) (.seq (.block 1 (.seq qbea (.seq qbba (.cond (.t 16) (.seq qbdq .ret) .skip)))) qbe4)))
def qbcr : IC := zr [zv 4 (.mov (zc (-1)))]
def k0o : IC := (.seq qbbq (.seq (.seq q96 (.block 0 (.loop qbb2))) (.seq qbcr .ret)))
@[go_sem] def s0o : List (RV × Co) := [(.t 4, .id)]
theorem c0o : cFun Try.prog 100 = some (19, k0o, s0o) := by kernel_rfl

def q29 : IC := zr [zi 1 (.box (.t 0)), zv 2 zf]
def qym : IC := zr [zv 3 (.fad (.t 1) 0), zv 4 (.ld false 1 (.t 3)), zi 5 (.call (.c (.fn 125 [] [])) [((.t 4), .id)]), zm 6 5, zw 6 true 7 (.fad (.t 1) 1), zw 6 true 8 (.ld true 3 (.t 7)), ⟨some (6, true), some 9, .call (.c (.fn 79 [] [])) [((.t 8), (.agg [.id, .id, (.sl 3)]))]⟩, zv 10 (.pick (.t 6) (.t 9) (.c (.bool false))), zm 2 10]
def k0cj : IC := (.seq q29 (.seq qym .ret))
@[go_sem] def s0cj : List (RV × Co) := [(.t 2, .id)]
theorem c0cj : cFun Try.prog 104 = some (11, k0cj, s0cj) := by kernel_rfl

def qbaz : IC := zr [zi 1 (.box (.t 0)), zv 2 (.mov (.c (.str [])))]
def qbal : IC := zr [zv 7 (.fad (.t 1) 0), zv 8 (.ld false 1 (.t 7)), zv 9 (.bin .eql .no (.t 8) (.c (.str []))), zm 10 9, zw 10 true 11 (.fad (.t 1) 1), zw 10 true 12 (.ld false 1 (.t 11)), zw 10 true 13 (.bin .geq .no (.t 12) (zc 0)), zv 14 (.pick (.t 10) (.t 13) (.c (.bool false))), zm 6 14]
def qbax : IC := zr [zv 15 (.fad (.t 1) 1), zv 16 (.ld false 1 (.t 15)), zi 17 (.call (.c (.fn 126 [] [])) [((.t 16), .id)]), zm 2 17]
def qbaf : IC := zr [zv 19 (.fad (.t 1) 0), zv 20 (.ld false 1 (.t 19)), zv 21 (.bin .eql .no (.t 20) (.c (.str []))), zm 18 21]
def qbe1 : IC := zr [zv 22 (.fad (.t 1) 1), zv 23 (.ld false 1 (.t 22)), zv 24 (.bin .sub .no (zc (-1)) (.t 23)), zi 25 (.call (.c (.fn 127 [] [])) [((.t 24), .id)]), zv 26 (.bin .add .no (.c (.str [63])) (.t 25)), zm 2 26]
def qbeq : IC := zr [zv 28 (.fad (.t 1) 0), zv 29 (.ld false 1 (.t 28)), zv 30 (.bin .eql .no (.t 29) (.c (.str [45, 62]))), zm 27 30]
def qbao : IC := zr [zv 31 (.fad (.t 1) 2), zv 32 (.ld false 1 (.t 31)), zv 33 (.iad 3 (.t 32) (zc 0)), zv 34 (.ld true 3 (.t 33)), zi 35 (.call (.c (.fn 105 [] [])) [((.t 34), (.agg [.id, .id, (.sl 3)]))]), zm 3 35]
def qbc1 : IC := zr [zv 36 (.fad (.t 1) 2), zv 37 (.ld false 1 (.t 36)), zv 38 (.iad 3 (.t 37) (zc 0)), zv 39 (.fad (.t 38) 0), zv 40 (.ld false 1 (.t 39)), zv 41 (.bin .eql .no (.t 40) (.c (.str [45, 62])))]
def qbex : IC := zr [zm 42 3, zv 43 (.bin .add .no (.c (.str [40])) (.t 42)), zv 44 (.bin .add .no (.t 43) (.c (.str [41]))), zm 3 44]
def qbee : IC := zr [zm 45 3, zv 46 (.bin .add .no (.t 45) (.c (.str [32, 45, 62, 32]))), zv 47 (.fad (.t 1) 2), zv 48 (.ld false 1 (.t 47)), zv 49 (.iad 3 (.t 48) (zc 1)), zv 50 (.ld true 3 (.t 49)), zi 51 (.call (.c (.fn 105 [] [])) [((.t 50), (.agg [.id, .id, (.sl 3)]))]), zv 52 (.bin .add .no (.t 46) (.t 51)), zm 2 52]
def q7x : IC := zr [zv 53 (.fad (.t 1) 0), zv 54 (.ld false 1 (.t 53)), zm 4 54]
def q5y : IC := zr [zv 5 (.mov (zc 0))]
def q0z : IC := zr [zm 55 5, zv 56 (.fad (.t 1) 2), zv 57 (.ld false 1 (.t 56)), zv 58 (.len false (.t 57)), zv 59 (.bin .lss .no (.t 55) (.t 58))]
def q0s : IC := zr [zm 62 4, zv 63 (.fad (.t 1) 2), zv 64 (.ld false 1 (.t 63)), zm 65 5, zv 66 (.iad 3 (.t 64) (.t 65)), zv 67 (.ld true 3 (.t 66)), zi 68 (.call (.c (.fn 71 [] [])) [((.t 67), (.agg [.id, .id, (.sl 3)]))]), zv 69 (.bin .add .no (.c (.str [32])) (.t 68)), zv 70 (.bin .add .no (.t 62) (.t 69)), zm 4 70]
def q4l : IC := zr [zm 60 5, zv 61 (.bin .add .no (.t 60) (zc 1)), zm 5 61]
def q48 : IC := (.seq (.seq q0z (.cond (.t 59) .skip (.exit 1))) (.seq (.block 2 q0s) q4l))
def q6v : IC := zr [zm 71 4, zm 2 71]
def k0f : IC := (.seq qbaz (.seq (.block 0 (.seq qbal (.cond (.t 6) (.seq qbax .ret) (.seq qbaf (.cond (.t 18) (.seq qbe1 .ret) (.seq qbeq (.cond (.t 27) (.seq qbao (.seq (.seq qbc1 (.cond (.t 41) qbex .skip)) (.seq qbee .ret))) .skip))))))) (.seq q7x (.seq (.seq q5y (.block 1 (.loop q48))) (.seq q6v .ret)))))
@[go_sem] def s0f : List (RV × Co) := [(.t 2, .id)]
theorem c0f : cFun Try.prog 105 = some (72, k0f, s0f) := by kernel_rfl

def q22 : IC := zr [zv 2 zf]
def q7v : IC := zr [zm 3 0, zv 4 (.bin .geq .no (.t 3) (.c (.int .u8 65))), zm 5 4, zw 5 true 6 (.mov (.t 0)), zw 5 true 7 (.bin .leq .no (.t 6) (.c (.int .u8 90))), zv 8 (.pick (.t 5) (.t 7) (.c (.bool false))), zm 2 8]
def k0bk : IC := (.seq q22 (.seq q7v .ret))
@[go_sem] def s0bk : List (RV × Co) := [(.t 2, .id)]
theorem c0bk : cFun Try.prog 106 = some (9, k0bk, s0bk) := by kernel_rfl

def q1z : IC := zr [zv 2 zf]
def q0l : IC := zr [zm 5 0, zv 6 (.len true (.t 5)), zv 7 (.mov (zc 0))]
def qzc : IC := zr [zv 8 (.bin .lss .no (.t 7) (.t 6))]
def q47 : IC := zr [zm 9 7, zm 3 9]
def q4g : IC := zr [zm 10 0, zm 11 3, zv 12 (.idx (.t 10) (.t 11)), zm 4 12]
def q14 : IC := zr [zm 13 4, zi 14 (.call (.c (.fn 128 [] [])) [((.t 13), .id)]), zv 15 (.un .not (.t 14)), zm 16 15, zw 16 true 17 (.mov (.t 4)), ⟨some (16, true), some 18, .call (.c (.fn 106 [] [])) [((.t 17), .id)]⟩, zw 16 true 19 (.un .not (.t 18)), zv 20 (.pick (.t 16) (.t 19) (.c (.bool false))), zm 21 20, zw 21 true 22 (.mov (.t 4)), zw 21 true 23 (.bin .lss .no (.t 22) (.c (.int .u8 48))), zw 21 true 24 (.mov (.t 23)), zw 24 false 25 (.mov (.t 4)), zw 24 false 26 (.bin .gtr .no (.t 25) (.c (.int .u8 57))), zw 21 true 27 (.pick (.t 24) (.c (.bool true)) (.t 26)), zv 28 (.pick (.t 21) (.t 27) (.c (.bool false))), zm 29 28, zw 29 true 30 (.mov (.t 4)), zw 29 true 31 (.bin .neq .no (.t 30) (.c (.int .u8 39))), zv 32 (.pick (.t 29) (.t 31) (.c (.bool false)))]
def qzk : IC := zr [zv 2 zf]
def q4e : IC := zr [zv 33 (.bin .add .no (.t 7) (zc 1)), zm 7 33]
def q7a : IC := (.seq qzc (.seq (.cond (.t 8) .skip (.exit 0)) (.seq (.block 1 (.seq q47 (.seq q4g (.seq q14 (.cond (.t 32) (.seq qzk .ret) .skip))))) q4e)))
def quu : IC := zr [zv 2 (.mov (.c (.bool true)))]
def k0bo : IC := (.seq q1z (.seq (.seq q0l (.block 0 (.loop q7a))) (.seq quu .ret)))
@[go_sem] def s0bo : List (RV × Co) := [(.t 2, .id)]
theorem c0bo : cFun Try.prog 107 = some (34, k0bo, s0bo) := by kernel_rfl

def qzl : IC := zr [zv 2 zf]
def q4p : IC := zr [zm 3 0, zm 4 0, zv 5 (.bin .neq .no (.t 3) (.t 4)), zm 2 5]
def k0ca : IC := (.seq qzl (.seq q4p .ret))
@[go_sem] def s0ca : List (RV × Co) := [(.t 2, .id)]
theorem c0ca : cFun Try.prog 108 = some (6, k0ca, s0ca) := by kernel_rfl

def qbab : IC := zr [zi 1 (.box (.t 0)), zv 2 (.mov (.c (.str [])))]
def q8h : IC := zr [zv 6 (.fad (.t 1) 0), zv 7 (.ld false 1 (.t 6)), zv 8 (.bin .eql .no (.t 7) (.c (.str [45, 62])))]
def qbce : IC := .drw [zp (zv 9 (.fad (.t 1) 2)), zp (zv 10 (.ld false 1 (.t 9))), zp (zv 11 (.iad 3 (.t 10) (zc 0))), zp (zv 12 (.ld true 3 (.t 11))), zp (zv 13 (.fad (.t 1) 2)), zp (zv 14 (.ld false 1 (.t 13))), zp (zv 15 (.iad 3 (.t 14) (zc 0))), zp (zv 16 (.fad (.t 15) 0)), zp (zv 17 (.ld false 1 (.t 16))), (zv 18 (.bin .eql .no (.t 17) (.c (.str [45, 62]))), []), (zi 19 (.call (.c (.fn 129 [] [])) [((.t 12), (.agg [.id, .id, (.sl 3)])), ((.t 18), .id)]), []), (zv 20 (.bin .add .no (.t 19) (.c (.str [32, 45, 62, 32]))), []), zp (zv 21 (.fad (.t 1) 2)), (zv 22 (.ld false 1 (.t 21)), [10]), zp (zv 23 (.iad 3 (.t 22) (zc 1))), (zv 24 (.ld true 3 (.t 23)), [10]), (zi 25 (.call (.c (.fn 109 [] [])) [((.t 24), (.agg [.id, .id, (.sl 3)]))]), []), zp (zv 26 (.bin .add .no (.t 20) (.t 25))), zp (zm 2 26)]
def qbbh : IC := zr [zi 3 (.bld 125 5)]
def qbdc : IC := zr [zv 27 (.ld true 3 (.t 1)), zi 28 (.call (.c (.fn 88 [] [])) [((.t 27), (.agg [.id, .id, (.sl 3)]))]), zi 29 (.call (.c (.fn 130 [] [])) [((.t 28), .id)]), zi 30 (.call (.c (.fn 102 [] [])) [((.t 3), (.agg [.id, (.sl 1)])), ((.t 29), .id)])]
def qbaa : IC := zr [zv 31 (.fad (.t 1) 2), zv 32 (.ld false 1 (.t 31)), zv 33 (.len false (.t 32)), zv 34 (.mov (zc 0))]
def qbbm : IC := zr [zv 35 (.bin .lss .no (.t 34) (.t 33))]
def qbdv : IC := zr [zv 36 (.iad 3 (.t 32) (.t 34)), zv 37 (.ld true 3 (.t 36)), zi 5 (.alo [(.str []), (.int .i64 0), .nils]), zn (.st 3 (.agg [.id, .id, (.sl 3)]) (.t 5) (.t 37))]
def qbcy : IC := zr [zv 38 (.ld true 3 (.t 5)), zv 39 (.fad (.t 5) 2), zv 40 (.ld false 1 (.t 39)), zv 41 (.len false (.t 40)), zv 42 (.bin .gtr .no (.t 41) (zc 0)), zi 43 (.call (.c (.fn 129 [] [])) [((.t 38), (.agg [.id, .id, (.sl 3)])), ((.t 42), .id)]), zv 44 (.bin .add .no (.c (.str [32])) (.t 43)), zi 45 (.call (.c (.fn 102 [] [])) [((.t 3), (.agg [.id, (.sl 1)])), ((.t 44), .id)])]
def qz5 : IC := zr [zv 46 (.bin .add .no (.t 34) (zc 1)), zm 34 46]
def qbc5 : IC := (.seq qbbm (.seq (.cond (.t 35) .skip (.exit 0)) (.seq (.block 1 (.seq qbdv qbcy)) qz5)))
def q76 : IC := zr [zi 47 (.call (.c (.fn 103 [] [])) [((.t 3), (.agg [.id, (.sl 1)]))]), zm 2 47]
def k0c : IC := (.seq qbab (.seq (.seq q8h (.cond (.t 8) (.seq qbce .ret) .skip)) (.seq qbbh (.seq qbdc (.seq (.seq qbaa (.block 0 (.loop qbc5))) (.seq q76 .ret))))))
@[go_sem] def s0c : List (RV × Co) := [(.t 2, .id)]
theorem c0c : cFun Try.prog 109 = some (48, k0c, s0c) := by kernel_rfl

def qbff : IC := zr [zi 1 (.box (.t 0)), zv 2 (.mov (zc 0))]
def qbe8 : IC := zr [zv 3 (.mov (zc 1))]
def qbeg : IC := zr [zv 4 (.mov (zc 0))]
def qbcz : IC := zr [zm 5 4, zv 6 (.fad (.t 1) 2), zv 7 (.ld false 1 (.t 6)), zv 8 (.len false (.t 7)), zv 9 (.bin .lss .no (.t 5) (.t 8))]
def q81 : IC := zr [zm 12 3, zv 13 (.fad (.t 1) 2), zv 14 (.ld false 1 (.t 13)), zm 15 4, zv 16 (.iad 3 (.t 14) (.t 15)), zv 17 (.ld true 3 (.t 16)), zi 18 (.call (.c (.fn 112 [] [])) [((.t 17), (.agg [.id, .id, (.sl 3)]))]), zv 19 (.bin .add .no (.t 12) (.t 18)), zm 3 19]
def qbcq : IC := zr [zm 10 4, zv 11 (.bin .add .no (.t 10) (zc 1)), zm 4 11]
def qbcl : IC := (.seq (.seq qbcz (.cond (.t 9) .skip (.exit 0))) (.seq (.block 1 q81) qbcq))
def qbc0 : IC := zr [zm 20 3, zm 2 20]
def k0i : IC := (.seq qbff (.seq qbe8 (.seq (.seq qbeg (.block 0 (.loop qbcl))) (.seq qbc0 .ret))))
@[go_sem] def s0i : List (RV × Co) := [(.t 2, .id)]
theorem c0i : cFun Try.prog 112 = some (21, k0i, s0i) := by kernel_rfl

def qbap : IC := zr [zi 1 (.box (.t 0)), zv 2 (.mov (zc 0))]
def qbah : IC := zr [zv 3 (.mov (zc 0))]
def qbc8 : IC := zr [zv 4 (.mov (zc 0))]
def qbem : IC := zr [zm 5 4, zv 6 (.fad (.t 1) 2), zv 7 (.ld false 1 (.t 6)), zv 8 (.len false (.t 7)), zv 9 (.bin .lss .no (.t 5) (.t 8))]
def qbbp : IC := zr [zm 12 3, zv 13 (.fad (.t 1) 2), zv 14 (.ld false 1 (.t 13)), zm 15 4, zv 16 (.iad 3 (.t 14) (.t 15)), zv 17 (.ld true 3 (.t 16)), zi 18 (.call (.c (.fn 113 [] [])) [((.t 17), (.agg [.id, .id, (.sl 3)]))]), zv 19 (.mm true (.t 12) (.t 18)), zm 3 19]
def qbd9 : IC := zr [zm 10 4, zv 11 (.bin .add .no (.t 10) (zc 1)), zm 4 11]
def qbdr : IC := (.seq (.seq qbem (.cond (.t 9) .skip (.exit 0))) (.seq (.block 1 qbbp) qbd9))
def qbac : IC := zr [zm 20 3, zv 21 (.bin .add .no (.t 20) (zc 1)), zm 2 21]
def k0j : IC := (.seq qbap (.seq qbah (.seq (.seq qbc8 (.block 0 (.loop qbdr))) (.seq qbac .ret))))
@[go_sem] def s0j : List (RV × Co) := [(.t 2, .id)]
theorem c0j : cFun Try.prog 113 = some (22, k0j, s0j) := by kernel_rfl

def qbeh : IC := zr [zi 1 (.box (.t 0)), zv 2 zf]
def qbe3 : IC := zr [zv 3 (.mov (zc 0))]
def q8p : IC := zr [zm 5 3, zv 6 (.fad (.t 1) 2), zv 7 (.ld false 1 (.t 6)), zv 8 (.len false (.t 7)), zv 9 (.bin .lss .no (.t 5) (.t 8))]
def qben : IC := zr [zv 12 (.fad (.t 1) 2), zv 13 (.ld false 1 (.t 12)), zm 14 3, zv 15 (.iad 3 (.t 13) (.t 14)), zv 16 (.ld true 3 (.t 15)), zi 17 (.call (.c (.fn 114 [] [])) [((.t 16), (.agg [.id, .id, (.sl 3)]))]), zv 18 (.un .not (.t 17))]
def qbai : IC := zr [zv 2 zf]
def qbc6 : IC := zr [zm 10 3, zv 11 (.bin .add .no (.t 10) (zc 1)), zm 3 11]
def qbdh : IC := (.seq (.seq q8p (.cond (.t 9) .skip (.exit 0))) (.seq (.block 1 (.seq qben (.cond (.t 18) (.seq qbai .ret) .skip))) qbc6))
def qbfd : IC := zr [zv 19 (.fad (.t 1) 2), zv 20 (.ld false 1 (.t 19)), zv 21 (.len false (.t 20)), zm 4 21]
def qbbw : IC := zr [zv 23 (.fad (.t 1) 0), zv 24 (.ld false 1 (.t 23)), zv 25 (.bin .eql .no (.t 24) (.c (.str []))), zm 22 25]
def qy8 : IC := zr [zm 26 4, zv 27 (.bin .eql .no (.t 26) (zc 0)), zm 2 27]
def qyr : IC := zr [zv 29 (.fad (.t 1) 0), zv 30 (.ld false 1 (.t 29)), zv 31 (.bin .eql .no (.t 30) (.c (.str [45, 62]))), zm 28 31]
def q5t : IC := zr [zm 32 4, zv 33 (.bin .eql .no (.t 32) (zc 2)), zm 34 33, zw 34 true 35 (.fad (.t 1) 1), zw 34 true 36 (.ld false 1 (.t 35)), zw 34 true 37 (.bin .eql .no (.t 36) (zc 0)), zv 38 (.pick (.t 34) (.t 37) (.c (.bool false))), zm 2 38]
def q28 : IC := zr [zv 40 (.fad (.t 1) 0), zv 41 (.ld false 1 (.t 40)), zi 42 (.call (.c (.fn 133 [] [])) [((.t 41), .id)]), zm 39 42]
def qzy : IC := zr [zm 43 4, zv 44 (.bin .eql .no (.t 43) (zc 0)), zm 45 44, zw 45 true 46 (.fad (.t 1) 1), zw 45 true 47 (.ld false 1 (.t 46)), zw 45 true 48 (.bin .eql .no (.t 47) (zc 0)), zv 49 (.pick (.t 45) (.t 48) (.c (.bool false))), zm 2 49]
def q7m : IC := zr [zv 50 (.fad (.t 1) 0), zv 51 (.ld false 1 (.t 50)), zi 52 (.call (.c (.fn 125 [] [])) [((.t 51), .id)]), zm 53 52, zw 53 true 54 (.fad (.t 1) 1), zw 53 true 55 (.ld false 1 (.t 54)), zw 53 true 56 (.bin .eql .no (.t 55) (zc 0)), zv 57 (.pick (.t 53) (.t 56) (.c (.bool false))), zm 2 57]
def k0k : IC := (.seq qbeh (.seq (.seq qbe3 (.block 0 (.loop qbdh))) (.seq qbfd (.seq (.block 2 (.seq qbbw (.cond (.t 22) (.seq qy8 .ret) (.seq qyr (.cond (.t 28) (.seq q5t .ret) (.seq q28 (.cond (.t 39) (.seq qzy .ret) .skip))))))) (.seq q7m .ret)))))
@[go_sem] def s0k : List (RV × Co) := [(.t 2, .id)]
theorem c0k : cFun Try.prog 114 = some (58, k0k, s0k) := by kernel_rfl

def q2q : IC := zr [zv 2 zf]
def q10 : IC := zr [zm 5 0, zi 6 (.call (.c (.fn 135 [] [])) [((.t 5), .id), ((.c (.str [33])), .id)]), zv 7 (.un .not (.t 6))]
def q6p : IC := zr [zv 2 zf]
def q4a : IC := zr [zm 9 0, zv 10 (.sls (.t 9) (some (zc 1)) none), zi 11 (.call (.c (.fn 136 [] [])) [((.t 10), .id)]), zm 8 11, zv 12 (.ext (.t 8) 0), zv 13 (.ext (.t 8) 1), zm 3 12, zm 4 13]
def q6o : IC := .drw [zp (zm 14 4), zp (zv 15 (.bin .eql .no (.t 14) (zc 0))), zp (zm 16 15), zp (zw 16 true 17 (.mov (.t 3))), (⟨some (16, true), some 18, .call (.c (.fn 137 [] [])) [((.t 17), .id)]⟩, []), zp (zw 16 true 19 (.mov (.t 0))), zp (zw 16 true 20 (.sls (.t 19) (some (zc 1)) none)), zp (zw 16 true 21 (.bin .eql .no (.t 18) (.t 20))), zp (zv 22 (.pick (.t 16) (.t 21) (.c (.bool false)))), zp (zm 2 22)]
def k0ba : IC := (.seq q2q (.seq (.seq q10 (.cond (.t 7) (.seq q6p .ret) .skip)) (.seq q4a (.seq q6o .ret))))
@[go_sem] def s0ba : List (RV × Co) := [(.t 2, .id)]
theorem c0ba : cFun Try.prog 119 = some (23, k0ba, s0ba) := by kernel_rfl

def q6t : IC := zr [zv 2 zf]
def q6r : IC := zr [zm 3 0, zv 4 (.bin .neq .no (.t 3) (.c (.str []))), zm 5 4, zw 5 true 6 (.mov (.t 0)), zw 5 true 7 (.idx (.t 6) (zc 0)), ⟨some (5, true), some 8, .call (.c (.fn 141 [] [])) [((.t 7), .id)]⟩, zv 9 (.pick (.t 5) (.t 8) (.c (.bool false))), zm 10 9, zw 10 true 11 (.mov (.t 0)), ⟨some (10, true), some 12, .call (.c (.fn 142 [] [])) [((.t 11), .id)]⟩, zv 13 (.pick (.t 10) (.t 12) (.c (.bool false))), zm 2 13]
def k0br : IC := (.seq q6t (.seq q6r .ret))
@[go_sem] def s0br : List (RV × Co) := [(.t 2, .id)]
theorem c0br : cFun Try.prog 125 = some (14, k0br, s0br) := by kernel_rfl

def qyd : IC := zr [zv 2 (.mov (.c (.str [])))]
def q8b : IC := zr [zm 4 0, zv 5 (.bin .lss .no (.t 4) (zc 0))]
def qyy : IC := zr [zv 2 (.mov (.c (.str [])))]
def q24 : IC := zr [zm 6 0, zv 7 (.bin .rem .no (.t 6) (zc 26)), zv 8 (.bin .add .no (zc 97) (.t 7)), zv 9 (.cvi .u8 (.t 8)), zv 10 (.bsl 1 [((.t 9), .id)]), zv 11 (.cbs (.t 10)), zm 3 11]
def q7l : IC := zr [zm 12 0, zv 13 (.bin .geq .no (.t 12) (zc 26))]
def q5b : IC := zr [zm 14 3, zm 15 0, zv 16 (.bin .quo .no (.t 15) (zc 26)), zi 17 (.call (.c (.fn 127 [] [])) [((.t 16), .id)]), zv 18 (.bin .add .no (.t 14) (.t 17)), zm 3 18]
def q12 : IC := zr [zm 19 3, zm 2 19]
def k0bw : IC := (.seq qyd (.seq (.seq q8b (.cond (.t 5) (.seq qyy .ret) .skip)) (.seq q24 (.seq (.seq q7l (.cond (.t 13) q5b .skip)) (.seq q12 .ret)))))
@[go_sem] def s0bw : List (RV × Co) := [(.t 2, .id)]
theorem c0bw : cFun Try.prog 126 = some (20, k0bw, s0bw) := by kernel_rfl

def q38 : IC := zr [zv 2 (.mov (.c (.str [])))]
def q7n : IC := zr [zm 5 0, zi 6 (.call (.c (.fn 143 [] [])) [((.t 5), .id)]), zm 3 6]
def q19 : IC := zr [zv 4 (.mov (.c (.str [])))]
def q3w : IC := zr [zm 7 3, zv 8 (.bin .gtr .no (.t 7) (.c (.int .u64 9)))]
def qyg : IC := zr [zm 9 3, zv 10 (.bin .rem .no (.t 9) (.c (.int .u64 10))), zv 11 (.bin .add .no (.c (.int .u64 48)) (.t 10)), zv 12 (.cvi .u8 (.t 11)), zv 13 (.bsl 1 [((.t 12), .id)]), zv 14 (.cbs (.t 13)), zm 15 4, zv 16 (.bin .add .no (.t 14) (.t 15)), zm 4 16]
def qys : IC := zr [zm 17 3, zv 18 (.bin .quo .no (.t 17) (.c (.int .u64 10))), zm 3 18]
def q3a : IC := (.seq (.seq q3w (.cond (.t 8) .skip (.exit 0))) (.block 1 (.seq qyg qys)))
def q7d : IC := zr [zm 19 3, zv 20 (.bin .add .no (.c (.int .u64 48)) (.t 19)), zv 21 (.cvi .u8 (.t 20)), zv 22 (.bsl 1 [((.t 21), .id)]), zv 23 (.cbs (.t 22)), zm 24 4, zv 25 (.bin .add .no (.t 23) (.t 24)), zm 4 25]
def qzg : IC := zr [zm 26 0, zv 27 (.bin .lss .no (.t 26) (zc 0))]
def qt9 : IC := zr [zm 28 4, zv 29 (.bin .add .no (.c (.str [45])) (.t 28)), zm 2 29]
def qxk : IC := zr [zm 30 4, zm 2 30]
def k0bt : IC := (.seq q38 (.seq q7n (.seq q19 (.seq (.block 0 (.loop q3a)) (.seq q7d (.seq (.seq qzg (.cond (.t 27) (.seq qt9 .ret) .skip)) (.seq qxk .ret)))))))
@[go_sem] def s0bt : List (RV × Co) := [(.t 2, .id)]
theorem c0bt : cFun Try.prog 127 = some (31, k0bt, s0bt) := by kernel_rfl

def q78 : IC := zr [zv 2 zf]
def q3b : IC := zr [zm 3 0, zv 4 (.bin .geq .no (.t 3) (.c (.int .u8 97))), zm 5 4, zw 5 true 6 (.mov (.t 0)), zw 5 true 7 (.bin .leq .no (.t 6) (.c (.int .u8 122))), zv 8 (.pick (.t 5) (.t 7) (.c (.bool false))), zm 9 8, zw 9 false 10 (.mov (.t 0)), zw 9 false 11 (.bin .eql .no (.t 10) (.c (.int .u8 95))), zv 12 (.pick (.t 9) (.c (.bool true)) (.t 11)), zm 2 12]
def k0bi : IC := (.seq q78 (.seq q3b .ret))
@[go_sem] def s0bi : List (RV × Co) := [(.t 2, .id)]
theorem c0bi : cFun Try.prog 128 = some (13, k0bi, s0bi) := by kernel_rfl

def qbcu : IC := zr [zi 2 (.box (.t 0)), zv 4 (.mov (.c (.str [])))]
def qbfg : IC := zr [zm 5 1]
def q9v : IC := zr [zv 6 (.ld true 3 (.t 2)), zi 7 (.call (.c (.fn 109 [] [])) [((.t 6), (.agg [.id, .id, (.sl 3)]))]), zv 8 (.bin .add .no (.c (.str [40])) (.t 7)), zv 9 (.bin .add .no (.t 8) (.c (.str [41]))), zm 4 9]
def qbbf : IC := zr [zv 10 (.ld true 3 (.t 2)), zi 11 (.call (.c (.fn 109 [] [])) [((.t 10), (.agg [.id, .id, (.sl 3)]))]), zm 4 11]
def k0b : IC := (.seq qbcu (.seq (.seq qbfg (.cond (.t 5) (.seq q9v .ret) .skip)) (.seq qbbf .ret)))
@[go_sem] def s0b : List (RV × Co) := [(.t 4, .id)]
theorem c0b : cFun Try.prog 129 = some (12, k0b, s0b) := by kernel_rfl

def qbde : IC := zr [zi 1 (.box (.t 0)), zv 2 (.mov (.c (.str [])))]
def qbdz : IC := zr [zv 4 (.fad (.t 1) 0), zv 5 (.ld false 1 (.t 4)), zv 6 (.bin .neq .no (.t 5) (.c (.str []))), zm 3 6]
def qbcn : IC := zr [zv 7 (.fad (.t 1) 0), zv 8 (.ld false 1 (.t 7)), zm 2 8]
def qbbv : IC := zr [zv 10 (.fad (.t 1) 1), zv 11 (.ld false 1 (.t 10)), zv 12 (.bin .geq .no (.t 11) (zc 0)), zm 9 12]
def qbd1 : IC := zr [zv 13 (.fad (.t 1) 1), zv 14 (.ld false 1 (.t 13)), zi 15 (.call (.c (.fn 144 [] [])) [((.t 14), .id)]), zm 2 15]
def qbdg : IC := zr [zv 16 (.fad (.t 1) 1), zv 17 (.ld false 1 (.t 16)), zv 18 (.bin .sub .no (zc (-1)) (.t 17)), zi 19 (.call (.c (.fn 137 [] [])) [((.t 18), .id)]), zv 20 (.bin .add .no (.c (.str [63])) (.t 19)), zm 2 20]
def k0a : IC := (.seq qbde (.seq (.block 0 (.seq qbdz (.cond (.t 3) (.seq qbcn .ret) (.seq qbbv (.cond (.t 9) (.seq qbd1 .ret) .skip))))) (.seq qbdg .ret)))
@[go_sem] def s0a : List (RV × Co) := [(.t 2, .id)]
theorem c0a : cFun Try.prog 130 = some (21, k0a, s0a) := by kernel_rfl

def qy3 : IC := zr [zv 2 zf]
def q4i : IC := zr [zm 5 0, zv 6 (.bin .eql .no (.t 5) (.c (.str []))), zm 7 6, zw 7 false 8 (.mov (.t 0)), zw 7 false 9 (.idx (.t 8) (zc 0)), zw 7 false 10 (.bin .neq .no (.t 9) (.c (.int .u8 33))), zv 11 (.pick (.t 7) (.c (.bool true)) (.t 10))]
def q71 : IC := zr [zv 2 zf]
def q3u : IC := zr [zm 13 0, zv 14 (.sls (.t 13) (some (zc 1)) none), zi 15 (.call (.c (.fn 145 [] [])) [((.t 14), .id)]), zm 12 15, zv 16 (.ext (.t 12) 0), zv 17 (.ext (.t 12) 1), zm 3 16, zm 4 17]
def q46 : IC := .drw [zp (zm 18 4), zp (zv 19 (.bin .eql .no (.t 18) (zc 0))), zp (zm 20 19), zp (zw 20 true 21 (.mov (.t 3))), (⟨some (20, true), some 22, .call (.c (.fn 127 [] [])) [((.t 21), .id)]⟩, []), zp (zw 20 true 23 (.mov (.t 0))), zp (zw 20 true 24 (.sls (.t 23) (some (zc 1)) none)), zp (zw 20 true 25 (.bin .eql .no (.t 22) (.t 24))), zp (zv 26 (.pick (.t 20) (.t 25) (.c (.bool false)))), zp (zm 2 26)]
def k0bb : IC := (.seq qy3 (.seq (.seq q4i (.cond (.t 11) (.seq q71 .ret) .skip)) (.seq q3u (.seq q46 .ret))))
@[go_sem] def s0bb : List (RV × Co) := [(.t 2, .id)]
theorem c0bb : cFun Try.prog 133 = some (27, k0bb, s0bb) := by kernel_rfl

def q43 : IC := zr [zv 4 zf]
def q4u : IC := zr [zm 5 0, zm 6 1, zi 7 (.call (.c (.fn 147 [] [])) [((.t 5), .id), ((.t 6), .id)]), zm 4 7]
def k0bf : IC := (.seq q43 (.seq q4u .ret))
@[go_sem] def s0bf : List (RV × Co) := [(.t 4, .id)]
theorem c0bf : cFun Try.prog 135 = some (8, k0bf, s0bf) := by kernel_rfl

def q67 : IC := zr [zv 2 (.mov (zc 0)), zv 3 (.mov (zc 0))]
def q7z : IC := zr [zm 8 0, zv 9 (.len true (.t 8)), zv 10 (.mov (zc 0))]
def q4z : IC := zr [zv 11 (.bin .lss .no (.t 10) (.t 9))]
def q2a : IC := zr [zm 12 10, zm 4 12]
def q5r : IC := zr [zm 13 0, zm 14 4, zv 15 (.idx (.t 13) (.t 14)), zv 16 (.bin .lss .no (.t 15) (.c (.int .u8 48))), zm 17 16, zw 17 false 18 (.mov (.t 0)), zw 17 false 19 (.mov (.t 4)), zw 17 false 20 (.idx (.t 18) (.t 19)), zw 17 false 21 (.bin .gtr .no (.t 20) (.c (.int .u8 57))), zv 22 (.pick (.t 17) (.c (.bool true)) (.t 21))]
def qzv : IC := zr [zv 2 (.mov (zc 0)), zv 3 (.mov (zc 5))]
def q6f : IC := zr [zv 23 (.bin .add .no (.t 10) (zc 1)), zm 10 23]
def q2t : IC := (.seq q4z (.seq (.cond (.t 11) .skip (.exit 0)) (.seq (.block 1 (.seq q2a (.seq q5r (.cond (.t 22) (.seq qzv .ret) .skip)))) q6f)))
def qy7 : IC := zr [zm 24 0, zv 25 (.bin .eql .no (.t 24) (.c (.str [])))]
def qt5 : IC := zr [zv 2 (.mov (zc 0)), zv 3 (.mov (zc 5))]
def quk : IC := zr [zv 5 (.mov (zc 0)), zv 6 (.mov (zc 0))]
def qum : IC := zr [zm 26 0, zm 27 6, zv 28 (.idx (.t 26) (.t 27)), zv 29 (.bin .sub .no (.t 28) (.c (.int .u8 48))), zv 30 (.cvi .i64 (.t 29)), zm 7 30]
def qus : IC := zr [zm 31 5, zm 32 7, zv 33 (.bin .sub .no (zc 9223372036854775807) (.t 32)), zv 34 (.bin .quo .no (.t 33) (zc 10)), zv 35 (.bin .gtr .no (.t 31) (.t 34))]
def qtl : IC := zr [zv 2 (.mov (zc 0)), zv 3 (.mov (zc 4))]
def qxb : IC := zr [zm 36 5, zv 37 (.bin .mul .no (zc 10) (.t 36)), zm 38 7, zv 39 (.bin .add .no (.t 37) (.t 38)), zm 5 39]
def qvl : IC := zr [zm 40 6, zv 41 (.bin .add .no (.t 40) (zc 1)), zm 6 41]
def qv0 : IC := zr [zm 42 6, zm 43 0, zv 44 (.len true (.t 43)), zv 45 (.bin .lss .no (.t 42) (.t 44))]
def qvh : IC := zr [zm 46 5, zm 2 46, zv 3 (.mov (zc 0))]
def k0bh : IC := (.seq q67 (.scope (.seq (.seq q7z (.block 0 (.loop q2t))) (.seq (.seq qy7 (.cond (.t 25) (.seq qt5 .ret) .skip)) (.seq quk (.seq (.label 0) (.seq qum (.seq (.seq qus (.cond (.t 35) (.seq qtl .ret) .skip)) (.seq qxb (.seq (.seq qvl (.seq qv0 (.cond (.t 45) (.goto 0) .skip))) (.seq qvh .ret)))))))))))
@[go_sem] def s0bh : List (RV × Co) := [(.t 2, .id), (.t 3, .id)]
theorem c0bh : cFun Try.prog 136 = some (47, k0bh, s0bh) := by kernel_rfl

def q7e : IC := zr [zv 2 (.mov (.c (.str [])))]
def q6w : IC := zr [zm 6 0, zv 7 (.cvi .u64 (.t 6)), zm 3 7]
def q5i : IC := zr [zm 8 0, zv 9 (.bin .lss .no (.t 8) (zc 0))]
def qyq : IC := zr [zm 10 3, zv 11 (.un .neg (.t 10)), zm 3 11]
def q3e : IC := zr [zi 4 (.alo [(.int .u8 0), (.int .u8 0), (.int .u8 0), (.int .u8 0), (.int .u8 0), (.int .u8 0), (.int .u8 0), (.int .u8 0), (.int .u8 0), (.int .u8 0), (.int .u8 0), (.int .u8 0), (.int .u8 0), (.int .u8 0), (.int .u8 0), (.int .u8 0), (.int .u8 0), (.int .u8 0), (.int .u8 0), (.int .u8 0)])]
def q34 : IC := zr [zv 5 (.mov (zc 20))]
def q7k : IC := zr [zm 12 5, zv 13 (.bin .sub .no (.t 12) (zc 1)), zm 5 13]
def q0d : IC := zr [zm 14 5, zm 15 3, zv 16 (.bin .rem .no (.t 15) (.c (.int .u64 10))), zv 17 (.bin .add .no (.c (.int .u64 48)) (.t 16)), zv 18 (.cvi .u8 (.t 17)), zv 19 (.aad 1 20 (.t 4) (.t 14)), zn (.st 1 .id (.t 19) (.t 18))]
def q6c : IC := zr [zm 20 3, zv 21 (.bin .quo .no (.t 20) (.c (.int .u64 10))), zm 3 21]
def qwy : IC := zr [zm 22 3, zv 23 (.bin .eql .no (.t 22) (.c (.int .u64 0)))]
def q5o : IC := (.block 1 (.seq q7k (.seq q0d (.seq q6c (.seq qwy (.cond (.t 23) (.exit 0) .skip))))))
def qvf : IC := zr [zm 24 0, zv 25 (.bin .lss .no (.t 24) (zc 0))]
def qub : IC := zr [zm 26 5, zv 27 (.sla 20 (.t 4) (.t 26)), zv 28 (.cbs (.t 27)), zv 29 (.bin .add .no (.c (.str [45])) (.t 28)), zm 2 29]
def qw6 : IC := zr [zm 30 5, zv 31 (.sla 20 (.t 4) (.t 30)), zv 32 (.cbs (.t 31)), zm 2 32]
def k0bu : IC := (.seq q7e (.seq q6w (.seq (.seq q5i (.cond (.t 9) qyq .skip)) (.seq q3e (.seq q34 (.seq (.block 0 (.loop q5o)) (.seq (.seq qvf (.cond (.t 25) (.seq qub .ret) .skip)) (.seq qw6 .ret))))))))
@[go_sem] def s0bu : List (RV × Co) := [(.t 2, .id)]
theorem c0bu : cFun Try.prog 137 = some (33, k0bu, s0bu) := by kernel_rfl

def q5m : IC := zr [zv 2 zf]
def q4x : IC := zr [zm 3 0, zv 4 (.bin .geq .no (.t 3) (.c (.int .u8 65))), zm 5 4, zw 5 true 6 (.mov (.t 0)), zw 5 true 7 (.bin .leq .no (.t 6) (.c (.int .u8 90))), zv 8 (.pick (.t 5) (.t 7) (.c (.bool false))), zm 2 8]
def k0bl : IC := (.seq q5m (.seq q4x .ret))
@[go_sem] def s0bl : List (RV × Co) := [(.t 2, .id)]
theorem c0bl : cFun Try.prog 141 = some (9, k0bl, s0bl) := by kernel_rfl

def qzz : IC := zr [zv 2 zf]
def q18 : IC := zr [zv 3 (.mov (zc 1))]
def q05 : IC := zr [zm 4 3, zm 5 0, zv 6 (.len true (.t 5)), zv 7 (.bin .lss .no (.t 4) (.t 6))]
def q1o : IC := zr [zm 10 0, zm 11 3, zv 12 (.idx (.t 10) (.t 11)), zi 13 (.call (.c (.fn 152 [] [])) [((.t 12), .id)]), zv 14 (.un .not (.t 13))]
def q0g : IC := zr [zv 2 zf]
def q1v : IC := zr [zm 8 3, zv 9 (.bin .add .no (.t 8) (zc 1)), zm 3 9]
def q1s : IC := (.seq (.seq q05 (.cond (.t 7) .skip (.exit 0))) (.seq (.block 1 (.seq q1o (.cond (.t 14) (.seq q0g .ret) .skip))) q1v))
def qy9 : IC := zr [zv 2 (.mov (.c (.bool true)))]
def k0bp : IC := (.seq qzz (.seq (.seq q18 (.block 0 (.loop q1s))) (.seq qy9 .ret)))
@[go_sem] def s0bp : List (RV × Co) := [(.t 2, .id)]
theorem c0bp : cFun Try.prog 142 = some (15, k0bp, s0bp) := by kernel_rfl

def q2d : IC := zr [zv 2 (.mov (.c (.int .u64 0)))]
def q7q : IC := zr [zm 3 0, zv 4 (.bin .lss .no (.t 3) (zc 0))]
def q5f : IC := zr [zm 5 0, zv 6 (.cvi .u64 (.t 5)), zv 7 (.un .neg (.t 6)), zm 2 7]
def qz9 : IC := zr [zm 8 0, zv 9 (.cvi .u64 (.t 8)), zm 2 9]
def k0bs : IC := (.seq q2d (.seq (.seq q7q (.cond (.t 4) (.seq q5f .ret) .skip)) (.seq qz9 .ret)))
@[go_sem] def s0bs : List (RV × Co) := [(.t 2, .id)]
theorem c0bs : cFun Try.prog 143 = some (10, k0bs, s0bs) := by kernel_rfl

def q07 : IC := zr [zv 2 (.mov (.c (.str [])))]
def q63 : IC := zr [zm 4 0, zv 5 (.bin .lss .no (.t 4) (zc 0))]
def qyo : IC := zr [zv 2 (.mov (.c (.str [])))]
def qy6 : IC := zr [zm 6 0, zv 7 (.bin .rem .no (.t 6) (zc 26)), zv 8 (.bin .add .no (zc 97) (.t 7)), zv 9 (.cvi .u8 (.t 8)), zv 10 (.bsl 1 [((.t 9), .id)]), zv 11 (.cbs (.t 10)), zm 3 11]
def q2b : IC := zr [zm 12 0, zv 13 (.bin .lss .no (.t 12) (zc 26))]
def q0b : IC := zr [zm 14 3, zm 2 14]
def q6l : IC := zr [zm 15 3, zm 16 0, zv 17 (.bin .quo .no (.t 16) (zc 26)), zi 18 (.call (.c (.fn 137 [] [])) [((.t 17), .id)]), zv 19 (.bin .add .no (.t 15) (.t 18)), zm 2 19]
def k0bv : IC := (.seq q07 (.seq (.seq q63 (.cond (.t 5) (.seq qyo .ret) .skip)) (.seq qy6 (.seq (.seq q2b (.cond (.t 13) (.seq q0b .ret) .skip)) (.seq q6l .ret)))))
@[go_sem] def s0bv : List (RV × Co) := [(.t 2, .id)]
theorem c0bv : cFun Try.prog 144 = some (20, k0bv, s0bv) := by kernel_rfl

def qyt : IC := zr [zv 2 (.mov (zc 0)), zv 3 (.mov (zc 0))]
def q3x : IC := zr [zm 8 0, zv 9 (.bin .eql .no (.t 8) (.c (.str [])))]
def q1x : IC := zr [zv 2 (.mov (zc 0)), zv 3 (.mov (zc 5))]
def q56 : IC := zr [zv 4 (.mov (zc 0))]
def q64 : IC := zr [zm 10 4, zm 11 0, zv 12 (.len true (.t 11)), zv 13 (.bin .lss .no (.t 10) (.t 12))]
def qyz : IC := zr [zm 16 0, zm 17 4, zv 18 (.idx (.t 16) (.t 17)), zv 19 (.bin .lss .no (.t 18) (.c (.int .u8 48))), zm 20 19, zw 20 false 21 (.mov (.t 0)), zw 20 false 22 (.mov (.t 4)), zw 20 false 23 (.idx (.t 21) (.t 22)), zw 20 false 24 (.bin .gtr .no (.t 23) (.c (.int .u8 57))), zv 25 (.pick (.t 20) (.c (.bool true)) (.t 24))]
def q6k : IC := zr [zv 2 (.mov (zc 0)), zv 3 (.mov (zc 5))]
def qzs : IC := zr [zm 14 4, zv 15 (.bin .add .no (.t 14) (zc 1)), zm 4 15]
def q6s : IC := (.seq (.seq q64 (.cond (.t 13) .skip (.exit 0))) (.seq (.block 1 (.seq qyz (.cond (.t 25) (.seq q6k .ret) .skip))) qzs))
def qug : IC := zr [zv 5 (.mov (zc 0))]
def qwj : IC := zr [zv 6 (.mov (zc 0))]
def qvt : IC := zr [zm 26 6, zm 27 0, zv 28 (.len true (.t 27)), zv 29 (.bin .lss .no (.t 26) (.t 28))]
def qun : IC := zr [zm 32 0, zm 33 6, zv 34 (.idx (.t 32) (.t 33)), zv 35 (.bin .sub .no (.t 34) (.c (.int .u8 48))), zv 36 (.cvi .i64 (.t 35)), zm 7 36]
def qva : IC := zr [zm 37 5, zm 38 7, zv 39 (.bin .sub .no (zc 9223372036854775807) (.t 38)), zv 40 (.bin .quo .no (.t 39) (zc 10)), zv 41 (.bin .gtr .no (.t 37) (.t 40))]
def qu9 : IC := zr [zv 2 (.mov (zc 0)), zv 3 (.mov (zc 4))]
def qxn : IC := zr [zm 42 5, zv 43 (.bin .mul .no (zc 10) (.t 42)), zm 44 7, zv 45 (.bin .add .no (.t 43) (.t 44)), zm 5 45]
def qvs : IC := zr [zm 30 6, zv 31 (.bin .add .no (.t 30) (zc 1)), zm 6 31]
def qu5 : IC := (.seq (.seq qvt (.cond (.t 29) .skip (.exit 2))) (.seq (.block 3 (.seq qun (.seq (.seq qva (.cond (.t 41) (.seq qu9 .ret) .skip)) qxn))) qvs))
def qtq : IC := zr [zm 46 5, zm 2 46, zv 3 (.mov (zc 0))]
def k0bg : IC := (.seq qyt (.seq (.seq q3x (.cond (.t 9) (.seq q1x .ret) .skip)) (.seq (.seq q56 (.block 0 (.loop q6s))) (.seq qug (.seq (.seq qwj (.block 2 (.loop qu5))) (.seq qtq .ret))))))
@[go_sem] def s0bg : List (RV × Co) := [(.t 2, .id), (.t 3, .id)]
theorem c0bg : cFun Try.prog 145 = some (47, k0bg, s0bg) := by kernel_rfl

def qye : IC := zr [zv 4 zf]
def q0f : IC := zr [zm 5 0, zv 6 (.len true (.t 5)), zm 7 1, zv 8 (.len true (.t 7)), zv 9 (.bin .geq .no (.t 6) (.t 8)), zm 10 9, zw 10 true 11 (.mov (.t 0)), zw 10 true 12 (.mov (.t 1)), zw 10 true 13 (.len true (.t 12)), zw 10 true 14 (.sls (.t 11) none (some (.t 13))), zw 10 true 15 (.mov (.t 1)), zw 10 true 16 (.bin .eql .no (.t 14) (.t 15)), zv 17 (.pick (.t 10) (.t 16) (.c (.bool false))), zm 4 17]
def k0be : IC := (.seq qye (.seq q0f .ret))
@[go_sem] def s0be : List (RV × Co) := [(.t 4, .id)]
theorem c0be : cFun Try.prog 147 = some (18, k0be, s0be) := by kernel_rfl

def q7y : IC := zr [zv 2 zf]
def q04 : IC := zr [zm 3 0, zi 4 (.call (.c (.fn 155 [] [])) [((.t 3), .id)]), zm 5 4, zw 5 false 6 (.mov (.t 0)), ⟨some (5, false), some 7, .call (.c (.fn 141 [] [])) [((.t 6), .id)]⟩, zv 8 (.pick (.t 5) (.c (.bool true)) (.t 7)), zm 9 8, zw 9 false 10 (.mov (.t 0)), ⟨some (9, false), some 11, .call (.c (.fn 156 [] [])) [((.t 10), .id)]⟩, zv 12 (.pick (.t 9) (.c (.bool true)) (.t 11)), zm 13 12, zw 13 false 14 (.mov (.t 0)), zw 13 false 15 (.bin .eql .no (.t 14) (.c (.int .u8 39))), zv 16 (.pick (.t 13) (.c (.bool true)) (.t 15)), zm 2 16]
def k0bn : IC := (.seq q7y (.seq q04 .ret))
@[go_sem] def s0bn : List (RV × Co) := [(.t 2, .id)]
theorem c0bn : cFun Try.prog 152 = some (17, k0bn, s0bn) := by kernel_rfl

def q0w : IC := zr [zv 2 zf]
def q2o : IC := zr [zm 3 0, zv 4 (.bin .geq .no (.t 3) (.c (.int .u8 97))), zm 5 4, zw 5 true 6 (.mov (.t 0)), zw 5 true 7 (.bin .leq .no (.t 6) (.c (.int .u8 122))), zv 8 (.pick (.t 5) (.t 7) (.c (.bool false))), zm 9 8, zw 9 false 10 (.mov (.t 0)), zw 9 false 11 (.bin .eql .no (.t 10) (.c (.int .u8 95))), zv 12 (.pick (.t 9) (.c (.bool true)) (.t 11)), zm 2 12]
def k0bj : IC := (.seq q0w (.seq q2o .ret))
@[go_sem] def s0bj : List (RV × Co) := [(.t 2, .id)]
theorem c0bj : cFun Try.prog 155 = some (13, k0bj, s0bj) := by kernel_rfl

def q1m : IC := zr [zv 2 zf]
def q42 : IC := zr [zm 3 0, zv 4 (.bin .geq .no (.t 3) (.c (.int .u8 48))), zm 5 4, zw 5 true 6 (.mov (.t 0)), zw 5 true 7 (.bin .leq .no (.t 6) (.c (.int .u8 57))), zv 8 (.pick (.t 5) (.t 7) (.c (.bool false))), zm 2 8]
def k0bm : IC := (.seq q1m (.seq q42 .ret))
@[go_sem] def s0bm : List (RV × Co) := [(.t 2, .id)]
theorem c0bm : cFun Try.prog 156 = some (9, k0bm, s0bm) := by kernel_rfl

end Go.Proofs.Ytfpobiheiloamaa
