/- A text of this proof. -/
import Derived.Test.YtlahgbhhejkgbaaMaf
import Derived.Test.YtlahgbhhejkgbaaProg
/- The compiled code of the functions. -/
namespace Go.Proofs.Ytlahgbhhejkgbaa
open Go Go.V
@[reducible] def zm (d s : Nat) : GI := ⟨none, some d, .v (.mov (.t s))⟩
@[reducible] def zv (d : Nat) (x : IV) : GI := ⟨none, some d, .v x⟩
@[reducible] def zi (d : Nat) (i : I) : GI := ⟨none, some d, i⟩
@[reducible] def zn (i : I) : GI := ⟨none, none, i⟩
@[reducible] def zw (j : Nat) (b : Bool) (d : Nat) (x : IV) : GI := ⟨some (j, b), some d, .v x⟩
@[reducible] def zp (g : GI) : GI × List Nat := (g, [])
@[reducible] def zN : Co := .agg [.id, .id, .id, .id, (.sl 5)]
@[reducible] def zC : Co := .agg [(.sl 4), .id, .id, .id, .id, .id, .id, .id]
@[reducible] def zaN : I := .alo [(.int .i64 0), (.int .i64 0), (.int .i64 0), (.str []), .nils]
@[reducible] def zaC : I := .alo [.nils, (.int .i64 0), (.int .i64 0), (.int .i64 0), (.str []), (.int .i64 0), (.int .i64 0), (.int .i64 0)]
@[reducible] def zaT : I := .alo [(.int .i64 0), (.int .i64 0), (.int .i64 0), (.str [])]
@[reducible] def zZ : AV := .agg [(.int .i64 0), (.int .i64 0), (.int .i64 0), (.str []), .nils]
@[reducible] def zc (n : Int) : Opd := .c (.int .i64 n)
@[reducible] def zf : IV := .mov (.c (.bool false))
@[reducible] def zr (l : List GI) : IC := .reg false l
def q6y : IC := zr [zi 3 (.box (.t 1)), zv 4 zf]
def q6q : IC := zr [zm 12 0, zv 13 (.len false (.t 12)), zv 14 (.bin .gtr .no (.t 13) (zc 50)), zm 15 14, zw 15 false 16 (.ld true 3 (.t 3)), zw 15 false 17 (.bsl 3 [((.t 16), (.agg [.id, .id, (.sl 3)]))]), ⟨some (15, false), some 18, .call (.c (.fn 9 [] [])) [((.t 17), (.sl 3))]⟩, zw 15 false 19 (.bin .eql .no (.t 18) (zc 0)), zv 20 (.pick (.t 15) (.c (.bool true)) (.t 19)), zm 21 20, zw 21 false 22 (.mov (.t 0)), ⟨some (21, false), some 23, .call (.c (.fn 9 [] [])) [((.t 22), (.sl 3))]⟩, zw 21 false 24 (.bin .eql .no (.t 23) (zc 0)), zv 25 (.pick (.t 21) (.c (.bool true)) (.t 24))]
def qbar : IC := zr [zi 26 (.call (.c (.fn 10 [] [])) []), zm 4 26]
def q9h : IC := zr [zm 27 0, zv 28 (.ld true 3 (.t 3)), zi 29 (.call (.c (.fn 24 [] [])) [((.t 27), (.sl 3)), ((.t 28), (.agg [.id, .id, (.sl 3)]))]), zi 5 (.alo [(.str []), (.int .i64 0), .nils]), zn (.st 3 (.agg [.id, .id, (.sl 3)]) (.t 5) (.t 29))]
def q7c : IC := zr [zv 31 (.ld true 3 (.t 3)), zi 32 (.call (.c (.fn 25 [] [])) [((.t 31), (.agg [.id, .id, (.sl 3)]))]), zm 30 32, zv 33 (.ext (.t 30) 0), zv 34 (.ext (.t 30) 1), zi 7 (.alo [(.str []), (.int .i64 0), .nils]), zm 6 33, zn (.st 3 (.agg [.id, .id, (.sl 3)]) (.t 7) (.t 34))]
def q8h : IC := zr [zv 36 (.ld true 3 (.t 3)), zi 37 (.call (.c (.fn 26 [] [])) [((.t 36), (.agg [.id, .id, (.sl 3)]))]), zm 35 37, zv 38 (.ext (.t 35) 0), zv 39 (.ext (.t 35) 1), zi 9 (.alo [(.str []), (.int .i64 0), .nils]), zm 8 38, zn (.st 3 (.agg [.id, .id, (.sl 3)]) (.t 9) (.t 39))]
def q9k : IC := zr [zv 41 (.ld true 3 (.t 5)), zi 42 (.call (.c (.fn 25 [] [])) [((.t 41), (.agg [.id, .id, (.sl 3)]))]), zm 40 42, zv 43 (.ext (.t 40) 0), zv 44 (.ext (.t 40) 1), zi 11 (.alo [(.str []), (.int .i64 0), .nils]), zm 10 43, zn (.st 3 (.agg [.id, .id, (.sl 3)]) (.t 11) (.t 44))]
def q89 : IC := zr [zm 45 10, zv 46 (.len false (.t 45)), zm 47 0, zv 48 (.len false (.t 47)), zm 49 8, zv 50 (.len false (.t 49)), zv 51 (.bin .add .no (.t 48) (.t 50)), zv 52 (.bin .neq .no (.t 46) (.t 51)), zm 53 52, zw 53 false 54 (.ld true 3 (.t 11)), zw 53 false 55 (.ld true 3 (.t 9)), ⟨some (53, false), some 56, .call (.c (.fn 23 [] [])) [((.t 54), (.agg [.id, .id, (.sl 3)])), ((.t 55), (.agg [.id, .id, (.sl 3)]))]⟩, zw 53 false 57 (.un .not (.t 56)), zv 58 (.pick (.t 53) (.c (.bool true)) (.t 57)), zm 59 58, zw 59 false 60 (.mov (.t 10)), zw 59 false 61 (.mov (.t 0)), zw 59 false 62 (.len false (.t 61)), zw 59 false 63 (.slv 3 (.t 60) none (some (.t 62)) none), zw 59 false 64 (.mov (.t 0)), ⟨some (59, false), some 65, .call (.c (.fn 27 [] [])) [((.t 63), (.sl 3)), ((.t 64), (.sl 3))]⟩, zw 59 false 66 (.un .not (.t 65)), zv 67 (.pick (.t 59) (.c (.bool true)) (.t 66))]
def q9i : IC := zr [zv 4 zf]
def qban : IC := .drw [zp (zv 68 (.ld true 3 (.t 5))), zp (zm 69 0), zp (zv 70 (.ld true 3 (.t 3))), (zi 71 (.call (.c (.fn 28 [] [])) [((.t 69), (.sl 3)), ((.t 70), (.agg [.id, .id, (.sl 3)]))]), [0]), (zi 72 (.call (.c (.fn 23 [] [])) [((.t 68), (.agg [.id, .id, (.sl 3)])), ((.t 71), (.agg [.id, .id, (.sl 3)]))]), []), zp (zm 73 72), zp (zw 73 true 74 (.mov (.t 6))), zp (zw 73 true 75 (.mov (.t 8))), (⟨some (73, true), some 76, .call (.c (.fn 27 [] [])) [((.t 74), (.sl 3)), ((.t 75), (.sl 3))]⟩, []), zp (zv 77 (.pick (.t 73) (.t 76) (.c (.bool false)))), zp (zm 78 77), zp (zw 78 true 79 (.ld true 3 (.t 7))), zp (zw 78 true 80 (.ld true 3 (.t 9))), (⟨some (78, true), some 81, .call (.c (.fn 23 [] [])) [((.t 79), (.agg [.id, .id, (.sl 3)])), ((.t 80), (.agg [.id, .id, (.sl 3)]))]⟩, []), zp (zv 82 (.pick (.t 78) (.t 81) (.c (.bool false)))), zp (zm 83 82), (⟨some (83, true), some 84, .call (.c (.fn 10 [] [])) []⟩, []), zp (zv 85 (.pick (.t 83) (.t 84) (.c (.bool false)))), zp (zm 4 85)]
def k0b : IC := (.seq q6y (.seq (.seq q6q (.cond (.t 25) (.seq qbar .ret) .skip)) (.seq q9h (.seq q7c (.seq q8h (.seq q9k (.seq (.seq q89 (.cond (.t 67) (.seq q9i .ret) .skip)) (.seq qban .ret))))))))
@[go_sem] def s0b : List (RV × Co) := [(.t 4, .id)]
theorem c0b : cFun Try.prog 5 = some (86, k0b, s0b) := by kernel_rfl

def q8o : IC := zr [zv 2 (.mov (zc 0))]
def q6v : IC := zr [zv 3 (.mov (zc 20000))]
def q5d : IC := zr [zv 4 (.mov (zc 0))]
def q5g : IC := zr [zm 5 4, zm 6 0, zv 7 (.len false (.t 6)), zv 8 (.bin .lss .no (.t 5) (.t 7))]
def qbaj : IC := zr [zm 11 0, zm 12 4, zv 13 (.iad 3 (.t 11) (.t 12)), zv 14 (.ld true 3 (.t 13)), zm 15 3, zi 16 (.call (.c (.fn 37 [] [])) [((.t 14), (.agg [.id, .id, (.sl 3)])), ((.t 15), .id), ((zc 300), .id)]), zm 3 16]
def q83 : IC := zr [zm 9 4, zv 10 (.bin .add .no (.t 9) (zc 1)), zm 4 10]
def q70 : IC := (.seq (.seq q5g (.cond (.t 8) .skip (.exit 0))) (.seq (.block 1 qbaj) q83))
def q7y : IC := zr [zm 17 3, zv 18 (.bin .lss .no (.t 17) (zc 0))]
def q5j : IC := zr [zv 2 (.mov (zc 0))]
def q0z : IC := zr [zv 2 (.mov (zc 1))]
def k0t : IC := (.seq q8o (.seq q6v (.seq (.seq q5d (.block 0 (.loop q70))) (.seq (.seq q7y (.cond (.t 18) (.seq q5j .ret) .skip)) (.seq q0z .ret)))))
@[go_sem] def s0t : List (RV × Co) := [(.t 2, .id)]
theorem c0t : cFun Try.prog 9 = some (19, k0t, s0t) := by kernel_rfl

def q53 : IC := zr [zv 0 zf]
def q5i : IC := zr [zv 10 (.bld [(.str []), (.int .i64 0), .nils] []), zv 11 (.bld [(.str []), (.int .i64 0), .nils] [(1, 1, (zc (-1)))]), zv 12 (.bsl 3 [((.t 11), (.agg [.id, .id, (.sl 3)]))]), zv 13 (.bld [(.str []), (.int .i64 0), .nils] [(0, 1, (.c (.str [84]))), (2, 1, (.t 12))]), zi 1 (.alo [(.str []), (.int .i64 0), .nils]), zi 2 (.alo [(.str []), (.int .i64 0), .nils]), zn (.st 3 (.agg [.id, .id, (.sl 3)]) (.t 1) (.t 10)), zn (.st 3 (.agg [.id, .id, (.sl 3)]) (.t 2) (.t 13))]
def q9c : IC := zr [zv 14 (.ld true 3 (.t 1)), zv 15 (.ld true 3 (.t 2)), zv 16 (.bsl 3 [((.t 14), (.agg [.id, .id, (.sl 3)])), ((.t 15), (.agg [.id, .id, (.sl 3)]))]), zv 17 (.ld true 3 (.t 1)), zi 18 (.call (.c (.fn 24 [] [])) [((.t 16), (.sl 3)), ((.t 17), (.agg [.id, .id, (.sl 3)]))]), zi 3 (.alo [(.str []), (.int .i64 0), .nils]), zn (.st 3 (.agg [.id, .id, (.sl 3)]) (.t 3) (.t 18))]
def q7d : IC := zr [zv 20 (.ld true 3 (.t 3)), zi 21 (.call (.c (.fn 25 [] [])) [((.t 20), (.agg [.id, .id, (.sl 3)]))]), zm 19 21, zv 22 (.ext (.t 19) 0), zv 23 (.ext (.t 19) 1), zi 5 (.alo [(.str []), (.int .i64 0), .nils]), zm 4 22, zn (.st 3 (.agg [.id, .id, (.sl 3)]) (.t 5) (.t 23))]
def q7b : IC := zr [zi 25 (.call (.c (.fn 29 [] [])) [((.c (.str [97, 32, 45, 62, 32, 84, 32, 63, 48])), .id)]), zm 24 25, zv 26 (.ext (.t 24) 0), zv 27 (.ext (.t 24) 1), zi 6 (.alo [(.str []), (.int .i64 0), .nils]), zn (.st 3 (.agg [.id, .id, (.sl 3)]) (.t 6) (.t 26)), zm 7 27]
def q5t : IC := zr [zi 29 (.call (.c (.fn 29 [] [])) [((.c (.str [97, 32, 32, 45, 62, 32, 98])), .id)]), zm 28 29, zv 30 (.ext (.t 28) 0), zv 31 (.ext (.t 28) 1), zi 8 (.alo [(.str []), (.int .i64 0), .nils]), zn (.st 3 (.agg [.id, .id, (.sl 3)]) (.t 8) (.t 30)), zm 9 31]
def q98 : IC := zr [zv 32 (.ld true 3 (.t 6)), zi 33 (.call (.c (.fn 31 [] [])) [((.t 32), (.agg [.id, .id, (.sl 3)]))]), zv 34 (.bin .eql .no (.t 33) (.c (.str [97, 32, 45, 62, 32, 84, 32, 63, 48]))), zm 35 34, zw 35 true 36 (.mov (.t 7)), zw 35 true 37 (.bin .eql .no (.t 36) (zc 0)), zv 38 (.pick (.t 35) (.t 37) (.c (.bool false))), zm 39 38, zw 39 true 40 (.mov (.t 9)), zw 39 true 41 (.bin .eql .no (.t 40) (zc 5)), zv 42 (.pick (.t 39) (.t 41) (.c (.bool false))), zm 43 42, zw 43 true 44 (.mov (.t 4)), zw 43 true 45 (.len false (.t 44)), zw 43 true 46 (.bin .eql .no (.t 45) (zc 2)), zv 47 (.pick (.t 43) (.t 46) (.c (.bool false))), zm 48 47, zw 48 true 49 (.ld true 3 (.t 5)), zw 48 true 50 (.ld true 3 (.t 1)), ⟨some (48, true), some 51, .call (.c (.fn 22 [] [])) [((.t 49), (.agg [.id, .id, (.sl 3)])), ((.t 50), (.agg [.id, .id, (.sl 3)]))]⟩, zv 52 (.pick (.t 48) (.t 51) (.c (.bool false))), zm 53 52, zw 53 true 54 (.ld true 3 (.t 3)), ⟨some (53, true), some 55, .call (.c (.fn 31 [] [])) [((.t 54), (.agg [.id, .id, (.sl 3)]))]⟩, zw 53 true 56 (.bin .eql .no (.t 55) (.c (.str [97, 32, 45, 62, 32, 84, 32, 63, 48, 32, 45, 62, 32, 97]))), zv 57 (.pick (.t 53) (.t 56) (.c (.bool false))), zm 58 57, zw 58 true 59 (.ld true 3 (.t 3)), ⟨some (58, true), some 60, .call (.c (.fn 11 [] [])) [((.t 59), (.agg [.id, .id, (.sl 3)]))]⟩, zv 61 (.pick (.t 58) (.t 60) (.c (.bool false))), zm 62 61, zw 62 true 63 (.bld [(.str []), (.int .i64 0), .nils] [(0, 1, (.c (.str [45, 62])))]), ⟨some (62, true), some 64, .call (.c (.fn 11 [] [])) [((.t 63), (.agg [.id, .id, (.sl 3)]))]⟩, zw 62 true 65 (.un .not (.t 64)), zv 66 (.pick (.t 62) (.t 65) (.c (.bool false))), zm 67 66, zw 67 true 68 (.bld [(.str []), (.int .i64 0), .nils] [(0, 1, (.c (.str [33, 51])))]), ⟨some (67, true), some 69, .call (.c (.fn 11 [] [])) [((.t 68), (.agg [.id, .id, (.sl 3)]))]⟩, zv 70 (.pick (.t 67) (.t 69) (.c (.bool false))), zm 71 70, zw 71 true 72 (.ld true 3 (.t 3)), ⟨some (71, true), some 73, .call (.c (.fn 13 [] [])) [((.t 72), (.agg [.id, .id, (.sl 3)]))]⟩, zw 71 true 74 (.bin .eql .no (.t 73) (zc 6)), zv 75 (.pick (.t 71) (.t 74) (.c (.bool false))), zm 76 75, zw 76 true 77 (.ld true 3 (.t 2)), ⟨some (76, true), some 78, .call (.c (.fn 15 [] [])) [((.t 77), (.agg [.id, .id, (.sl 3)]))]⟩, zw 76 true 79 (.bin .eql .no (.t 78) (zc 2)), zv 80 (.pick (.t 76) (.t 79) (.c (.bool false))), zm 81 80, zw 81 true 82 (.ld true 3 (.t 2)), ⟨some (81, true), some 83, .call (.c (.fn 20 [] [])) [((.t 82), (.agg [.id, .id, (.sl 3)])), ((zc (-1)), .id)]⟩, zv 84 (.pick (.t 81) (.t 83) (.c (.bool false))), zm 85 84, zw 85 true 86 (.ld true 3 (.t 2)), ⟨some (85, true), some 87, .call (.c (.fn 20 [] [])) [((.t 86), (.agg [.id, .id, (.sl 3)])), ((zc 0), .id)]⟩, zw 85 true 88 (.un .not (.t 87)), zv 89 (.pick (.t 85) (.t 88) (.c (.bool false))), zm 90 89, zw 90 true 91 (.ld true 3 (.t 3)), ⟨some (90, true), some 92, .call (.c (.fn 18 [] [])) [((.t 91), (.agg [.id, .id, (.sl 3)]))]⟩, zw 90 true 93 (.bsl 1 [((zc 0), .id), ((zc (-1)), .id)]), ⟨some (90, true), some 94, .call (.c (.fn 17 [] [])) [((.t 92), (.sl 1)), ((.t 93), (.sl 1))]⟩, zv 95 (.pick (.t 90) (.t 94) (.c (.bool false))), zm 0 95]
def k0c : IC := (.seq q53 (.seq q5i (.seq q9c (.seq q7d (.seq q7b (.seq q5t (.seq q98 .ret)))))))
@[go_sem] def s0c : List (RV × Co) := [(.t 0, .id)]
theorem c0c : cFun Try.prog 10 = some (96, k0c, s0c) := by kernel_rfl

def qbaq : IC := zr [zi 1 (.box (.t 0)), zv 2 zf]
def q72 : IC := zr [zi 3 (.alo [(.int .i64 0)]), zn (.st 1 .id (.t 3) (zc 0))]
def q6n : IC := zr [zv 4 (.ld true 3 (.t 1)), zv 5 (.mfn 39 [] [(.t 3)]), zi 6 (.call (.c (.fn 38 [] [])) [((.t 4), (.agg [.id, .id, (.sl 3)])), ((zc 1), .id), ((.t 5), .id)]), zm 2 6]
def k0p : IC := (.seq qbaq (.seq q72 (.seq q6n .ret)))
@[go_sem] def s0p : List (RV × Co) := [(.t 2, .id)]
theorem c0p : cFun Try.prog 11 = some (7, k0p, s0p) := by kernel_rfl

def q43 : IC := zr [zi 1 (.box (.t 0)), zv 2 (.mov (zc 0))]
def q8v : IC := zr [zi 3 (.alo [(.int .i64 0)]), zn (.st 1 .id (.t 3) (zc 0))]
def q87 : IC := zr [zv 4 (.ld true 3 (.t 1)), zv 5 (.mfn 43 [] [(.t 3)]), zi 6 (.call (.c (.fn 38 [] [])) [((.t 4), (.agg [.id, .id, (.sl 3)])), ((zc 1), .id), ((.t 5), .id)])]
def q8d : IC := zr [zv 7 (.ld false 1 (.t 3)), zm 2 7]
def k0q : IC := (.seq q43 (.seq q8v (.seq q87 (.seq q8d .ret))))
@[go_sem] def s0q : List (RV × Co) := [(.t 2, .id)]
theorem c0q : cFun Try.prog 13 = some (8, k0q, s0q) := by kernel_rfl

def q7v : IC := zr [zi 1 (.box (.t 0)), zv 2 (.mov (zc 0))]
def q82 : IC := zr [zi 3 (.alo [(.int .i64 0)]), zn (.st 1 .id (.t 3) (zc 0))]
def q7q : IC := zr [zv 4 (.ld true 3 (.t 1)), zv 5 (.mfn 44 [] [(.t 3)]), zi 6 (.call (.c (.fn 38 [] [])) [((.t 4), (.agg [.id, .id, (.sl 3)])), ((zc 1), .id), ((.t 5), .id)])]
def q60 : IC := zr [zv 7 (.ld false 1 (.t 3)), zm 2 7]
def k0r : IC := (.seq q7v (.seq q82 (.seq q7q (.seq q60 .ret))))
@[go_sem] def s0r : List (RV × Co) := [(.t 2, .id)]
theorem c0r : cFun Try.prog 15 = some (8, k0r, s0r) := by kernel_rfl

def q4q : IC := zr [zv 4 zf]
def qbaa : IC := zr [zm 6 0, zv 7 (.len false (.t 6)), zm 8 1, zv 9 (.len false (.t 8)), zv 10 (.bin .neq .no (.t 7) (.t 9))]
def q6o : IC := zr [zv 4 zf]
def q6k : IC := zr [zv 5 (.mov (zc 0))]
def q4y : IC := zr [zm 11 5, zm 12 0, zv 13 (.len false (.t 12)), zv 14 (.bin .lss .no (.t 11) (.t 13))]
def q6d : IC := .drw [zp (zm 17 0), zp (zm 18 5), zp (zv 19 (.iad 1 (.t 17) (.t 18))), zp (zv 20 (.ld false 1 (.t 19))), zp (zm 21 1), zp (zm 22 5), zp (zv 23 (.iad 1 (.t 21) (.t 22))), zp (zv 24 (.ld false 1 (.t 23))), zp (zv 25 (.bin .neq .no (.t 20) (.t 24)))]
def q9q : IC := zr [zv 4 zf]
def q6x : IC := zr [zm 15 5, zv 16 (.bin .add .no (.t 15) (zc 1)), zm 5 16]
def qbai : IC := (.seq (.seq q4y (.cond (.t 14) .skip (.exit 0))) (.seq (.block 1 (.seq q6d (.cond (.t 25) (.seq q9q .ret) .skip))) q6x))
def q3v : IC := zr [zv 4 (.mov (.c (.bool true)))]
def k0w : IC := (.seq q4q (.seq (.seq qbaa (.cond (.t 10) (.seq q6o .ret) .skip)) (.seq (.seq q6k (.block 0 (.loop qbai))) (.seq q3v .ret))))
@[go_sem] def s0w : List (RV × Co) := [(.t 4, .id)]
theorem c0w : cFun Try.prog 17 = some (26, k0w, s0w) := by kernel_rfl

def q5m : IC := zr [zi 1 (.box (.t 0)), zv 2 (.mov (.c .nils))]
def q9w : IC := zr [zi 3 (.alo [.nils])]
def qbaf : IC := zr [zv 4 (.ld true 3 (.t 1)), zv 5 (.mfn 45 [] [(.t 3)]), zi 6 (.call (.c (.fn 38 [] [])) [((.t 4), (.agg [.id, .id, (.sl 3)])), ((zc 1), .id), ((.t 5), .id)])]
def q9d : IC := zr [zv 7 (.ld false 1 (.t 3)), zm 2 7]
def k0y : IC := (.seq q5m (.seq q9w (.seq qbaf (.seq q9d .ret))))
@[go_sem] def s0y : List (RV × Co) := [(.t 2, (.sl 1))]
theorem c0y : cFun Try.prog 18 = some (8, k0y, s0y) := by kernel_rfl

def q7x : IC := zr [zi 2 (.box (.t 0)), zi 3 (.box (.t 1)), zv 4 zf]
def q9s : IC := zr [zv 5 (.ld true 3 (.t 2)), zv 6 (.mfn 49 [] [(.t 3)]), zi 7 (.call (.c (.fn 38 [] [])) [((.t 5), (.agg [.id, .id, (.sl 3)])), ((zc 1), .id), ((.t 6), .id)]), zv 8 (.un .not (.t 7)), zm 4 8]
def k0e : IC := (.seq q7x (.seq q9s .ret))
@[go_sem] def s0e : List (RV × Co) := [(.t 4, .id)]
theorem c0e : cFun Try.prog 20 = some (9, k0e, s0e) := by kernel_rfl

def qxy : IC := zr [zi 2 (.box (.t 0)), zi 3 (.box (.t 1)), zv 4 zf]
def qzq : IC := .drw [zp (zv 6 (.ld true 3 (.t 2))), (zi 7 (.call (.c (.fn 40 [] [])) [((.t 6), (.agg [.id, .id, (.sl 3)]))]), []), (zv 8 (.ld true 3 (.t 3)), [1]), (zi 9 (.call (.c (.fn 40 [] [])) [((.t 8), (.agg [.id, .id, (.sl 3)]))]), []), (zv 10 (.bin .neq (.cells [.str, (.int .i64), (.int .i64)]) (.t 7) (.t 9)), [])]
def qwz : IC := zr [zv 4 zf]
def q3r : IC := zr [zv 11 (.fad (.t 2) 2), zv 12 (.ld false 1 (.t 11)), zv 13 (.len false (.t 12)), zv 14 (.mov (zc 0))]
def q1r : IC := zr [zv 15 (.bin .lss .no (.t 14) (.t 13))]
def qyo : IC := zr [zm 16 14, zm 5 16]
def qw1 : IC := .drw [zp (zv 17 (.fad (.t 2) 2)), zp (zv 18 (.ld false 1 (.t 17))), zp (zm 19 5), zp (zv 20 (.iad 3 (.t 18) (.t 19))), zp (zv 21 (.ld true 3 (.t 20))), zp (zv 22 (.fad (.t 3) 2)), zp (zv 23 (.ld false 1 (.t 22))), zp (zm 24 5), zp (zv 25 (.iad 3 (.t 23) (.t 24))), zp (zv 26 (.ld true 3 (.t 25))), (zi 27 (.call (.c (.fn 22 [] [])) [((.t 21), (.agg [.id, .id, (.sl 3)])), ((.t 26), (.agg [.id, .id, (.sl 3)]))]), []), zp (zv 28 (.un .not (.t 27)))]
def qyp : IC := zr [zv 4 zf]
def qzc : IC := zr [zv 29 (.bin .add .no (.t 14) (zc 1)), zm 14 29]
def q2q : IC := (.seq q1r (.seq (.cond (.t 15) .skip (.exit 0)) (.seq (.block 1 (.seq qyo (.seq qw1 (.cond (.t 28) (.seq qyp .ret) .skip)))) qzc)))
def qsf : IC := zr [zv 4 (.mov (.c (.bool true)))]
def k0ba : IC := (.seq qxy (.seq (.seq qzq (.cond (.t 10) (.seq qwz .ret) .skip)) (.seq (.seq q3r (.block 0 (.loop q2q))) (.seq qsf .ret))))
@[go_sem] def s0ba : List (RV × Co) := [(.t 4, .id)]
theorem c0ba : cFun Try.prog 22 = some (30, k0ba, s0ba) := by kernel_rfl

def q38 : IC := zr [zi 2 (.box (.t 0)), zi 3 (.box (.t 1)), zv 4 zf]
def q0o : IC := zr [zv 6 (.fad (.t 2) 0), zv 7 (.ld false 1 (.t 6)), zv 8 (.fad (.t 3) 0), zv 9 (.ld false 1 (.t 8)), zv 10 (.bin .neq .no (.t 7) (.t 9)), zm 11 10, zw 11 false 12 (.fad (.t 2) 1), zw 11 false 13 (.ld false 1 (.t 12)), zw 11 false 14 (.fad (.t 3) 1), zw 11 false 15 (.ld false 1 (.t 14)), zw 11 false 16 (.bin .neq .no (.t 13) (.t 15)), zv 17 (.pick (.t 11) (.c (.bool true)) (.t 16)), zm 18 17, zw 18 false 19 (.fad (.t 2) 2), zw 18 false 20 (.ld false 1 (.t 19)), zw 18 false 21 (.len false (.t 20)), zw 18 false 22 (.fad (.t 3) 2), zw 18 false 23 (.ld false 1 (.t 22)), zw 18 false 24 (.len false (.t 23)), zw 18 false 25 (.bin .neq .no (.t 21) (.t 24)), zv 26 (.pick (.t 18) (.c (.bool true)) (.t 25))]
def q3g : IC := zr [zv 4 zf]
def qxs : IC := zr [zv 5 (.mov (zc 0))]
def q0f : IC := zr [zm 27 5, zv 28 (.fad (.t 2) 2), zv 29 (.ld false 1 (.t 28)), zv 30 (.len false (.t 29)), zv 31 (.bin .lss .no (.t 27) (.t 30))]
def q0p : IC := .drw [zp (zv 34 (.fad (.t 2) 2)), zp (zv 35 (.ld false 1 (.t 34))), zp (zm 36 5), zp (zv 37 (.iad 3 (.t 35) (.t 36))), zp (zv 38 (.ld true 3 (.t 37))), zp (zv 39 (.fad (.t 3) 2)), zp (zv 40 (.ld false 1 (.t 39))), zp (zm 41 5), zp (zv 42 (.iad 3 (.t 40) (.t 41))), zp (zv 43 (.ld true 3 (.t 42))), (zi 44 (.call (.c (.fn 23 [] [])) [((.t 38), (.agg [.id, .id, (.sl 3)])), ((.t 43), (.agg [.id, .id, (.sl 3)]))]), []), zp (zv 45 (.un .not (.t 44)))]
def qx1 : IC := zr [zv 4 zf]
def q3p : IC := zr [zm 32 5, zv 33 (.bin .add .no (.t 32) (zc 1)), zm 5 33]
def qxd : IC := (.seq (.seq q0f (.cond (.t 31) .skip (.exit 0))) (.seq (.block 1 (.seq q0p (.cond (.t 45) (.seq qx1 .ret) .skip))) q3p))
def qs1 : IC := zr [zv 4 (.mov (.c (.bool true)))]
def k0bb : IC := (.seq q38 (.seq (.seq q0o (.cond (.t 26) (.seq q3g .ret) .skip)) (.seq (.seq qxs (.block 0 (.loop qxd))) (.seq qs1 .ret))))
@[go_sem] def s0bb : List (RV × Co) := [(.t 4, .id)]
theorem c0bb : cFun Try.prog 23 = some (46, k0bb, s0bb) := by kernel_rfl

def q85 : IC := zr [zi 3 (.box (.t 1)), zi 4 (.alo [(.str []), (.int .i64 0), .nils])]
def qbab : IC := zr [zm 7 0, zi 8 (.call (.c (.fn 51 [] [])) [((.t 7), (.sl 3))])]
def qbak : IC := zr [zv 11 (.ld true 3 (.t 6)), zv 12 (.ld true 3 (.t 3)), zv 13 (.bsl 3 [((.t 11), (.agg [.id, .id, (.sl 3)])), ((.t 12), (.agg [.id, .id, (.sl 3)]))]), zv 14 (.bld [(.str []), (.int .i64 0), .nils] [(0, 1, (.c (.str [45, 62]))), (2, 1, (.t 13))]), zn (.st 3 (.agg [.id, .id, (.sl 3)]) (.t 3) (.t 14))]
def qwi : IC := (.block 1 qbak)
def qwv : IC := zr [zi 6 (.alo [(.str []), (.int .i64 0), .nils]), zn (.st 3 (.agg [.id, .id, (.sl 3)]) (.t 6) (.t 10))]
def q5s : IC := zr [zv 15 (.ld true 3 (.t 3)), zn (.st 3 (.agg [.id, .id, (.sl 3)]) (.t 4) (.t 15))]
def k0j : IC := (.seq q85 (.seq (.seq qbab (.block 0 (.rng (.t 8) [9, 10] qwv qwi))) (.seq q5s .ret)))
@[go_sem] def s0j : List (RV × Co) := [(.c true 3 4, (.agg [.id, .id, (.sl 3)]))]
theorem c0j : cFun Try.prog 24 = some (16, k0j, s0j) := by kernel_rfl

def q56 : IC := zr [zi 1 (.box (.t 0)), zv 2 (.mov (.c .nils)), zi 3 (.alo [(.str []), (.int .i64 0), .nils])]
def q9b : IC := zr [zv 4 (.mov (.c .nils))]
def q5a : IC := zr [zv 5 (.fad (.t 1) 0), zv 6 (.ld false 1 (.t 5)), zv 7 (.bin .eql .no (.t 6) (.c (.str [45, 62]))), zm 8 7, zw 8 true 9 (.fad (.t 1) 2), zw 8 true 10 (.ld false 1 (.t 9)), zw 8 true 11 (.len false (.t 10)), zw 8 true 12 (.bin .eql .no (.t 11) (zc 2)), zv 13 (.pick (.t 8) (.t 12) (.c (.bool false)))]
def q7k : IC := .drw [zp (zm 14 4), zp (zv 15 (.fad (.t 1) 2)), zp (zv 16 (.ld false 1 (.t 15))), zp (zv 17 (.iad 3 (.t 16) (zc 0))), zp (zv 18 (.ld true 3 (.t 17))), (zv 19 (.bsl 3 [((.t 18), (.agg [.id, .id, (.sl 3)]))]), []), (zi 20 (.app 3 (.agg [(.str []), (.int .i64 0), .nils]) 48 (.sl 3) (.t 14) (.t 19)), []), zp (zv 21 (.fad (.t 1) 2)), (zv 22 (.ld false 1 (.t 21)), [6]), zp (zv 23 (.iad 3 (.t 22) (zc 1))), (zv 24 (.ld true 3 (.t 23)), [6]), zp (zm 4 20), (zn (.st 3 (.agg [.id, .id, (.sl 3)]) (.t 1) (.t 24)), [])]
def q8x : IC := (.seq (.seq q5a (.cond (.t 13) .skip (.exit 0))) (.block 1 q7k))
def q97 : IC := .drw [zp (zm 25 4), zp (zv 26 (.ld true 3 (.t 1))), zp (zm 2 25), (zn (.st 3 (.agg [.id, .id, (.sl 3)]) (.t 3) (.t 26)), [])]
def k0l : IC := (.seq q56 (.seq q9b (.seq (.block 0 (.loop q8x)) (.seq q97 .ret))))
@[go_sem] def s0l : List (RV × Co) := [(.t 2, (.sl 3)), (.c true 3 3, (.agg [.id, .id, (.sl 3)]))]
theorem c0l : cFun Try.prog 25 = some (27, k0l, s0l) := by kernel_rfl

def q52 : IC := zr [zi 1 (.box (.t 0)), zv 2 (.mov (.c .nils)), zi 3 (.alo [(.str []), (.int .i64 0), .nils])]
def q49 : IC := zr [zv 4 (.mov (.c .nils))]
def q7u : IC := zr [zv 5 (.fad (.t 1) 0), zv 6 (.ld false 1 (.t 5)), zv 7 (.bin .eql .no (.t 6) (.c (.str [45, 62]))), zm 8 7, zw 8 true 9 (.fad (.t 1) 2), zw 8 true 10 (.ld false 1 (.t 9)), zw 8 true 11 (.len false (.t 10)), zw 8 true 12 (.bin .eql .no (.t 11) (zc 2)), zv 13 (.pick (.t 8) (.t 12) (.c (.bool false)))]
def q8j : IC := zr [zm 14 4, zv 15 (.fad (.t 1) 2), zv 16 (.ld false 1 (.t 15)), zv 17 (.iad 3 (.t 16) (zc 0)), zv 18 (.ld true 3 (.t 17)), zv 19 (.bsl 3 [((.t 18), (.agg [.id, .id, (.sl 3)]))]), zi 20 (.app 3 (.agg [(.str []), (.int .i64 0), .nils]) 48 (.sl 3) (.t 14) (.t 19)), zm 4 20]
def q62 : IC := zr [zv 21 (.fad (.t 1) 2), zv 22 (.ld false 1 (.t 21)), zv 23 (.iad 3 (.t 22) (zc 1)), zv 24 (.ld true 3 (.t 23)), zn (.st 3 (.agg [.id, .id, (.sl 3)]) (.t 1) (.t 24))]
def q9j : IC := (.seq (.seq q7u (.cond (.t 13) .skip (.exit 0))) (.block 1 (.seq q8j q62)))
def q4o : IC := .drw [zp (zm 25 4), zp (zv 26 (.ld true 3 (.t 1))), zp (zm 2 25), (zn (.st 3 (.agg [.id, .id, (.sl 3)]) (.t 3) (.t 26)), [])]
def k0k : IC := (.seq q52 (.seq q49 (.seq (.block 0 (.loop q9j)) (.seq q4o .ret))))
@[go_sem] def s0k : List (RV × Co) := [(.t 2, (.sl 3)), (.c true 3 3, (.agg [.id, .id, (.sl 3)]))]
theorem c0k : cFun Try.prog 26 = some (27, k0k, s0k) := by kernel_rfl

def q73 : IC := zr [zv 4 zf]
def q5k : IC := zr [zm 6 0, zv 7 (.len false (.t 6)), zm 8 1, zv 9 (.len false (.t 8)), zv 10 (.bin .neq .no (.t 7) (.t 9))]
def q9f : IC := zr [zv 4 zf]
def q46 : IC := zr [zv 5 (.mov (zc 0))]
def qbal : IC := zr [zm 11 5, zm 12 0, zv 13 (.len false (.t 12)), zv 14 (.bin .lss .no (.t 11) (.t 13))]
def q5l : IC := .drw [zp (zm 17 0), zp (zm 18 5), zp (zv 19 (.iad 3 (.t 17) (.t 18))), zp (zv 20 (.ld true 3 (.t 19))), zp (zm 21 1), zp (zm 22 5), zp (zv 23 (.iad 3 (.t 21) (.t 22))), zp (zv 24 (.ld true 3 (.t 23))), (zi 25 (.call (.c (.fn 23 [] [])) [((.t 20), (.agg [.id, .id, (.sl 3)])), ((.t 24), (.agg [.id, .id, (.sl 3)]))]), []), zp (zv 26 (.un .not (.t 25)))]
def q88 : IC := zr [zv 4 zf]
def q9m : IC := zr [zm 15 5, zv 16 (.bin .add .no (.t 15) (zc 1)), zm 5 16]
def q8k : IC := (.seq (.seq qbal (.cond (.t 14) .skip (.exit 0))) (.seq (.block 1 (.seq q5l (.cond (.t 26) (.seq q88 .ret) .skip))) q9m))
def qww : IC := zr [zv 4 (.mov (.c (.bool true)))]
def k0a : IC := (.seq q73 (.seq (.seq q5k (.cond (.t 10) (.seq q9f .ret) .skip)) (.seq (.seq q46 (.block 0 (.loop q8k))) (.seq qww .ret))))
@[go_sem] def s0a : List (RV × Co) := [(.t 4, .id)]
theorem c0a : cFun Try.prog 27 = some (27, k0a, s0a) := by kernel_rfl

def q5v : IC := zr [zi 3 (.box (.t 1)), zi 4 (.alo [(.str []), (.int .i64 0), .nils])]
def q4t : IC := zr [zm 6 0, zv 7 (.len false (.t 6)), zv 8 (.bin .sub .no (.t 7) (zc 1)), zm 5 8]
def q6z : IC := zr [zm 9 5, zv 10 (.bin .geq .no (.t 9) (zc 0))]
def q6c : IC := .drw [zp (zm 13 0), zp (zm 14 5), zp (zv 15 (.iad 3 (.t 13) (.t 14))), zp (zv 16 (.ld true 3 (.t 15))), zp (zv 17 (.ld true 3 (.t 3))), (zi 18 (.call (.c (.fn 52 [] [])) [((.t 16), (.agg [.id, .id, (.sl 3)])), ((.t 17), (.agg [.id, .id, (.sl 3)]))]), []), (zn (.st 3 (.agg [.id, .id, (.sl 3)]) (.t 3) (.t 18)), [])]
def q8z : IC := zr [zm 11 5, zv 12 (.bin .sub .no (.t 11) (zc 1)), zm 5 12]
def q9z : IC := (.seq (.seq q6z (.cond (.t 10) .skip (.exit 0))) (.seq (.block 1 q6c) q8z))
def qbag : IC := zr [zv 19 (.ld true 3 (.t 3)), zn (.st 3 (.agg [.id, .id, (.sl 3)]) (.t 4) (.t 19))]
def k0g : IC := (.seq q5v (.seq (.seq q4t (.block 0 (.loop q9z))) (.seq qbag .ret)))
@[go_sem] def s0g : List (RV × Co) := [(.c true 3 4, (.agg [.id, .id, (.sl 3)]))]
theorem c0g : cFun Try.prog 28 = some (20, k0g, s0g) := by kernel_rfl

def q31 : IC := zr [zi 2 (.alo [(.str []), (.int .i64 0), .nils]), zv 3 (.mov (zc 0))]
def qwx : IC := zr [zm 6 0, zv 7 (.bld [(.str []), (.int .i64 0), (.bool false)] [(0, 1, (.t 6))]), zi 8 (.box (.t 7)), zm 4 8]
def q3s : IC := zr [zm 9 4, zi 10 (.call (.c (.fn 53 [] [])) [((.t 9), .id)]), zi 5 (.alo [(.str []), (.int .i64 0), .nils]), zn (.st 3 (.agg [.id, .id, (.sl 3)]) (.t 5) (.t 10))]
def q08 : IC := zr [zm 11 4, zv 12 (.nck (.t 11)), zv 13 (.fad (.t 12) 2), zv 14 (.ld false 1 (.t 13)), zm 15 14, zw 15 false 16 (.mov (.t 4)), zw 15 false 17 (.nck (.t 16)), zw 15 false 18 (.fad (.t 17) 0), zw 15 false 19 (.ld false 1 (.t 18)), zw 15 false 20 (.bin .neq .no (.t 19) (.c (.str []))), zv 21 (.pick (.t 15) (.c (.bool true)) (.t 20)), zm 22 21, zw 22 false 23 (.ld true 3 (.t 5)), ⟨some (22, false), some 24, .call (.c (.fn 31 [] [])) [((.t 23), (.agg [.id, .id, (.sl 3)]))]⟩, zw 22 false 25 (.mov (.t 0)), zw 22 false 26 (.bin .neq .no (.t 24) (.t 25)), zv 27 (.pick (.t 22) (.c (.bool true)) (.t 26))]
def q1e : IC := zr [zv 28 (.bld [(.str []), (.int .i64 0), .nils] []), zn (.st 3 (.agg [.id, .id, (.sl 3)]) (.t 2) (.t 28)), zv 3 (.mov (zc 5))]
def q2k : IC := zr [zv 29 (.ld true 3 (.t 5)), zn (.st 3 (.agg [.id, .id, (.sl 3)]) (.t 2) (.t 29)), zv 3 (.mov (zc 0))]
def k0bs : IC := (.seq q31 (.seq qwx (.seq q3s (.seq (.seq q08 (.cond (.t 27) (.seq q1e .ret) .skip)) (.seq q2k .ret)))))
@[go_sem] def s0bs : List (RV × Co) := [(.c true 3 2, (.agg [.id, .id, (.sl 3)])), (.t 3, .id)]
theorem c0bs : cFun Try.prog 29 = some (30, k0bs, s0bs) := by kernel_rfl

def qy6 : IC := zr [zi 1 (.box (.t 0)), zv 2 (.mov (.c (.str [])))]
def q02 : IC := zr [zv 3 (.ld true 3 (.t 1)), zi 4 (.call (.c (.fn 11 [] [])) [((.t 3), (.agg [.id, .id, (.sl 3)]))]), zv 5 (.un .not (.t 4))]
def qzo : IC := zr [zv 2 (.mov (.c (.str [])))]
def q2e : IC := zr [zv 6 (.ld true 3 (.t 1)), zi 7 (.call (.c (.fn 56 [] [])) [((.t 6), (.agg [.id, .id, (.sl 3)]))]), zm 2 7]
def k0cc : IC := (.seq qy6 (.seq (.seq q02 (.cond (.t 5) (.seq qzo .ret) .skip)) (.seq q2e .ret)))
@[go_sem] def s0cc : List (RV × Co) := [(.t 2, .id)]
theorem c0cc : cFun Try.prog 31 = some (8, k0cc, s0cc) := by kernel_rfl

def q65 : IC := zr [zi 3 (.box (.t 0)), zv 6 (.mov (zc 0))]
def q7o : IC := zr [zm 8 1, zv 9 (.bin .sub .no (.t 8) (zc 1)), zm 1 9]
def q4k : IC := zr [zm 10 2, zv 11 (.bin .lss .no (.t 10) (zc 1))]
def q4s : IC := zr [zv 6 (.mov (zc (-1)))]
def q63 : IC := zr [zv 7 (.mov (zc 0))]
def q6h : IC := zr [zm 12 7, zv 13 (.fad (.t 3) 2), zv 14 (.ld false 1 (.t 13)), zv 15 (.len false (.t 14)), zv 16 (.bin .lss .no (.t 12) (.t 15)), zm 17 16, zw 17 true 18 (.mov (.t 1)), zw 17 true 19 (.bin .geq .no (.t 18) (zc 0)), zv 20 (.pick (.t 17) (.t 19) (.c (.bool false)))]
def qbau : IC := zr [zv 23 (.fad (.t 3) 2), zv 24 (.ld false 1 (.t 23)), zm 25 7, zv 26 (.iad 3 (.t 24) (.t 25)), zv 27 (.ld true 3 (.t 26)), zm 28 1, zm 29 2, zv 30 (.bin .sub .no (.t 29) (zc 1)), zi 31 (.call (.c (.fn 37 [] [])) [((.t 27), (.agg [.id, .id, (.sl 3)])), ((.t 28), .id), ((.t 30), .id)]), zm 1 31]
def q5f : IC := zr [zm 21 7, zv 22 (.bin .add .no (.t 21) (zc 1)), zm 7 22]
def q5y : IC := (.seq (.seq q6h (.cond (.t 20) .skip (.exit 0))) (.seq (.block 1 qbau) q5f))
def q0t : IC := zr [zm 32 1, zm 6 32]
def k0s : IC := (.seq q65 (.seq q7o (.seq (.seq q4k (.cond (.t 11) (.seq q4s .ret) .skip)) (.seq (.seq q63 (.block 0 (.loop q5y))) (.seq q0t .ret)))))
@[go_sem] def s0s : List (RV × Co) := [(.t 6, .id)]
theorem c0s : cFun Try.prog 37 = some (33, k0s, s0s) := by kernel_rfl

def qyq : IC := zr [zi 3 (.box (.t 0)), zv 6 zf]
def q3b : IC := zr [zm 9 2, zv 10 (.ld true 3 (.t 3)), zm 11 1, zi 12 (.call (.t 9) [((.t 10), (.agg [.id, .id, (.sl 3)])), ((.t 11), .id)]), zv 13 (.un .not (.t 12))]
def q06 : IC := zr [zv 6 zf]
def qzz : IC := zr [zv 14 (.fad (.t 3) 2), zv 15 (.ld false 1 (.t 14)), zv 16 (.len false (.t 15)), zv 17 (.mov (zc 0))]
def q26 : IC := zr [zv 18 (.bin .lss .no (.t 17) (.t 16))]
def qzb : IC := zr [zv 19 (.iad 3 (.t 15) (.t 17)), zv 20 (.ld true 3 (.t 19)), zi 8 (.alo [(.str []), (.int .i64 0), .nils]), zn (.st 3 (.agg [.id, .id, (.sl 3)]) (.t 8) (.t 20))]
def qxt : IC := zr [zv 21 (.ld true 3 (.t 8)), zm 22 1, zv 23 (.bin .add .no (.t 22) (zc 1)), zm 24 2, zi 25 (.call (.c (.fn 38 [] [])) [((.t 21), (.agg [.id, .id, (.sl 3)])), ((.t 23), .id), ((.t 24), .id)]), zv 26 (.un .not (.t 25))]
def q10 : IC := zr [zv 6 zf]
def q4a : IC := zr [zv 27 (.bin .add .no (.t 17) (zc 1)), zm 17 27]
def qw2 : IC := (.seq q26 (.seq (.cond (.t 18) .skip (.exit 0)) (.seq (.block 1 (.seq qzb (.seq qxt (.cond (.t 26) (.seq q10 .ret) .skip)))) q4a)))
def qs8 : IC := zr [zv 6 (.mov (.c (.bool true)))]
def k0be : IC := (.seq qyq (.seq (.seq q3b (.cond (.t 13) (.seq q06 .ret) .skip)) (.seq (.seq qzz (.block 0 (.loop qw2))) (.seq qs8 .ret))))
@[go_sem] def s0be : List (RV × Co) := [(.t 6, .id)]
theorem c0be : cFun Try.prog 38 = some (28, k0be, s0be) := by kernel_rfl

def q7n : IC := zr [zi 3 (.box (.t 0)), zv 5 zf]
def q9o : IC := zr [zv 6 (.ld false 1 (.t 2)), zv 7 (.bin .add .no (.t 6) (zc 1)), zn (.st 1 .id (.t 2) (.t 7))]
def q8b : IC := zr [zv 8 (.ld false 1 (.t 2)), zv 9 (.bin .leq .no (.t 8) (zc 4096)), zm 10 9, zw 10 true 11 (.mov (.t 1)), zw 10 true 12 (.bin .leq .no (.t 11) (zc 100)), zv 13 (.pick (.t 10) (.t 12) (.c (.bool false))), zm 14 13, zw 14 true 15 (.ld true 3 (.t 3)), ⟨some (14, true), some 16, .call (.c (.fn 40 [] [])) [((.t 15), (.agg [.id, .id, (.sl 3)]))]⟩, ⟨some (14, true), some 17, .call (.c (.fn 41 [] [])) [((.t 16), .id)]⟩, zv 18 (.pick (.t 14) (.t 17) (.c (.bool false))), zm 5 18]
def k0m : IC := (.seq q7n (.seq q9o (.seq q8b .ret)))
@[go_sem] def s0m : List (RV × Co) := [(.t 5, .id)]
theorem c0m : cFun Try.prog 39 = some (19, k0m, s0m) := by kernel_rfl

def q5h : IC := zr [zi 1 (.box (.t 0)), zi 2 (.alo [(.str []), (.int .i64 0), (.int .i64 0)])]
def q5p : IC := zr [zv 3 (.fad (.t 1) 0), zv 4 (.ld false 1 (.t 3)), zv 5 (.fad (.t 1) 1), zv 6 (.ld false 1 (.t 5)), zv 7 (.fad (.t 1) 2), zv 8 (.ld false 1 (.t 7)), zv 9 (.len false (.t 8)), zv 10 (.bld [(.str []), (.int .i64 0), (.int .i64 0)] [(0, 1, (.t 4)), (1, 1, (.t 6)), (2, 1, (.t 9))]), zn (.st 3 .id (.t 2) (.t 10))]
def k0z : IC := (.seq q5h (.seq q5p .ret))
@[go_sem] def s0z : List (RV × Co) := [(.c true 3 2, .id)]
theorem c0z : cFun Try.prog 40 = some (11, k0z, s0z) := by kernel_rfl

def qz2 : IC := zr [zi 1 (.box (.t 0)), zv 2 zf]
def q01 : IC := zr [zv 4 (.fad (.t 1) 0), zv 5 (.ld false 1 (.t 4)), zv 6 (.bin .eql .no (.t 5) (.c (.str []))), zm 3 6]
def qyr : IC := zr [zv 7 (.fad (.t 1) 2), zv 8 (.ld false 1 (.t 7)), zv 9 (.bin .eql .no (.t 8) (zc 0)), zm 2 9]
def qyi : IC := zr [zv 11 (.fad (.t 1) 0), zv 12 (.ld false 1 (.t 11)), zv 13 (.bin .eql .no (.t 12) (.c (.str [45, 62]))), zm 10 13]
def q12 : IC := zr [zv 14 (.ld true 3 (.t 1)), zv 15 (.bld [(.str []), (.int .i64 0), (.int .i64 0)] [(0, 1, (.c (.str [45, 62]))), (1, 1, (zc 0)), (2, 1, (zc 2))]), zv 16 (.bin .eql (.cells [.str, (.int .i64), (.int .i64)]) (.t 14) (.t 15)), zm 2 16]
def qyw : IC := zr [zv 18 (.fad (.t 1) 0), zv 19 (.ld false 1 (.t 18)), zi 20 (.call (.c (.fn 65 [] [])) [((.t 19), .id)]), zm 17 20]
def q2o : IC := zr [zv 21 (.ld true 3 (.t 1)), zv 22 (.fad (.t 1) 0), zv 23 (.ld false 1 (.t 22)), zv 24 (.bld [(.str []), (.int .i64 0), (.int .i64 0)] [(0, 1, (.t 23))]), zv 25 (.bin .eql (.cells [.str, (.int .i64), (.int .i64)]) (.t 21) (.t 24)), zm 2 25]
def qzd : IC := zr [zv 26 (.fad (.t 1) 1), zv 27 (.ld false 1 (.t 26)), zv 28 (.bin .eql .no (.t 27) (zc 0)), zm 29 28, zw 29 true 30 (.fad (.t 1) 0), zw 29 true 31 (.ld false 1 (.t 30)), ⟨some (29, true), some 32, .call (.c (.fn 66 [] [])) [((.t 31), .id)]⟩, zv 33 (.pick (.t 29) (.t 32) (.c (.bool false))), zm 2 33]
def k0bd : IC := (.seq qz2 (.seq (.block 0 (.seq q01 (.cond (.t 3) (.seq qyr .ret) (.seq qyi (.cond (.t 10) (.seq q12 .ret) (.seq qyw (.cond (.t 17) (.seq q2o .ret) .skip))))))) (.seq qzd .ret)))
@[go_sem] def s0bd : List (RV × Co) := [(.t 2, .id)]
theorem c0bd : cFun Try.prog 41 = some (34, k0bd, s0bd) := by kernel_rfl

def q7e : IC := zr [zi 3 (.box (.t 0)), zv 5 zf]
def q64 : IC := zr [zv 6 (.ld false 1 (.t 2)), zv 7 (.bin .add .no (.t 6) (zc 1)), zn (.st 1 .id (.t 2) (.t 7))]
def q5x : IC := zr [zv 5 (.mov (.c (.bool true)))]
def k0n : IC := (.seq q7e (.seq q64 (.seq q5x .ret)))
@[go_sem] def s0n : List (RV × Co) := [(.t 5, .id)]
theorem c0n : cFun Try.prog 43 = some (8, k0n, s0n) := by kernel_rfl

def qbam : IC := zr [zi 3 (.box (.t 0)), zv 5 zf]
def q9a : IC := zr [zv 6 (.ld false 1 (.t 2)), zm 7 1, zv 8 (.mm true (.t 6) (.t 7)), zn (.st 1 .id (.t 2) (.t 8))]
def q6r : IC := zr [zv 5 (.mov (.c (.bool true)))]
def k0o : IC := (.seq qbam (.seq q9a (.seq q6r .ret)))
@[go_sem] def s0o : List (RV × Co) := [(.t 5, .id)]
theorem c0o : cFun Try.prog 44 = some (9, k0o, s0o) := by kernel_rfl

def q4j : IC := zr [zi 3 (.box (.t 0)), zv 5 zf]
def q7f : IC := zr [zv 6 (.fad (.t 3) 0), zv 7 (.ld false 1 (.t 6)), zv 8 (.bin .eql .no (.t 7) (.c (.str []))), zm 9 8, zw 9 true 10 (.ld false 1 (.t 2)), zw 9 true 11 (.fad (.t 3) 1), zw 9 true 12 (.ld false 1 (.t 11)), ⟨some (9, true), some 13, .call (.c (.fn 46 [] [])) [((.t 10), (.sl 1)), ((.t 12), .id)]⟩, zw 9 true 14 (.un .not (.t 13)), zv 15 (.pick (.t 9) (.t 14) (.c (.bool false)))]
def q5z : IC := zr [zv 16 (.ld false 1 (.t 2)), zv 17 (.fad (.t 3) 1), zv 18 (.ld false 1 (.t 17)), zv 19 (.bsl 1 [((.t 18), .id)]), zi 20 (.app 1 (.int .i64 0) 8 (.sl 1) (.t 16) (.t 19)), zn (.st 1 (.sl 1) (.t 2) (.t 20))]
def q8e : IC := zr [zv 5 (.mov (.c (.bool true)))]
def k0x : IC := (.seq q4j (.seq (.seq q7f (.cond (.t 15) q5z .skip)) (.seq q8e .ret)))
@[go_sem] def s0x : List (RV × Co) := [(.t 5, .id)]
theorem c0x : cFun Try.prog 45 = some (21, k0x, s0x) := by kernel_rfl

def q67 : IC := zr [zv 4 zf]
def q9x : IC := zr [zm 5 0, zm 6 1, zi 7 (.call (.c (.fn 69 [] [])) [((.t 5), (.sl 1)), ((.t 6), .id)]), zv 8 (.bin .geq .no (.t 7) (zc 0)), zm 4 8]
def k0v : IC := (.seq q67 (.seq q9x .ret))
@[go_sem] def s0v : List (RV × Co) := [(.t 4, .id)]
theorem c0v : cFun Try.prog 46 = some (9, k0v, s0v) := by kernel_rfl

def q8y : IC := zr [zi 3 (.box (.t 0)), zv 5 zf]
def q5n : IC := zr [zv 6 (.fad (.t 3) 0), zv 7 (.ld false 1 (.t 6)), zv 8 (.bin .neq .no (.t 7) (.c (.str []))), zm 9 8, zw 9 false 10 (.fad (.t 3) 1), zw 9 false 11 (.ld false 1 (.t 10)), zw 9 false 12 (.ld false 1 (.t 2)), zw 9 false 13 (.bin .neq .no (.t 11) (.t 12)), zv 14 (.pick (.t 9) (.c (.bool true)) (.t 13)), zm 5 14]
def k0d : IC := (.seq q8y (.seq q5n .ret))
@[go_sem] def s0d : List (RV × Co) := [(.t 5, .id)]
theorem c0d : cFun Try.prog 49 = some (15, k0d, s0d) := by kernel_rfl

def q6s : IC := zr [zi 1 (.box (.t 0)), zv 2 (.mov (.c .nilf))]
def qbah : IC := zr [zv 3 (.mfn 70 [] [(.t 1)]), zm 2 3]
def k0h : IC := (.seq q6s (.seq qbah .ret))
@[go_sem] def s0h : List (RV × Co) := [(.t 2, .id)]
theorem c0h : cFun Try.prog 51 = some (4, k0h, s0h) := by kernel_rfl

def q57 : IC := zr [zi 2 (.box (.t 0)), zi 3 (.box (.t 1)), zi 4 (.alo [(.str []), (.int .i64 0), .nils])]
def q8g : IC := zr [zv 5 (.ld true 3 (.t 2)), zv 6 (.ld true 3 (.t 3)), zv 7 (.bsl 3 [((.t 5), (.agg [.id, .id, (.sl 3)])), ((.t 6), (.agg [.id, .id, (.sl 3)]))]), zv 8 (.bld [(.str []), (.int .i64 0), .nils] [(0, 1, (.c (.str [45, 62]))), (2, 1, (.t 7))]), zn (.st 3 (.agg [.id, .id, (.sl 3)]) (.t 4) (.t 8))]
def k0f : IC := (.seq q57 (.seq q8g .ret))
@[go_sem] def s0f : List (RV × Co) := [(.c true 3 4, (.agg [.id, .id, (.sl 3)]))]
theorem c0f : cFun Try.prog 52 = some (9, k0f, s0f) := by kernel_rfl

def q1w : IC := zr [zi 1 (.box (.t 0)), zi 2 (.alo [(.str []), (.int .i64 0), .nils])]
def q1t : IC := zr [zv 4 (.ld false 1 (.t 1)), zv 5 (.nck (.t 4)), zv 6 (.fad (.t 5) 1), zv 7 (.ld false 1 (.t 6)), zv 8 (.bin .add .no (.t 7) (zc 1)), zv 9 (.nck (.t 4)), zv 10 (.fad (.t 9) 1), zn (.st 1 .id (.t 10) (.t 8))]
def qyk : IC := zr [zv 11 (.ld false 1 (.t 1)), zv 12 (.nck (.t 11)), zv 13 (.fad (.t 12) 1), zv 14 (.ld false 1 (.t 13)), zv 15 (.bin .gtr .no (.t 14) (zc 200))]
def qzv : IC := zr [zv 16 (.ld false 1 (.t 1)), zv 17 (.nck (.t 16)), zv 18 (.fad (.t 17) 2), zn (.st 1 .id (.t 18) (.c (.bool true)))]
def q2a : IC := .dfr [zv 19 (.mfn 71 [] [(.t 1)])] (.t 19)
def q3c : IC := zr [zv 20 (.ld false 1 (.t 1)), zv 21 (.nck (.t 20)), zv 22 (.fad (.t 21) 2), zv 23 (.ld false 1 (.t 22))]
def q4d : IC := zr [zv 24 (.bld [(.str []), (.int .i64 0), .nils] []), zn (.st 3 (.agg [.id, .id, (.sl 3)]) (.t 2) (.t 24))]
def q28 : IC := zr [zv 25 (.ld false 1 (.t 1)), zi 26 (.call (.c (.fn 72 [] [])) [((.t 25), .id)]), zi 3 (.alo [(.str []), (.int .i64 0), .nils]), zn (.st 3 (.agg [.id, .id, (.sl 3)]) (.t 3) (.t 26))]
def q2c : IC := zr [zv 27 (.ld false 1 (.t 1)), zv 28 (.nck (.t 27)), zv 29 (.fad (.t 28) 2), zv 30 (.ld false 1 (.t 29)), zv 31 (.un .not (.t 30)), zm 32 31, zw 32 true 33 (.ld false 1 (.t 1)), zw 32 true 34 (.nck (.t 33)), zw 32 true 35 (.fad (.t 34) 0), zw 32 true 36 (.ld false 1 (.t 35)), ⟨some (32, true), some 37, .call (.c (.fn 73 [] [])) [((.t 36), .id), ((.c (.str [32, 45, 62, 32])), .id)]⟩, zw 32 true 38 (.un .not (.t 37)), zv 39 (.pick (.t 32) (.t 38) (.c (.bool false))), zm 40 39, zw 40 true 41 (.ld false 1 (.t 1)), ⟨some (40, true), some 42, .call (.c (.fn 74 [] [])) [((.t 41), .id), ((.c (.str [32])), .id)]⟩, zv 43 (.pick (.t 40) (.t 42) (.c (.bool false)))]
def qus : IC := .drw [zp (zv 44 (.fad (.t 3) 2)), zp (zv 45 (.ld false 1 (.t 44))), (zi 46 (.call (.c (.fn 75 [] [])) [((.t 45), (.sl 3))]), []), (zv 47 (.ld false 1 (.t 1)), [2]), (zi 48 (.call (.c (.fn 72 [] [])) [((.t 47), .id)]), []), (zv 49 (.bsl 3 [((.t 48), (.agg [.id, .id, (.sl 3)]))]), []), (zi 50 (.app 3 (.agg [(.str []), (.int .i64 0), .nils]) 48 (.sl 3) (.t 46) (.t 49)), []), zp (zv 51 (.fad (.t 3) 2)), (zn (.st 1 (.sl 3) (.t 51) (.t 50)), [])]
def qiy : IC := (.seq (.seq q2c (.cond (.t 43) .skip (.exit 0))) (.block 1 qus))
def qv5 : IC := zr [zv 52 (.ld false 1 (.t 1)), zv 53 (.nck (.t 52)), zv 54 (.fad (.t 53) 2), zv 55 (.ld false 1 (.t 54)), zv 56 (.un .not (.t 55)), zm 57 56, zw 57 true 58 (.ld false 1 (.t 1)), ⟨some (57, true), some 59, .call (.c (.fn 74 [] [])) [((.t 58), .id), ((.c (.str [32, 45, 62, 32])), .id)]⟩, zv 60 (.pick (.t 57) (.t 59) (.c (.bool false)))]
def qt7 : IC := .drw [zp (zv 61 (.ld true 3 (.t 3))), zp (zv 62 (.ld false 1 (.t 1))), (zi 63 (.call (.c (.fn 53 [] [])) [((.t 62), .id)]), [0]), (zv 64 (.bsl 3 [((.t 61), (.agg [.id, .id, (.sl 3)])), ((.t 63), (.agg [.id, .id, (.sl 3)]))]), []), (zv 65 (.bld [(.str []), (.int .i64 0), .nils] [(0, 1, (.c (.str [45, 62]))), (2, 1, (.t 64))]), []), (zn (.st 3 (.agg [.id, .id, (.sl 3)]) (.t 2) (.t 65)), [])]
def qwa : IC := zr [zv 66 (.ld true 3 (.t 3)), zn (.st 3 (.agg [.id, .id, (.sl 3)]) (.t 2) (.t 66))]
def k0br : IC := (.seq q1w (.seq (.seq q1t (.seq qyk (.cond (.t 15) qzv .skip))) (.seq q2a (.seq (.seq q3c (.cond (.t 23) (.seq q4d .ret) .skip)) (.seq q28 (.seq (.block 0 (.loop qiy)) (.seq (.seq qv5 (.cond (.t 60) (.seq qt7 .ret) .skip)) (.seq qwa .ret))))))))
@[go_sem] def s0br : List (RV × Co) := [(.c true 3 2, (.agg [.id, .id, (.sl 3)]))]
theorem c0br : cFun Try.prog 53 = some (67, k0br, s0br) := by kernel_rfl

def qxp : IC := zr [zi 1 (.box (.t 0)), zv 2 (.mov (.c (.str [])))]
def q13 : IC := zr [zv 6 (.fad (.t 1) 0), zv 7 (.ld false 1 (.t 6)), zv 8 (.bin .eql .no (.t 7) (.c (.str [45, 62])))]
def qyj : IC := .drw [zp (zv 9 (.fad (.t 1) 2)), zp (zv 10 (.ld false 1 (.t 9))), zp (zv 11 (.iad 3 (.t 10) (zc 0))), zp (zv 12 (.ld true 3 (.t 11))), zp (zv 13 (.fad (.t 1) 2)), zp (zv 14 (.ld false 1 (.t 13))), zp (zv 15 (.iad 3 (.t 14) (zc 0))), zp (zv 16 (.fad (.t 15) 0)), zp (zv 17 (.ld false 1 (.t 16))), (zv 18 (.bin .eql .no (.t 17) (.c (.str [45, 62]))), []), (zi 19 (.call (.c (.fn 80 [] [])) [((.t 12), (.agg [.id, .id, (.sl 3)])), ((.t 18), .id)]), []), (zv 20 (.bin .add .no (.t 19) (.c (.str [32, 45, 62, 32]))), []), zp (zv 21 (.fad (.t 1) 2)), (zv 22 (.ld false 1 (.t 21)), [10]), zp (zv 23 (.iad 3 (.t 22) (zc 1))), (zv 24 (.ld true 3 (.t 23)), [10]), (zi 25 (.call (.c (.fn 56 [] [])) [((.t 24), (.agg [.id, .id, (.sl 3)]))]), []), zp (zv 26 (.bin .add .no (.t 20) (.t 25))), zp (zm 2 26)]
def q3x : IC := zr [zi 3 (.bld 91 5)]
def qxi : IC := zr [zv 27 (.ld true 3 (.t 1)), zi 28 (.call (.c (.fn 40 [] [])) [((.t 27), (.agg [.id, .id, (.sl 3)]))]), zi 29 (.call (.c (.fn 82 [] [])) [((.t 28), .id)]), zi 30 (.call (.c (.fn 81 [] [])) [((.t 3), (.agg [.id, (.sl 1)])), ((.t 29), .id)])]
def q3t : IC := zr [zv 31 (.fad (.t 1) 2), zv 32 (.ld false 1 (.t 31)), zv 33 (.len false (.t 32)), zv 34 (.mov (zc 0))]
def qyu : IC := zr [zv 35 (.bin .lss .no (.t 34) (.t 33))]
def qye : IC := zr [zv 36 (.iad 3 (.t 32) (.t 34)), zv 37 (.ld true 3 (.t 36)), zi 5 (.alo [(.str []), (.int .i64 0), .nils]), zn (.st 3 (.agg [.id, .id, (.sl 3)]) (.t 5) (.t 37))]
def q0g : IC := zr [zv 38 (.ld true 3 (.t 5)), zv 39 (.fad (.t 5) 2), zv 40 (.ld false 1 (.t 39)), zv 41 (.len false (.t 40)), zv 42 (.bin .gtr .no (.t 41) (zc 0)), zi 43 (.call (.c (.fn 80 [] [])) [((.t 38), (.agg [.id, .id, (.sl 3)])), ((.t 42), .id)]), zv 44 (.bin .add .no (.c (.str [32])) (.t 43)), zi 45 (.call (.c (.fn 81 [] [])) [((.t 3), (.agg [.id, (.sl 1)])), ((.t 44), .id)])]
def qr7 : IC := zr [zv 46 (.bin .add .no (.t 34) (zc 1)), zm 34 46]
def qy5 : IC := (.seq qyu (.seq (.cond (.t 35) .skip (.exit 0)) (.seq (.block 1 (.seq qye q0g)) qr7)))
def qr8 : IC := zr [zi 47 (.call (.c (.fn 83 [] [])) [((.t 3), (.agg [.id, (.sl 1)]))]), zm 2 47]
def k0cb : IC := (.seq qxp (.seq (.seq q13 (.cond (.t 8) (.seq qyj .ret) .skip)) (.seq q3x (.seq qxi (.seq (.seq q3t (.block 0 (.loop qy5))) (.seq qr8 .ret))))))
@[go_sem] def s0cb : List (RV × Co) := [(.t 2, .id)]
theorem c0cb : cFun Try.prog 56 = some (48, k0cb, s0cb) := by kernel_rfl

def qz0 : IC := zr [zv 2 zf]
def q2s : IC := zr [zm 5 0, zi 6 (.call (.c (.fn 73 [] [])) [((.t 5), .id), ((.c (.str [33])), .id)]), zv 7 (.un .not (.t 6))]
def qw5 : IC := zr [zv 2 zf]
def qxf : IC := zr [zm 9 0, zv 10 (.sls (.t 9) (some (zc 1)) none), zi 11 (.call (.c (.fn 93 [] [])) [((.t 10), .id)]), zm 8 11, zv 12 (.ext (.t 8) 0), zv 13 (.ext (.t 8) 1), zm 3 12, zm 4 13]
def q3i : IC := .drw [zp (zm 14 4), zp (zv 15 (.bin .eql .no (.t 14) (zc 0))), zp (zm 16 15), zp (zw 16 true 17 (.mov (.t 3))), (⟨some (16, true), some 18, .call (.c (.fn 94 [] [])) [((.t 17), .id)]⟩, []), zp (zw 16 true 19 (.mov (.t 0))), zp (zw 16 true 20 (.sls (.t 19) (some (zc 1)) none)), zp (zw 16 true 21 (.bin .eql .no (.t 18) (.t 20))), zp (zv 22 (.pick (.t 16) (.t 21) (.c (.bool false)))), zp (zm 2 22)]
def k0bc : IC := (.seq qz0 (.seq (.seq q2s (.cond (.t 7) (.seq qw5 .ret) .skip)) (.seq qxf (.seq q3i .ret))))
@[go_sem] def s0bc : List (RV × Co) := [(.t 2, .id)]
theorem c0bc : cFun Try.prog 65 = some (23, k0bc, s0bc) := by kernel_rfl

def qyf : IC := zr [zv 2 zf]
def q2p : IC := zr [zm 3 0, zv 4 (.bin .neq .no (.t 3) (.c (.str []))), zm 5 4, zw 5 true 6 (.mov (.t 0)), zw 5 true 7 (.idx (.t 6) (zc 0)), ⟨some (5, true), some 8, .call (.c (.fn 95 [] [])) [((.t 7), .id)]⟩, zv 9 (.pick (.t 5) (.t 8) (.c (.bool false))), zm 10 9, zw 10 true 11 (.mov (.t 0)), ⟨some (10, true), some 12, .call (.c (.fn 96 [] [])) [((.t 11), .id)]⟩, zv 13 (.pick (.t 10) (.t 12) (.c (.bool false))), zm 2 13]
def k0bm : IC := (.seq qyf (.seq q2p .ret))
@[go_sem] def s0bm : List (RV × Co) := [(.t 2, .id)]
theorem c0bm : cFun Try.prog 66 = some (14, k0bm, s0bm) := by kernel_rfl

def qbao : IC := zr [zv 4 (.mov (zc 0))]
def q6b : IC := zr [zm 6 0, zv 7 (.len false (.t 6)), zv 8 (.mov (zc 0))]
def q7i : IC := zr [zv 9 (.bin .lss .no (.t 8) (.t 7))]
def q5c : IC := zr [zm 10 8, zm 5 10]
def q9n : IC := zr [zm 11 1, zm 12 0, zm 13 5, zv 14 (.iad 1 (.t 12) (.t 13)), zv 15 (.ld false 1 (.t 14)), zv 16 (.bin .eql .no (.t 11) (.t 15))]
def q8w : IC := zr [zm 17 5, zm 4 17]
def q96 : IC := zr [zv 18 (.bin .add .no (.t 8) (zc 1)), zm 8 18]
def qbat : IC := (.seq q7i (.seq (.cond (.t 9) .skip (.exit 0)) (.seq (.block 1 (.seq q5c (.seq q9n (.cond (.t 16) (.seq q8w .ret) .skip)))) q96)))
def q40 : IC := zr [zv 4 (.mov (zc (-1)))]
def k0u : IC := (.seq qbao (.seq (.seq q6b (.block 0 (.loop qbat))) (.seq q40 .ret)))
@[go_sem] def s0u : List (RV × Co) := [(.t 4, .id)]
theorem c0u : cFun Try.prog 69 = some (19, k0u, s0u) := by kernel_rfl

def q7z : IC := zr [zv 4 (.ld false 1 (.t 1)), zv 5 (.len false (.t 4)), zv 6 (.bin .sub .no (.t 5) (zc 1)), zm 3 6]
def q4x : IC := zr [zm 7 3, zv 8 (.bin .geq .no (.t 7) (zc 0))]
def q4l : IC := zr [zm 11 0, zm 12 3, zv 13 (.ld false 1 (.t 1)), zm 14 3, zv 15 (.iad 3 (.t 13) (.t 14)), zv 16 (.ld true 3 (.t 15)), zi 17 (.call (.t 11) [((.t 12), .id), ((.t 16), (.agg [.id, .id, (.sl 3)]))]), zv 18 (.un .not (.t 17))]
def q7p : IC := zr [zm 9 3, zv 10 (.bin .sub .no (.t 9) (zc 1)), zm 3 10]
def q4u : IC := (.seq (.seq q4x (.cond (.t 8) .skip (.exit 0))) (.seq (.block 1 (.seq q4l (.cond (.t 18) .ret .skip))) q7p))
def k0i : IC := (.seq q7z (.block 0 (.loop q4u)))
@[go_sem] def s0i : List (RV × Co) := []
theorem c0i : cFun Try.prog 70 = some (19, k0i, s0i) := by kernel_rfl

def q3w : IC := zr [zv 1 (.ld false 1 (.t 0)), zv 2 (.nck (.t 1)), zv 3 (.fad (.t 2) 1), zv 4 (.ld false 1 (.t 3)), zv 5 (.bin .sub .no (.t 4) (zc 1)), zv 6 (.nck (.t 1)), zv 7 (.fad (.t 6) 1), zn (.st 1 .id (.t 7) (.t 5))]
def k0bt : IC := q3w
@[go_sem] def s0bt : List (RV × Co) := []
theorem c0bt : cFun Try.prog 71 = some (8, k0bt, s0bt) := by kernel_rfl

def qzh : IC := zr [zi 2 (.alo [(.str []), (.int .i64 0), .nils])]
def q16 : IC := zr [zm 6 0, zi 7 (.call (.c (.fn 74 [] [])) [((.t 6), .id), ((.c (.str [40])), .id)])]
def q3z : IC := zr [zm 8 0, zi 9 (.call (.c (.fn 53 [] [])) [((.t 8), .id)]), zi 3 (.alo [(.str []), (.int .i64 0), .nils]), zn (.st 3 (.agg [.id, .id, (.sl 3)]) (.t 3) (.t 9))]
def q11 : IC := zr [zm 10 0, zm 11 0, zv 12 (.nck (.t 11)), zv 13 (.fad (.t 12) 2), zv 14 (.ld false 1 (.t 13)), zm 15 14, zw 15 false 16 (.mov (.t 0)), ⟨some (15, false), some 17, .call (.c (.fn 74 [] [])) [((.t 16), .id), ((.c (.str [41])), .id)]⟩, zw 15 false 18 (.un .not (.t 17)), zv 19 (.pick (.t 15) (.c (.bool true)) (.t 18)), zv 20 (.nck (.t 10)), zv 21 (.fad (.t 20) 2), zn (.st 1 .id (.t 21) (.t 19))]
def q2x : IC := zr [zv 22 (.ld true 3 (.t 3)), zn (.st 3 (.agg [.id, .id, (.sl 3)]) (.t 2) (.t 22))]
def qzx : IC := zr [zm 23 0, zv 24 (.nck (.t 23)), zv 25 (.fad (.t 24) 0), zv 26 (.ld false 1 (.t 25)), zi 27 (.call (.c (.fn 100 [] [])) [((.t 26), .id), ((.c (.str [32, 40, 41])), .id)]), zm 4 27]
def q2m : IC := zr [zm 28 4, zv 29 (.bin .lss .no (.t 28) (zc 0))]
def q1s : IC := zr [zm 30 0, zv 31 (.nck (.t 30)), zv 32 (.fad (.t 31) 0), zv 33 (.ld false 1 (.t 32)), zv 34 (.len true (.t 33)), zm 4 34]
def qy2 : IC := zr [zm 35 0, zv 36 (.nck (.t 35)), zv 37 (.fad (.t 36) 0), zv 38 (.ld false 1 (.t 37)), zm 39 4, zv 40 (.sls (.t 38) none (some (.t 39))), zi 41 (.call (.c (.fn 101 [] [])) [((.t 40), .id)]), zi 5 (.alo [(.str []), (.int .i64 0), .nils]), zn (.st 3 (.agg [.id, .id, (.sl 3)]) (.t 5) (.t 41))]
def q2r : IC := .drw [zp (zm 42 0), zp (zm 43 0), zp (zm 44 0), zp (zv 45 (.nck (.t 44))), zp (zv 46 (.fad (.t 45) 0)), zp (zv 47 (.ld false 1 (.t 46))), zp (zm 48 4), zp (zv 49 (.sls (.t 47) (some (.t 48)) none)), zp (zm 50 0), zp (zv 51 (.nck (.t 50))), zp (zv 52 (.fad (.t 51) 2)), zp (zv 53 (.ld false 1 (.t 52))), zp (zm 54 53), zp (zw 54 false 55 (.mov (.t 4))), zp (zw 54 false 56 (.bin .eql .no (.t 55) (zc 0))), zp (zv 57 (.pick (.t 54) (.c (.bool true)) (.t 56))), zp (zv 58 (.nck (.t 42))), zp (zv 59 (.fad (.t 58) 0)), (zn (.st 1 .id (.t 59) (.t 49)), []), zp (zv 60 (.nck (.t 43))), zp (zv 61 (.fad (.t 60) 2)), (zn (.st 1 .id (.t 61) (.t 57)), [])]
def qu3 : IC := zr [zv 62 (.ld true 3 (.t 5)), zn (.st 3 (.agg [.id, .id, (.sl 3)]) (.t 2) (.t 62))]
def k0bu : IC := (.seq qzh (.seq (.seq q16 (.cond (.t 7) (.seq q3z (.seq q11 (.seq q2x .ret))) .skip)) (.seq qzx (.seq (.seq q2m (.cond (.t 29) q1s .skip)) (.seq qy2 (.seq q2r (.seq qu3 .ret)))))))
@[go_sem] def s0bu : List (RV × Co) := [(.c true 3 2, (.agg [.id, .id, (.sl 3)]))]
theorem c0bu : cFun Try.prog 72 = some (63, k0bu, s0bu) := by kernel_rfl

def q1c : IC := zr [zv 4 zf]
def q1q : IC := zr [zm 5 0, zm 6 1, zi 7 (.call (.c (.fn 102 [] [])) [((.t 5), .id), ((.t 6), .id)]), zm 4 7]
def k0bg : IC := (.seq q1c (.seq q1q .ret))
@[go_sem] def s0bg : List (RV × Co) := [(.t 4, .id)]
theorem c0bg : cFun Try.prog 73 = some (8, k0bg, s0bg) := by kernel_rfl

def qxr : IC := zr [zv 4 zf]
def q0c : IC := zr [zm 6 0, zv 7 (.nck (.t 6)), zv 8 (.fad (.t 7) 0), zv 9 (.ld false 1 (.t 8)), zm 10 1, zi 11 (.call (.c (.fn 73 [] [])) [((.t 9), .id), ((.t 10), .id)]), zm 5 11]
def q1i : IC := zr [zm 12 5]
def q0w : IC := zr [zm 13 0, zm 14 0, zv 15 (.nck (.t 14)), zv 16 (.fad (.t 15) 0), zv 17 (.ld false 1 (.t 16)), zm 18 1, zv 19 (.len true (.t 18)), zv 20 (.sls (.t 17) (some (.t 19)) none), zv 21 (.nck (.t 13)), zv 22 (.fad (.t 21) 0), zn (.st 1 .id (.t 22) (.t 20))]
def qyt : IC := zr [zm 23 5, zm 4 23]
def k0bx : IC := (.seq qxr (.seq q0c (.seq (.seq q1i (.cond (.t 12) q0w .skip)) (.seq qyt .ret))))
@[go_sem] def s0bx : List (RV × Co) := [(.t 4, .id)]
theorem c0bx : cFun Try.prog 74 = some (24, k0bx, s0bx) := by kernel_rfl

def q29 : IC := zr [zv 2 (.mov (.c .nils))]
def qy9 : IC := zr [zm 3 0, zv 4 (.bin .eql .slice (.t 3) (.c .nils))]
def q0r : IC := zr [zv 2 (.mov (.c .nils))]
def qzk : IC := zr [zv 5 (.bsl 3 []), zm 6 0, zi 7 (.app 3 (.agg [(.str []), (.int .i64 0), .nils]) 48 (.sl 3) (.t 5) (.t 6)), zm 2 7]
def k0bw : IC := (.seq q29 (.seq (.seq qy9 (.cond (.t 4) (.seq q0r .ret) .skip)) (.seq qzk .ret)))
@[go_sem] def s0bw : List (RV × Co) := [(.t 2, (.sl 3))]
theorem c0bw : cFun Try.prog 75 = some (8, k0bw, s0bw) := by kernel_rfl

def q1m : IC := zr [zv 2 (.mov (.c (.str [])))]
def qza : IC := zr [zm 5 0, zi 6 (.call (.c (.fn 104 [] [])) [((.t 5), .id)]), zm 3 6]
def q3a : IC := zr [zv 4 (.mov (.c (.str [])))]
def q33 : IC := zr [zm 7 3, zv 8 (.bin .gtr .no (.t 7) (.c (.int .u64 9)))]
def q3h : IC := zr [zm 9 3, zv 10 (.bin .rem .no (.t 9) (.c (.int .u64 10))), zv 11 (.bin .add .no (.c (.int .u64 48)) (.t 10)), zv 12 (.cvi .u8 (.t 11)), zv 13 (.bsl 1 [((.t 12), .id)]), zv 14 (.cbs (.t 13)), zm 15 4, zv 16 (.bin .add .no (.t 14) (.t 15)), zm 4 16]
def q0s : IC := zr [zm 17 3, zv 18 (.bin .quo .no (.t 17) (.c (.int .u64 10))), zm 3 18]
def qyh : IC := (.seq (.seq q33 (.cond (.t 8) .skip (.exit 0))) (.block 1 (.seq q3h q0s)))
def q3f : IC := zr [zm 19 3, zv 20 (.bin .add .no (.c (.int .u64 48)) (.t 19)), zv 21 (.cvi .u8 (.t 20)), zv 22 (.bsl 1 [((.t 21), .id)]), zv 23 (.cbs (.t 22)), zm 24 4, zv 25 (.bin .add .no (.t 23) (.t 24)), zm 4 25]
def q4f : IC := zr [zm 26 0, zv 27 (.bin .lss .no (.t 26) (zc 0))]
def quv : IC := zr [zm 28 4, zv 29 (.bin .add .no (.c (.str [45])) (.t 28)), zm 2 29]
def qtb : IC := zr [zm 30 4, zm 2 30]
def k0bo : IC := (.seq q1m (.seq qza (.seq q3a (.seq (.block 0 (.loop qyh)) (.seq q3f (.seq (.seq q4f (.cond (.t 27) (.seq quv .ret) .skip)) (.seq qtb .ret)))))))
@[go_sem] def s0bo : List (RV × Co) := [(.t 2, .id)]
theorem c0bo : cFun Try.prog 78 = some (31, k0bo, s0bo) := by kernel_rfl

def q2g : IC := zr [zi 2 (.box (.t 0)), zv 4 (.mov (.c (.str [])))]
def q3q : IC := zr [zm 5 1]
def qz1 : IC := zr [zv 6 (.ld true 3 (.t 2)), zi 7 (.call (.c (.fn 56 [] [])) [((.t 6), (.agg [.id, .id, (.sl 3)]))]), zv 8 (.bin .add .no (.c (.str [40])) (.t 7)), zv 9 (.bin .add .no (.t 8) (.c (.str [41]))), zm 4 9]
def q25 : IC := zr [zv 10 (.ld true 3 (.t 2)), zi 11 (.call (.c (.fn 56 [] [])) [((.t 10), (.agg [.id, .id, (.sl 3)]))]), zm 4 11]
def k0ca : IC := (.seq q2g (.seq (.seq q3q (.cond (.t 5) (.seq qz1 .ret) .skip)) (.seq q25 .ret)))
@[go_sem] def s0ca : List (RV × Co) := [(.t 4, .id)]
theorem c0ca : cFun Try.prog 80 = some (12, k0ca, s0ca) := by kernel_rfl

def qyv : IC := zr [zi 1 (.box (.t 0)), zv 2 (.mov (.c (.str [])))]
def q3j : IC := zr [zv 4 (.fad (.t 1) 0), zv 5 (.ld false 1 (.t 4)), zv 6 (.bin .neq .no (.t 5) (.c (.str []))), zm 3 6]
def qyd : IC := zr [zv 7 (.fad (.t 1) 0), zv 8 (.ld false 1 (.t 7)), zm 2 8]
def qz8 : IC := zr [zv 10 (.fad (.t 1) 1), zv 11 (.ld false 1 (.t 10)), zv 12 (.bin .geq .no (.t 11) (zc 0)), zm 9 12]
def qxx : IC := zr [zv 13 (.fad (.t 1) 1), zv 14 (.ld false 1 (.t 13)), zi 15 (.call (.c (.fn 106 [] [])) [((.t 14), .id)]), zm 2 15]
def qxv : IC := zr [zv 16 (.fad (.t 1) 1), zv 17 (.ld false 1 (.t 16)), zv 18 (.bin .sub .no (zc (-1)) (.t 17)), zi 19 (.call (.c (.fn 94 [] [])) [((.t 18), .id)]), zv 20 (.bin .add .no (.c (.str [63])) (.t 19)), zm 2 20]
def k0bz : IC := (.seq qyv (.seq (.block 0 (.seq q3j (.cond (.t 3) (.seq qyd .ret) (.seq qz8 (.cond (.t 9) (.seq qxx .ret) .skip))))) (.seq qxv .ret)))
@[go_sem] def s0bz : List (RV × Co) := [(.t 2, .id)]
theorem c0bz : cFun Try.prog 82 = some (21, k0bz, s0bz) := by kernel_rfl

def qx8 : IC := zr [zv 2 (.mov (zc 0)), zv 3 (.mov (zc 0))]
def qxc : IC := zr [zm 8 0, zv 9 (.len true (.t 8)), zv 10 (.mov (zc 0))]
def qx5 : IC := zr [zv 11 (.bin .lss .no (.t 10) (.t 9))]
def q3n : IC := zr [zm 12 10, zm 4 12]
def q35 : IC := zr [zm 13 0, zm 14 4, zv 15 (.idx (.t 13) (.t 14)), zv 16 (.bin .lss .no (.t 15) (.c (.int .u8 48))), zm 17 16, zw 17 false 18 (.mov (.t 0)), zw 17 false 19 (.mov (.t 4)), zw 17 false 20 (.idx (.t 18) (.t 19)), zw 17 false 21 (.bin .gtr .no (.t 20) (.c (.int .u8 57))), zv 22 (.pick (.t 17) (.c (.bool true)) (.t 21))]
def q3u : IC := zr [zv 2 (.mov (zc 0)), zv 3 (.mov (zc 5))]
def qw9 : IC := zr [zv 23 (.bin .add .no (.t 10) (zc 1)), zm 10 23]
def q0a : IC := (.seq qx5 (.seq (.cond (.t 11) .skip (.exit 0)) (.seq (.block 1 (.seq q3n (.seq q35 (.cond (.t 22) (.seq q3u .ret) .skip)))) qw9)))
def qy4 : IC := zr [zm 24 0, zv 25 (.bin .eql .no (.t 24) (.c (.str [])))]
def qvd : IC := zr [zv 2 (.mov (zc 0)), zv 3 (.mov (zc 5))]
def qta : IC := zr [zv 5 (.mov (zc 0)), zv 6 (.mov (zc 0))]
def qu8 : IC := zr [zm 26 0, zm 27 6, zv 28 (.idx (.t 26) (.t 27)), zv 29 (.bin .sub .no (.t 28) (.c (.int .u8 48))), zv 30 (.cvi .i64 (.t 29)), zm 7 30]
def qv0 : IC := zr [zm 31 5, zm 32 7, zv 33 (.bin .sub .no (zc 9223372036854775807) (.t 32)), zv 34 (.bin .quo .no (.t 33) (zc 10)), zv 35 (.bin .gtr .no (.t 31) (.t 34))]
def qtk : IC := zr [zv 2 (.mov (zc 0)), zv 3 (.mov (zc 4))]
def qvj : IC := zr [zm 36 5, zv 37 (.bin .mul .no (zc 10) (.t 36)), zm 38 7, zv 39 (.bin .add .no (.t 37) (.t 38)), zm 5 39]
def qv3 : IC := zr [zm 40 6, zv 41 (.bin .add .no (.t 40) (zc 1)), zm 6 41]
def qtu : IC := zr [zm 42 6, zm 43 0, zv 44 (.len true (.t 43)), zv 45 (.bin .lss .no (.t 42) (.t 44))]
def qvo : IC := zr [zm 46 5, zm 2 46, zv 3 (.mov (zc 0))]
def k0bi : IC := (.seq qx8 (.scope (.seq (.seq qxc (.block 0 (.loop q0a))) (.seq (.seq qy4 (.cond (.t 25) (.seq qvd .ret) .skip)) (.seq qta (.seq (.label 0) (.seq qu8 (.seq (.seq qv0 (.cond (.t 35) (.seq qtk .ret) .skip)) (.seq qvj (.seq (.seq qv3 (.seq qtu (.cond (.t 45) (.goto 0) .skip))) (.seq qvo .ret)))))))))))
@[go_sem] def s0bi : List (RV × Co) := [(.t 2, .id), (.t 3, .id)]
theorem c0bi : cFun Try.prog 93 = some (47, k0bi, s0bi) := by kernel_rfl

def q09 : IC := zr [zv 2 (.mov (.c (.str [])))]
def qw7 : IC := zr [zm 6 0, zv 7 (.cvi .u64 (.t 6)), zm 3 7]
def q0e : IC := zr [zm 8 0, zv 9 (.bin .lss .no (.t 8) (zc 0))]
def qya : IC := zr [zm 10 3, zv 11 (.un .neg (.t 10)), zm 3 11]
def qzn : IC := zr [zi 4 (.alo [(.int .u8 0), (.int .u8 0), (.int .u8 0), (.int .u8 0), (.int .u8 0), (.int .u8 0), (.int .u8 0), (.int .u8 0), (.int .u8 0), (.int .u8 0), (.int .u8 0), (.int .u8 0), (.int .u8 0), (.int .u8 0), (.int .u8 0), (.int .u8 0), (.int .u8 0), (.int .u8 0), (.int .u8 0), (.int .u8 0)])]
def q2b : IC := zr [zv 5 (.mov (zc 20))]
def q34 : IC := zr [zm 12 5, zv 13 (.bin .sub .no (.t 12) (zc 1)), zm 5 13]
def q03 : IC := zr [zm 14 5, zm 15 3, zv 16 (.bin .rem .no (.t 15) (.c (.int .u64 10))), zv 17 (.bin .add .no (.c (.int .u64 48)) (.t 16)), zv 18 (.cvi .u8 (.t 17)), zv 19 (.aad 1 20 (.t 4) (.t 14)), zn (.st 1 .id (.t 19) (.t 18))]
def qzg : IC := zr [zm 20 3, zv 21 (.bin .quo .no (.t 20) (.c (.int .u64 10))), zm 3 21]
def qve : IC := zr [zm 22 3, zv 23 (.bin .eql .no (.t 22) (.c (.int .u64 0)))]
def q2u : IC := (.block 1 (.seq q34 (.seq q03 (.seq qzg (.seq qve (.cond (.t 23) (.exit 0) .skip))))))
def qwb : IC := zr [zm 24 0, zv 25 (.bin .lss .no (.t 24) (zc 0))]
def qsh : IC := zr [zm 26 5, zv 27 (.sla 20 (.t 4) (.t 26)), zv 28 (.cbs (.t 27)), zv 29 (.bin .add .no (.c (.str [45])) (.t 28)), zm 2 29]
def qwd : IC := zr [zm 30 5, zv 31 (.sla 20 (.t 4) (.t 30)), zv 32 (.cbs (.t 31)), zm 2 32]
def k0bp : IC := (.seq q09 (.seq qw7 (.seq (.seq q0e (.cond (.t 9) qya .skip)) (.seq qzn (.seq q2b (.seq (.block 0 (.loop q2u)) (.seq (.seq qwb (.cond (.t 25) (.seq qsh .ret) .skip)) (.seq qwd .ret))))))))
@[go_sem] def s0bp : List (RV × Co) := [(.t 2, .id)]
theorem c0bp : cFun Try.prog 94 = some (33, k0bp, s0bp) := by kernel_rfl

def qxh : IC := zr [zv 2 zf]
def q2y : IC := zr [zm 3 0, zv 4 (.bin .geq .no (.t 3) (.c (.int .u8 65))), zm 5 4, zw 5 true 6 (.mov (.t 0)), zw 5 true 7 (.bin .leq .no (.t 6) (.c (.int .u8 90))), zv 8 (.pick (.t 5) (.t 7) (.c (.bool false))), zm 2 8]
def k0bk : IC := (.seq qxh (.seq q2y .ret))
@[go_sem] def s0bk : List (RV × Co) := [(.t 2, .id)]
theorem c0bk : cFun Try.prog 95 = some (9, k0bk, s0bk) := by kernel_rfl

def qxm : IC := zr [zv 2 zf]
def qxq : IC := zr [zm 5 0, zv 6 (.len true (.t 5)), zv 7 (.mov (zc 0))]
def qz9 : IC := zr [zv 8 (.bin .lss .no (.t 7) (.t 6))]
def qz6 : IC := zr [zm 9 7, zm 3 9]
def qzl : IC := zr [zm 10 0, zm 11 3, zv 12 (.idx (.t 10) (.t 11)), zm 4 12]
def qy1 : IC := zr [zm 13 4, zi 14 (.call (.c (.fn 112 [] [])) [((.t 13), .id)]), zv 15 (.un .not (.t 14)), zm 16 15, zw 16 true 17 (.mov (.t 4)), ⟨some (16, true), some 18, .call (.c (.fn 95 [] [])) [((.t 17), .id)]⟩, zw 16 true 19 (.un .not (.t 18)), zv 20 (.pick (.t 16) (.t 19) (.c (.bool false))), zm 21 20, zw 21 true 22 (.mov (.t 4)), zw 21 true 23 (.bin .lss .no (.t 22) (.c (.int .u8 48))), zw 21 true 24 (.mov (.t 23)), zw 24 false 25 (.mov (.t 4)), zw 24 false 26 (.bin .gtr .no (.t 25) (.c (.int .u8 57))), zw 21 true 27 (.pick (.t 24) (.c (.bool true)) (.t 26)), zv 28 (.pick (.t 21) (.t 27) (.c (.bool false))), zm 29 28, zw 29 true 30 (.mov (.t 4)), zw 29 true 31 (.bin .neq .no (.t 30) (.c (.int .u8 39))), zv 32 (.pick (.t 29) (.t 31) (.c (.bool false)))]
def q04 : IC := zr [zv 2 zf]
def qze : IC := zr [zv 33 (.bin .add .no (.t 7) (zc 1)), zm 7 33]
def q3y : IC := (.seq qz9 (.seq (.cond (.t 8) .skip (.exit 0)) (.seq (.block 1 (.seq qz6 (.seq qzl (.seq qy1 (.cond (.t 32) (.seq q04 .ret) .skip))))) qze)))
def qr6 : IC := zr [zv 2 (.mov (.c (.bool true)))]
def k0bl : IC := (.seq qxm (.seq (.seq qxq (.block 0 (.loop q3y))) (.seq qr6 .ret)))
@[go_sem] def s0bl : List (RV × Co) := [(.t 2, .id)]
theorem c0bl : cFun Try.prog 96 = some (34, k0bl, s0bl) := by kernel_rfl

def q0n : IC := zr [zv 2 (.mov (zc 0)), zv 3 (.mov (zc 0))]
def qw3 : IC := zr [zm 8 0, zv 9 (.bin .eql .no (.t 8) (.c (.str [])))]
def qxo : IC := zr [zv 2 (.mov (zc 0)), zv 3 (.mov (zc 5))]
def q0m : IC := zr [zv 4 (.mov (zc 0))]
def q20 : IC := zr [zm 10 4, zm 11 0, zv 12 (.len true (.t 11)), zv 13 (.bin .lss .no (.t 10) (.t 12))]
def qzi : IC := zr [zm 16 0, zm 17 4, zv 18 (.idx (.t 16) (.t 17)), zv 19 (.bin .lss .no (.t 18) (.c (.int .u8 48))), zm 20 19, zw 20 false 21 (.mov (.t 0)), zw 20 false 22 (.mov (.t 4)), zw 20 false 23 (.idx (.t 21) (.t 22)), zw 20 false 24 (.bin .gtr .no (.t 23) (.c (.int .u8 57))), zv 25 (.pick (.t 20) (.c (.bool true)) (.t 24))]
def qz4 : IC := zr [zv 2 (.mov (zc 0)), zv 3 (.mov (zc 5))]
def q07 : IC := zr [zm 14 4, zv 15 (.bin .add .no (.t 14) (zc 1)), zm 4 15]
def qw0 : IC := (.seq (.seq q20 (.cond (.t 13) .skip (.exit 0))) (.seq (.block 1 (.seq qzi (.cond (.t 25) (.seq qz4 .ret) .skip))) q07))
def qsn : IC := zr [zv 5 (.mov (zc 0))]
def qs3 : IC := zr [zv 6 (.mov (zc 0))]
def qtf : IC := zr [zm 26 6, zm 27 0, zv 28 (.len true (.t 27)), zv 29 (.bin .lss .no (.t 26) (.t 28))]
def qso : IC := zr [zm 32 0, zm 33 6, zv 34 (.idx (.t 32) (.t 33)), zv 35 (.bin .sub .no (.t 34) (.c (.int .u8 48))), zv 36 (.cvi .i64 (.t 35)), zm 7 36]
def qv9 : IC := zr [zm 37 5, zm 38 7, zv 39 (.bin .sub .no (zc 9223372036854775807) (.t 38)), zv 40 (.bin .quo .no (.t 39) (zc 10)), zv 41 (.bin .gtr .no (.t 37) (.t 40))]
def qvt : IC := zr [zv 2 (.mov (zc 0)), zv 3 (.mov (zc 4))]
def qsp : IC := zr [zm 42 5, zv 43 (.bin .mul .no (zc 10) (.t 42)), zm 44 7, zv 45 (.bin .add .no (.t 43) (.t 44)), zm 5 45]
def qsc : IC := zr [zm 30 6, zv 31 (.bin .add .no (.t 30) (zc 1)), zm 6 31]
def qtx : IC := (.seq (.seq qtf (.cond (.t 29) .skip (.exit 2))) (.seq (.block 3 (.seq qso (.seq (.seq qv9 (.cond (.t 41) (.seq qvt .ret) .skip)) qsp))) qsc))
def qt2 : IC := zr [zm 46 5, zm 2 46, zv 3 (.mov (zc 0))]
def k0bh : IC := (.seq q0n (.seq (.seq qw3 (.cond (.t 9) (.seq qxo .ret) .skip)) (.seq (.seq q0m (.block 0 (.loop qw0))) (.seq qsn (.seq (.seq qs3 (.block 2 (.loop qtx))) (.seq qt2 .ret))))))
@[go_sem] def s0bh : List (RV × Co) := [(.t 2, .id), (.t 3, .id)]
theorem c0bh : cFun Try.prog 97 = some (47, k0bh, s0bh) := by kernel_rfl

def qzs : IC := zr [zi 2 (.alo [(.str []), (.int .i64 0), .nils])]
def qy0 : IC := zr [zm 6 0, zi 7 (.call (.c (.fn 118 [] [])) [((.t 6), .id)]), zm 3 7]
def q39 : IC := zr [zm 8 3, zv 9 (.bin .geq .no (.t 8) (zc 0))]
def q2d : IC := zr [zm 10 3, zv 11 (.bld [(.str []), (.int .i64 0), .nils] [(1, 1, (.t 10))]), zn (.st 3 (.agg [.id, .id, (.sl 3)]) (.t 2) (.t 11))]
def qzj : IC := zr [zm 12 0, zi 13 (.call (.c (.fn 73 [] [])) [((.t 12), .id), ((.c (.str [63])), .id)])]
def qyc : IC := zr [zm 15 0, zv 16 (.sls (.t 15) (some (zc 1)) none), zi 17 (.call (.c (.fn 93 [] [])) [((.t 16), .id)]), zm 14 17, zv 18 (.ext (.t 14) 0), zv 19 (.ext (.t 14) 1), zm 4 18, zm 5 19]
def q2t : IC := zr [zm 20 5, zv 21 (.bin .eql .no (.t 20) (zc 0))]
def qy8 : IC := zr [zm 22 4, zv 23 (.bin .sub .no (zc (-1)) (.t 22)), zv 24 (.bld [(.str []), (.int .i64 0), .nils] [(1, 1, (.t 23))]), zn (.st 3 (.agg [.id, .id, (.sl 3)]) (.t 2) (.t 24))]
def q1l : IC := zr [zm 25 0, zv 26 (.bld [(.str []), (.int .i64 0), .nils] [(0, 1, (.t 25))]), zn (.st 3 (.agg [.id, .id, (.sl 3)]) (.t 2) (.t 26))]
def k0bv : IC := (.seq qzs (.seq (.seq qy0 (.seq q39 (.cond (.t 9) (.seq q2d .ret) .skip))) (.seq (.seq qzj (.cond (.t 13) (.seq qyc (.seq q2t (.cond (.t 21) (.seq qy8 .ret) .skip))) .skip)) (.seq q1l .ret))))
@[go_sem] def s0bv : List (RV × Co) := [(.c true 3 2, (.agg [.id, .id, (.sl 3)]))]
theorem c0bv : cFun Try.prog 101 = some (27, k0bv, s0bv) := by kernel_rfl

def q1j : IC := zr [zv 4 zf]
def q3e : IC := zr [zm 5 0, zv 6 (.len true (.t 5)), zm 7 1, zv 8 (.len true (.t 7)), zv 9 (.bin .geq .no (.t 6) (.t 8)), zm 10 9, zw 10 true 11 (.mov (.t 0)), zw 10 true 12 (.mov (.t 1)), zw 10 true 13 (.len true (.t 12)), zw 10 true 14 (.sls (.t 11) none (some (.t 13))), zw 10 true 15 (.mov (.t 1)), zw 10 true 16 (.bin .eql .no (.t 14) (.t 15)), zv 17 (.pick (.t 10) (.t 16) (.c (.bool false))), zm 4 17]
def k0bf : IC := (.seq q1j (.seq q3e .ret))
@[go_sem] def s0bf : List (RV × Co) := [(.t 4, .id)]
theorem c0bf : cFun Try.prog 102 = some (18, k0bf, s0bf) := by kernel_rfl

def q0x : IC := zr [zv 2 (.mov (.c (.int .u64 0)))]
def q32 : IC := zr [zm 3 0, zv 4 (.bin .lss .no (.t 3) (zc 0))]
def qxu : IC := zr [zm 5 0, zv 6 (.cvi .u64 (.t 5)), zv 7 (.un .neg (.t 6)), zm 2 7]
def q19 : IC := zr [zm 8 0, zv 9 (.cvi .u64 (.t 8)), zm 2 9]
def k0bn : IC := (.seq q0x (.seq (.seq q32 (.cond (.t 4) (.seq qxu .ret) .skip)) (.seq q19 .ret)))
@[go_sem] def s0bn : List (RV × Co) := [(.t 2, .id)]
theorem c0bn : cFun Try.prog 104 = some (10, k0bn, s0bn) := by kernel_rfl

def q1a : IC := zr [zv 2 (.mov (.c (.str [])))]
def q17 : IC := zr [zm 4 0, zv 5 (.bin .lss .no (.t 4) (zc 0))]
def qzf : IC := zr [zv 2 (.mov (.c (.str [])))]
def qwy : IC := zr [zm 6 0, zv 7 (.bin .rem .no (.t 6) (zc 26)), zv 8 (.bin .add .no (zc 97) (.t 7)), zv 9 (.cvi .u8 (.t 8)), zv 10 (.bsl 1 [((.t 9), .id)]), zv 11 (.cbs (.t 10)), zm 3 11]
def q3d : IC := zr [zm 12 0, zv 13 (.bin .lss .no (.t 12) (zc 26))]
def q1k : IC := zr [zm 14 3, zm 2 14]
def qys : IC := zr [zm 15 3, zm 16 0, zv 17 (.bin .quo .no (.t 16) (zc 26)), zi 18 (.call (.c (.fn 94 [] [])) [((.t 17), .id)]), zv 19 (.bin .add .no (.t 15) (.t 18)), zm 2 19]
def k0bq : IC := (.seq q1a (.seq (.seq q17 (.cond (.t 5) (.seq qzf .ret) .skip)) (.seq qwy (.seq (.seq q3d (.cond (.t 13) (.seq q1k .ret) .skip)) (.seq qys .ret)))))
@[go_sem] def s0bq : List (RV × Co) := [(.t 2, .id)]
theorem c0bq : cFun Try.prog 106 = some (20, k0bq, s0bq) := by kernel_rfl

def q21 : IC := zr [zv 2 zf]
def qw8 : IC := zr [zm 3 0, zv 4 (.bin .geq .no (.t 3) (.c (.int .u8 97))), zm 5 4, zw 5 true 6 (.mov (.t 0)), zw 5 true 7 (.bin .leq .no (.t 6) (.c (.int .u8 122))), zv 8 (.pick (.t 5) (.t 7) (.c (.bool false))), zm 9 8, zw 9 false 10 (.mov (.t 0)), zw 9 false 11 (.bin .eql .no (.t 10) (.c (.int .u8 95))), zv 12 (.pick (.t 9) (.c (.bool true)) (.t 11)), zm 2 12]
def k0bj : IC := (.seq q21 (.seq qw8 .ret))
@[go_sem] def s0bj : List (RV × Co) := [(.t 2, .id)]
theorem c0bj : cFun Try.prog 112 = some (13, k0bj, s0bj) := by kernel_rfl

def q2w : IC := zr [zv 2 (.mov (zc 0))]
def q36 : IC := zr [zm 6 0, zv 7 (.bin .eql .no (.t 6) (.c (.str []))), zm 8 7, zw 8 false 9 (.mov (.t 0)), zw 8 false 10 (.idx (.t 9) (zc 0)), zw 8 false 11 (.bin .lss .no (.t 10) (.c (.int .u8 97))), zv 12 (.pick (.t 8) (.c (.bool true)) (.t 11)), zm 13 12, zw 13 false 14 (.mov (.t 0)), zw 13 false 15 (.idx (.t 14) (zc 0)), zw 13 false 16 (.bin .gtr .no (.t 15) (.c (.int .u8 122))), zv 17 (.pick (.t 13) (.c (.bool true)) (.t 16))]
def qyb : IC := zr [zv 2 (.mov (zc (-1)))]
def q0y : IC := zr [zm 18 0, zv 19 (.idx (.t 18) (zc 0)), zv 20 (.bin .sub .no (.t 19) (.c (.int .u8 97))), zv 21 (.cvi .i64 (.t 20)), zm 3 21]
def q2f : IC := zr [zm 22 0, zv 23 (.len true (.t 22)), zv 24 (.bin .gtr .no (.t 23) (zc 1))]
def qxn : IC := zr [zm 26 0, zv 27 (.sls (.t 26) (some (zc 1)) none), zi 28 (.call (.c (.fn 93 [] [])) [((.t 27), .id)]), zm 25 28, zv 29 (.ext (.t 25) 0), zv 30 (.ext (.t 25) 1), zm 4 29, zm 5 30]
def q30 : IC := zr [zm 31 5, zv 32 (.bin .neq .no (.t 31) (zc 0)), zm 33 32, zw 33 false 34 (.mov (.t 4)), zw 33 false 35 (.bin .gtr .no (.t 34) (zc 177372539170284150)), zv 36 (.pick (.t 33) (.c (.bool true)) (.t 35))]
def q4e : IC := zr [zv 2 (.mov (zc (-1)))]
def q1n : IC := zr [zm 37 3, zm 38 4, zv 39 (.bin .mul .no (zc 26) (.t 38)), zv 40 (.bin .add .no (.t 37) (.t 39)), zm 3 40]
def q23 : IC := zr [zm 41 3, zv 42 (.bin .gtr .no (.t 41) (zc 4611686018427387904)), zm 43 42, zw 43 false 44 (.mov (.t 3)), ⟨some (43, false), some 45, .call (.c (.fn 106 [] [])) [((.t 44), .id)]⟩, zw 43 false 46 (.mov (.t 0)), zw 43 false 47 (.bin .neq .no (.t 45) (.t 46)), zv 48 (.pick (.t 43) (.c (.bool true)) (.t 47))]
def quf : IC := zr [zv 2 (.mov (zc (-1)))]
def que : IC := zr [zm 49 3, zm 2 49]
def k0by : IC := (.seq q2w (.seq (.seq q36 (.cond (.t 17) (.seq qyb .ret) .skip)) (.seq q0y (.seq (.seq q2f (.cond (.t 24) (.seq qxn (.seq (.seq q30 (.cond (.t 36) (.seq q4e .ret) .skip)) q1n)) .skip)) (.seq (.seq q23 (.cond (.t 48) (.seq quf .ret) .skip)) (.seq que .ret))))))
@[go_sem] def s0by : List (RV × Co) := [(.t 2, .id)]
theorem c0by : cFun Try.prog 118 = some (50, k0by, s0by) := by kernel_rfl

end Go.Proofs.Ytlahgbhhejkgbaa
