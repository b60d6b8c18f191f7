/- A text of this proof. -/
import Derived.Test.YtfpobiheiloamaaJaf
import Derived.Test.YtfpobiheiloamaaProg
/- The compiled code of the functions. -/
namespace Go.Proofs.Ytfpobiheiloamaa
open Go Go.V
@[reducible] def zm (d s : Nat) : GI := ⟨none, some d, .v (.mov (.t s))⟩
@[reducible] def zv (d : Nat) (x : IV) : GI := ⟨none, some d, .v x⟩
@[reducible] def zi (d : Nat) (i : I) : GI := ⟨none, some d, i⟩
@[reducible] def zn (i : I) : GI := ⟨none, none, i⟩
@[reducible] def zw (j : Nat) (b : Bool) (d : Nat) (x : IV) : GI := ⟨some (j, b), some d, .v x⟩
@[reducible] def zp (g : GI) : GI × List Nat := (g, [])
@[reducible] def zN : Co := .agg [.id, .id, .id, .id, (.sl 5)]
@[reducible] def zC : Co := .agg [(.sl 4), .id, .id, .id, .id, .id, .id, .id]
@[reducible] def zaN : I := .alo [(.int .i64 0), (.int .i64 0), (.int .i64 0), (.str []), .nils]
@[reducible] def zaC : I := .alo [.nils, (.int .i64 0), (.int .i64 0), (.int .i64 0), (.str []), (.int .i64 0), (.int .i64 0), (.int .i64 0)]
@[reducible] def zaT : I := .alo [(.int .i64 0), (.int .i64 0), (.int .i64 0), (.str [])]
@[reducible] def zZ : AV := .agg [(.int .i64 0), (.int .i64 0), (.int .i64 0), (.str []), .nils]
@[reducible] def zc (n : Int) : Opd := .c (.int .i64 n)
@[reducible] def zf : IV := .mov (.c (.bool false))
@[reducible] def zr (l : List GI) : IC := .reg false l
def qbfz : IC := zr [zi 2 (.box (.t 0)), zi 3 (.box (.t 1)), zv 4 zf]
def qbho : IC := zr [zv 11 (.ld true 3 (.t 2)), zv 12 (.ld true 3 (.t 3)), zv 13 (.bsl 3 [((.t 11), (.agg [.id, .id, (.sl 3)])), ((.t 12), (.agg [.id, .id, (.sl 3)]))]), zi 14 (.call (.c (.fn 31 [] [])) [((.t 13), (.sl 3))]), zv 15 (.bin .eql .no (.t 14) (zc 0))]
def qbf5 : IC := zr [zi 16 (.call (.c (.fn 51 [] [])) []), zm 4 16]
def qbdv : IC := zr [zv 18 (.ld true 3 (.t 2)), zv 19 (.ld true 3 (.t 3)), zi 20 (.call (.c (.fn 52 [] [])) [((.t 18), (.agg [.id, .id, (.sl 3)])), ((.t 19), (.agg [.id, .id, (.sl 3)]))]), zm 17 20, zv 21 (.ext (.t 17) 0), zv 22 (.ext (.t 17) 1), zm 5 21, zm 6 22]
def qbeb : IC := zr [zm 23 6, zv 24 (.bin .neq .no (.t 23) (zc 0))]
def qbdc : IC := zr [zm 25 5, zv 26 (.bin .eql .ptr (.t 25) (.c .nilp)), zm 27 26, ⟨some (27, true), some 28, .call (.c (.fn 51 [] [])) []⟩, zv 29 (.pick (.t 27) (.t 28) (.c (.bool false))), zm 4 29]
def qbhw : IC := zr [zm 31 5, zv 32 (.ld true 3 (.t 2)), zi 33 (.call (.c (.fn 35 [] [])) [((.t 31), .id), ((.t 32), (.agg [.id, .id, (.sl 3)]))]), zm 30 33, zv 34 (.ext (.t 30) 0), zv 35 (.ext (.t 30) 1), zi 7 (.alo [(.str []), (.int .i64 0), .nils]), zn (.st 3 (.agg [.id, .id, (.sl 3)]) (.t 7) (.t 34)), zm 8 35]
def qbcc : IC := zr [zm 36 5, zi 37 (.call (.c (.fn 41 [] [])) [((.t 36), .id)]), zm 9 37]
def qbds : IC := zr [zv 10 (.mov (zc 0))]
def q83 : IC := zr [zm 38 10, zm 39 9, zv 40 (.len false (.t 39)), zv 41 (.bin .lss .no (.t 38) (.t 40))]
def q04 : IC := .drw [zp (zv 44 (.ld true 3 (.t 2))), zp (zm 45 9), zp (zm 46 10), zp (zv 47 (.iad 4 (.t 45) (.t 46))), zp (zv 48 (.fad (.t 47) 0)), zp (zv 49 (.ld false 1 (.t 48))), (zi 50 (.call (.c (.fn 59 [] [])) [((.t 44), (.agg [.id, .id, (.sl 3)])), ((.t 49), .id)]), []), zp (zv 51 (.un .not (.t 50)))]
def q1w : IC := zr [zv 4 zf]
def q8m : IC := zr [zm 42 10, zv 43 (.bin .add .no (.t 42) (zc 1)), zm 10 43]
def qbew : IC := (.seq (.seq q83 (.cond (.t 41) .skip (.exit 0))) (.seq (.block 1 (.seq q04 (.cond (.t 51) (.seq q1w .ret) .skip))) q8m))
def q66 : IC := zr [zm 52 8, zv 53 (.bin .eql .no (.t 52) (zc 0)), zm 54 53, zw 54 true 55 (.ld true 3 (.t 7)), zw 54 true 56 (.ld true 3 (.t 3)), ⟨some (54, true), some 57, .call (.c (.fn 39 [] [])) [((.t 55), (.agg [.id, .id, (.sl 3)])), ((.t 56), (.agg [.id, .id, (.sl 3)]))]⟩, zv 58 (.pick (.t 54) (.t 57) (.c (.bool false))), zm 59 58, zw 59 true 60 (.mov (.t 9)), zw 59 true 61 (.len false (.t 60)), zw 59 true 62 (.ld true 3 (.t 2)), ⟨some (59, true), some 63, .call (.c (.fn 60 [] [])) [((.t 62), (.agg [.id, .id, (.sl 3)]))]⟩, zw 59 true 64 (.len false (.t 63)), zw 59 true 65 (.bin .eql .no (.t 61) (.t 64)), zv 66 (.pick (.t 59) (.t 65) (.c (.bool false))), zm 67 66, ⟨some (67, true), some 68, .call (.c (.fn 51 [] [])) []⟩, zv 69 (.pick (.t 67) (.t 68) (.c (.bool false))), zm 4 69]
def k0y : IC := (.seq qbfz (.seq (.seq qbho (.cond (.t 15) (.seq qbf5 .ret) .skip)) (.seq qbdv (.seq (.seq qbeb (.cond (.t 24) (.seq qbdc .ret) .skip)) (.seq qbhw (.seq qbcc (.seq (.seq qbds (.block 0 (.loop qbew))) (.seq q66 .ret))))))))
@[go_sem] def s0y : List (RV × Co) := [(.t 4, .id)]
theorem c0y : cFun Try.prog 14 = some (70, k0y, s0y) := by kernel_rfl

def q5h : IC := zr [zv 2 (.mov (zc 0))]
def q60 : IC := zr [zv 3 (.mov (zc 20000))]
def q17 : IC := zr [zv 4 (.mov (zc 0))]
def q4n : IC := zr [zm 5 4, zm 6 0, zv 7 (.len false (.t 6)), zv 8 (.bin .lss .no (.t 5) (.t 7))]
def q1r : IC := zr [zm 11 0, zm 12 4, zv 13 (.iad 3 (.t 11) (.t 12)), zv 14 (.ld true 3 (.t 13)), zm 15 3, zi 16 (.call (.c (.fn 77 [] [])) [((.t 14), (.agg [.id, .id, (.sl 3)])), ((.t 15), .id), ((zc 300), .id)]), zm 3 16]
def q97 : IC := zr [zm 9 4, zv 10 (.bin .add .no (.t 9) (zc 1)), zm 4 10]
def q07 : IC := (.seq (.seq q4n (.cond (.t 8) .skip (.exit 0))) (.seq (.block 1 q1r) q97))
def q25 : IC := zr [zm 17 3, zv 18 (.bin .lss .no (.t 17) (zc 0))]
def q6z : IC := zr [zv 2 (.mov (zc 0))]
def qyt : IC := zr [zv 2 (.mov (zc 1))]
def k0cc : IC := (.seq q5h (.seq q60 (.seq (.seq q17 (.block 0 (.loop q07))) (.seq (.seq q25 (.cond (.t 18) (.seq q6z .ret) .skip)) (.seq qyt .ret)))))
@[go_sem] def s0cc : List (RV × Co) := [(.t 2, .id)]
theorem c0cc : cFun Try.prog 31 = some (19, k0cc, s0cc) := by kernel_rfl

def q8w : IC := zr [zv 2 (.mov (.c .nilp))]
def q9y : IC := zr [zv 6 (.bld [.nils] []), zi 7 (.box (.t 6)), zm 3 7]
def q3e : IC := zr [zm 8 0, zv 9 (.len false (.t 8)), zv 10 (.mov (zc 0))]
def q6x : IC := zr [zv 11 (.bin .lss .no (.t 10) (.t 9))]
def q0q : IC := zr [zv 12 (.iad 4 (.t 8) (.t 10)), zv 13 (.ld true 4 (.t 12)), zi 5 (.alo [(.int .i64 0), (.str []), (.int .i64 0), .nils]), zn (.st 4 (.agg [.id, .id, .id, (.sl 3)]) (.t 5) (.t 13))]
def q8n : IC := zr [zm 14 3, zv 15 (.fad (.t 5) 0), zv 16 (.ld false 1 (.t 15)), zv 17 (.fad (.t 5) 1), zv 18 (.ld true 3 (.t 17)), zi 19 (.call (.c (.fn 45 [] [])) [((.t 14), .id), ((.t 16), .id), ((.t 18), (.agg [.id, .id, (.sl 3)]))])]
def q9z : IC := zr [zv 20 (.bin .add .no (.t 10) (zc 1)), zm 10 20]
def q9c : IC := (.seq q6x (.seq (.cond (.t 11) .skip (.exit 0)) (.seq (.block 1 (.seq q0q q8n)) q9z)))
def q5c : IC := zr [zm 21 3, zm 2 21]
def k0cl : IC := (.seq q8w (.seq q9y (.seq (.seq q3e (.block 0 (.loop q9c))) (.seq q5c .ret))))
@[go_sem] def s0cl : List (RV × Co) := [(.t 2, .id)]
theorem c0cl : cFun Try.prog 33 = some (22, k0cl, s0cl) := by kernel_rfl

def q59 : IC := zr [zi 3 (.box (.t 1)), zi 4 (.alo [(.str []), (.int .i64 0), .nils]), zv 5 (.mov (zc 0))]
def q2y : IC := zr [zv 8 (.ld true 3 (.t 3)), zi 9 (.call (.c (.fn 48 [] [])) [((.t 8), (.agg [.id, .id, (.sl 3)]))]), zv 10 (.un .not (.t 9))]
def q3z : IC := zr [zv 11 (.bld [(.str []), (.int .i64 0), .nils] []), zn (.st 3 (.agg [.id, .id, (.sl 3)]) (.t 4) (.t 11)), zv 5 (.mov (zc 1))]
def q5b : IC := zr [zm 12 0, zv 13 (.bld [.nilp, (.int .i64 0)] [(0, 1, (.t 12)), (1, 1, (zc 4096))]), zi 14 (.box (.t 13)), zm 6 14]
def q7u : IC := zr [zm 15 6, zv 16 (.ld true 3 (.t 3)), zi 17 (.call (.c (.fn 78 [] [])) [((.t 15), .id), ((.t 16), (.agg [.id, .id, (.sl 3)])), ((zc 1), .id)]), zi 7 (.alo [(.str []), (.int .i64 0), .nils]), zn (.st 3 (.agg [.id, .id, (.sl 3)]) (.t 7) (.t 17))]
def q6i : IC := zr [zm 18 6, zv 19 (.nck (.t 18)), zv 20 (.fad (.t 19) 1), zv 21 (.ld false 1 (.t 20)), zv 22 (.bin .lss .no (.t 21) (zc 0))]
def q7j : IC := zr [zv 23 (.bld [(.str []), (.int .i64 0), .nils] []), zn (.st 3 (.agg [.id, .id, (.sl 3)]) (.t 4) (.t 23)), zv 5 (.mov (zc 2))]
def qbaa : IC := zr [zv 24 (.ld true 3 (.t 7)), zn (.st 3 (.agg [.id, .id, (.sl 3)]) (.t 4) (.t 24)), zv 5 (.mov (zc 0))]
def k0ck : IC := (.seq q59 (.seq (.seq q2y (.cond (.t 10) (.seq q3z .ret) .skip)) (.seq q5b (.seq q7u (.seq (.seq q6i (.cond (.t 22) (.seq q7j .ret) .skip)) (.seq qbaa .ret))))))
@[go_sem] def s0ck : List (RV × Co) := [(.c true 3 4, (.agg [.id, .id, (.sl 3)])), (.t 5, .id)]
theorem c0ck : cFun Try.prog 35 = some (25, k0ck, s0ck) := by kernel_rfl

def q6l : IC := zr [zi 4 (.alo [(.str []), (.int .i64 0), .nils]), zv 5 zf]
def q00 : IC := zr [zm 8 0, zv 9 (.bin .eql .ptr (.t 8) (.c .nilp))]
def q8x : IC := zr [zv 10 (.bld [(.str []), (.int .i64 0), .nils] []), zn (.st 3 (.agg [.id, .id, (.sl 3)]) (.t 4) (.t 10)), zv 5 zf]
def q5f : IC := zr [zm 12 0, zm 13 1, zi 14 (.call (.c (.fn 82 [] [])) [((.t 12), .id), ((.t 13), .id)]), zm 11 14, zv 15 (.ext (.t 11) 0), zv 16 (.ext (.t 11) 1), zm 6 15, zm 7 16]
def q15 : IC := zr [zm 17 7, zv 18 (.un .not (.t 17))]
def q73 : IC := zr [zv 19 (.bld [(.str []), (.int .i64 0), .nils] []), zn (.st 3 (.agg [.id, .id, (.sl 3)]) (.t 4) (.t 19)), zv 5 zf]
def q8s : IC := zr [zm 20 0, zv 21 (.nck (.t 20)), zv 22 (.fad (.t 21) 0), zv 23 (.ld false 1 (.t 22)), zm 24 6, zv 25 (.iad 4 (.t 23) (.t 24)), zv 26 (.fad (.t 25) 1), zv 27 (.ld true 3 (.t 26)), zn (.st 3 (.agg [.id, .id, (.sl 3)]) (.t 4) (.t 27)), zv 5 (.mov (.c (.bool true)))]
def k0bm : IC := (.seq q6l (.seq (.seq q00 (.cond (.t 9) (.seq q8x .ret) .skip)) (.seq q5f (.seq (.seq q15 (.cond (.t 18) (.seq q73 .ret) .skip)) (.seq q8s .ret)))))
@[go_sem] def s0bm : List (RV × Co) := [(.c true 3 4, (.agg [.id, .id, (.sl 3)])), (.t 5, .id)]
theorem c0bm : cFun Try.prog 37 = some (28, k0bm, s0bm) := by kernel_rfl

def qbgx : IC := zr [zi 2 (.box (.t 0)), zi 3 (.box (.t 1)), zv 4 zf]
def qbdl : IC := zr [zv 6 (.fad (.t 2) 0), zv 7 (.ld false 1 (.t 6)), zv 8 (.fad (.t 3) 0), zv 9 (.ld false 1 (.t 8)), zv 10 (.bin .neq .no (.t 7) (.t 9)), zm 11 10, zw 11 false 12 (.fad (.t 2) 1), zw 11 false 13 (.ld false 1 (.t 12)), zw 11 false 14 (.fad (.t 3) 1), zw 11 false 15 (.ld false 1 (.t 14)), zw 11 false 16 (.bin .neq .no (.t 13) (.t 15)), zv 17 (.pick (.t 11) (.c (.bool true)) (.t 16)), zm 18 17, zw 18 false 19 (.fad (.t 2) 2), zw 18 false 20 (.ld false 1 (.t 19)), zw 18 false 21 (.len false (.t 20)), zw 18 false 22 (.fad (.t 3) 2), zw 18 false 23 (.ld false 1 (.t 22)), zw 18 false 24 (.len false (.t 23)), zw 18 false 25 (.bin .neq .no (.t 21) (.t 24)), zv 26 (.pick (.t 18) (.c (.bool true)) (.t 25))]
def qbgs : IC := zr [zv 4 zf]
def qbch : IC := zr [zv 5 (.mov (zc 0))]
def qbce : IC := zr [zm 27 5, zv 28 (.fad (.t 2) 2), zv 29 (.ld false 1 (.t 28)), zv 30 (.len false (.t 29)), zv 31 (.bin .lss .no (.t 27) (.t 30))]
def qbci : IC := .drw [zp (zv 34 (.fad (.t 2) 2)), zp (zv 35 (.ld false 1 (.t 34))), zp (zm 36 5), zp (zv 37 (.iad 3 (.t 35) (.t 36))), zp (zv 38 (.ld true 3 (.t 37))), zp (zv 39 (.fad (.t 3) 2)), zp (zv 40 (.ld false 1 (.t 39))), zp (zm 41 5), zp (zv 42 (.iad 3 (.t 40) (.t 41))), zp (zv 43 (.ld true 3 (.t 42))), (zi 44 (.call (.c (.fn 39 [] [])) [((.t 38), (.agg [.id, .id, (.sl 3)])), ((.t 43), (.agg [.id, .id, (.sl 3)]))]), []), zp (zv 45 (.un .not (.t 44)))]
def qbcs : IC := zr [zv 4 zf]
def qbhi : IC := zr [zm 32 5, zv 33 (.bin .add .no (.t 32) (zc 1)), zm 5 33]
def qba7 : IC := (.seq (.seq qbce (.cond (.t 31) .skip (.exit 0))) (.seq (.block 1 (.seq qbci (.cond (.t 45) (.seq qbcs .ret) .skip))) qbhi))
def q01 : IC := zr [zv 4 (.mov (.c (.bool true)))]
def k0i : IC := (.seq qbgx (.seq (.seq qbdl (.cond (.t 26) (.seq qbgs .ret) .skip)) (.seq (.seq qbch (.block 0 (.loop qba7))) (.seq q01 .ret))))
@[go_sem] def s0i : List (RV × Co) := [(.t 4, .id)]
theorem c0i : cFun Try.prog 39 = some (46, k0i, s0i) := by kernel_rfl

def q9u : IC := zr [zv 2 (.mov (.c .nils))]
def q5z : IC := zr [zm 6 0, zv 7 (.bin .eql .ptr (.t 6) (.c .nilp))]
def q1c : IC := zr [zv 2 (.mov (.c .nils))]
def q4s : IC := zr [zm 8 0, zv 9 (.nck (.t 8)), zv 10 (.fad (.t 9) 0), zv 11 (.ld false 1 (.t 10)), zv 12 (.len false (.t 11)), zi 13 (.mks 4 (.agg [(.int .i64 0), (.str []), (.int .i64 0), .nils]) 56 (.t 12) (.t 12)), zm 3 13]
def q2c : IC := zr [zm 14 0, zv 15 (.nck (.t 14)), zv 16 (.fad (.t 15) 0), zv 17 (.ld false 1 (.t 16)), zv 18 (.len false (.t 17)), zv 19 (.mov (zc 0))]
def q2o : IC := zr [zv 20 (.bin .lss .no (.t 19) (.t 18))]
def q3y : IC := zr [zm 21 19, zv 22 (.iad 4 (.t 17) (.t 19)), zv 23 (.ld true 4 (.t 22)), zi 5 (.alo [(.int .i64 0), (.str []), (.int .i64 0), .nils]), zm 4 21, zn (.st 4 (.agg [.id, .id, .id, (.sl 3)]) (.t 5) (.t 23))]
def q13 : IC := .drw [zp (zm 24 3), zp (zm 25 4), zp (zv 26 (.fad (.t 5) 0)), zp (zv 27 (.ld false 1 (.t 26))), zp (zv 28 (.fad (.t 5) 1)), zp (zv 29 (.ld true 3 (.t 28))), (zi 30 (.call (.c (.fn 83 [] [])) [((.t 29), (.agg [.id, .id, (.sl 3)]))]), [3]), (zv 31 (.bld [(.int .i64 0), (.str []), (.int .i64 0), .nils] [(0, 1, (.t 27)), (1, 3, (.t 30))]), []), zp (zv 32 (.iad 4 (.t 24) (.t 25))), (zn (.st 4 (.agg [.id, .id, .id, (.sl 3)]) (.t 32) (.t 31)), [])]
def q8f : IC := zr [zv 33 (.bin .add .no (.t 19) (zc 1)), zm 19 33]
def q8p : IC := (.seq q2o (.seq (.cond (.t 20) .skip (.exit 0)) (.seq (.block 1 (.seq q3y q13)) q8f)))
def qye : IC := zr [zm 34 3, zm 2 34]
def k0cj : IC := (.seq q9u (.seq (.seq q5z (.cond (.t 7) (.seq q1c .ret) .skip)) (.seq q4s (.seq (.seq q2c (.block 0 (.loop q8p))) (.seq qye .ret)))))
@[go_sem] def s0cj : List (RV × Co) := [(.t 2, (.sl 4))]
theorem c0cj : cFun Try.prog 41 = some (35, k0cj, s0cj) := by kernel_rfl

def q03 : IC := zr [zi 5 (.box (.t 2)), zv 6 (.mov (zc 0))]
def q32 : IC := zr [zm 9 0, zv 10 (.bin .eql .ptr (.t 9) (.c .nilp)), zm 11 10, zw 11 false 12 (.ld true 3 (.t 5)), ⟨some (11, false), some 13, .call (.c (.fn 48 [] [])) [((.t 12), (.agg [.id, .id, (.sl 3)]))]⟩, zw 11 false 14 (.un .not (.t 13)), zv 15 (.pick (.t 11) (.c (.bool true)) (.t 14))]
def q0l : IC := zr [zv 6 (.mov (zc 1))]
def q8q : IC := zr [zm 17 0, zm 18 1, zi 19 (.call (.c (.fn 82 [] [])) [((.t 17), .id), ((.t 18), .id)]), zm 16 19, zv 20 (.ext (.t 16) 0), zv 21 (.ext (.t 16) 1), zm 7 20, zm 8 21]
def q4w : IC := zr [zm 22 8]
def q9h : IC := zr [zv 6 (.mov (zc 6))]
def q5n : IC := .drw [zp (zm 23 0), zp (zm 24 0), zp (zv 25 (.nck (.t 24))), zp (zv 26 (.fad (.t 25) 0)), zp (zv 27 (.ld false 1 (.t 26))), zp (zm 28 7), zp (zm 29 1), zp (zv 30 (.ld true 3 (.t 5))), (zi 31 (.call (.c (.fn 83 [] [])) [((.t 30), (.agg [.id, .id, (.sl 3)]))]), [4]), (zv 32 (.bld [(.int .i64 0), (.str []), (.int .i64 0), .nils] [(0, 1, (.t 29)), (1, 3, (.t 31))]), []), (zv 33 (.bsl 4 [((.t 32), (.agg [.id, .id, .id, (.sl 3)]))]), []), (zi 34 (.call (.c (.fn 85 [] [])) [((.t 27), (.sl 4)), ((.t 28), .id), ((.t 33), (.sl 4))]), []), zp (zv 35 (.nck (.t 23))), zp (zv 36 (.fad (.t 35) 0)), (zn (.st 1 (.sl 4) (.t 36) (.t 34)), [])]
def q7k : IC := zr [zv 6 (.mov (zc 0))]
def k0bl : IC := (.seq q03 (.seq (.seq q32 (.cond (.t 15) (.seq q0l .ret) .skip)) (.seq q8q (.seq (.seq q4w (.cond (.t 22) (.seq q9h .ret) .skip)) (.seq q5n (.seq q7k .ret))))))
@[go_sem] def s0bl : List (RV × Co) := [(.t 6, .id)]
theorem c0bl : cFun Try.prog 45 = some (37, k0bl, s0bl) := by kernel_rfl

def q61 : IC := zr [zi 1 (.box (.t 0)), zv 2 zf]
def qbam : IC := zr [zi 3 (.alo [(.int .i64 0)]), zn (.st 1 .id (.t 3) (zc 0))]
def q5v : IC := zr [zv 4 (.ld true 3 (.t 1)), zv 5 (.mfn 87 [] [(.t 3)]), zi 6 (.call (.c (.fn 86 [] [])) [((.t 4), (.agg [.id, .id, (.sl 3)])), ((zc 1), .id), ((.t 5), .id)]), zm 2 6]
def k0by : IC := (.seq q61 (.seq qbam (.seq q5v .ret)))
@[go_sem] def s0by : List (RV × Co) := [(.t 2, .id)]
theorem c0by : cFun Try.prog 48 = some (7, k0by, s0by) := by kernel_rfl

def q54 : IC := zr [zv 0 zf]
def q6r : IC := zr [zi 8 (.call (.c (.fn 90 [] [])) [((.c (.str [97, 32, 45, 62, 32, 97])), .id)]), zi 9 (.call (.c (.fn 90 [] [])) [((.c (.str [84, 32, 45, 62, 32, 85])), .id)]), zi 10 (.call (.c (.fn 52 [] [])) [((.t 8), (.agg [.id, .id, (.sl 3)])), ((.t 9), (.agg [.id, .id, (.sl 3)]))]), zm 7 10, zv 11 (.ext (.t 7) 0), zv 12 (.ext (.t 7) 1), zm 1 11, zm 2 12]
def q8z : IC := zr [zi 14 (.call (.c (.fn 90 [] [])) [((.c (.str [97, 32, 45, 62, 32, 98])), .id)]), zi 15 (.call (.c (.fn 90 [] [])) [((.c (.str [98, 32, 45, 62, 32, 84, 32, 97])), .id)]), zi 16 (.call (.c (.fn 52 [] [])) [((.t 14), (.agg [.id, .id, (.sl 3)])), ((.t 15), (.agg [.id, .id, (.sl 3)]))]), zm 13 16, zv 17 (.ext (.t 13) 0), zv 18 (.ext (.t 13) 1), zm 3 17, zm 4 18]
def q0o : IC := zr [zm 20 3, zi 21 (.call (.c (.fn 37 [] [])) [((.t 20), .id), ((zc 0), .id)]), zm 19 21, zv 22 (.ext (.t 19) 0), zv 23 (.ext (.t 19) 1), zi 5 (.alo [(.str []), (.int .i64 0), .nils]), zn (.st 3 (.agg [.id, .id, (.sl 3)]) (.t 5) (.t 22)), zm 6 23]
def qba0 : IC := zr [zm 24 2, zv 25 (.bin .eql .no (.t 24) (zc 14)), zm 26 25, zw 26 true 27 (.mov (.t 4)), zw 26 true 28 (.bin .eql .no (.t 27) (zc 0)), zv 29 (.pick (.t 26) (.t 28) (.c (.bool false))), zm 30 29, zw 30 true 31 (.mov (.t 6)), zv 32 (.pick (.t 30) (.t 31) (.c (.bool false))), zm 33 32, zw 33 true 34 (.fad (.t 5) 1), zw 33 true 35 (.ld false 1 (.t 34)), zw 33 true 36 (.bin .eql .no (.t 35) (zc 1)), zv 37 (.pick (.t 33) (.t 36) (.c (.bool false))), zm 38 37, ⟨some (38, true), some 39, .call (.c (.fn 90 [] [])) [((.c (.str [97])), .id)]⟩, ⟨some (38, true), some 40, .call (.c (.fn 90 [] [])) [((.c (.str [84])), .id)]⟩, ⟨some (38, true), some 41, .call (.c (.fn 54 [] [])) [((.t 39), (.agg [.id, .id, (.sl 3)])), ((.t 40), (.agg [.id, .id, (.sl 3)]))]⟩, zv 42 (.pick (.t 38) (.t 41) (.c (.bool false))), zm 43 42, ⟨some (43, true), some 44, .call (.c (.fn 90 [] [])) [((.c (.str [84])), .id)]⟩, ⟨some (43, true), some 45, .call (.c (.fn 90 [] [])) [((.c (.str [97])), .id)]⟩, ⟨some (43, true), some 46, .call (.c (.fn 54 [] [])) [((.t 44), (.agg [.id, .id, (.sl 3)])), ((.t 45), (.agg [.id, .id, (.sl 3)]))]⟩, zw 43 true 47 (.un .not (.t 46)), zv 48 (.pick (.t 43) (.t 47) (.c (.bool false))), zm 49 48, ⟨some (49, true), some 50, .call (.c (.fn 90 [] [])) [((.c (.str [97, 32, 45, 62, 32, 98])), .id)]⟩, ⟨some (49, true), some 51, .call (.c (.fn 90 [] [])) [((.c (.str [98, 32, 45, 62, 32, 99])), .id)]⟩, ⟨some (49, true), some 52, .call (.c (.fn 56 [] [])) [((.t 50), (.agg [.id, .id, (.sl 3)])), ((.t 51), (.agg [.id, .id, (.sl 3)]))]⟩, zv 53 (.pick (.t 49) (.t 52) (.c (.bool false))), zm 54 53, ⟨some (54, true), some 55, .call (.c (.fn 90 [] [])) [((.c (.str [97, 32, 45, 62, 32, 98])), .id)]⟩, ⟨some (54, true), some 56, .call (.c (.fn 90 [] [])) [((.c (.str [97, 32, 45, 62, 32, 97])), .id)]⟩, ⟨some (54, true), some 57, .call (.c (.fn 56 [] [])) [((.t 55), (.agg [.id, .id, (.sl 3)])), ((.t 56), (.agg [.id, .id, (.sl 3)]))]⟩, zw 54 true 58 (.un .not (.t 57)), zv 59 (.pick (.t 54) (.t 58) (.c (.bool false))), zm 0 59]
def k0ba : IC := (.seq q54 (.seq q6r (.seq q8z (.seq q0o (.seq qba0 .ret)))))
@[go_sem] def s0ba : List (RV × Co) := [(.t 0, .id)]
theorem c0ba : cFun Try.prog 51 = some (60, k0ba, s0ba) := by kernel_rfl

def q7v : IC := zr [zi 2 (.box (.t 0)), zi 3 (.box (.t 1)), zv 4 (.mov (.c .nilp)), zv 5 (.mov (zc 0))]
def q1a : IC := zr [zv 6 (.ld true 3 (.t 2)), zv 7 (.bsl 3 [((.t 6), (.agg [.id, .id, (.sl 3)]))]), zv 8 (.ld true 3 (.t 3)), zv 9 (.bsl 3 [((.t 8), (.agg [.id, .id, (.sl 3)]))]), zi 10 (.call (.c (.fn 57 [] [])) [((.t 7), (.sl 3)), ((.t 9), (.sl 3))]), zv 11 (.ext (.t 10) 0), zv 12 (.ext (.t 10) 1), zm 4 11, zm 5 12]
def k0bc : IC := (.seq q7v (.seq q1a .ret))
@[go_sem] def s0bc : List (RV × Co) := [(.t 4, .id), (.t 5, .id)]
theorem c0bc : cFun Try.prog 52 = some (13, k0bc, s0bc) := by kernel_rfl

def q5l : IC := zr [zi 2 (.box (.t 0)), zi 3 (.box (.t 1)), zv 4 zf]
def q1u : IC := zr [zv 8 (.ld true 3 (.t 2)), zv 9 (.ld true 3 (.t 3)), zi 10 (.call (.c (.fn 52 [] [])) [((.t 8), (.agg [.id, .id, (.sl 3)])), ((.t 9), (.agg [.id, .id, (.sl 3)]))]), zm 7 10, zv 11 (.ext (.t 7) 0), zv 12 (.ext (.t 7) 1), zm 5 11, zm 6 12]
def q29 : IC := zr [zm 13 6, zv 14 (.bin .eql .no (.t 13) (zc 0)), zm 4 14]
def k0bd : IC := (.seq q5l (.seq q1u (.seq q29 .ret)))
@[go_sem] def s0bd : List (RV × Co) := [(.t 4, .id)]
theorem c0bd : cFun Try.prog 54 = some (15, k0bd, s0bd) := by kernel_rfl

def q5y : IC := zr [zi 2 (.box (.t 0)), zi 3 (.box (.t 1)), zv 4 zf]
def q7q : IC := zr [zv 5 (.ld true 3 (.t 2)), zv 6 (.ld true 3 (.t 3)), zi 7 (.call (.c (.fn 54 [] [])) [((.t 5), (.agg [.id, .id, (.sl 3)])), ((.t 6), (.agg [.id, .id, (.sl 3)]))]), zm 8 7, zw 8 true 9 (.ld true 3 (.t 3)), zw 8 true 10 (.ld true 3 (.t 2)), ⟨some (8, true), some 11, .call (.c (.fn 54 [] [])) [((.t 9), (.agg [.id, .id, (.sl 3)])), ((.t 10), (.agg [.id, .id, (.sl 3)]))]⟩, zv 12 (.pick (.t 8) (.t 11) (.c (.bool false))), zm 4 12]
def k0be : IC := (.seq q5y (.seq q7q .ret))
@[go_sem] def s0be : List (RV × Co) := [(.t 4, .id)]
theorem c0be : cFun Try.prog 56 = some (13, k0be, s0be) := by kernel_rfl

def q31 : IC := zr [zv 4 (.mov (.c .nilp)), zv 5 (.mov (zc 0))]
def q2u : IC := zr [zm 7 0, zi 8 (.call (.c (.fn 91 [] [])) [((.t 7), (.sl 3))]), zv 9 (.un .not (.t 8)), zm 10 9, zw 10 false 11 (.mov (.t 1)), ⟨some (10, false), some 12, .call (.c (.fn 91 [] [])) [((.t 11), (.sl 3))]⟩, zw 10 false 13 (.un .not (.t 12)), zv 14 (.pick (.t 10) (.c (.bool true)) (.t 13))]
def q6y : IC := zr [zv 4 (.mov (.c .nilp)), zv 5 (.mov (zc 1))]
def q6u : IC := zr [zi 15 (.call (.c (.fn 33 [] [])) [((.c .nils), (.sl 4))]), zi 6 (.alo [.nilp]), zn (.st 1 .id (.t 6) (.t 15))]
def qbag : IC := zr [zm 16 0, zm 17 1, zv 18 (.mfn 93 [] [(.t 6)]), zi 19 (.call (.c (.fn 92 [] [])) [((.t 16), (.sl 3)), ((.t 17), (.sl 3)), ((.t 18), .id)]), zv 20 (.un .not (.t 19))]
def q3g : IC := zr [zv 4 (.mov (.c .nilp)), zv 5 (.mov (zc 14))]
def q9v : IC := zr [zv 21 (.ld false 1 (.t 6)), zm 4 21, zv 5 (.mov (zc 0))]
def k0bb : IC := (.seq q31 (.seq (.seq q2u (.cond (.t 14) (.seq q6y .ret) .skip)) (.seq q6u (.seq (.seq qbag (.cond (.t 20) (.seq q3g .ret) .skip)) (.seq q9v .ret)))))
@[go_sem] def s0bb : List (RV × Co) := [(.t 4, .id), (.t 5, .id)]
theorem c0bb : cFun Try.prog 57 = some (22, k0bb, s0bb) := by kernel_rfl

def qbh3 : IC := zr [zi 2 (.box (.t 0)), zv 4 zf]
def qbgi : IC := zr [zv 5 (.ld true 3 (.t 2)), zi 6 (.call (.c (.fn 97 [] [])) [((.t 5), (.agg [.id, .id, (.sl 3)]))]), zm 7 1, zi 8 (.call (.c (.fn 84 [] [])) [((.t 6), (.sl 1)), ((.t 7), .id)]), zm 4 8]
def k0f : IC := (.seq qbh3 (.seq qbgi .ret))
@[go_sem] def s0f : List (RV × Co) := [(.t 4, .id)]
theorem c0f : cFun Try.prog 59 = some (9, k0f, s0f) := by kernel_rfl

def qbfe : IC := zr [zi 1 (.box (.t 0)), zv 2 (.mov (.c .nils))]
def qbik : IC := zr [zv 3 (.ld true 3 (.t 1)), zi 4 (.call (.c (.fn 97 [] [])) [((.t 3), (.agg [.id, .id, (.sl 3)]))]), zi 5 (.call (.c (.fn 67 [] [])) [((.t 4), (.sl 1))]), zm 2 5]
def k0e : IC := (.seq qbfe (.seq qbik .ret))
@[go_sem] def s0e : List (RV × Co) := [(.t 2, (.sl 1))]
theorem c0e : cFun Try.prog 60 = some (6, k0e, s0e) := by kernel_rfl

def qbbw : IC := zr [zv 2 (.mov (.c .nils))]
def qbdy : IC := zr [zv 3 (.mov (.c .nils))]
def qbey : IC := zr [zv 4 (.mov (zc 0))]
def qbbo : IC := zr [zm 5 4, zm 6 0, zv 7 (.len false (.t 6)), zv 8 (.bin .lss .no (.t 5) (.t 7))]
def qbg1 : IC := zr [zm 11 3, zm 12 0, zm 13 4, zv 14 (.iad 1 (.t 12) (.t 13)), zv 15 (.ld false 1 (.t 14)), zi 16 (.call (.c (.fn 84 [] [])) [((.t 11), (.sl 1)), ((.t 15), .id)]), zv 17 (.un .not (.t 16))]
def qbhu : IC := zr [zm 18 3, zm 19 0, zm 20 4, zv 21 (.iad 1 (.t 19) (.t 20)), zv 22 (.ld false 1 (.t 21)), zv 23 (.bsl 1 [((.t 22), .id)]), zi 24 (.app 1 (.int .i64 0) 8 (.sl 1) (.t 18) (.t 23)), zm 3 24]
def qbgz : IC := zr [zm 9 4, zv 10 (.bin .add .no (.t 9) (zc 1)), zm 4 10]
def qbbs : IC := (.seq (.seq qbbo (.cond (.t 8) .skip (.exit 0))) (.seq (.block 1 (.seq qbg1 (.cond (.t 17) qbhu .skip))) qbgz))
def qbhr : IC := zr [zm 25 3, zm 2 25]
def k0c : IC := (.seq qbbw (.seq qbdy (.seq (.seq qbey (.block 0 (.loop qbbs))) (.seq qbhr .ret))))
@[go_sem] def s0c : List (RV × Co) := [(.t 2, (.sl 1))]
theorem c0c : cFun Try.prog 67 = some (26, k0c, s0c) := by kernel_rfl

def qbdb : IC := zr [zv 2 zf]
def qbhx : IC := zr [zm 3 0, zv 4 (.bin .neq .no (.t 3) (.c (.str []))), zm 5 4, zw 5 true 6 (.mov (.t 0)), zw 5 true 7 (.idx (.t 6) (zc 0)), ⟨some (5, true), some 8, .call (.c (.fn 106 [] [])) [((.t 7), .id)]⟩, zv 9 (.pick (.t 5) (.t 8) (.c (.bool false))), zm 10 9, zw 10 true 11 (.mov (.t 0)), ⟨some (10, true), some 12, .call (.c (.fn 107 [] [])) [((.t 11), .id)]⟩, zv 13 (.pick (.t 10) (.t 12) (.c (.bool false))), zm 2 13]
def k0t : IC := (.seq qbdb (.seq qbhx .ret))
@[go_sem] def s0t : List (RV × Co) := [(.t 2, .id)]
theorem c0t : cFun Try.prog 72 = some (14, k0t, s0t) := by kernel_rfl

def q5x : IC := zr [zi 1 (.box (.t 0)), zv 2 (.mov (.c (.str [])))]
def q7n : IC := zr [zv 3 (.ld true 3 (.t 1)), zi 4 (.call (.c (.fn 48 [] [])) [((.t 3), (.agg [.id, .id, (.sl 3)]))]), zv 5 (.un .not (.t 4))]
def q3m : IC := zr [zv 2 (.mov (.c (.str [])))]
def q12 : IC := zr [zv 6 (.ld true 3 (.t 1)), zi 7 (.call (.c (.fn 109 [] [])) [((.t 6), (.agg [.id, .id, (.sl 3)]))]), zm 2 7]
def k0bu : IC := (.seq q5x (.seq (.seq q7n (.cond (.t 5) (.seq q3m .ret) .skip)) (.seq q12 .ret)))
@[go_sem] def s0bu : List (RV × Co) := [(.t 2, .id)]
theorem c0bu : cFun Try.prog 75 = some (8, k0bu, s0bu) := by kernel_rfl

def qbgc : IC := zr [zi 2 (.box (.t 0)), zi 3 (.box (.t 1)), zv 4 zf]
def qbg5 : IC := .drw [zp (zv 6 (.ld true 3 (.t 2))), (zi 7 (.call (.c (.fn 88 [] [])) [((.t 6), (.agg [.id, .id, (.sl 3)]))]), []), (zv 8 (.ld true 3 (.t 3)), [1]), (zi 9 (.call (.c (.fn 88 [] [])) [((.t 8), (.agg [.id, .id, (.sl 3)]))]), []), (zv 10 (.bin .neq (.cells [.str, (.int .i64), (.int .i64)]) (.t 7) (.t 9)), [])]
def qbb7 : IC := zr [zv 4 zf]
def qbe3 : IC := zr [zv 11 (.fad (.t 2) 2), zv 12 (.ld false 1 (.t 11)), zv 13 (.len false (.t 12)), zv 14 (.mov (zc 0))]
def qbhq : IC := zr [zv 15 (.bin .lss .no (.t 14) (.t 13))]
def qbgq : IC := zr [zm 16 14, zm 5 16]
def qbco : IC := .drw [zp (zv 17 (.fad (.t 2) 2)), zp (zv 18 (.ld false 1 (.t 17))), zp (zm 19 5), zp (zv 20 (.iad 3 (.t 18) (.t 19))), zp (zv 21 (.ld true 3 (.t 20))), zp (zv 22 (.fad (.t 3) 2)), zp (zv 23 (.ld false 1 (.t 22))), zp (zm 24 5), zp (zv 25 (.iad 3 (.t 23) (.t 24))), zp (zv 26 (.ld true 3 (.t 25))), (zi 27 (.call (.c (.fn 76 [] [])) [((.t 21), (.agg [.id, .id, (.sl 3)])), ((.t 26), (.agg [.id, .id, (.sl 3)]))]), []), zp (zv 28 (.un .not (.t 27)))]
def qbh9 : IC := zr [zv 4 zf]
def qbgy : IC := zr [zv 29 (.bin .add .no (.t 14) (zc 1)), zm 14 29]
def qbbg : IC := (.seq qbhq (.seq (.cond (.t 15) .skip (.exit 0)) (.seq (.block 1 (.seq qbgq (.seq qbco (.cond (.t 28) (.seq qbh9 .ret) .skip)))) qbgy)))
def q0n : IC := zr [zv 4 (.mov (.c (.bool true)))]
def k0h : IC := (.seq qbgc (.seq (.seq qbg5 (.cond (.t 10) (.seq qbb7 .ret) .skip)) (.seq (.seq qbe3 (.block 0 (.loop qbbg))) (.seq q0n .ret))))
@[go_sem] def s0h : List (RV × Co) := [(.t 4, .id)]
theorem c0h : cFun Try.prog 76 = some (30, k0h, s0h) := by kernel_rfl

def q52 : IC := zr [zi 3 (.box (.t 0)), zv 6 (.mov (zc 0))]
def qbap : IC := zr [zm 8 1, zv 9 (.bin .sub .no (.t 8) (zc 1)), zm 1 9]
def q94 : IC := zr [zm 10 2, zv 11 (.bin .lss .no (.t 10) (zc 1))]
def q3i : IC := zr [zv 6 (.mov (zc (-1)))]
def q9o : IC := zr [zv 7 (.mov (zc 0))]
def q08 : IC := zr [zm 12 7, zv 13 (.fad (.t 3) 2), zv 14 (.ld false 1 (.t 13)), zv 15 (.len false (.t 14)), zv 16 (.bin .lss .no (.t 12) (.t 15)), zm 17 16, zw 17 true 18 (.mov (.t 1)), zw 17 true 19 (.bin .geq .no (.t 18) (zc 0)), zv 20 (.pick (.t 17) (.t 19) (.c (.bool false)))]
def q64 : IC := zr [zv 23 (.fad (.t 3) 2), zv 24 (.ld false 1 (.t 23)), zm 25 7, zv 26 (.iad 3 (.t 24) (.t 25)), zv 27 (.ld true 3 (.t 26)), zm 28 1, zm 29 2, zv 30 (.bin .sub .no (.t 29) (zc 1)), zi 31 (.call (.c (.fn 77 [] [])) [((.t 27), (.agg [.id, .id, (.sl 3)])), ((.t 28), .id), ((.t 30), .id)]), zm 1 31]
def q79 : IC := zr [zm 21 7, zv 22 (.bin .add .no (.t 21) (zc 1)), zm 7 22]
def q9x : IC := (.seq (.seq q08 (.cond (.t 20) .skip (.exit 0))) (.seq (.block 1 q64) q79))
def qzu : IC := zr [zm 32 1, zm 6 32]
def k0cb : IC := (.seq q52 (.seq qbap (.seq (.seq q94 (.cond (.t 11) (.seq q3i .ret) .skip)) (.seq (.seq q9o (.block 0 (.loop q9x))) (.seq qzu .ret)))))
@[go_sem] def s0cb : List (RV × Co) := [(.t 6, .id)]
theorem c0cb : cFun Try.prog 77 = some (33, k0cb, s0cb) := by kernel_rfl

def q06 : IC := zr [zi 4 (.box (.t 1)), zi 6 (.alo [(.str []), (.int .i64 0), .nils])]
def q9l : IC := zr [zv 11 (.fad (.t 4) 0), zv 12 (.ld false 1 (.t 11)), zv 13 (.bin .eql .no (.t 12) (.c (.str [])))]
def q3t : IC := .drw [zp (zm 15 0), zp (zv 16 (.nck (.t 15))), zp (zv 17 (.fad (.t 16) 0)), zp (zv 18 (.ld false 1 (.t 17))), zp (zv 19 (.fad (.t 4) 1)), zp (zv 20 (.ld false 1 (.t 19))), (zi 21 (.call (.c (.fn 37 [] [])) [((.t 18), .id), ((.t 20), .id)]), []), zp (zm 14 21), zp (zv 22 (.ext (.t 14) 0)), zp (zv 23 (.ext (.t 14) 1)), (zi 7 (.alo [(.str []), (.int .i64 0), .nils]), [3, 5, 6]), (zn (.st 3 (.agg [.id, .id, (.sl 3)]) (.t 7) (.t 22)), []), zp (zm 8 23)]
def q93 : IC := zr [zm 24 8]
def q8a : IC := .drw [zp (zm 25 0), zp (zv 26 (.nck (.t 25))), zp (zv 27 (.fad (.t 26) 1)), zp (zv 28 (.ld false 1 (.t 27))), zp (zv 29 (.ld true 3 (.t 7))), (zi 30 (.call (.c (.fn 110 [] [])) [((.t 29), (.agg [.id, .id, (.sl 3)]))]), [3]), zp (zv 31 (.bin .sub .no (.t 28) (.t 30))), zp (zv 32 (.nck (.t 25))), zp (zv 33 (.fad (.t 32) 1)), (zn (.st 1 .id (.t 33) (.t 31)), [])]
def q45 : IC := zr [zm 34 2, zv 35 (.ld true 3 (.t 7)), zi 36 (.call (.c (.fn 111 [] [])) [((.t 35), (.agg [.id, .id, (.sl 3)]))]), zv 37 (.bin .add .no (.t 34) (.t 36)), zv 38 (.bin .gtr .no (.t 37) (zc 101))]
def q11 : IC := zr [zm 39 0, zv 40 (.nck (.t 39)), zv 41 (.fad (.t 40) 1), zn (.st 1 .id (.t 41) (zc (-1)))]
def q5d : IC := zr [zv 42 (.ld true 3 (.t 7)), zi 43 (.call (.c (.fn 83 [] [])) [((.t 42), (.agg [.id, .id, (.sl 3)]))]), zn (.st 3 (.agg [.id, .id, (.sl 3)]) (.t 6) (.t 43))]
def q9p : IC := zr [zm 44 0, zv 45 (.nck (.t 44)), zv 46 (.fad (.t 45) 1), zv 47 (.ld false 1 (.t 46)), zv 48 (.bin .sub .no (.t 47) (zc 1)), zv 49 (.nck (.t 44)), zv 50 (.fad (.t 49) 1), zn (.st 1 .id (.t 50) (.t 48))]
def q3w : IC := zr [zv 51 (.fad (.t 4) 2), zv 52 (.ld false 1 (.t 51)), zv 53 (.len false (.t 52)), zi 54 (.mks 3 (.agg [(.str []), (.int .i64 0), .nils]) 48 (.t 53) (.t 53)), zm 9 54]
def qzq : IC := zr [zv 55 (.fad (.t 4) 2), zv 56 (.ld false 1 (.t 55)), zv 57 (.len false (.t 56)), zv 58 (.mov (zc 0))]
def qyq : IC := zr [zv 59 (.bin .lss .no (.t 58) (.t 57))]
def qwu : IC := zr [zm 60 58, zm 10 60]
def qzb : IC := zr [zm 61 0, zv 62 (.nck (.t 61)), zv 63 (.fad (.t 62) 1), zv 64 (.ld false 1 (.t 63)), zv 65 (.bin .lss .no (.t 64) (zc 0))]
def qyg : IC := zr [zv 66 (.ld true 3 (.t 4)), zn (.st 3 (.agg [.id, .id, (.sl 3)]) (.t 6) (.t 66))]
def qxg : IC := zr [zm 67 9, zm 68 10, zm 69 0, zv 70 (.fad (.t 4) 2), zv 71 (.ld false 1 (.t 70)), zm 72 10, zv 73 (.iad 3 (.t 71) (.t 72)), zv 74 (.ld true 3 (.t 73)), zm 75 2, zv 76 (.bin .add .no (.t 75) (zc 1)), zi 77 (.call (.c (.fn 78 [] [])) [((.t 69), .id), ((.t 74), (.agg [.id, .id, (.sl 3)])), ((.t 76), .id)]), zv 78 (.iad 3 (.t 67) (.t 68)), zn (.st 3 (.agg [.id, .id, (.sl 3)]) (.t 78) (.t 77))]
def qxe : IC := zr [zv 79 (.bin .add .no (.t 58) (zc 1)), zm 58 79]
def qxl : IC := (.seq qyq (.seq (.cond (.t 59) .skip (.exit 0)) (.seq (.block 1 (.seq qwu (.seq (.seq qzb (.cond (.t 65) (.seq qyg .ret) .skip)) qxg))) qxe)))
def qzr : IC := zr [zm 80 9, zv 81 (.fad (.t 4) 2), zn (.st 1 (.sl 3) (.t 81) (.t 80))]
def qwy : IC := zr [zv 82 (.ld true 3 (.t 4)), zn (.st 3 (.agg [.id, .id, (.sl 3)]) (.t 6) (.t 82))]
def k0cm : IC := (.seq q06 (.seq (.seq q9l (.cond (.t 13) (.seq q3t (.seq q93 (.cond (.t 24) (.seq q8a (.seq (.seq q45 (.cond (.t 38) q11 .skip)) (.seq q5d .ret))) .skip))) .skip)) (.seq q9p (.seq q3w (.seq (.seq qzq (.block 0 (.loop qxl))) (.seq qzr (.seq qwy .ret)))))))
@[go_sem] def s0cm : List (RV × Co) := [(.c true 3 6, (.agg [.id, .id, (.sl 3)]))]
theorem c0cm : cFun Try.prog 78 = some (83, k0cm, s0cm) := by kernel_rfl

def q4z : IC := zr [zv 4 (.mov (zc 0)), zv 5 zf]
def qbav : IC := zr [zm 6 0, zv 7 (.nck (.t 6)), zv 8 (.fad (.t 7) 0), zv 9 (.ld false 1 (.t 8)), zm 10 1, zi 11 (.call (.c (.fn 115 [] [])) [((.t 9), (.sl 4)), ((.t 10), .id), ((.c (.fn 116 [] [])), .id)]), zv 12 (.ext (.t 11) 0), zv 13 (.ext (.t 11) 1), zm 4 12, zm 5 13]
def k0bo : IC := (.seq q4z (.seq qbav .ret))
@[go_sem] def s0bo : List (RV × Co) := [(.t 4, .id), (.t 5, .id)]
theorem c0bo : cFun Try.prog 82 = some (14, k0bo, s0bo) := by kernel_rfl

def qbaj : IC := zr [zi 1 (.box (.t 0)), zi 2 (.alo [(.str []), (.int .i64 0), .nils])]
def qbar : IC := zr [zv 6 (.fad (.t 1) 2), zv 7 (.ld false 1 (.t 6)), zv 8 (.len false (.t 7)), zi 9 (.mks 3 (.agg [(.str []), (.int .i64 0), .nils]) 48 (.t 8) (.t 8)), zm 3 9]
def q27 : IC := zr [zv 10 (.fad (.t 1) 2), zv 11 (.ld false 1 (.t 10)), zv 12 (.len false (.t 11)), zv 13 (.mov (zc 0))]
def qbax : IC := zr [zv 14 (.bin .lss .no (.t 13) (.t 12))]
def q8r : IC := zr [zm 15 13, zv 16 (.iad 3 (.t 11) (.t 13)), zv 17 (.ld true 3 (.t 16)), zi 5 (.alo [(.str []), (.int .i64 0), .nils]), zm 4 15, zn (.st 3 (.agg [.id, .id, (.sl 3)]) (.t 5) (.t 17))]
def q8i : IC := zr [zm 18 3, zm 19 4, zv 20 (.ld true 3 (.t 5)), zi 21 (.call (.c (.fn 83 [] [])) [((.t 20), (.agg [.id, .id, (.sl 3)]))]), zv 22 (.iad 3 (.t 18) (.t 19)), zn (.st 3 (.agg [.id, .id, (.sl 3)]) (.t 22) (.t 21))]
def q40 : IC := zr [zv 23 (.bin .add .no (.t 13) (zc 1)), zm 13 23]
def q1b : IC := (.seq qbax (.seq (.cond (.t 14) .skip (.exit 0)) (.seq (.block 1 (.seq q8r q8i)) q40)))
def q7c : IC := zr [zm 24 3, zv 25 (.fad (.t 1) 2), zn (.st 1 (.sl 3) (.t 25) (.t 24))]
def qw2 : IC := zr [zv 26 (.ld true 3 (.t 1)), zn (.st 3 (.agg [.id, .id, (.sl 3)]) (.t 2) (.t 26))]
def k0bq : IC := (.seq qbaj (.seq qbar (.seq (.seq q27 (.block 0 (.loop q1b))) (.seq q7c (.seq qw2 .ret)))))
@[go_sem] def s0bq : List (RV × Co) := [(.c true 3 2, (.agg [.id, .id, (.sl 3)]))]
theorem c0bq : cFun Try.prog 83 = some (27, k0bq, s0bq) := by kernel_rfl

def qbe7 : IC := zr [zv 4 zf]
def qbde : IC := zr [zv 5 (.mov (zc 0))]
def qbca : IC := zr [zm 6 5, zm 7 0, zv 8 (.len false (.t 7)), zv 9 (.bin .lss .no (.t 6) (.t 8))]
def qbbm : IC := zr [zm 12 0, zm 13 5, zv 14 (.iad 1 (.t 12) (.t 13)), zv 15 (.ld false 1 (.t 14)), zm 16 1, zv 17 (.bin .eql .no (.t 15) (.t 16))]
def qbh7 : IC := zr [zv 4 (.mov (.c (.bool true)))]
def qbg7 : IC := zr [zm 10 5, zv 11 (.bin .add .no (.t 10) (zc 1)), zm 5 11]
def qbed : IC := (.seq (.seq qbca (.cond (.t 9) .skip (.exit 0))) (.seq (.block 1 (.seq qbbm (.cond (.t 17) (.seq qbh7 .ret) .skip))) qbg7))
def qbef : IC := zr [zv 4 zf]
def k0b : IC := (.seq qbe7 (.seq (.seq qbde (.block 0 (.loop qbed))) (.seq qbef .ret)))
@[go_sem] def s0b : List (RV × Co) := [(.t 4, .id)]
theorem c0b : cFun Try.prog 84 = some (18, k0b, s0b) := by kernel_rfl

def qbf4 : IC := zr [zi 3 (.box (.t 0)), zv 6 zf]
def qbig : IC := zr [zm 9 2, zv 10 (.ld true 3 (.t 3)), zm 11 1, zi 12 (.call (.t 9) [((.t 10), (.agg [.id, .id, (.sl 3)])), ((.t 11), .id)]), zv 13 (.un .not (.t 12))]
def qbb5 : IC := zr [zv 6 zf]
def qbf8 : IC := zr [zv 14 (.fad (.t 3) 2), zv 15 (.ld false 1 (.t 14)), zv 16 (.len false (.t 15)), zv 17 (.mov (zc 0))]
def qbe5 : IC := zr [zv 18 (.bin .lss .no (.t 17) (.t 16))]
def qbha : IC := zr [zv 19 (.iad 3 (.t 15) (.t 17)), zv 20 (.ld true 3 (.t 19)), zi 8 (.alo [(.str []), (.int .i64 0), .nils]), zn (.st 3 (.agg [.id, .id, (.sl 3)]) (.t 8) (.t 20))]
def qbhh : IC := zr [zv 21 (.ld true 3 (.t 8)), zm 22 1, zv 23 (.bin .add .no (.t 22) (zc 1)), zm 24 2, zi 25 (.call (.c (.fn 86 [] [])) [((.t 21), (.agg [.id, .id, (.sl 3)])), ((.t 23), .id), ((.t 24), .id)]), zv 26 (.un .not (.t 25))]
def qbc7 : IC := zr [zv 6 zf]
def qbil : IC := zr [zv 27 (.bin .add .no (.t 17) (zc 1)), zm 17 27]
def qbb8 : IC := (.seq qbe5 (.seq (.cond (.t 18) .skip (.exit 0)) (.seq (.block 1 (.seq qbha (.seq qbhh (.cond (.t 26) (.seq qbc7 .ret) .skip)))) qbil)))
def q58 : IC := zr [zv 6 (.mov (.c (.bool true)))]
def k0l : IC := (.seq qbf4 (.seq (.seq qbig (.cond (.t 13) (.seq qbb5 .ret) .skip)) (.seq (.seq qbf8 (.block 0 (.loop qbb8))) (.seq q58 .ret))))
@[go_sem] def s0l : List (RV × Co) := [(.t 6, .id)]
theorem c0l : cFun Try.prog 86 = some (28, k0l, s0l) := by kernel_rfl

def q9f : IC := zr [zi 3 (.box (.t 0)), zv 5 zf]
def q0j : IC := zr [zv 6 (.ld false 1 (.t 2)), zv 7 (.bin .add .no (.t 6) (zc 1)), zn (.st 1 .id (.t 2) (.t 7))]
def q3p : IC := zr [zv 8 (.ld false 1 (.t 2)), zv 9 (.bin .leq .no (.t 8) (zc 4096)), zm 10 9, zw 10 true 11 (.mov (.t 1)), zw 10 true 12 (.bin .leq .no (.t 11) (zc 100)), zv 13 (.pick (.t 10) (.t 12) (.c (.bool false))), zm 14 13, zw 14 true 15 (.ld true 3 (.t 3)), ⟨some (14, true), some 16, .call (.c (.fn 88 [] [])) [((.t 15), (.agg [.id, .id, (.sl 3)]))]⟩, ⟨some (14, true), some 17, .call (.c (.fn 89 [] [])) [((.t 16), .id)]⟩, zv 18 (.pick (.t 14) (.t 17) (.c (.bool false))), zm 5 18]
def k0bv : IC := (.seq q9f (.seq q0j (.seq q3p .ret)))
@[go_sem] def s0bv : List (RV × Co) := [(.t 5, .id)]
theorem c0bv : cFun Try.prog 87 = some (19, k0bv, s0bv) := by kernel_rfl

def qbcu : IC := zr [zi 1 (.box (.t 0)), zi 2 (.alo [(.str []), (.int .i64 0), (.int .i64 0)])]
def qbc5 : IC := zr [zv 3 (.fad (.t 1) 0), zv 4 (.ld false 1 (.t 3)), zv 5 (.fad (.t 1) 1), zv 6 (.ld false 1 (.t 5)), zv 7 (.fad (.t 1) 2), zv 8 (.ld false 1 (.t 7)), zv 9 (.len false (.t 8)), zv 10 (.bld [(.str []), (.int .i64 0), (.int .i64 0)] [(0, 1, (.t 4)), (1, 1, (.t 6)), (2, 1, (.t 9))]), zn (.st 3 .id (.t 2) (.t 10))]
def k0g : IC := (.seq qbcu (.seq qbc5 .ret))
@[go_sem] def s0g : List (RV × Co) := [(.c true 3 2, .id)]
theorem c0g : cFun Try.prog 88 = some (11, k0g, s0g) := by kernel_rfl

def qbhk : IC := zr [zi 1 (.box (.t 0)), zv 2 zf]
def qbfm : IC := zr [zv 4 (.fad (.t 1) 0), zv 5 (.ld false 1 (.t 4)), zv 6 (.bin .eql .no (.t 5) (.c (.str []))), zm 3 6]
def qbfg : IC := zr [zv 7 (.fad (.t 1) 2), zv 8 (.ld false 1 (.t 7)), zv 9 (.bin .eql .no (.t 8) (zc 0)), zm 2 9]
def qbgw : IC := zr [zv 11 (.fad (.t 1) 0), zv 12 (.ld false 1 (.t 11)), zv 13 (.bin .eql .no (.t 12) (.c (.str [45, 62]))), zm 10 13]
def qbf7 : IC := zr [zv 14 (.ld true 3 (.t 1)), zv 15 (.bld [(.str []), (.int .i64 0), (.int .i64 0)] [(0, 1, (.c (.str [45, 62]))), (1, 1, (zc 0)), (2, 1, (zc 2))]), zv 16 (.bin .eql (.cells [.str, (.int .i64), (.int .i64)]) (.t 14) (.t 15)), zm 2 16]
def qbhz : IC := zr [zv 18 (.fad (.t 1) 0), zv 19 (.ld false 1 (.t 18)), zi 20 (.call (.c (.fn 119 [] [])) [((.t 19), .id)]), zm 17 20]
def qbd1 : IC := zr [zv 21 (.ld true 3 (.t 1)), zv 22 (.fad (.t 1) 0), zv 23 (.ld false 1 (.t 22)), zv 24 (.bld [(.str []), (.int .i64 0), (.int .i64 0)] [(0, 1, (.t 23))]), zv 25 (.bin .eql (.cells [.str, (.int .i64), (.int .i64)]) (.t 21) (.t 24)), zm 2 25]
def qbh5 : IC := zr [zv 26 (.fad (.t 1) 1), zv 27 (.ld false 1 (.t 26)), zv 28 (.bin .eql .no (.t 27) (zc 0)), zm 29 28, zw 29 true 30 (.fad (.t 1) 0), zw 29 true 31 (.ld false 1 (.t 30)), ⟨some (29, true), some 32, .call (.c (.fn 72 [] [])) [((.t 31), .id)]⟩, zv 33 (.pick (.t 29) (.t 32) (.c (.bool false))), zm 2 33]
def k0k : IC := (.seq qbhk (.seq (.block 0 (.seq qbfm (.cond (.t 3) (.seq qbfg .ret) (.seq qbgw (.cond (.t 10) (.seq qbf7 .ret) (.seq qbhz (.cond (.t 17) (.seq qbd1 .ret) .skip))))))) (.seq qbh5 .ret)))
@[go_sem] def s0k : List (RV × Co) := [(.t 2, .id)]
theorem c0k : cFun Try.prog 89 = some (34, k0k, s0k) := by kernel_rfl

def qbhc : IC := zr [zi 2 (.alo [(.str []), (.int .i64 0), .nils])]
def qbbl : IC := zr [zm 6 0, zi 7 (.call (.c (.fn 120 [] [])) [((.t 6), .id)]), zm 5 7, zv 8 (.ext (.t 5) 0), zv 9 (.ext (.t 5) 1), zi 3 (.alo [(.str []), (.int .i64 0), .nils]), zn (.st 3 (.agg [.id, .id, (.sl 3)]) (.t 3) (.t 8)), zm 4 9]
def qbe0 : IC := zr [zv 10 (.ld true 3 (.t 3)), zn (.st 3 (.agg [.id, .id, (.sl 3)]) (.t 2) (.t 10))]
def k0z : IC := (.seq qbhc (.seq qbbl (.seq qbe0 .ret)))
@[go_sem] def s0z : List (RV × Co) := [(.c true 3 2, (.agg [.id, .id, (.sl 3)]))]
theorem c0z : cFun Try.prog 90 = some (11, k0z, s0z) := by kernel_rfl

def q3k : IC := zr [zv 2 zf]
def q4y : IC := zr [zm 3 0, zm 4 0, zi 5 (.call (.c (.fn 92 [] [])) [((.t 3), (.sl 3)), ((.t 4), (.sl 3)), ((.c (.fn 121 [] [])), .id)]), zm 2 5]
def k0bh : IC := (.seq q3k (.seq q4y .ret))
@[go_sem] def s0bh : List (RV × Co) := [(.t 2, .id)]
theorem c0bh : cFun Try.prog 91 = some (6, k0bh, s0bh) := by kernel_rfl

def q41 : IC := zr [zv 6 zf]
def q0m : IC := zr [zm 8 0, zv 9 (.len false (.t 8)), zm 10 1, zv 11 (.len false (.t 10)), zv 12 (.bin .neq .no (.t 9) (.t 11))]
def q7t : IC := zr [zv 6 zf]
def q22 : IC := zr [zm 13 0, zv 14 (.len false (.t 13)), zv 15 (.mov (zc 0))]
def q44 : IC := zr [zv 16 (.bin .lss .no (.t 15) (.t 14))]
def q1g : IC := zr [zm 17 15, zm 7 17]
def q3r : IC := .drw [zp (zm 18 2), zp (zm 19 0), zp (zm 20 7), zp (zv 21 (.iad 3 (.t 19) (.t 20))), zp (zv 22 (.ld true 3 (.t 21))), zp (zm 23 1), zp (zm 24 7), zp (zv 25 (.iad 3 (.t 23) (.t 24))), zp (zv 26 (.ld true 3 (.t 25))), (zi 27 (.call (.t 18) [((.t 22), (.agg [.id, .id, (.sl 3)])), ((.t 26), (.agg [.id, .id, (.sl 3)]))]), []), zp (zv 28 (.un .not (.t 27)))]
def q05 : IC := zr [zv 6 zf]
def qbac : IC := zr [zv 29 (.bin .add .no (.t 15) (zc 1)), zm 15 29]
def q4r : IC := (.seq q44 (.seq (.cond (.t 16) .skip (.exit 0)) (.seq (.block 1 (.seq q1g (.seq q3r (.cond (.t 28) (.seq q05 .ret) .skip)))) qbac)))
def qzc : IC := zr [zv 6 (.mov (.c (.bool true)))]
def k0bg : IC := (.seq q41 (.seq (.seq q0m (.cond (.t 12) (.seq q7t .ret) .skip)) (.seq (.seq q22 (.block 0 (.loop q4r))) (.seq qzc .ret))))
@[go_sem] def s0bg : List (RV × Co) := [(.t 6, .id)]
theorem c0bg : cFun Try.prog 92 = some (30, k0bg, s0bg) := by kernel_rfl

def q63 : IC := zr [zi 3 (.box (.t 0)), zi 4 (.box (.t 1)), zv 5 zf]
def q5u : IC := zr [zv 6 (.ld false 1 (.t 2)), zv 7 (.ld true 3 (.t 3)), zv 8 (.ld true 3 (.t 4)), zi 9 (.call (.c (.fn 94 [] [])) [((.t 6), .id), ((.t 7), (.agg [.id, .id, (.sl 3)])), ((.t 8), (.agg [.id, .id, (.sl 3)]))]), zm 5 9]
def k0bj : IC := (.seq q63 (.seq q5u .ret))
@[go_sem] def s0bj : List (RV × Co) := [(.t 5, .id)]
theorem c0bj : cFun Try.prog 93 = some (10, k0bj, s0bj) := by kernel_rfl

def q26 : IC := zr [zi 3 (.box (.t 0)), zi 4 (.box (.t 1)), zi 5 (.box (.t 2)), zv 6 zf]
def q6e : IC := zr [zv 9 (.fad (.t 4) 0), zv 10 (.ld false 1 (.t 9)), zv 11 (.bin .eql .no (.t 10) (.c (.str [])))]
def q0r : IC := zr [zv 13 (.ld false 1 (.t 3)), zv 14 (.fad (.t 4) 1), zv 15 (.ld false 1 (.t 14)), zi 16 (.call (.c (.fn 37 [] [])) [((.t 13), .id), ((.t 15), .id)]), zm 12 16, zv 17 (.ext (.t 12) 0), zv 18 (.ext (.t 12) 1), zi 7 (.alo [(.str []), (.int .i64 0), .nils]), zn (.st 3 (.agg [.id, .id, (.sl 3)]) (.t 7) (.t 17)), zm 8 18]
def q3h : IC := zr [zm 19 8]
def q1k : IC := zr [zv 20 (.ld true 3 (.t 7)), zv 21 (.ld true 3 (.t 5)), zi 22 (.call (.c (.fn 76 [] [])) [((.t 20), (.agg [.id, .id, (.sl 3)])), ((.t 21), (.agg [.id, .id, (.sl 3)]))]), zm 6 22]
def q8d : IC := zr [zv 23 (.ld false 1 (.t 3)), zv 24 (.fad (.t 4) 1), zv 25 (.ld false 1 (.t 24)), zv 26 (.ld true 3 (.t 5)), zi 27 (.call (.c (.fn 45 [] [])) [((.t 23), .id), ((.t 25), .id), ((.t 26), (.agg [.id, .id, (.sl 3)]))]), zv 28 (.bin .eql .no (.t 27) (zc 0)), zm 6 28]
def q37 : IC := zr [zv 29 (.fad (.t 4) 0), zv 30 (.ld false 1 (.t 29)), zv 31 (.fad (.t 5) 0), zv 32 (.ld false 1 (.t 31)), zv 33 (.bin .eql .no (.t 30) (.t 32)), zm 34 33, zw 34 true 35 (.fad (.t 4) 2), zw 34 true 36 (.ld false 1 (.t 35)), zw 34 true 37 (.fad (.t 5) 2), zw 34 true 38 (.ld false 1 (.t 37)), zw 34 true 39 (.mfn 122 [] [(.t 3)]), ⟨some (34, true), some 40, .call (.c (.fn 92 [] [])) [((.t 36), (.sl 3)), ((.t 38), (.sl 3)), ((.t 39), .id)]⟩, zv 41 (.pick (.t 34) (.t 40) (.c (.bool false))), zm 6 41]
def k0bk : IC := (.seq q26 (.seq (.seq q6e (.cond (.t 11) (.seq q0r (.seq (.seq q3h (.cond (.t 19) (.seq q1k .ret) .skip)) (.seq q8d .ret))) .skip)) (.seq q37 .ret)))
@[go_sem] def s0bk : List (RV × Co) := [(.t 6, .id)]
theorem c0bk : cFun Try.prog 94 = some (42, k0bk, s0bk) := by kernel_rfl

def qbg0 : IC := zr [zi 1 (.box (.t 0)), zv 2 (.mov (.c .nils))]
def qbc2 : IC := zr [zv 3 (.mov (.c .nils))]
def qbib : IC := zr [zv 5 (.fad (.t 1) 0), zv 6 (.ld false 1 (.t 5)), zv 7 (.bin .eql .no (.t 6) (.c (.str [])))]
def qbei : IC := zr [zv 8 (.fad (.t 1) 1), zv 9 (.ld false 1 (.t 8)), zv 10 (.bsl 1 [((.t 9), .id)]), zm 3 10]
def qbdm : IC := zr [zv 4 (.mov (zc 0))]
def qbfl : IC := zr [zm 11 4, zv 12 (.fad (.t 1) 2), zv 13 (.ld false 1 (.t 12)), zv 14 (.len false (.t 13)), zv 15 (.bin .lss .no (.t 11) (.t 14))]
def qbbv : IC := zr [zm 18 3, zv 19 (.fad (.t 1) 2), zv 20 (.ld false 1 (.t 19)), zm 21 4, zv 22 (.iad 3 (.t 20) (.t 21)), zv 23 (.ld true 3 (.t 22)), zi 24 (.call (.c (.fn 97 [] [])) [((.t 23), (.agg [.id, .id, (.sl 3)]))]), zi 25 (.app 1 (.int .i64 0) 8 (.sl 1) (.t 18) (.t 24)), zm 3 25]
def qbdg : IC := zr [zm 16 4, zv 17 (.bin .add .no (.t 16) (zc 1)), zm 4 17]
def qbcz : IC := (.seq (.seq qbfl (.cond (.t 15) .skip (.exit 0))) (.seq (.block 1 qbbv) qbdg))
def q3q : IC := zr [zm 26 3, zm 2 26]
def k0d : IC := (.seq qbg0 (.seq qbc2 (.seq (.seq qbib (.cond (.t 7) qbei .skip)) (.seq (.seq qbdm (.block 0 (.loop qbcz))) (.seq q3q .ret)))))
@[go_sem] def s0d : List (RV × Co) := [(.t 2, (.sl 1))]
theorem c0d : cFun Try.prog 97 = some (27, k0d, s0d) := by kernel_rfl

def qbhb : IC := zr [zv 4 (.mov (zc 0))]
def qbg2 : IC := zr [zm 6 0, zv 7 (.len false (.t 6)), zv 8 (.mov (zc 0))]
def qbfd : IC := zr [zv 9 (.bin .lss .no (.t 8) (.t 7))]
def qber : IC := zr [zm 10 8, zm 5 10]
def qbe6 : IC := zr [zm 11 1, zm 12 0, zm 13 5, zv 14 (.iad 1 (.t 12) (.t 13)), zv 15 (.ld false 1 (.t 14)), zv 16 (.bin .eql .no (.t 11) (.t 15))]
def qbft : IC := zr [zm 17 5, zm 4 17]
def qbhl : IC := zr [zv 18 (.bin .add .no (.t 8) (zc 1)), zm 8 18]
def qbfw : IC := (.seq qbfd (.seq (.cond (.t 9) .skip (.exit 0)) (.seq (.block 1 (.seq qber (.seq qbe6 (.cond (.t 16) (.seq qbft .ret) .skip)))) qbhl)))
def qbbu : IC := zr [zv 4 (.mov (zc (-1)))]
def k0a : IC := (.seq qbhb (.seq (.seq qbg2 (.block 0 (.loop qbfw))) (.seq qbbu .ret)))
@[go_sem] def s0a : List (RV × Co) := [(.t 4, .id)]
theorem c0a : cFun Try.prog 100 = some (19, k0a, s0a) := by kernel_rfl

def qbf3 : IC := zr [zv 2 zf]
def qbdf : IC := zr [zm 3 0, zv 4 (.bin .geq .no (.t 3) (.c (.int .u8 65))), zm 5 4, zw 5 true 6 (.mov (.t 0)), zw 5 true 7 (.bin .leq .no (.t 6) (.c (.int .u8 90))), zv 8 (.pick (.t 5) (.t 7) (.c (.bool false))), zm 2 8]
def k0r : IC := (.seq qbf3 (.seq qbdf .ret))
@[go_sem] def s0r : List (RV × Co) := [(.t 2, .id)]
theorem c0r : cFun Try.prog 106 = some (9, k0r, s0r) := by kernel_rfl

def qbcp : IC := zr [zv 2 zf]
def qbc0 : IC := zr [zm 5 0, zv 6 (.len true (.t 5)), zv 7 (.mov (zc 0))]
def qbh8 : IC := zr [zv 8 (.bin .lss .no (.t 7) (.t 6))]
def qbem : IC := zr [zm 9 7, zm 3 9]
def qbec : IC := zr [zm 10 0, zm 11 3, zv 12 (.idx (.t 10) (.t 11)), zm 4 12]
def qbes : IC := zr [zm 13 4, zi 14 (.call (.c (.fn 128 [] [])) [((.t 13), .id)]), zv 15 (.un .not (.t 14)), zm 16 15, zw 16 true 17 (.mov (.t 4)), ⟨some (16, true), some 18, .call (.c (.fn 106 [] [])) [((.t 17), .id)]⟩, zw 16 true 19 (.un .not (.t 18)), zv 20 (.pick (.t 16) (.t 19) (.c (.bool false))), zm 21 20, zw 21 true 22 (.mov (.t 4)), zw 21 true 23 (.bin .lss .no (.t 22) (.c (.int .u8 48))), zw 21 true 24 (.mov (.t 23)), zw 24 false 25 (.mov (.t 4)), zw 24 false 26 (.bin .gtr .no (.t 25) (.c (.int .u8 57))), zw 21 true 27 (.pick (.t 24) (.c (.bool true)) (.t 26)), zv 28 (.pick (.t 21) (.t 27) (.c (.bool false))), zm 29 28, zw 29 true 30 (.mov (.t 4)), zw 29 true 31 (.bin .neq .no (.t 30) (.c (.int .u8 39))), zv 32 (.pick (.t 29) (.t 31) (.c (.bool false)))]
def qbfo : IC := zr [zv 2 zf]
def qbfx : IC := zr [zv 33 (.bin .add .no (.t 7) (zc 1)), zm 7 33]
def qbbc : IC := (.seq qbh8 (.seq (.cond (.t 8) .skip (.exit 0)) (.seq (.block 1 (.seq qbem (.seq qbec (.seq qbes (.cond (.t 32) (.seq qbfo .ret) .skip))))) qbfx)))
def q9d : IC := zr [zv 2 (.mov (.c (.bool true)))]
def k0s : IC := (.seq qbcp (.seq (.seq qbc0 (.block 0 (.loop qbbc))) (.seq q9d .ret)))
@[go_sem] def s0s : List (RV × Co) := [(.t 2, .id)]
theorem c0s : cFun Try.prog 107 = some (34, k0s, s0s) := by kernel_rfl

def q55 : IC := zr [zi 1 (.box (.t 0)), zv 2 (.mov (.c (.str [])))]
def q9b : IC := zr [zv 6 (.fad (.t 1) 0), zv 7 (.ld false 1 (.t 6)), zv 8 (.bin .eql .no (.t 7) (.c (.str [45, 62])))]
def q1p : IC := .drw [zp (zv 9 (.fad (.t 1) 2)), zp (zv 10 (.ld false 1 (.t 9))), zp (zv 11 (.iad 3 (.t 10) (zc 0))), zp (zv 12 (.ld true 3 (.t 11))), zp (zv 13 (.fad (.t 1) 2)), zp (zv 14 (.ld false 1 (.t 13))), zp (zv 15 (.iad 3 (.t 14) (zc 0))), zp (zv 16 (.fad (.t 15) 0)), zp (zv 17 (.ld false 1 (.t 16))), (zv 18 (.bin .eql .no (.t 17) (.c (.str [45, 62]))), []), (zi 19 (.call (.c (.fn 129 [] [])) [((.t 12), (.agg [.id, .id, (.sl 3)])), ((.t 18), .id)]), []), (zv 20 (.bin .add .no (.t 19) (.c (.str [32, 45, 62, 32]))), []), zp (zv 21 (.fad (.t 1) 2)), (zv 22 (.ld false 1 (.t 21)), [10]), zp (zv 23 (.iad 3 (.t 22) (zc 1))), (zv 24 (.ld true 3 (.t 23)), [10]), (zi 25 (.call (.c (.fn 109 [] [])) [((.t 24), (.agg [.id, .id, (.sl 3)]))]), []), zp (zv 26 (.bin .add .no (.t 20) (.t 25))), zp (zm 2 26)]
def q0v : IC := zr [zi 3 (.bld 125 5)]
def qbad : IC := zr [zv 27 (.ld true 3 (.t 1)), zi 28 (.call (.c (.fn 88 [] [])) [((.t 27), (.agg [.id, .id, (.sl 3)]))]), zi 29 (.call (.c (.fn 130 [] [])) [((.t 28), .id)]), zi 30 (.call (.c (.fn 102 [] [])) [((.t 3), (.agg [.id, (.sl 1)])), ((.t 29), .id)])]
def q6d : IC := zr [zv 31 (.fad (.t 1) 2), zv 32 (.ld false 1 (.t 31)), zv 33 (.len false (.t 32)), zv 34 (.mov (zc 0))]
def q7p : IC := zr [zv 35 (.bin .lss .no (.t 34) (.t 33))]
def q2b : IC := zr [zv 36 (.iad 3 (.t 32) (.t 34)), zv 37 (.ld true 3 (.t 36)), zi 5 (.alo [(.str []), (.int .i64 0), .nils]), zn (.st 3 (.agg [.id, .id, (.sl 3)]) (.t 5) (.t 37))]
def q3x : IC := zr [zv 38 (.ld true 3 (.t 5)), zv 39 (.fad (.t 5) 2), zv 40 (.ld false 1 (.t 39)), zv 41 (.len false (.t 40)), zv 42 (.bin .gtr .no (.t 41) (zc 0)), zi 43 (.call (.c (.fn 129 [] [])) [((.t 38), (.agg [.id, .id, (.sl 3)])), ((.t 42), .id)]), zv 44 (.bin .add .no (.c (.str [32])) (.t 43)), zi 45 (.call (.c (.fn 102 [] [])) [((.t 3), (.agg [.id, (.sl 1)])), ((.t 44), .id)])]
def qya : IC := zr [zv 46 (.bin .add .no (.t 34) (zc 1)), zm 34 46]
def q16 : IC := (.seq q7p (.seq (.cond (.t 35) .skip (.exit 0)) (.seq (.block 1 (.seq q2b q3x)) qya)))
def qyw : IC := zr [zi 47 (.call (.c (.fn 103 [] [])) [((.t 3), (.agg [.id, (.sl 1)]))]), zm 2 47]
def k0bt : IC := (.seq q55 (.seq (.seq q9b (.cond (.t 8) (.seq q1p .ret) .skip)) (.seq q0v (.seq qbad (.seq (.seq q6d (.block 0 (.loop q16))) (.seq qyw .ret))))))
@[go_sem] def s0bt : List (RV × Co) := [(.t 2, .id)]
theorem c0bt : cFun Try.prog 109 = some (48, k0bt, s0bt) := by kernel_rfl

def q4o : IC := zr [zi 1 (.box (.t 0)), zv 2 (.mov (zc 0))]
def q6n : IC := zr [zi 3 (.alo [(.int .i64 0)]), zn (.st 1 .id (.t 3) (zc 0))]
def q4f : IC := zr [zv 4 (.ld true 3 (.t 1)), zv 5 (.mfn 131 [] [(.t 3)]), zi 6 (.call (.c (.fn 86 [] [])) [((.t 4), (.agg [.id, .id, (.sl 3)])), ((zc 1), .id), ((.t 5), .id)])]
def q7r : IC := zr [zv 7 (.ld false 1 (.t 3)), zm 2 7]
def k0bz : IC := (.seq q4o (.seq q6n (.seq q4f (.seq q7r .ret))))
@[go_sem] def s0bz : List (RV × Co) := [(.t 2, .id)]
theorem c0bz : cFun Try.prog 110 = some (8, k0bz, s0bz) := by kernel_rfl

def q81 : IC := zr [zi 1 (.box (.t 0)), zv 2 (.mov (zc 0))]
def q1i : IC := zr [zi 3 (.alo [(.int .i64 0)]), zn (.st 1 .id (.t 3) (zc 0))]
def q21 : IC := zr [zv 4 (.ld true 3 (.t 1)), zv 5 (.mfn 132 [] [(.t 3)]), zi 6 (.call (.c (.fn 86 [] [])) [((.t 4), (.agg [.id, .id, (.sl 3)])), ((zc 1), .id), ((.t 5), .id)])]
def q7b : IC := zr [zv 7 (.ld false 1 (.t 3)), zm 2 7]
def k0ca : IC := (.seq q81 (.seq q1i (.seq q21 (.seq q7b .ret))))
@[go_sem] def s0ca : List (RV × Co) := [(.t 2, .id)]
theorem c0ca : cFun Try.prog 111 = some (8, k0ca, s0ca) := by kernel_rfl

def q92 : IC := zr [zv 6 (.mov (zc 0)), zv 7 zf]
def q2l : IC := zr [zm 12 0, zv 13 (.len false (.t 12)), zm 8 13]
def q9n : IC := zr [zm 14 8, zv 9 (.mov (zc 0)), zm 10 14]
def q8g : IC := zr [zm 15 9, zm 16 10, zv 17 (.bin .lss .no (.t 15) (.t 16))]
def q3f : IC := zr [zm 18 9, zm 19 10, zv 20 (.bin .add .no (.t 18) (.t 19)), zv 21 (.cvi .u64 (.t 20)), zv 22 (.bin .shr .no (.t 21) (.c (.int .u64 1))), zv 23 (.cvi .i64 (.t 22)), zm 11 23]
def q2q : IC := zr [zm 24 2, zm 25 0, zm 26 11, zv 27 (.iad 4 (.t 25) (.t 26)), zv 28 (.ld true 4 (.t 27)), zm 29 1, zi 30 (.call (.t 24) [((.t 28), (.agg [.id, .id, .id, (.sl 3)])), ((.t 29), .id)]), zv 31 (.bin .lss .no (.t 30) (zc 0))]
def q74 : IC := zr [zm 32 11, zv 33 (.bin .add .no (.t 32) (zc 1)), zm 9 33]
def q8k : IC := zr [zm 34 11, zm 10 34]
def q85 : IC := (.seq (.seq q8g (.cond (.t 17) .skip (.exit 0))) (.block 1 (.seq q3f (.seq q2q (.cond (.t 31) q74 q8k)))))
def qwo : IC := zr [zm 35 9, zm 36 9, zm 37 8, zv 38 (.bin .lss .no (.t 36) (.t 37)), zm 39 38, zw 39 true 40 (.mov (.t 2)), zw 39 true 41 (.mov (.t 0)), zw 39 true 42 (.mov (.t 9)), zw 39 true 43 (.iad 4 (.t 41) (.t 42)), zw 39 true 44 (.ld true 4 (.t 43)), zw 39 true 45 (.mov (.t 1)), ⟨some (39, true), some 46, .call (.t 40) [((.t 44), (.agg [.id, .id, .id, (.sl 3)])), ((.t 45), .id)]⟩, zw 39 true 47 (.bin .eql .no (.t 46) (zc 0)), zv 48 (.pick (.t 39) (.t 47) (.c (.bool false))), zm 6 35, zm 7 48]
def k0bn : IC := (.seq q92 (.seq q2l (.seq q9n (.seq (.block 0 (.loop q85)) (.seq qwo .ret)))))
@[go_sem] def s0bn : List (RV × Co) := [(.t 6, .id), (.t 7, .id)]
theorem c0bn : cFun Try.prog 115 = some (49, k0bn, s0bn) := by kernel_rfl

def q6c : IC := zr [zi 2 (.box (.t 0)), zv 4 (.mov (zc 0))]
def q67 : IC := zr [zv 6 (.fad (.t 2) 0), zv 7 (.ld false 1 (.t 6)), zm 8 1, zv 9 (.bin .lss .no (.t 7) (.t 8)), zm 5 9]
def q6o : IC := zr [zv 4 (.mov (zc (-1)))]
def q4x : IC := zr [zv 11 (.fad (.t 2) 0), zv 12 (.ld false 1 (.t 11)), zm 13 1, zv 14 (.bin .gtr .no (.t 12) (.t 13)), zm 10 14]
def q4c : IC := zr [zv 4 (.mov (zc 1))]
def q39 : IC := zr [zv 4 (.mov (zc 0))]
def k0bp : IC := (.seq q6c (.seq (.block 0 (.seq q67 (.cond (.t 5) (.seq q6o .ret) (.seq q4x (.cond (.t 10) (.seq q4c .ret) .skip))))) (.seq q39 .ret)))
@[go_sem] def s0bp : List (RV × Co) := [(.t 4, .id)]
theorem c0bp : cFun Try.prog 116 = some (15, k0bp, s0bp) := by kernel_rfl

def qbip : IC := zr [zv 2 zf]
def qbe1 : IC := zr [zm 5 0, zi 6 (.call (.c (.fn 135 [] [])) [((.t 5), .id), ((.c (.str [33])), .id)]), zv 7 (.un .not (.t 6))]
def qbga : IC := zr [zv 2 zf]
def qbif : IC := zr [zm 9 0, zv 10 (.sls (.t 9) (some (zc 1)) none), zi 11 (.call (.c (.fn 136 [] [])) [((.t 10), .id)]), zm 8 11, zv 12 (.ext (.t 8) 0), zv 13 (.ext (.t 8) 1), zm 3 12, zm 4 13]
def qbf0 : IC := .drw [zp (zm 14 4), zp (zv 15 (.bin .eql .no (.t 14) (zc 0))), zp (zm 16 15), zp (zw 16 true 17 (.mov (.t 3))), (⟨some (16, true), some 18, .call (.c (.fn 137 [] [])) [((.t 17), .id)]⟩, []), zp (zw 16 true 19 (.mov (.t 0))), zp (zw 16 true 20 (.sls (.t 19) (some (zc 1)) none)), zp (zw 16 true 21 (.bin .eql .no (.t 18) (.t 20))), zp (zv 22 (.pick (.t 16) (.t 21) (.c (.bool false)))), zp (zm 2 22)]
def k0j : IC := (.seq qbip (.seq (.seq qbe1 (.cond (.t 7) (.seq qbga .ret) .skip)) (.seq qbif (.seq qbf0 .ret))))
@[go_sem] def s0j : List (RV × Co) := [(.t 2, .id)]
theorem c0j : cFun Try.prog 119 = some (23, k0j, s0j) := by kernel_rfl

def q4e : IC := zr [zi 2 (.alo [(.str []), (.int .i64 0), .nils]), zv 3 (.mov (zc 0))]
def q4l : IC := zr [zm 6 0, zv 7 (.bld [(.str []), (.int .i64 0), (.bool false)] [(0, 1, (.t 6))]), zi 8 (.box (.t 7)), zm 4 8]
def q7h : IC := zr [zm 9 4, zi 10 (.call (.c (.fn 138 [] [])) [((.t 9), .id)]), zi 5 (.alo [(.str []), (.int .i64 0), .nils]), zn (.st 3 (.agg [.id, .id, (.sl 3)]) (.t 5) (.t 10))]
def q3o : IC := zr [zm 11 4, zv 12 (.nck (.t 11)), zv 13 (.fad (.t 12) 2), zv 14 (.ld false 1 (.t 13)), zm 15 14, zw 15 false 16 (.mov (.t 4)), zw 15 false 17 (.nck (.t 16)), zw 15 false 18 (.fad (.t 17) 0), zw 15 false 19 (.ld false 1 (.t 18)), zw 15 false 20 (.bin .neq .no (.t 19) (.c (.str []))), zv 21 (.pick (.t 15) (.c (.bool true)) (.t 20)), zm 22 21, zw 22 false 23 (.ld true 3 (.t 5)), ⟨some (22, false), some 24, .call (.c (.fn 75 [] [])) [((.t 23), (.agg [.id, .id, (.sl 3)]))]⟩, zw 22 false 25 (.mov (.t 0)), zw 22 false 26 (.bin .neq .no (.t 24) (.t 25)), zv 27 (.pick (.t 22) (.c (.bool true)) (.t 26))]
def q6w : IC := zr [zv 28 (.bld [(.str []), (.int .i64 0), .nils] []), zn (.st 3 (.agg [.id, .id, (.sl 3)]) (.t 2) (.t 28)), zv 3 (.mov (zc 5))]
def q5s : IC := zr [zv 29 (.ld true 3 (.t 5)), zn (.st 3 (.agg [.id, .id, (.sl 3)]) (.t 2) (.t 29)), zv 3 (.mov (zc 0))]
def k0co : IC := (.seq q4e (.seq q4l (.seq q7h (.seq (.seq q3o (.cond (.t 27) (.seq q6w .ret) .skip)) (.seq q5s .ret)))))
@[go_sem] def s0co : List (RV × Co) := [(.c true 3 2, (.agg [.id, .id, (.sl 3)])), (.t 3, .id)]
theorem c0co : cFun Try.prog 120 = some (30, k0co, s0co) := by kernel_rfl

def q2e : IC := zr [zi 2 (.box (.t 0)), zi 3 (.box (.t 1)), zv 4 zf]
def q1t : IC := zr [zv 5 (.ld true 3 (.t 2)), zi 6 (.call (.c (.fn 48 [] [])) [((.t 5), (.agg [.id, .id, (.sl 3)]))]), zm 4 6]
def k0bf : IC := (.seq q2e (.seq q1t .ret))
@[go_sem] def s0bf : List (RV × Co) := [(.t 4, .id)]
theorem c0bf : cFun Try.prog 121 = some (7, k0bf, s0bf) := by kernel_rfl

def q46 : IC := zr [zi 3 (.box (.t 0)), zi 4 (.box (.t 1)), zv 5 zf]
def q5m : IC := zr [zv 6 (.ld false 1 (.t 2)), zv 7 (.ld true 3 (.t 3)), zv 8 (.ld true 3 (.t 4)), zi 9 (.call (.c (.fn 94 [] [])) [((.t 6), .id), ((.t 7), (.agg [.id, .id, (.sl 3)])), ((.t 8), (.agg [.id, .id, (.sl 3)]))]), zm 5 9]
def k0bi : IC := (.seq q46 (.seq q5m .ret))
@[go_sem] def s0bi : List (RV × Co) := [(.t 5, .id)]
theorem c0bi : cFun Try.prog 122 = some (10, k0bi, s0bi) := by kernel_rfl

def qbd6 : IC := zr [zv 2 (.mov (.c (.str [])))]
def qbb4 : IC := zr [zm 5 0, zi 6 (.call (.c (.fn 143 [] [])) [((.t 5), .id)]), zm 3 6]
def qbbb : IC := zr [zv 4 (.mov (.c (.str [])))]
def qbf9 : IC := zr [zm 7 3, zv 8 (.bin .gtr .no (.t 7) (.c (.int .u64 9)))]
def qbby : IC := zr [zm 9 3, zv 10 (.bin .rem .no (.t 9) (.c (.int .u64 10))), zv 11 (.bin .add .no (.c (.int .u64 48)) (.t 10)), zv 12 (.cvi .u8 (.t 11)), zv 13 (.bsl 1 [((.t 12), .id)]), zv 14 (.cbs (.t 13)), zm 15 4, zv 16 (.bin .add .no (.t 14) (.t 15)), zm 4 16]
def qbcq : IC := zr [zm 17 3, zv 18 (.bin .quo .no (.t 17) (.c (.int .u64 10))), zm 3 18]
def qbb9 : IC := (.seq (.seq qbf9 (.cond (.t 8) .skip (.exit 0))) (.block 1 (.seq qbby qbcq)))
def qbcj : IC := zr [zm 19 3, zv 20 (.bin .add .no (.c (.int .u64 48)) (.t 19)), zv 21 (.cvi .u8 (.t 20)), zv 22 (.bsl 1 [((.t 21), .id)]), zv 23 (.cbs (.t 22)), zm 24 4, zv 25 (.bin .add .no (.t 23) (.t 24)), zm 4 25]
def qbgr : IC := zr [zm 26 0, zv 27 (.bin .lss .no (.t 26) (zc 0))]
def q8o : IC := zr [zm 28 4, zv 29 (.bin .add .no (.c (.str [45])) (.t 28)), zm 2 29]
def q18 : IC := zr [zm 30 4, zm 2 30]
def k0v : IC := (.seq qbd6 (.seq qbb4 (.seq qbbb (.seq (.block 0 (.loop qbb9)) (.seq qbcj (.seq (.seq qbgr (.cond (.t 27) (.seq q8o .ret) .skip)) (.seq q18 .ret)))))))
@[go_sem] def s0v : List (RV × Co) := [(.t 2, .id)]
theorem c0v : cFun Try.prog 127 = some (31, k0v, s0v) := by kernel_rfl

def qbfc : IC := zr [zv 2 zf]
def qbim : IC := zr [zm 3 0, zv 4 (.bin .geq .no (.t 3) (.c (.int .u8 97))), zm 5 4, zw 5 true 6 (.mov (.t 0)), zw 5 true 7 (.bin .leq .no (.t 6) (.c (.int .u8 122))), zv 8 (.pick (.t 5) (.t 7) (.c (.bool false))), zm 9 8, zw 9 false 10 (.mov (.t 0)), zw 9 false 11 (.bin .eql .no (.t 10) (.c (.int .u8 95))), zv 12 (.pick (.t 9) (.c (.bool true)) (.t 11)), zm 2 12]
def k0q : IC := (.seq qbfc (.seq qbim .ret))
@[go_sem] def s0q : List (RV × Co) := [(.t 2, .id)]
theorem c0q : cFun Try.prog 128 = some (13, k0q, s0q) := by kernel_rfl

def qban : IC := zr [zi 2 (.box (.t 0)), zv 4 (.mov (.c (.str [])))]
def q7f : IC := zr [zm 5 1]
def q9j : IC := zr [zv 6 (.ld true 3 (.t 2)), zi 7 (.call (.c (.fn 109 [] [])) [((.t 6), (.agg [.id, .id, (.sl 3)]))]), zv 8 (.bin .add .no (.c (.str [40])) (.t 7)), zv 9 (.bin .add .no (.t 8) (.c (.str [41]))), zm 4 9]
def q8l : IC := zr [zv 10 (.ld true 3 (.t 2)), zi 11 (.call (.c (.fn 109 [] [])) [((.t 10), (.agg [.id, .id, (.sl 3)]))]), zm 4 11]
def k0bs : IC := (.seq qban (.seq (.seq q7f (.cond (.t 5) (.seq q9j .ret) .skip)) (.seq q8l .ret)))
@[go_sem] def s0bs : List (RV × Co) := [(.t 4, .id)]
theorem c0bs : cFun Try.prog 129 = some (12, k0bs, s0bs) := by kernel_rfl

def q2g : IC := zr [zi 1 (.box (.t 0)), zv 2 (.mov (.c (.str [])))]
def q09 : IC := zr [zv 4 (.fad (.t 1) 0), zv 5 (.ld false 1 (.t 4)), zv 6 (.bin .neq .no (.t 5) (.c (.str []))), zm 3 6]
def q30 : IC := zr [zv 7 (.fad (.t 1) 0), zv 8 (.ld false 1 (.t 7)), zm 2 8]
def q90 : IC := zr [zv 10 (.fad (.t 1) 1), zv 11 (.ld false 1 (.t 10)), zv 12 (.bin .geq .no (.t 11) (zc 0)), zm 9 12]
def q5e : IC := zr [zv 13 (.fad (.t 1) 1), zv 14 (.ld false 1 (.t 13)), zi 15 (.call (.c (.fn 144 [] [])) [((.t 14), .id)]), zm 2 15]
def q5t : IC := zr [zv 16 (.fad (.t 1) 1), zv 17 (.ld false 1 (.t 16)), zv 18 (.bin .sub .no (zc (-1)) (.t 17)), zi 19 (.call (.c (.fn 137 [] [])) [((.t 18), .id)]), zv 20 (.bin .add .no (.c (.str [63])) (.t 19)), zm 2 20]
def k0br : IC := (.seq q2g (.seq (.block 0 (.seq q09 (.cond (.t 3) (.seq q30 .ret) (.seq q90 (.cond (.t 9) (.seq q5e .ret) .skip))))) (.seq q5t .ret)))
@[go_sem] def s0br : List (RV × Co) := [(.t 2, .id)]
theorem c0br : cFun Try.prog 130 = some (21, k0br, s0br) := by kernel_rfl

def q4a : IC := zr [zi 3 (.box (.t 0)), zv 5 zf]
def q68 : IC := zr [zv 6 (.ld false 1 (.t 2)), zv 7 (.bin .add .no (.t 6) (zc 1)), zn (.st 1 .id (.t 2) (.t 7))]
def q2t : IC := zr [zv 5 (.mov (.c (.bool true)))]
def k0bw : IC := (.seq q4a (.seq q68 (.seq q2t .ret)))
@[go_sem] def s0bw : List (RV × Co) := [(.t 5, .id)]
theorem c0bw : cFun Try.prog 131 = some (8, k0bw, s0bw) := by kernel_rfl

def q6g : IC := zr [zi 3 (.box (.t 0)), zv 5 zf]
def q3l : IC := zr [zv 6 (.ld false 1 (.t 2)), zm 7 1, zv 8 (.mm true (.t 6) (.t 7)), zn (.st 1 .id (.t 2) (.t 8))]
def q3j : IC := zr [zv 5 (.mov (.c (.bool true)))]
def k0bx : IC := (.seq q6g (.seq q3l (.seq q3j .ret)))
@[go_sem] def s0bx : List (RV × Co) := [(.t 5, .id)]
theorem c0bx : cFun Try.prog 132 = some (9, k0bx, s0bx) := by kernel_rfl

def qbb3 : IC := zr [zv 4 zf]
def qbdi : IC := zr [zm 5 0, zm 6 1, zi 7 (.call (.c (.fn 147 [] [])) [((.t 5), .id), ((.t 6), .id)]), zm 4 7]
def k0n : IC := (.seq qbb3 (.seq qbdi .ret))
@[go_sem] def s0n : List (RV × Co) := [(.t 4, .id)]
theorem c0n : cFun Try.prog 135 = some (8, k0n, s0n) := by kernel_rfl

def qbcy : IC := zr [zv 2 (.mov (zc 0)), zv 3 (.mov (zc 0))]
def qbgf : IC := zr [zm 8 0, zv 9 (.len true (.t 8)), zv 10 (.mov (zc 0))]
def qbdu : IC := zr [zv 11 (.bin .lss .no (.t 10) (.t 9))]
def qbbr : IC := zr [zm 12 10, zm 4 12]
def qbet : IC := zr [zm 13 0, zm 14 4, zv 15 (.idx (.t 13) (.t 14)), zv 16 (.bin .lss .no (.t 15) (.c (.int .u8 48))), zm 17 16, zw 17 false 18 (.mov (.t 0)), zw 17 false 19 (.mov (.t 4)), zw 17 false 20 (.idx (.t 18) (.t 19)), zw 17 false 21 (.bin .gtr .no (.t 20) (.c (.int .u8 57))), zv 22 (.pick (.t 17) (.c (.bool true)) (.t 21))]
def qbbi : IC := zr [zv 2 (.mov (zc 0)), zv 3 (.mov (zc 5))]
def qbdd : IC := zr [zv 23 (.bin .add .no (.t 10) (zc 1)), zm 10 23]
def qbbn : IC := (.seq qbdu (.seq (.cond (.t 11) .skip (.exit 0)) (.seq (.block 1 (.seq qbbr (.seq qbet (.cond (.t 22) (.seq qbbi .ret) .skip)))) qbdd)))
def qbd3 : IC := zr [zm 24 0, zv 25 (.bin .eql .no (.t 24) (.c (.str [])))]
def q7o : IC := zr [zv 2 (.mov (zc 0)), zv 3 (.mov (zc 5))]
def q5o : IC := zr [zv 5 (.mov (zc 0)), zv 6 (.mov (zc 0))]
def qbay : IC := zr [zm 26 0, zm 27 6, zv 28 (.idx (.t 26) (.t 27)), zv 29 (.bin .sub .no (.t 28) (.c (.int .u8 48))), zv 30 (.cvi .i64 (.t 29)), zm 7 30]
def q1j : IC := zr [zm 31 5, zm 32 7, zv 33 (.bin .sub .no (zc 9223372036854775807) (.t 32)), zv 34 (.bin .quo .no (.t 33) (zc 10)), zv 35 (.bin .gtr .no (.t 31) (.t 34))]
def q1e : IC := zr [zv 2 (.mov (zc 0)), zv 3 (.mov (zc 4))]
def q2r : IC := zr [zm 36 5, zv 37 (.bin .mul .no (zc 10) (.t 36)), zm 38 7, zv 39 (.bin .add .no (.t 37) (.t 38)), zm 5 39]
def q7w : IC := zr [zm 40 6, zv 41 (.bin .add .no (.t 40) (zc 1)), zm 6 41]
def q7x : IC := zr [zm 42 6, zm 43 0, zv 44 (.len true (.t 43)), zv 45 (.bin .lss .no (.t 42) (.t 44))]
def q8e : IC := zr [zm 46 5, zm 2 46, zv 3 (.mov (zc 0))]
def k0p : IC := (.seq qbcy (.scope (.seq (.seq qbgf (.block 0 (.loop qbbn))) (.seq (.seq qbd3 (.cond (.t 25) (.seq q7o .ret) .skip)) (.seq q5o (.seq (.label 0) (.seq qbay (.seq (.seq q1j (.cond (.t 35) (.seq q1e .ret) .skip)) (.seq q2r (.seq (.seq q7w (.seq q7x (.cond (.t 45) (.goto 0) .skip))) (.seq q8e .ret)))))))))))
@[go_sem] def s0p : List (RV × Co) := [(.t 2, .id), (.t 3, .id)]
theorem c0p : cFun Try.prog 136 = some (47, k0p, s0p) := by kernel_rfl

def qbfr : IC := zr [zv 2 (.mov (.c (.str [])))]
def qbdr : IC := zr [zm 6 0, zv 7 (.cvi .u64 (.t 6)), zm 3 7]
def qbck : IC := zr [zm 8 0, zv 9 (.bin .lss .no (.t 8) (zc 0))]
def qbba : IC := zr [zm 10 3, zv 11 (.un .neg (.t 10)), zm 3 11]
def qbih : IC := zr [zi 4 (.alo [(.int .u8 0), (.int .u8 0), (.int .u8 0), (.int .u8 0), (.int .u8 0), (.int .u8 0), (.int .u8 0), (.int .u8 0), (.int .u8 0), (.int .u8 0), (.int .u8 0), (.int .u8 0), (.int .u8 0), (.int .u8 0), (.int .u8 0), (.int .u8 0), (.int .u8 0), (.int .u8 0), (.int .u8 0), (.int .u8 0)])]
def qbex : IC := zr [zv 5 (.mov (zc 20))]
def qbff : IC := zr [zm 12 5, zv 13 (.bin .sub .no (.t 12) (zc 1)), zm 5 13]
def qbcb : IC := zr [zm 14 5, zm 15 3, zv 16 (.bin .rem .no (.t 15) (.c (.int .u64 10))), zv 17 (.bin .add .no (.c (.int .u64 48)) (.t 16)), zv 18 (.cvi .u8 (.t 17)), zv 19 (.aad 1 20 (.t 4) (.t 14)), zn (.st 1 .id (.t 19) (.t 18))]
def qbfv : IC := zr [zm 20 3, zv 21 (.bin .quo .no (.t 20) (.c (.int .u64 10))), zm 3 21]
def q47 : IC := zr [zm 22 3, zv 23 (.bin .eql .no (.t 22) (.c (.int .u64 0)))]
def qbbp : IC := (.block 1 (.seq qbff (.seq qbcb (.seq qbfv (.seq q47 (.cond (.t 23) (.exit 0) .skip))))))
def q87 : IC := zr [zm 24 0, zv 25 (.bin .lss .no (.t 24) (zc 0))]
def q8b : IC := zr [zm 26 5, zv 27 (.sla 20 (.t 4) (.t 26)), zv 28 (.cbs (.t 27)), zv 29 (.bin .add .no (.c (.str [45])) (.t 28)), zm 2 29]
def q3s : IC := zr [zm 30 5, zv 31 (.sla 20 (.t 4) (.t 30)), zv 32 (.cbs (.t 31)), zm 2 32]
def k0w : IC := (.seq qbfr (.seq qbdr (.seq (.seq qbck (.cond (.t 9) qbba .skip)) (.seq qbih (.seq qbex (.seq (.block 0 (.loop qbbp)) (.seq (.seq q87 (.cond (.t 25) (.seq q8b .ret) .skip)) (.seq q3s .ret))))))))
@[go_sem] def s0w : List (RV × Co) := [(.t 2, .id)]
theorem c0w : cFun Try.prog 137 = some (33, k0w, s0w) := by kernel_rfl

def q8u : IC := zr [zi 1 (.box (.t 0)), zi 2 (.alo [(.str []), (.int .i64 0), .nils])]
def q4t : IC := zr [zv 4 (.ld false 1 (.t 1)), zv 5 (.nck (.t 4)), zv 6 (.fad (.t 5) 1), zv 7 (.ld false 1 (.t 6)), zv 8 (.bin .add .no (.t 7) (zc 1)), zv 9 (.nck (.t 4)), zv 10 (.fad (.t 9) 1), zn (.st 1 .id (.t 10) (.t 8))]
def q80 : IC := zr [zv 11 (.ld false 1 (.t 1)), zv 12 (.nck (.t 11)), zv 13 (.fad (.t 12) 1), zv 14 (.ld false 1 (.t 13)), zv 15 (.bin .gtr .no (.t 14) (zc 200))]
def q6j : IC := zr [zv 16 (.ld false 1 (.t 1)), zv 17 (.nck (.t 16)), zv 18 (.fad (.t 17) 2), zn (.st 1 .id (.t 18) (.c (.bool true)))]
def q9t : IC := .dfr [zv 19 (.mfn 148 [] [(.t 1)])] (.t 19)
def q7d : IC := zr [zv 20 (.ld false 1 (.t 1)), zv 21 (.nck (.t 20)), zv 22 (.fad (.t 21) 2), zv 23 (.ld false 1 (.t 22))]
def q6v : IC := zr [zv 24 (.bld [(.str []), (.int .i64 0), .nils] []), zn (.st 3 (.agg [.id, .id, (.sl 3)]) (.t 2) (.t 24))]
def q2s : IC := zr [zv 25 (.ld false 1 (.t 1)), zi 26 (.call (.c (.fn 149 [] [])) [((.t 25), .id)]), zi 3 (.alo [(.str []), (.int .i64 0), .nils]), zn (.st 3 (.agg [.id, .id, (.sl 3)]) (.t 3) (.t 26))]
def q5i : IC := zr [zv 27 (.ld false 1 (.t 1)), zv 28 (.nck (.t 27)), zv 29 (.fad (.t 28) 2), zv 30 (.ld false 1 (.t 29)), zv 31 (.un .not (.t 30)), zm 32 31, zw 32 true 33 (.ld false 1 (.t 1)), zw 32 true 34 (.nck (.t 33)), zw 32 true 35 (.fad (.t 34) 0), zw 32 true 36 (.ld false 1 (.t 35)), ⟨some (32, true), some 37, .call (.c (.fn 135 [] [])) [((.t 36), .id), ((.c (.str [32, 45, 62, 32])), .id)]⟩, zw 32 true 38 (.un .not (.t 37)), zv 39 (.pick (.t 32) (.t 38) (.c (.bool false))), zm 40 39, zw 40 true 41 (.ld false 1 (.t 1)), ⟨some (40, true), some 42, .call (.c (.fn 150 [] [])) [((.t 41), .id), ((.c (.str [32])), .id)]⟩, zv 43 (.pick (.t 40) (.t 42) (.c (.bool false)))]
def qyc : IC := .drw [zp (zv 44 (.fad (.t 3) 2)), zp (zv 45 (.ld false 1 (.t 44))), (zi 46 (.call (.c (.fn 151 [] [])) [((.t 45), (.sl 3))]), []), (zv 47 (.ld false 1 (.t 1)), [2]), (zi 48 (.call (.c (.fn 149 [] [])) [((.t 47), .id)]), []), (zv 49 (.bsl 3 [((.t 48), (.agg [.id, .id, (.sl 3)]))]), []), (zi 50 (.app 3 (.agg [(.str []), (.int .i64 0), .nils]) 48 (.sl 3) (.t 46) (.t 49)), []), zp (zv 51 (.fad (.t 3) 2)), (zn (.st 1 (.sl 3) (.t 51) (.t 50)), [])]
def qk2 : IC := (.seq (.seq q5i (.cond (.t 43) .skip (.exit 0))) (.block 1 qyc))
def qyn : IC := zr [zv 52 (.ld false 1 (.t 1)), zv 53 (.nck (.t 52)), zv 54 (.fad (.t 53) 2), zv 55 (.ld false 1 (.t 54)), zv 56 (.un .not (.t 55)), zm 57 56, zw 57 true 58 (.ld false 1 (.t 1)), ⟨some (57, true), some 59, .call (.c (.fn 150 [] [])) [((.t 58), .id), ((.c (.str [32, 45, 62, 32])), .id)]⟩, zv 60 (.pick (.t 57) (.t 59) (.c (.bool false)))]
def qw9 : IC := .drw [zp (zv 61 (.ld true 3 (.t 3))), zp (zv 62 (.ld false 1 (.t 1))), (zi 63 (.call (.c (.fn 138 [] [])) [((.t 62), .id)]), [0]), (zv 64 (.bsl 3 [((.t 61), (.agg [.id, .id, (.sl 3)])), ((.t 63), (.agg [.id, .id, (.sl 3)]))]), []), (zv 65 (.bld [(.str []), (.int .i64 0), .nils] [(0, 1, (.c (.str [45, 62]))), (2, 1, (.t 64))]), []), (zn (.st 3 (.agg [.id, .id, (.sl 3)]) (.t 2) (.t 65)), [])]
def qv9 : IC := zr [zv 66 (.ld true 3 (.t 3)), zn (.st 3 (.agg [.id, .id, (.sl 3)]) (.t 2) (.t 66))]
def k0cn : IC := (.seq q8u (.seq (.seq q4t (.seq q80 (.cond (.t 15) q6j .skip))) (.seq q9t (.seq (.seq q7d (.cond (.t 23) (.seq q6v .ret) .skip)) (.seq q2s (.seq (.block 0 (.loop qk2)) (.seq (.seq qyn (.cond (.t 60) (.seq qw9 .ret) .skip)) (.seq qv9 .ret))))))))
@[go_sem] def s0cn : List (RV × Co) := [(.c true 3 2, (.agg [.id, .id, (.sl 3)]))]
theorem c0cn : cFun Try.prog 138 = some (67, k0cn, s0cn) := by kernel_rfl

def qbb2 : IC := zr [zv 2 (.mov (.c (.int .u64 0)))]
def qbhm : IC := zr [zm 3 0, zv 4 (.bin .lss .no (.t 3) (zc 0))]
def qbht : IC := zr [zm 5 0, zv 6 (.cvi .u64 (.t 5)), zv 7 (.un .neg (.t 6)), zm 2 7]
def qbb1 : IC := zr [zm 8 0, zv 9 (.cvi .u64 (.t 8)), zm 2 9]
def k0u : IC := (.seq qbb2 (.seq (.seq qbhm (.cond (.t 4) (.seq qbht .ret) .skip)) (.seq qbb1 .ret)))
@[go_sem] def s0u : List (RV × Co) := [(.t 2, .id)]
theorem c0u : cFun Try.prog 143 = some (10, k0u, s0u) := by kernel_rfl

def qbeo : IC := zr [zv 2 (.mov (.c (.str [])))]
def qbgp : IC := zr [zm 4 0, zv 5 (.bin .lss .no (.t 4) (zc 0))]
def qbc4 : IC := zr [zv 2 (.mov (.c (.str [])))]
def qbdx : IC := zr [zm 6 0, zv 7 (.bin .rem .no (.t 6) (zc 26)), zv 8 (.bin .add .no (zc 97) (.t 7)), zv 9 (.cvi .u8 (.t 8)), zv 10 (.bsl 1 [((.t 9), .id)]), zv 11 (.cbs (.t 10)), zm 3 11]
def qbge : IC := zr [zm 12 0, zv 13 (.bin .lss .no (.t 12) (zc 26))]
def qbep : IC := zr [zm 14 3, zm 2 14]
def qbd9 : IC := zr [zm 15 3, zm 16 0, zv 17 (.bin .quo .no (.t 16) (zc 26)), zi 18 (.call (.c (.fn 137 [] [])) [((.t 17), .id)]), zv 19 (.bin .add .no (.t 15) (.t 18)), zm 2 19]
def k0x : IC := (.seq qbeo (.seq (.seq qbgp (.cond (.t 5) (.seq qbc4 .ret) .skip)) (.seq qbdx (.seq (.seq qbge (.cond (.t 13) (.seq qbep .ret) .skip)) (.seq qbd9 .ret)))))
@[go_sem] def s0x : List (RV × Co) := [(.t 2, .id)]
theorem c0x : cFun Try.prog 144 = some (20, k0x, s0x) := by kernel_rfl

def qbdw : IC := zr [zv 2 (.mov (zc 0)), zv 3 (.mov (zc 0))]
def qbej : IC := zr [zm 8 0, zv 9 (.bin .eql .no (.t 8) (.c (.str [])))]
def qbd2 : IC := zr [zv 2 (.mov (zc 0)), zv 3 (.mov (zc 5))]
def qbfj : IC := zr [zv 4 (.mov (zc 0))]
def qbd8 : IC := zr [zm 10 4, zm 11 0, zv 12 (.len true (.t 11)), zv 13 (.bin .lss .no (.t 10) (.t 12))]
def qbh0 : IC := zr [zm 16 0, zm 17 4, zv 18 (.idx (.t 16) (.t 17)), zv 19 (.bin .lss .no (.t 18) (.c (.int .u8 48))), zm 20 19, zw 20 false 21 (.mov (.t 0)), zw 20 false 22 (.mov (.t 4)), zw 20 false 23 (.idx (.t 21) (.t 22)), zw 20 false 24 (.bin .gtr .no (.t 23) (.c (.int .u8 57))), zv 25 (.pick (.t 20) (.c (.bool true)) (.t 24))]
def qbd7 : IC := zr [zv 2 (.mov (zc 0)), zv 3 (.mov (zc 5))]
def qbgn : IC := zr [zm 14 4, zv 15 (.bin .add .no (.t 14) (zc 1)), zm 4 15]
def qbda : IC := (.seq (.seq qbd8 (.cond (.t 13) .skip (.exit 0))) (.seq (.block 1 (.seq qbh0 (.cond (.t 25) (.seq qbd7 .ret) .skip))) qbgn))
def qbai : IC := zr [zv 5 (.mov (zc 0))]
def q2m : IC := zr [zv 6 (.mov (zc 0))]
def qbaf : IC := zr [zm 26 6, zm 27 0, zv 28 (.len true (.t 27)), zv 29 (.bin .lss .no (.t 26) (.t 28))]
def q9m : IC := zr [zm 32 0, zm 33 6, zv 34 (.idx (.t 32) (.t 33)), zv 35 (.bin .sub .no (.t 34) (.c (.int .u8 48))), zv 36 (.cvi .i64 (.t 35)), zm 7 36]
def q78 : IC := zr [zm 37 5, zm 38 7, zv 39 (.bin .sub .no (zc 9223372036854775807) (.t 38)), zv 40 (.bin .quo .no (.t 39) (zc 10)), zv 41 (.bin .gtr .no (.t 37) (.t 40))]
def q95 : IC := zr [zv 2 (.mov (zc 0)), zv 3 (.mov (zc 4))]
def q4b : IC := zr [zm 42 5, zv 43 (.bin .mul .no (zc 10) (.t 42)), zm 44 7, zv 45 (.bin .add .no (.t 43) (.t 44)), zm 5 45]
def q3n : IC := zr [zm 30 6, zv 31 (.bin .add .no (.t 30) (zc 1)), zm 6 31]
def q89 : IC := (.seq (.seq qbaf (.cond (.t 29) .skip (.exit 2))) (.seq (.block 3 (.seq q9m (.seq (.seq q78 (.cond (.t 41) (.seq q95 .ret) .skip)) q4b))) q3n))
def q2v : IC := zr [zm 46 5, zm 2 46, zv 3 (.mov (zc 0))]
def k0o : IC := (.seq qbdw (.seq (.seq qbej (.cond (.t 9) (.seq qbd2 .ret) .skip)) (.seq (.seq qbfj (.block 0 (.loop qbda))) (.seq qbai (.seq (.seq q2m (.block 2 (.loop q89))) (.seq q2v .ret))))))
@[go_sem] def s0o : List (RV × Co) := [(.t 2, .id), (.t 3, .id)]
theorem c0o : cFun Try.prog 145 = some (47, k0o, s0o) := by kernel_rfl

def qbea : IC := zr [zv 4 zf]
def qbez : IC := zr [zm 5 0, zv 6 (.len true (.t 5)), zm 7 1, zv 8 (.len true (.t 7)), zv 9 (.bin .geq .no (.t 6) (.t 8)), zm 10 9, zw 10 true 11 (.mov (.t 0)), zw 10 true 12 (.mov (.t 1)), zw 10 true 13 (.len true (.t 12)), zw 10 true 14 (.sls (.t 11) none (some (.t 13))), zw 10 true 15 (.mov (.t 1)), zw 10 true 16 (.bin .eql .no (.t 14) (.t 15)), zv 17 (.pick (.t 10) (.t 16) (.c (.bool false))), zm 4 17]
def k0m : IC := (.seq qbea (.seq qbez .ret))
@[go_sem] def s0m : List (RV × Co) := [(.t 4, .id)]
theorem c0m : cFun Try.prog 147 = some (18, k0m, s0m) := by kernel_rfl

def q98 : IC := zr [zv 1 (.ld false 1 (.t 0)), zv 2 (.nck (.t 1)), zv 3 (.fad (.t 2) 1), zv 4 (.ld false 1 (.t 3)), zv 5 (.bin .sub .no (.t 4) (zc 1)), zv 6 (.nck (.t 1)), zv 7 (.fad (.t 6) 1), zn (.st 1 .id (.t 7) (.t 5))]
def k0cd : IC := q98
@[go_sem] def s0cd : List (RV × Co) := []
theorem c0cd : cFun Try.prog 148 = some (8, k0cd, s0cd) := by kernel_rfl

def q1h : IC := zr [zi 2 (.alo [(.str []), (.int .i64 0), .nils])]
def q8y : IC := zr [zm 6 0, zi 7 (.call (.c (.fn 150 [] [])) [((.t 6), .id), ((.c (.str [40])), .id)])]
def q91 : IC := zr [zm 8 0, zi 9 (.call (.c (.fn 138 [] [])) [((.t 8), .id)]), zi 3 (.alo [(.str []), (.int .i64 0), .nils]), zn (.st 3 (.agg [.id, .id, (.sl 3)]) (.t 3) (.t 9))]
def q1x : IC := zr [zm 10 0, zm 11 0, zv 12 (.nck (.t 11)), zv 13 (.fad (.t 12) 2), zv 14 (.ld false 1 (.t 13)), zm 15 14, zw 15 false 16 (.mov (.t 0)), ⟨some (15, false), some 17, .call (.c (.fn 150 [] [])) [((.t 16), .id), ((.c (.str [41])), .id)]⟩, zw 15 false 18 (.un .not (.t 17)), zv 19 (.pick (.t 15) (.c (.bool true)) (.t 18)), zv 20 (.nck (.t 10)), zv 21 (.fad (.t 20) 2), zn (.st 1 .id (.t 21) (.t 19))]
def q2a : IC := zr [zv 22 (.ld true 3 (.t 3)), zn (.st 3 (.agg [.id, .id, (.sl 3)]) (.t 2) (.t 22))]
def q69 : IC := zr [zm 23 0, zv 24 (.nck (.t 23)), zv 25 (.fad (.t 24) 0), zv 26 (.ld false 1 (.t 25)), zi 27 (.call (.c (.fn 153 [] [])) [((.t 26), .id), ((.c (.str [32, 40, 41])), .id)]), zm 4 27]
def q3v : IC := zr [zm 28 4, zv 29 (.bin .lss .no (.t 28) (zc 0))]
def q43 : IC := zr [zm 30 0, zv 31 (.nck (.t 30)), zv 32 (.fad (.t 31) 0), zv 33 (.ld false 1 (.t 32)), zv 34 (.len true (.t 33)), zm 4 34]
def q51 : IC := zr [zm 35 0, zv 36 (.nck (.t 35)), zv 37 (.fad (.t 36) 0), zv 38 (.ld false 1 (.t 37)), zm 39 4, zv 40 (.sls (.t 38) none (some (.t 39))), zi 41 (.call (.c (.fn 154 [] [])) [((.t 40), .id)]), zi 5 (.alo [(.str []), (.int .i64 0), .nils]), zn (.st 3 (.agg [.id, .id, (.sl 3)]) (.t 5) (.t 41))]
def q3d : IC := .drw [zp (zm 42 0), zp (zm 43 0), zp (zm 44 0), zp (zv 45 (.nck (.t 44))), zp (zv 46 (.fad (.t 45) 0)), zp (zv 47 (.ld false 1 (.t 46))), zp (zm 48 4), zp (zv 49 (.sls (.t 47) (some (.t 48)) none)), zp (zm 50 0), zp (zv 51 (.nck (.t 50))), zp (zv 52 (.fad (.t 51) 2)), zp (zv 53 (.ld false 1 (.t 52))), zp (zm 54 53), zp (zw 54 false 55 (.mov (.t 4))), zp (zw 54 false 56 (.bin .eql .no (.t 55) (zc 0))), zp (zv 57 (.pick (.t 54) (.c (.bool true)) (.t 56))), zp (zv 58 (.nck (.t 42))), zp (zv 59 (.fad (.t 58) 0)), (zn (.st 1 .id (.t 59) (.t 49)), []), zp (zv 60 (.nck (.t 43))), zp (zv 61 (.fad (.t 60) 2)), (zn (.st 1 .id (.t 61) (.t 57)), [])]
def qwd : IC := zr [zv 62 (.ld true 3 (.t 5)), zn (.st 3 (.agg [.id, .id, (.sl 3)]) (.t 2) (.t 62))]
def k0ce : IC := (.seq q1h (.seq (.seq q8y (.cond (.t 7) (.seq q91 (.seq q1x (.seq q2a .ret))) .skip)) (.seq q69 (.seq (.seq q3v (.cond (.t 29) q43 .skip)) (.seq q51 (.seq q3d (.seq qwd .ret)))))))
@[go_sem] def s0ce : List (RV × Co) := [(.c true 3 2, (.agg [.id, .id, (.sl 3)]))]
theorem c0ce : cFun Try.prog 149 = some (63, k0ce, s0ce) := by kernel_rfl

def q75 : IC := zr [zv 4 zf]
def q4j : IC := zr [zm 6 0, zv 7 (.nck (.t 6)), zv 8 (.fad (.t 7) 0), zv 9 (.ld false 1 (.t 8)), zm 10 1, zi 11 (.call (.c (.fn 135 [] [])) [((.t 9), .id), ((.t 10), .id)]), zm 5 11]
def q0t : IC := zr [zm 12 5]
def q88 : IC := zr [zm 13 0, zm 14 0, zv 15 (.nck (.t 14)), zv 16 (.fad (.t 15) 0), zv 17 (.ld false 1 (.t 16)), zm 18 1, zv 19 (.len true (.t 18)), zv 20 (.sls (.t 17) (some (.t 19)) none), zv 21 (.nck (.t 13)), zv 22 (.fad (.t 21) 0), zn (.st 1 .id (.t 22) (.t 20))]
def q5p : IC := zr [zm 23 5, zm 4 23]
def k0ch : IC := (.seq q75 (.seq q4j (.seq (.seq q0t (.cond (.t 12) q88 .skip)) (.seq q5p .ret))))
@[go_sem] def s0ch : List (RV × Co) := [(.t 4, .id)]
theorem c0ch : cFun Try.prog 150 = some (24, k0ch, s0ch) := by kernel_rfl

def q99 : IC := zr [zv 2 (.mov (.c .nils))]
def q8h : IC := zr [zm 3 0, zv 4 (.bin .eql .slice (.t 3) (.c .nils))]
def q6a : IC := zr [zv 2 (.mov (.c .nils))]
def q5g : IC := zr [zv 5 (.bsl 3 []), zm 6 0, zi 7 (.app 3 (.agg [(.str []), (.int .i64 0), .nils]) 48 (.sl 3) (.t 5) (.t 6)), zm 2 7]
def k0cg : IC := (.seq q99 (.seq (.seq q8h (.cond (.t 4) (.seq q6a .ret) .skip)) (.seq q5g .ret)))
@[go_sem] def s0cg : List (RV × Co) := [(.t 2, (.sl 3))]
theorem c0cg : cFun Try.prog 151 = some (8, k0cg, s0cg) := by kernel_rfl

def qbaw : IC := zr [zi 2 (.alo [(.str []), (.int .i64 0), .nils])]
def q57 : IC := zr [zm 6 0, zi 7 (.call (.c (.fn 161 [] [])) [((.t 6), .id)]), zm 3 7]
def q7a : IC := zr [zm 8 3, zv 9 (.bin .geq .no (.t 8) (zc 0))]
def q5w : IC := zr [zm 10 3, zv 11 (.bld [(.str []), (.int .i64 0), .nils] [(1, 1, (.t 10))]), zn (.st 3 (.agg [.id, .id, (.sl 3)]) (.t 2) (.t 11))]
def q1q : IC := zr [zm 12 0, zi 13 (.call (.c (.fn 135 [] [])) [((.t 12), .id), ((.c (.str [63])), .id)])]
def q71 : IC := zr [zm 15 0, zv 16 (.sls (.t 15) (some (zc 1)) none), zi 17 (.call (.c (.fn 136 [] [])) [((.t 16), .id)]), zm 14 17, zv 18 (.ext (.t 14) 0), zv 19 (.ext (.t 14) 1), zm 4 18, zm 5 19]
def q7l : IC := zr [zm 20 5, zv 21 (.bin .eql .no (.t 20) (zc 0))]
def q36 : IC := zr [zm 22 4, zv 23 (.bin .sub .no (zc (-1)) (.t 22)), zv 24 (.bld [(.str []), (.int .i64 0), .nils] [(1, 1, (.t 23))]), zn (.st 3 (.agg [.id, .id, (.sl 3)]) (.t 2) (.t 24))]
def q0z : IC := zr [zm 25 0, zv 26 (.bld [(.str []), (.int .i64 0), .nils] [(0, 1, (.t 25))]), zn (.st 3 (.agg [.id, .id, (.sl 3)]) (.t 2) (.t 26))]
def k0cf : IC := (.seq qbaw (.seq (.seq q57 (.seq q7a (.cond (.t 9) (.seq q5w .ret) .skip))) (.seq (.seq q1q (.cond (.t 13) (.seq q71 (.seq q7l (.cond (.t 21) (.seq q36 .ret) .skip))) .skip)) (.seq q0z .ret))))
@[go_sem] def s0cf : List (RV × Co) := [(.c true 3 2, (.agg [.id, .id, (.sl 3)]))]
theorem c0cf : cFun Try.prog 154 = some (27, k0cf, s0cf) := by kernel_rfl

def q1l : IC := zr [zv 2 (.mov (zc 0))]
def qbaz : IC := zr [zm 6 0, zv 7 (.bin .eql .no (.t 6) (.c (.str []))), zm 8 7, zw 8 false 9 (.mov (.t 0)), zw 8 false 10 (.idx (.t 9) (zc 0)), zw 8 false 11 (.bin .lss .no (.t 10) (.c (.int .u8 97))), zv 12 (.pick (.t 8) (.c (.bool true)) (.t 11)), zm 13 12, zw 13 false 14 (.mov (.t 0)), zw 13 false 15 (.idx (.t 14) (zc 0)), zw 13 false 16 (.bin .gtr .no (.t 15) (.c (.int .u8 122))), zv 17 (.pick (.t 13) (.c (.bool true)) (.t 16))]
def q0u : IC := zr [zv 2 (.mov (zc (-1)))]
def q7z : IC := zr [zm 18 0, zv 19 (.idx (.t 18) (zc 0)), zv 20 (.bin .sub .no (.t 19) (.c (.int .u8 97))), zv 21 (.cvi .i64 (.t 20)), zm 3 21]
def q7s : IC := zr [zm 22 0, zv 23 (.len true (.t 22)), zv 24 (.bin .gtr .no (.t 23) (zc 1))]
def q0x : IC := zr [zm 26 0, zv 27 (.sls (.t 26) (some (zc 1)) none), zi 28 (.call (.c (.fn 136 [] [])) [((.t 27), .id)]), zm 25 28, zv 29 (.ext (.t 25) 0), zv 30 (.ext (.t 25) 1), zm 4 29, zm 5 30]
def q96 : IC := zr [zm 31 5, zv 32 (.bin .neq .no (.t 31) (zc 0)), zm 33 32, zw 33 false 34 (.mov (.t 4)), zw 33 false 35 (.bin .gtr .no (.t 34) (zc 177372539170284150)), zv 36 (.pick (.t 33) (.c (.bool true)) (.t 35))]
def q82 : IC := zr [zv 2 (.mov (zc (-1)))]
def q6p : IC := zr [zm 37 3, zm 38 4, zv 39 (.bin .mul .no (zc 26) (.t 38)), zv 40 (.bin .add .no (.t 37) (.t 39)), zm 3 40]
def q2h : IC := zr [zm 41 3, zv 42 (.bin .gtr .no (.t 41) (zc 4611686018427387904)), zm 43 42, zw 43 false 44 (.mov (.t 3)), ⟨some (43, false), some 45, .call (.c (.fn 144 [] [])) [((.t 44), .id)]⟩, zw 43 false 46 (.mov (.t 0)), zw 43 false 47 (.bin .neq .no (.t 45) (.t 46)), zv 48 (.pick (.t 43) (.c (.bool true)) (.t 47))]
def qwi : IC := zr [zv 2 (.mov (zc (-1)))]
def qw4 : IC := zr [zm 49 3, zm 2 49]
def k0ci : IC := (.seq q1l (.seq (.seq qbaz (.cond (.t 17) (.seq q0u .ret) .skip)) (.seq q7z (.seq (.seq q7s (.cond (.t 24) (.seq q0x (.seq (.seq q96 (.cond (.t 36) (.seq q82 .ret) .skip)) q6p)) .skip)) (.seq (.seq q2h (.cond (.t 48) (.seq qwi .ret) .skip)) (.seq qw4 .ret))))))
@[go_sem] def s0ci : List (RV × Co) := [(.t 2, .id)]
theorem c0ci : cFun Try.prog 161 = some (50, k0ci, s0ci) := by kernel_rfl

end Go.Proofs.Ytfpobiheiloamaa
