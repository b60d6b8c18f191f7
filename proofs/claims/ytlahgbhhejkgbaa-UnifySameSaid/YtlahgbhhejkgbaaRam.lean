/- A text of this proof. -/
import Derived.Test.YtlahgbhhejkgbaaRaf
import Derived.Test.YtlahgbhhejkgbaaProg
/- The compiled code of the functions. -/
namespace Go.Proofs.Ytlahgbhhejkgbaa
open Go Go.V
@[reducible] def zm (d s : Nat) : GI := ⟨none, some d, .v (.mov (.t s))⟩
@[reducible] def zv (d : Nat) (x : IV) : GI := ⟨none, some d, .v x⟩
@[reducible] def zi (d : Nat) (i : I) : GI := ⟨none, some d, i⟩
@[reducible] def zn (i : I) : GI := ⟨none, none, i⟩
@[reducible] def zw (j : Nat) (b : Bool) (d : Nat) (x : IV) : GI := ⟨some (j, b), some d, .v x⟩
@[reducible] def zp (g : GI) : GI × List Nat := (g, [])
@[reducible] def zN : Co := .agg [.id, .id, .id, .id, (.sl 5)]
@[reducible] def zC : Co := .agg [(.sl 4), .id, .id, .id, .id, .id, .id, .id]
@[reducible] def zaN : I := .alo [(.int .i64 0), (.int .i64 0), (.int .i64 0), (.str []), .nils]
@[reducible] def zaC : I := .alo [.nils, (.int .i64 0), (.int .i64 0), (.int .i64 0), (.str []), (.int .i64 0), (.int .i64 0), (.int .i64 0)]
@[reducible] def zaT : I := .alo [(.int .i64 0), (.int .i64 0), (.int .i64 0), (.str [])]
@[reducible] def zZ : AV := .agg [(.int .i64 0), (.int .i64 0), (.int .i64 0), (.str []), .nils]
@[reducible] def zc (n : Int) : Opd := .c (.int .i64 n)
@[reducible] def zf : IV := .mov (.c (.bool false))
@[reducible] def zr (l : List GI) : IC := .reg false l
def qbnj : IC := zr [zi 2 (.box (.t 0)), zi 3 (.box (.t 1)), zv 4 zf]
def qbl1 : IC := zr [zv 13 (.ld true 3 (.t 2)), zv 14 (.ld true 3 (.t 3)), zv 15 (.bsl 3 [((.t 13), (.agg [.id, .id, (.sl 3)])), ((.t 14), (.agg [.id, .id, (.sl 3)]))]), zi 16 (.call (.c (.fn 33 [] [])) [((.t 15), (.sl 3))]), zv 17 (.un .not (.t 16))]
def qbmt : IC := zr [zi 18 (.call (.c (.fn 34 [] [])) []), zm 4 18]
def qblb : IC := zr [zv 20 (.ld true 3 (.t 2)), zv 21 (.ld true 3 (.t 3)), zi 22 (.call (.c (.fn 35 [] [])) [((.t 20), (.agg [.id, .id, (.sl 3)])), ((.t 21), (.agg [.id, .id, (.sl 3)]))]), zm 19 22, zv 23 (.ext (.t 19) 0), zv 24 (.ext (.t 19) 1), zm 5 23, zm 6 24]
def qbhq : IC := zr [zm 25 6, zv 26 (.bin .neq .no (.t 25) (zc 0))]
def qbk6 : IC := zr [zm 27 5, zv 28 (.bin .eql .ptr (.t 27) (.c .nilp)), zm 29 28, ⟨some (29, true), some 30, .call (.c (.fn 34 [] [])) []⟩, zv 31 (.pick (.t 29) (.t 30) (.c (.bool false))), zm 4 31]
def qbgz : IC := zr [zm 33 5, zv 34 (.ld true 3 (.t 2)), zi 35 (.call (.c (.fn 36 [] [])) [((.t 33), .id), ((.t 34), (.agg [.id, .id, (.sl 3)]))]), zm 32 35, zv 36 (.ext (.t 32) 0), zv 37 (.ext (.t 32) 1), zi 7 (.alo [(.str []), (.int .i64 0), .nils]), zn (.st 3 (.agg [.id, .id, (.sl 3)]) (.t 7) (.t 36)), zm 8 37]
def qbl0 : IC := zr [zm 39 5, zv 40 (.ld true 3 (.t 3)), zi 41 (.call (.c (.fn 36 [] [])) [((.t 39), .id), ((.t 40), (.agg [.id, .id, (.sl 3)]))]), zm 38 41, zv 42 (.ext (.t 38) 0), zv 43 (.ext (.t 38) 1), zi 9 (.alo [(.str []), (.int .i64 0), .nils]), zn (.st 3 (.agg [.id, .id, (.sl 3)]) (.t 9) (.t 42)), zm 10 43]
def qbf1 : IC := zr [zm 44 8, zv 45 (.bin .neq .no (.t 44) (zc 0)), zm 46 45, zw 46 false 47 (.mov (.t 10)), zw 46 false 48 (.bin .neq .no (.t 47) (zc 0)), zv 49 (.pick (.t 46) (.c (.bool true)) (.t 48))]
def qbj9 : IC := zr [zm 50 8, zv 51 (.bin .eql .no (.t 50) (zc 2)), zm 52 51, ⟨some (52, true), some 53, .call (.c (.fn 34 [] [])) []⟩, zv 54 (.pick (.t 52) (.t 53) (.c (.bool false))), zm 4 54]
def qbb5 : IC := zr [zm 56 5, zv 57 (.ld true 3 (.t 7)), zi 58 (.call (.c (.fn 36 [] [])) [((.t 56), .id), ((.t 57), (.agg [.id, .id, (.sl 3)]))]), zm 55 58, zv 59 (.ext (.t 55) 0), zv 60 (.ext (.t 55) 1), zi 11 (.alo [(.str []), (.int .i64 0), .nils]), zn (.st 3 (.agg [.id, .id, (.sl 3)]) (.t 11) (.t 59)), zm 12 60]
def qbfq : IC := zr [zv 61 (.ld true 3 (.t 7)), zv 62 (.ld true 3 (.t 9)), zi 63 (.call (.c (.fn 23 [] [])) [((.t 61), (.agg [.id, .id, (.sl 3)])), ((.t 62), (.agg [.id, .id, (.sl 3)]))]), zm 64 63, zw 64 true 65 (.mov (.t 12)), zw 64 true 66 (.bin .eql .no (.t 65) (zc 0)), zv 67 (.pick (.t 64) (.t 66) (.c (.bool false))), zm 68 67, zw 68 true 69 (.ld true 3 (.t 11)), zw 68 true 70 (.ld true 3 (.t 7)), ⟨some (68, true), some 71, .call (.c (.fn 23 [] [])) [((.t 69), (.agg [.id, .id, (.sl 3)])), ((.t 70), (.agg [.id, .id, (.sl 3)]))]⟩, zv 72 (.pick (.t 68) (.t 71) (.c (.bool false))), zm 73 72, ⟨some (73, true), some 74, .call (.c (.fn 34 [] [])) []⟩, zv 75 (.pick (.t 73) (.t 74) (.c (.bool false))), zm 4 75]
def k0a : IC := (.seq qbnj (.seq (.seq qbl1 (.cond (.t 17) (.seq qbmt .ret) .skip)) (.seq qblb (.seq (.seq qbhq (.cond (.t 26) (.seq qbk6 .ret) .skip)) (.seq qbgz (.seq qbl0 (.seq (.seq qbf1 (.cond (.t 49) (.seq qbj9 .ret) .skip)) (.seq qbb5 (.seq qbfq .ret)))))))))
@[go_sem] def s0a : List (RV × Co) := [(.t 4, .id)]
theorem c0a : cFun Try.prog 8 = some (76, k0a, s0a) := by kernel_rfl

def q4y : IC := zr [zv 2 (.mov (zc 0))]
def q9k : IC := zr [zv 3 (.mov (zc 20000))]
def qbb7 : IC := zr [zv 4 (.mov (zc 0))]
def q5u : IC := zr [zm 5 4, zm 6 0, zv 7 (.len false (.t 6)), zv 8 (.bin .lss .no (.t 5) (.t 7))]
def q5w : IC := zr [zm 11 0, zm 12 4, zv 13 (.iad 3 (.t 11) (.t 12)), zv 14 (.ld true 3 (.t 13)), zm 15 3, zi 16 (.call (.c (.fn 37 [] [])) [((.t 14), (.agg [.id, .id, (.sl 3)])), ((.t 15), .id), ((zc 300), .id)]), zm 3 16]
def q4p : IC := zr [zm 9 4, zv 10 (.bin .add .no (.t 9) (zc 1)), zm 4 10]
def qbe0 : IC := (.seq (.seq q5u (.cond (.t 8) .skip (.exit 0))) (.seq (.block 1 q5w) q4p))
def qbfl : IC := zr [zm 17 3, zv 18 (.bin .lss .no (.t 17) (zc 0))]
def qbbe : IC := zr [zv 2 (.mov (zc 0))]
def q0o : IC := zr [zv 2 (.mov (zc 1))]
def k0bn : IC := (.seq q4y (.seq q9k (.seq (.seq qbb7 (.block 0 (.loop qbe0))) (.seq (.seq qbfl (.cond (.t 18) (.seq qbbe .ret) .skip)) (.seq q0o .ret)))))
@[go_sem] def s0bn : List (RV × Co) := [(.t 2, .id)]
theorem c0bn : cFun Try.prog 9 = some (19, k0bn, s0bn) := by kernel_rfl

def qbav : IC := zr [zi 1 (.box (.t 0)), zv 2 zf]
def q48 : IC := zr [zi 3 (.alo [(.int .i64 0)]), zn (.st 1 .id (.t 3) (zc 0))]
def qbfc : IC := zr [zv 4 (.ld true 3 (.t 1)), zv 5 (.mfn 39 [] [(.t 3)]), zi 6 (.call (.c (.fn 38 [] [])) [((.t 4), (.agg [.id, .id, (.sl 3)])), ((zc 1), .id), ((.t 5), .id)]), zm 2 6]
def k0bi : IC := (.seq qbav (.seq q48 (.seq qbfc .ret)))
@[go_sem] def s0bi : List (RV × Co) := [(.t 2, .id)]
theorem c0bi : cFun Try.prog 11 = some (7, k0bi, s0bi) := by kernel_rfl

def q4h : IC := zr [zi 1 (.box (.t 0)), zv 2 (.mov (zc 0))]
def q7e : IC := zr [zi 3 (.alo [(.int .i64 0)]), zn (.st 1 .id (.t 3) (zc 0))]
def qbbx : IC := zr [zv 4 (.ld true 3 (.t 1)), zv 5 (.mfn 43 [] [(.t 3)]), zi 6 (.call (.c (.fn 38 [] [])) [((.t 4), (.agg [.id, .id, (.sl 3)])), ((zc 1), .id), ((.t 5), .id)])]
def qbe9 : IC := zr [zv 7 (.ld false 1 (.t 3)), zm 2 7]
def k0bj : IC := (.seq q4h (.seq q7e (.seq qbbx (.seq qbe9 .ret))))
@[go_sem] def s0bj : List (RV × Co) := [(.t 2, .id)]
theorem c0bj : cFun Try.prog 13 = some (8, k0bj, s0bj) := by kernel_rfl

def qbez : IC := zr [zi 1 (.box (.t 0)), zv 2 (.mov (zc 0))]
def qbbl : IC := zr [zv 3 (.mov (zc 1))]
def q9g : IC := zr [zv 4 (.mov (zc 0))]
def qbdr : IC := zr [zm 5 4, zv 6 (.fad (.t 1) 2), zv 7 (.ld false 1 (.t 6)), zv 8 (.len false (.t 7)), zv 9 (.bin .lss .no (.t 5) (.t 8))]
def q82 : IC := zr [zm 12 3, zv 13 (.fad (.t 1) 2), zv 14 (.ld false 1 (.t 13)), zm 15 4, zv 16 (.iad 3 (.t 14) (.t 15)), zv 17 (.ld true 3 (.t 16)), zi 18 (.call (.c (.fn 14 [] [])) [((.t 17), (.agg [.id, .id, (.sl 3)]))]), zv 19 (.bin .add .no (.t 12) (.t 18)), zm 3 19]
def qbbv : IC := zr [zm 10 4, zv 11 (.bin .add .no (.t 10) (zc 1)), zm 4 11]
def q93 : IC := (.seq (.seq qbdr (.cond (.t 9) .skip (.exit 0))) (.seq (.block 1 q82) qbbv))
def q7x : IC := zr [zm 20 3, zm 2 20]
def k0bl : IC := (.seq qbez (.seq qbbl (.seq (.seq q9g (.block 0 (.loop q93))) (.seq q7x .ret))))
@[go_sem] def s0bl : List (RV × Co) := [(.t 2, .id)]
theorem c0bl : cFun Try.prog 14 = some (21, k0bl, s0bl) := by kernel_rfl

def qbcb : IC := zr [zi 1 (.box (.t 0)), zv 2 (.mov (zc 0))]
def qba1 : IC := zr [zi 3 (.alo [(.int .i64 0)]), zn (.st 1 .id (.t 3) (zc 0))]
def qbbi : IC := zr [zv 4 (.ld true 3 (.t 1)), zv 5 (.mfn 44 [] [(.t 3)]), zi 6 (.call (.c (.fn 38 [] [])) [((.t 4), (.agg [.id, .id, (.sl 3)])), ((zc 1), .id), ((.t 5), .id)])]
def qbcq : IC := zr [zv 7 (.ld false 1 (.t 3)), zm 2 7]
def k0bk : IC := (.seq qbcb (.seq qba1 (.seq qbbi (.seq qbcq .ret))))
@[go_sem] def s0bk : List (RV × Co) := [(.t 2, .id)]
theorem c0bk : cFun Try.prog 15 = some (8, k0bk, s0bk) := by kernel_rfl

def qba7 : IC := zr [zi 1 (.box (.t 0)), zv 2 (.mov (.c .nils))]
def qbc8 : IC := zr [zi 3 (.alo [.nils])]
def qbbn : IC := zr [zv 4 (.ld true 3 (.t 1)), zv 5 (.mfn 45 [] [(.t 3)]), zi 6 (.call (.c (.fn 38 [] [])) [((.t 4), (.agg [.id, .id, (.sl 3)])), ((zc 1), .id), ((.t 5), .id)])]
def q5x : IC := zr [zv 7 (.ld false 1 (.t 3)), zm 2 7]
def k0br : IC := (.seq qba7 (.seq qbc8 (.seq qbbn (.seq q5x .ret))))
@[go_sem] def s0br : List (RV × Co) := [(.t 2, (.sl 1))]
theorem c0br : cFun Try.prog 18 = some (8, k0br, s0br) := by kernel_rfl

def q8b : IC := zr [zi 2 (.box (.t 0)), zi 3 (.box (.t 1)), zv 4 zf]
def q58 : IC := zr [zv 5 (.ld true 3 (.t 2)), zv 6 (.mfn 49 [] [(.t 3)]), zi 7 (.call (.c (.fn 38 [] [])) [((.t 5), (.agg [.id, .id, (.sl 3)])), ((zc 1), .id), ((.t 6), .id)]), zv 8 (.un .not (.t 7)), zm 4 8]
def k0cl : IC := (.seq q8b (.seq q58 .ret))
@[go_sem] def s0cl : List (RV × Co) := [(.t 4, .id)]
theorem c0cl : cFun Try.prog 20 = some (9, k0cl, s0cl) := by kernel_rfl

def qba6 : IC := zr [zi 2 (.box (.t 0)), zi 3 (.box (.t 1)), zv 4 zf]
def q72 : IC := .drw [zp (zv 6 (.ld true 3 (.t 2))), (zi 7 (.call (.c (.fn 40 [] [])) [((.t 6), (.agg [.id, .id, (.sl 3)]))]), []), (zv 8 (.ld true 3 (.t 3)), [1]), (zi 9 (.call (.c (.fn 40 [] [])) [((.t 8), (.agg [.id, .id, (.sl 3)]))]), []), (zv 10 (.bin .neq (.cells [.str, (.int .i64), (.int .i64)]) (.t 7) (.t 9)), [])]
def q9h : IC := zr [zv 4 zf]
def q6s : IC := zr [zv 11 (.fad (.t 2) 2), zv 12 (.ld false 1 (.t 11)), zv 13 (.len false (.t 12)), zv 14 (.mov (zc 0))]
def qbdb : IC := zr [zv 15 (.bin .lss .no (.t 14) (.t 13))]
def q9r : IC := zr [zm 16 14, zm 5 16]
def qbet : IC := .drw [zp (zv 17 (.fad (.t 2) 2)), zp (zv 18 (.ld false 1 (.t 17))), zp (zm 19 5), zp (zv 20 (.iad 3 (.t 18) (.t 19))), zp (zv 21 (.ld true 3 (.t 20))), zp (zv 22 (.fad (.t 3) 2)), zp (zv 23 (.ld false 1 (.t 22))), zp (zm 24 5), zp (zv 25 (.iad 3 (.t 23) (.t 24))), zp (zv 26 (.ld true 3 (.t 25))), (zi 27 (.call (.c (.fn 22 [] [])) [((.t 21), (.agg [.id, .id, (.sl 3)])), ((.t 26), (.agg [.id, .id, (.sl 3)]))]), []), zp (zv 28 (.un .not (.t 27)))]
def q6o : IC := zr [zv 4 zf]
def q7j : IC := zr [zv 29 (.bin .add .no (.t 14) (zc 1)), zm 14 29]
def qbb1 : IC := (.seq qbdb (.seq (.cond (.t 15) .skip (.exit 0)) (.seq (.block 1 (.seq q9r (.seq qbet (.cond (.t 28) (.seq q6o .ret) .skip)))) q7j)))
def q13 : IC := zr [zv 4 (.mov (.c (.bool true)))]
def k0bt : IC := (.seq qba6 (.seq (.seq q72 (.cond (.t 10) (.seq q9h .ret) .skip)) (.seq (.seq q6s (.block 0 (.loop qbb1))) (.seq q13 .ret))))
@[go_sem] def s0bt : List (RV × Co) := [(.t 4, .id)]
theorem c0bt : cFun Try.prog 22 = some (30, k0bt, s0bt) := by kernel_rfl

def q7d : IC := zr [zi 2 (.box (.t 0)), zi 3 (.box (.t 1)), zv 4 zf]
def q5t : IC := zr [zv 6 (.fad (.t 2) 0), zv 7 (.ld false 1 (.t 6)), zv 8 (.fad (.t 3) 0), zv 9 (.ld false 1 (.t 8)), zv 10 (.bin .neq .no (.t 7) (.t 9)), zm 11 10, zw 11 false 12 (.fad (.t 2) 1), zw 11 false 13 (.ld false 1 (.t 12)), zw 11 false 14 (.fad (.t 3) 1), zw 11 false 15 (.ld false 1 (.t 14)), zw 11 false 16 (.bin .neq .no (.t 13) (.t 15)), zv 17 (.pick (.t 11) (.c (.bool true)) (.t 16)), zm 18 17, zw 18 false 19 (.fad (.t 2) 2), zw 18 false 20 (.ld false 1 (.t 19)), zw 18 false 21 (.len false (.t 20)), zw 18 false 22 (.fad (.t 3) 2), zw 18 false 23 (.ld false 1 (.t 22)), zw 18 false 24 (.len false (.t 23)), zw 18 false 25 (.bin .neq .no (.t 21) (.t 24)), zv 26 (.pick (.t 18) (.c (.bool true)) (.t 25))]
def q49 : IC := zr [zv 4 zf]
def q5d : IC := zr [zv 5 (.mov (zc 0))]
def qbc3 : IC := zr [zm 27 5, zv 28 (.fad (.t 2) 2), zv 29 (.ld false 1 (.t 28)), zv 30 (.len false (.t 29)), zv 31 (.bin .lss .no (.t 27) (.t 30))]
def q6p : IC := .drw [zp (zv 34 (.fad (.t 2) 2)), zp (zv 35 (.ld false 1 (.t 34))), zp (zm 36 5), zp (zv 37 (.iad 3 (.t 35) (.t 36))), zp (zv 38 (.ld true 3 (.t 37))), zp (zv 39 (.fad (.t 3) 2)), zp (zv 40 (.ld false 1 (.t 39))), zp (zm 41 5), zp (zv 42 (.iad 3 (.t 40) (.t 41))), zp (zv 43 (.ld true 3 (.t 42))), (zi 44 (.call (.c (.fn 23 [] [])) [((.t 38), (.agg [.id, .id, (.sl 3)])), ((.t 43), (.agg [.id, .id, (.sl 3)]))]), []), zp (zv 45 (.un .not (.t 44)))]
def q53 : IC := zr [zv 4 zf]
def q84 : IC := zr [zm 32 5, zv 33 (.bin .add .no (.t 32) (zc 1)), zm 5 33]
def q6t : IC := (.seq (.seq qbc3 (.cond (.t 31) .skip (.exit 0))) (.seq (.block 1 (.seq q6p (.cond (.t 45) (.seq q53 .ret) .skip))) q84))
def qy8 : IC := zr [zv 4 (.mov (.c (.bool true)))]
def k0bu : IC := (.seq q7d (.seq (.seq q5t (.cond (.t 26) (.seq q49 .ret) .skip)) (.seq (.seq q5d (.block 0 (.loop q6t))) (.seq qy8 .ret))))
@[go_sem] def s0bu : List (RV × Co) := [(.t 4, .id)]
theorem c0bu : cFun Try.prog 23 = some (46, k0bu, s0bu) := by kernel_rfl

def qba4 : IC := zr [zi 2 (.alo [(.str []), (.int .i64 0), .nils]), zv 3 (.mov (zc 0))]
def qbc9 : IC := zr [zm 6 0, zv 7 (.bld [(.str []), (.int .i64 0), (.bool false)] [(0, 1, (.t 6))]), zi 8 (.box (.t 7)), zm 4 8]
def q5v : IC := zr [zm 9 4, zi 10 (.call (.c (.fn 53 [] [])) [((.t 9), .id)]), zi 5 (.alo [(.str []), (.int .i64 0), .nils]), zn (.st 3 (.agg [.id, .id, (.sl 3)]) (.t 5) (.t 10))]
def q7l : IC := zr [zm 11 4, zv 12 (.nck (.t 11)), zv 13 (.fad (.t 12) 2), zv 14 (.ld false 1 (.t 13)), zm 15 14, zw 15 false 16 (.mov (.t 4)), zw 15 false 17 (.nck (.t 16)), zw 15 false 18 (.fad (.t 17) 0), zw 15 false 19 (.ld false 1 (.t 18)), zw 15 false 20 (.bin .neq .no (.t 19) (.c (.str []))), zv 21 (.pick (.t 15) (.c (.bool true)) (.t 20)), zm 22 21, zw 22 false 23 (.ld true 3 (.t 5)), ⟨some (22, false), some 24, .call (.c (.fn 31 [] [])) [((.t 23), (.agg [.id, .id, (.sl 3)]))]⟩, zw 22 false 25 (.mov (.t 0)), zw 22 false 26 (.bin .neq .no (.t 24) (.t 25)), zv 27 (.pick (.t 22) (.c (.bool true)) (.t 26))]
def qbbj : IC := zr [zv 28 (.bld [(.str []), (.int .i64 0), .nils] []), zn (.st 3 (.agg [.id, .id, (.sl 3)]) (.t 2) (.t 28)), zv 3 (.mov (zc 5))]
def qbad : IC := zr [zv 29 (.ld true 3 (.t 5)), zn (.st 3 (.agg [.id, .id, (.sl 3)]) (.t 2) (.t 29)), zv 3 (.mov (zc 0))]
def k0ct : IC := (.seq qba4 (.seq qbc9 (.seq q5v (.seq (.seq q7l (.cond (.t 27) (.seq qbbj .ret) .skip)) (.seq qbad .ret)))))
@[go_sem] def s0ct : List (RV × Co) := [(.c true 3 2, (.agg [.id, .id, (.sl 3)])), (.t 3, .id)]
theorem c0ct : cFun Try.prog 29 = some (30, k0ct, s0ct) := by kernel_rfl

def q9n : IC := zr [zi 1 (.box (.t 0)), zv 2 (.mov (.c (.str [])))]
def qbck : IC := zr [zv 3 (.ld true 3 (.t 1)), zi 4 (.call (.c (.fn 11 [] [])) [((.t 3), (.agg [.id, .id, (.sl 3)]))]), zv 5 (.un .not (.t 4))]
def qbdl : IC := zr [zv 2 (.mov (.c (.str [])))]
def q6f : IC := zr [zv 6 (.ld true 3 (.t 1)), zi 7 (.call (.c (.fn 56 [] [])) [((.t 6), (.agg [.id, .id, (.sl 3)]))]), zm 2 7]
def k0be : IC := (.seq q9n (.seq (.seq qbck (.cond (.t 5) (.seq qbdl .ret) .skip)) (.seq q6f .ret)))
@[go_sem] def s0be : List (RV × Co) := [(.t 2, .id)]
theorem c0be : cFun Try.prog 31 = some (8, k0be, s0be) := by kernel_rfl

def qbgd : IC := zr [zv 2 zf]
def qbnc : IC := zr [zv 3 (.mov (zc 0))]
def qbjs : IC := zr [zv 4 (.mov (zc 0))]
def qbk2 : IC := zr [zm 5 4, zm 6 0, zv 7 (.len false (.t 6)), zv 8 (.bin .lss .no (.t 5) (.t 7))]
def qbgq : IC := zr [zm 11 0, zm 12 4, zv 13 (.iad 3 (.t 11) (.t 12)), zv 14 (.ld true 3 (.t 13)), zv 15 (.bsl 3 [((.t 14), (.agg [.id, .id, (.sl 3)]))]), zi 16 (.call (.c (.fn 9 [] [])) [((.t 15), (.sl 3))]), zv 17 (.bin .eql .no (.t 16) (zc 0))]
def qbnu : IC := zr [zv 2 zf]
def qbjq : IC := zr [zm 18 3, zm 19 0, zm 20 4, zv 21 (.iad 3 (.t 19) (.t 20)), zv 22 (.ld true 3 (.t 21)), zi 23 (.call (.c (.fn 14 [] [])) [((.t 22), (.agg [.id, .id, (.sl 3)]))]), zv 24 (.bin .add .no (.t 18) (.t 23)), zm 3 24]
def qbgf : IC := zr [zm 25 3, zv 26 (.bin .gtr .no (.t 25) (zc 600))]
def qbhr : IC := zr [zv 2 zf]
def qbba : IC := zr [zm 9 4, zv 10 (.bin .add .no (.t 9) (zc 1)), zm 4 10]
def qbht : IC := (.seq (.seq qbk2 (.cond (.t 8) .skip (.exit 0))) (.seq (.block 1 (.seq (.seq qbgq (.cond (.t 17) (.seq qbnu .ret) .skip)) (.seq qbjq (.seq qbgf (.cond (.t 26) (.seq qbhr .ret) .skip))))) qbba))
def qbfm : IC := zr [zv 2 (.mov (.c (.bool true)))]
def k0b : IC := (.seq qbgd (.seq qbnc (.seq (.seq qbjs (.block 0 (.loop qbht))) (.seq qbfm .ret))))
@[go_sem] def s0b : List (RV × Co) := [(.t 2, .id)]
theorem c0b : cFun Try.prog 33 = some (27, k0b, s0b) := by kernel_rfl

def qbjz : IC := zr [zv 0 zf]
def qbha : IC := zr [zi 18 (.call (.c (.fn 57 [] [])) [((.c (.str [97, 32, 45, 62, 32, 84])), .id)]), zi 19 (.call (.c (.fn 57 [] [])) [((.c (.str [85, 32, 45, 62, 32, 98])), .id)]), zi 20 (.call (.c (.fn 35 [] [])) [((.t 18), (.agg [.id, .id, (.sl 3)])), ((.t 19), (.agg [.id, .id, (.sl 3)]))]), zm 17 20, zv 21 (.ext (.t 17) 0), zv 22 (.ext (.t 17) 1), zm 1 21, zm 2 22]
def qbhh : IC := zr [zm 23 1, zv 24 (.bin .eql .ptr (.t 23) (.c .nilp))]
def qbj7 : IC := zr [zv 0 zf]
def qbme : IC := zr [zm 26 1, zi 27 (.call (.c (.fn 58 [] [])) [((.t 26), .id), ((zc 0), .id)]), zm 25 27, zv 28 (.ext (.t 25) 0), zv 29 (.ext (.t 25) 1), zi 3 (.alo [(.str []), (.int .i64 0), .nils]), zn (.st 3 (.agg [.id, .id, (.sl 3)]) (.t 3) (.t 28)), zm 4 29]
def qbj1 : IC := zr [zm 31 1, zi 32 (.call (.c (.fn 58 [] [])) [((.t 31), .id), ((zc 1), .id)]), zm 30 32, zv 33 (.ext (.t 30) 0), zv 34 (.ext (.t 30) 1), zi 5 (.alo [(.str []), (.int .i64 0), .nils]), zn (.st 3 (.agg [.id, .id, (.sl 3)]) (.t 5) (.t 33)), zm 6 34]
def qbkp : IC := zr [zi 36 (.call (.c (.fn 57 [] [])) [((.c (.str [97, 32, 45, 62, 32, 84])), .id)]), zi 37 (.call (.c (.fn 57 [] [])) [((.c (.str [84])), .id)]), zi 38 (.call (.c (.fn 35 [] [])) [((.t 36), (.agg [.id, .id, (.sl 3)])), ((.t 37), (.agg [.id, .id, (.sl 3)]))]), zm 35 38, zv 39 (.ext (.t 35) 0), zv 40 (.ext (.t 35) 1), zm 7 39, zm 8 40]
def qbjo : IC := zr [zi 42 (.call (.c (.fn 57 [] [])) [((.c (.str [97])), .id)]), zi 43 (.call (.c (.fn 57 [] [])) [((.c (.str [84, 32, 97])), .id)]), zi 44 (.call (.c (.fn 35 [] [])) [((.t 42), (.agg [.id, .id, (.sl 3)])), ((.t 43), (.agg [.id, .id, (.sl 3)]))]), zm 41 44, zv 45 (.ext (.t 41) 0), zv 46 (.ext (.t 41) 1), zm 9 45, zm 10 46]
def qbjn : IC := zr [zi 48 (.call (.c (.fn 57 [] [])) [((.c (.str [97])), .id)]), zi 49 (.call (.c (.fn 57 [] [])) [((.c (.str [97])), .id)]), zv 50 (.bsl 3 [((.t 48), (.agg [.id, .id, (.sl 3)])), ((.t 49), (.agg [.id, .id, (.sl 3)]))]), zi 51 (.call (.c (.fn 57 [] [])) [((.c (.str [84])), .id)]), zi 52 (.call (.c (.fn 57 [] [])) [((.c (.str [85])), .id)]), zv 53 (.bsl 3 [((.t 51), (.agg [.id, .id, (.sl 3)])), ((.t 52), (.agg [.id, .id, (.sl 3)]))]), zi 54 (.call (.c (.fn 59 [] [])) [((.t 50), (.sl 3)), ((.t 53), (.sl 3))]), zm 47 54, zv 55 (.ext (.t 47) 0), zv 56 (.ext (.t 47) 1), zm 11 55, zm 12 56]
def qbmv : IC := zr [zm 58 1, zi 59 (.call (.c (.fn 57 [] [])) [((.c (.str [97, 32, 45, 62, 32, 99])), .id)]), zi 60 (.call (.c (.fn 57 [] [])) [((.c (.str [99, 32, 45, 62, 32, 85])), .id)]), zi 61 (.call (.c (.fn 60 [] [])) [((.t 58), .id), ((.t 59), (.agg [.id, .id, (.sl 3)])), ((.t 60), (.agg [.id, .id, (.sl 3)]))]), zm 57 61, zv 62 (.ext (.t 57) 0), zv 63 (.ext (.t 57) 1), zm 13 62, zm 14 63]
def q8t : IC := zr [zm 65 13, zi 66 (.call (.c (.fn 58 [] [])) [((.t 65), .id), ((zc 2), .id)]), zm 64 66, zv 67 (.ext (.t 64) 0), zv 68 (.ext (.t 64) 1), zi 15 (.alo [(.str []), (.int .i64 0), .nils]), zn (.st 3 (.agg [.id, .id, (.sl 3)]) (.t 15) (.t 67)), zm 16 68]
def q76 : IC := zr [zm 69 2, zv 70 (.bin .eql .no (.t 69) (zc 0)), zm 71 70, zw 71 true 72 (.fad (.t 3) 0), zw 71 true 73 (.ld false 1 (.t 72)), zw 71 true 74 (.bin .eql .no (.t 73) (.c (.str [85]))), zv 75 (.pick (.t 71) (.t 74) (.c (.bool false))), zm 76 75, zw 76 true 77 (.fad (.t 5) 0), zw 76 true 78 (.ld false 1 (.t 77)), zw 76 true 79 (.bin .eql .no (.t 78) (.c (.str [84]))), zv 80 (.pick (.t 76) (.t 79) (.c (.bool false))), zm 81 80, zw 81 true 82 (.mov (.t 8)), zw 81 true 83 (.bin .eql .no (.t 82) (zc 14)), zv 84 (.pick (.t 81) (.t 83) (.c (.bool false))), zm 85 84, zw 85 true 86 (.mov (.t 10)), zw 85 true 87 (.bin .eql .no (.t 86) (zc 15)), zv 88 (.pick (.t 85) (.t 87) (.c (.bool false))), zm 89 88, zw 89 true 90 (.mov (.t 12)), zw 89 true 91 (.bin .eql .no (.t 90) (zc 14)), zv 92 (.pick (.t 89) (.t 91) (.c (.bool false))), zm 93 92, zw 93 true 94 (.mov (.t 14)), zw 93 true 95 (.bin .eql .no (.t 94) (zc 0)), zv 96 (.pick (.t 93) (.t 95) (.c (.bool false))), zm 97 96, zw 97 true 98 (.fad (.t 15) 0), zw 97 true 99 (.ld false 1 (.t 98)), zw 97 true 100 (.bin .eql .no (.t 99) (.c (.str [85]))), zv 101 (.pick (.t 97) (.t 100) (.c (.bool false))), zm 102 101, ⟨some (102, true), some 103, .call (.c (.fn 57 [] [])) [((.c (.str [97])), .id)]⟩, ⟨some (102, true), some 104, .call (.c (.fn 57 [] [])) [((.c (.str [84, 32, 97])), .id)]⟩, ⟨some (102, true), some 105, .call (.c (.fn 61 [] [])) [((.t 103), (.agg [.id, .id, (.sl 3)])), ((.t 104), (.agg [.id, .id, (.sl 3)]))]⟩, zw 102 true 106 (.un .not (.t 105)), zv 107 (.pick (.t 102) (.t 106) (.c (.bool false))), zm 108 107, ⟨some (108, true), some 109, .call (.c (.fn 57 [] [])) [((.c (.str [84, 32, 97])), .id)]⟩, ⟨some (108, true), some 110, .call (.c (.fn 57 [] [])) [((.c (.str [85])), .id)]⟩, ⟨some (108, true), some 111, .call (.c (.fn 61 [] [])) [((.t 109), (.agg [.id, .id, (.sl 3)])), ((.t 110), (.agg [.id, .id, (.sl 3)]))]⟩, zv 112 (.pick (.t 108) (.t 111) (.c (.bool false))), zm 0 112]
def k0d : IC := (.seq qbjz (.seq qbha (.seq (.seq qbhh (.cond (.t 24) (.seq qbj7 .ret) .skip)) (.seq qbme (.seq qbj1 (.seq qbkp (.seq qbjo (.seq qbjn (.seq qbmv (.seq q8t (.seq q76 .ret)))))))))))
@[go_sem] def s0d : List (RV × Co) := [(.t 0, .id)]
theorem c0d : cFun Try.prog 34 = some (113, k0d, s0d) := by kernel_rfl

def qbhm : IC := zr [zi 2 (.box (.t 0)), zi 3 (.box (.t 1)), zv 4 (.mov (.c .nilp)), zv 5 (.mov (zc 0))]
def qbi9 : IC := zr [zv 6 (.ld true 3 (.t 2)), zv 7 (.ld true 3 (.t 3)), zv 8 (.bsl 3 [((.t 6), (.agg [.id, .id, (.sl 3)])), ((.t 7), (.agg [.id, .id, (.sl 3)]))]), zi 9 (.call (.c (.fn 62 [] [])) [((.t 8), (.sl 3))]), zv 10 (.un .not (.t 9))]
def qbjy : IC := zr [zv 4 (.mov (.c .nilp)), zv 5 (.mov (zc 1))]
def qbkw : IC := zr [zv 11 (.ld true 3 (.t 2)), zv 12 (.ld true 3 (.t 3)), zv 13 (.bld [(.str []), (.int .i64 0), .nils, (.str []), (.int .i64 0), .nils] [(0, 3, (.t 11)), (3, 3, (.t 12))]), zv 14 (.bsl 6 [((.t 13), (.agg [.id, .id, (.sl 3), .id, .id, (.sl 3)]))]), zi 15 (.call (.c (.fn 63 [] [])) [((.t 14), (.sl 6))]), zv 16 (.ext (.t 15) 0), zv 17 (.ext (.t 15) 1), zm 4 16, zm 5 17]
def k0i : IC := (.seq qbhm (.seq (.seq qbi9 (.cond (.t 10) (.seq qbjy .ret) .skip)) (.seq qbkw .ret)))
@[go_sem] def s0i : List (RV × Co) := [(.t 4, .id), (.t 5, .id)]
theorem c0i : cFun Try.prog 35 = some (18, k0i, s0i) := by kernel_rfl

def qblr : IC := zr [zi 3 (.box (.t 1)), zi 4 (.alo [(.str []), (.int .i64 0), .nils]), zv 5 (.mov (zc 0))]
def qbgb : IC := zr [zv 8 (.ld true 3 (.t 3)), zi 9 (.call (.c (.fn 11 [] [])) [((.t 8), (.agg [.id, .id, (.sl 3)]))]), zv 10 (.un .not (.t 9))]
def qbgk : IC := zr [zv 11 (.bld [(.str []), (.int .i64 0), .nils] []), zn (.st 3 (.agg [.id, .id, (.sl 3)]) (.t 4) (.t 11)), zv 5 (.mov (zc 1))]
def qbiy : IC := zr [zm 12 0, zv 13 (.bld [.nilp, (.int .i64 0)] [(0, 1, (.t 12)), (1, 1, (zc 4096))]), zi 14 (.box (.t 13)), zm 6 14]
def qbiz : IC := zr [zm 15 6, zv 16 (.ld true 3 (.t 3)), zi 17 (.call (.c (.fn 64 [] [])) [((.t 15), .id), ((.t 16), (.agg [.id, .id, (.sl 3)])), ((zc 1), .id)]), zi 7 (.alo [(.str []), (.int .i64 0), .nils]), zn (.st 3 (.agg [.id, .id, (.sl 3)]) (.t 7) (.t 17))]
def qbhk : IC := zr [zm 18 6, zv 19 (.nck (.t 18)), zv 20 (.fad (.t 19) 1), zv 21 (.ld false 1 (.t 20)), zv 22 (.bin .lss .no (.t 21) (zc 0))]
def qbn9 : IC := zr [zv 23 (.bld [(.str []), (.int .i64 0), .nils] []), zn (.st 3 (.agg [.id, .id, (.sl 3)]) (.t 4) (.t 23)), zv 5 (.mov (zc 2))]
def qbol : IC := zr [zv 24 (.ld true 3 (.t 7)), zn (.st 3 (.agg [.id, .id, (.sl 3)]) (.t 4) (.t 24)), zv 5 (.mov (zc 0))]
def k0s : IC := (.seq qblr (.seq (.seq qbgb (.cond (.t 10) (.seq qbgk .ret) .skip)) (.seq qbiy (.seq qbiz (.seq (.seq qbhk (.cond (.t 22) (.seq qbn9 .ret) .skip)) (.seq qbol .ret))))))
@[go_sem] def s0s : List (RV × Co) := [(.c true 3 4, (.agg [.id, .id, (.sl 3)])), (.t 5, .id)]
theorem c0s : cFun Try.prog 36 = some (25, k0s, s0s) := by kernel_rfl

def q8n : IC := zr [zi 3 (.box (.t 0)), zv 6 (.mov (zc 0))]
def q66 : IC := zr [zm 8 1, zv 9 (.bin .sub .no (.t 8) (zc 1)), zm 1 9]
def qbb6 : IC := zr [zm 10 2, zv 11 (.bin .lss .no (.t 10) (zc 1))]
def q91 : IC := zr [zv 6 (.mov (zc (-1)))]
def qbfb : IC := zr [zv 7 (.mov (zc 0))]
def qbdi : IC := zr [zm 12 7, zv 13 (.fad (.t 3) 2), zv 14 (.ld false 1 (.t 13)), zv 15 (.len false (.t 14)), zv 16 (.bin .lss .no (.t 12) (.t 15)), zm 17 16, zw 17 true 18 (.mov (.t 1)), zw 17 true 19 (.bin .geq .no (.t 18) (zc 0)), zv 20 (.pick (.t 17) (.t 19) (.c (.bool false)))]
def q6v : IC := zr [zv 23 (.fad (.t 3) 2), zv 24 (.ld false 1 (.t 23)), zm 25 7, zv 26 (.iad 3 (.t 24) (.t 25)), zv 27 (.ld true 3 (.t 26)), zm 28 1, zm 29 2, zv 30 (.bin .sub .no (.t 29) (zc 1)), zi 31 (.call (.c (.fn 37 [] [])) [((.t 27), (.agg [.id, .id, (.sl 3)])), ((.t 28), .id), ((.t 30), .id)]), zm 1 31]
def qbeq : IC := zr [zm 21 7, zv 22 (.bin .add .no (.t 21) (zc 1)), zm 7 22]
def qbd5 : IC := (.seq (.seq qbdi (.cond (.t 20) .skip (.exit 0))) (.seq (.block 1 q6v) qbeq))
def q1o : IC := zr [zm 32 1, zm 6 32]
def k0bm : IC := (.seq q8n (.seq q66 (.seq (.seq qbb6 (.cond (.t 11) (.seq q91 .ret) .skip)) (.seq (.seq qbfb (.block 0 (.loop qbd5))) (.seq q1o .ret)))))
@[go_sem] def s0bm : List (RV × Co) := [(.t 6, .id)]
theorem c0bm : cFun Try.prog 37 = some (33, k0bm, s0bm) := by kernel_rfl

def q8j : IC := zr [zi 3 (.box (.t 0)), zv 6 zf]
def qbec : IC := zr [zm 9 2, zv 10 (.ld true 3 (.t 3)), zm 11 1, zi 12 (.call (.t 9) [((.t 10), (.agg [.id, .id, (.sl 3)])), ((.t 11), .id)]), zv 13 (.un .not (.t 12))]
def q7p : IC := zr [zv 6 zf]
def qbdf : IC := zr [zv 14 (.fad (.t 3) 2), zv 15 (.ld false 1 (.t 14)), zv 16 (.len false (.t 15)), zv 17 (.mov (zc 0))]
def qbfk : IC := zr [zv 18 (.bin .lss .no (.t 17) (.t 16))]
def qbbm : IC := zr [zv 19 (.iad 3 (.t 15) (.t 17)), zv 20 (.ld true 3 (.t 19)), zi 8 (.alo [(.str []), (.int .i64 0), .nils]), zn (.st 3 (.agg [.id, .id, (.sl 3)]) (.t 8) (.t 20))]
def q4n : IC := zr [zv 21 (.ld true 3 (.t 8)), zm 22 1, zv 23 (.bin .add .no (.t 22) (zc 1)), zm 24 2, zi 25 (.call (.c (.fn 38 [] [])) [((.t 21), (.agg [.id, .id, (.sl 3)])), ((.t 23), .id), ((.t 24), .id)]), zv 26 (.un .not (.t 25))]
def qbel : IC := zr [zv 6 zf]
def qbaw : IC := zr [zv 27 (.bin .add .no (.t 17) (zc 1)), zm 17 27]
def qbcf : IC := (.seq qbfk (.seq (.cond (.t 18) .skip (.exit 0)) (.seq (.block 1 (.seq qbbm (.seq q4n (.cond (.t 26) (.seq qbel .ret) .skip)))) qbaw)))
def q20 : IC := zr [zv 6 (.mov (.c (.bool true)))]
def k0bx : IC := (.seq q8j (.seq (.seq qbec (.cond (.t 13) (.seq q7p .ret) .skip)) (.seq (.seq qbdf (.block 0 (.loop qbcf))) (.seq q20 .ret))))
@[go_sem] def s0bx : List (RV × Co) := [(.t 6, .id)]
theorem c0bx : cFun Try.prog 38 = some (28, k0bx, s0bx) := by kernel_rfl

def qbbq : IC := zr [zi 3 (.box (.t 0)), zv 5 zf]
def qbfg : IC := zr [zv 6 (.ld false 1 (.t 2)), zv 7 (.bin .add .no (.t 6) (zc 1)), zn (.st 1 .id (.t 2) (.t 7))]
def q8l : IC := zr [zv 8 (.ld false 1 (.t 2)), zv 9 (.bin .leq .no (.t 8) (zc 4096)), zm 10 9, zw 10 true 11 (.mov (.t 1)), zw 10 true 12 (.bin .leq .no (.t 11) (zc 100)), zv 13 (.pick (.t 10) (.t 12) (.c (.bool false))), zm 14 13, zw 14 true 15 (.ld true 3 (.t 3)), ⟨some (14, true), some 16, .call (.c (.fn 40 [] [])) [((.t 15), (.agg [.id, .id, (.sl 3)]))]⟩, ⟨some (14, true), some 17, .call (.c (.fn 41 [] [])) [((.t 16), .id)]⟩, zv 18 (.pick (.t 14) (.t 17) (.c (.bool false))), zm 5 18]
def k0bf : IC := (.seq qbbq (.seq qbfg (.seq q8l .ret)))
@[go_sem] def s0bf : List (RV × Co) := [(.t 5, .id)]
theorem c0bf : cFun Try.prog 39 = some (19, k0bf, s0bf) := by kernel_rfl

def q6y : IC := zr [zi 1 (.box (.t 0)), zi 2 (.alo [(.str []), (.int .i64 0), (.int .i64 0)])]
def qbei : IC := zr [zv 3 (.fad (.t 1) 0), zv 4 (.ld false 1 (.t 3)), zv 5 (.fad (.t 1) 1), zv 6 (.ld false 1 (.t 5)), zv 7 (.fad (.t 1) 2), zv 8 (.ld false 1 (.t 7)), zv 9 (.len false (.t 8)), zv 10 (.bld [(.str []), (.int .i64 0), (.int .i64 0)] [(0, 1, (.t 4)), (1, 1, (.t 6)), (2, 1, (.t 9))]), zn (.st 3 .id (.t 2) (.t 10))]
def k0bs : IC := (.seq q6y (.seq qbei .ret))
@[go_sem] def s0bs : List (RV × Co) := [(.c true 3 2, .id)]
theorem c0bs : cFun Try.prog 40 = some (11, k0bs, s0bs) := by kernel_rfl

def qbft : IC := zr [zi 1 (.box (.t 0)), zv 2 zf]
def q5j : IC := zr [zv 4 (.fad (.t 1) 0), zv 5 (.ld false 1 (.t 4)), zv 6 (.bin .eql .no (.t 5) (.c (.str []))), zm 3 6]
def q79 : IC := zr [zv 7 (.fad (.t 1) 2), zv 8 (.ld false 1 (.t 7)), zv 9 (.bin .eql .no (.t 8) (zc 0)), zm 2 9]
def q6d : IC := zr [zv 11 (.fad (.t 1) 0), zv 12 (.ld false 1 (.t 11)), zv 13 (.bin .eql .no (.t 12) (.c (.str [45, 62]))), zm 10 13]
def qbcv : IC := zr [zv 14 (.ld true 3 (.t 1)), zv 15 (.bld [(.str []), (.int .i64 0), (.int .i64 0)] [(0, 1, (.c (.str [45, 62]))), (1, 1, (zc 0)), (2, 1, (zc 2))]), zv 16 (.bin .eql (.cells [.str, (.int .i64), (.int .i64)]) (.t 14) (.t 15)), zm 2 16]
def q4c : IC := zr [zv 18 (.fad (.t 1) 0), zv 19 (.ld false 1 (.t 18)), zi 20 (.call (.c (.fn 65 [] [])) [((.t 19), .id)]), zm 17 20]
def q4d : IC := zr [zv 21 (.ld true 3 (.t 1)), zv 22 (.fad (.t 1) 0), zv 23 (.ld false 1 (.t 22)), zv 24 (.bld [(.str []), (.int .i64 0), (.int .i64 0)] [(0, 1, (.t 23))]), zv 25 (.bin .eql (.cells [.str, (.int .i64), (.int .i64)]) (.t 21) (.t 24)), zm 2 25]
def q63 : IC := zr [zv 26 (.fad (.t 1) 1), zv 27 (.ld false 1 (.t 26)), zv 28 (.bin .eql .no (.t 27) (zc 0)), zm 29 28, zw 29 true 30 (.fad (.t 1) 0), zw 29 true 31 (.ld false 1 (.t 30)), ⟨some (29, true), some 32, .call (.c (.fn 66 [] [])) [((.t 31), .id)]⟩, zv 33 (.pick (.t 29) (.t 32) (.c (.bool false))), zm 2 33]
def k0bw : IC := (.seq qbft (.seq (.block 0 (.seq q5j (.cond (.t 3) (.seq q79 .ret) (.seq q6d (.cond (.t 10) (.seq qbcv .ret) (.seq q4c (.cond (.t 17) (.seq q4d .ret) .skip))))))) (.seq q63 .ret)))
@[go_sem] def s0bw : List (RV × Co) := [(.t 2, .id)]
theorem c0bw : cFun Try.prog 41 = some (34, k0bw, s0bw) := by kernel_rfl

def qbcw : IC := zr [zi 3 (.box (.t 0)), zv 5 zf]
def q7m : IC := zr [zv 6 (.ld false 1 (.t 2)), zv 7 (.bin .add .no (.t 6) (zc 1)), zn (.st 1 .id (.t 2) (.t 7))]
def qbd9 : IC := zr [zv 5 (.mov (.c (.bool true)))]
def k0bg : IC := (.seq qbcw (.seq q7m (.seq qbd9 .ret)))
@[go_sem] def s0bg : List (RV × Co) := [(.t 5, .id)]
theorem c0bg : cFun Try.prog 43 = some (8, k0bg, s0bg) := by kernel_rfl

def q8q : IC := zr [zi 3 (.box (.t 0)), zv 5 zf]
def q5h : IC := zr [zv 6 (.ld false 1 (.t 2)), zm 7 1, zv 8 (.mm true (.t 6) (.t 7)), zn (.st 1 .id (.t 2) (.t 8))]
def qbeh : IC := zr [zv 5 (.mov (.c (.bool true)))]
def k0bh : IC := (.seq q8q (.seq q5h (.seq qbeh .ret)))
@[go_sem] def s0bh : List (RV × Co) := [(.t 5, .id)]
theorem c0bh : cFun Try.prog 44 = some (9, k0bh, s0bh) := by kernel_rfl

def qbas : IC := zr [zi 3 (.box (.t 0)), zv 5 zf]
def qbd7 : IC := zr [zv 6 (.fad (.t 3) 0), zv 7 (.ld false 1 (.t 6)), zv 8 (.bin .eql .no (.t 7) (.c (.str []))), zm 9 8, zw 9 true 10 (.ld false 1 (.t 2)), zw 9 true 11 (.fad (.t 3) 1), zw 9 true 12 (.ld false 1 (.t 11)), ⟨some (9, true), some 13, .call (.c (.fn 46 [] [])) [((.t 10), (.sl 1)), ((.t 12), .id)]⟩, zw 9 true 14 (.un .not (.t 13)), zv 15 (.pick (.t 9) (.t 14) (.c (.bool false)))]
def q7t : IC := zr [zv 16 (.ld false 1 (.t 2)), zv 17 (.fad (.t 3) 1), zv 18 (.ld false 1 (.t 17)), zv 19 (.bsl 1 [((.t 18), .id)]), zi 20 (.app 1 (.int .i64 0) 8 (.sl 1) (.t 16) (.t 19)), zn (.st 1 (.sl 1) (.t 2) (.t 20))]
def q86 : IC := zr [zv 5 (.mov (.c (.bool true)))]
def k0bq : IC := (.seq qbas (.seq (.seq qbd7 (.cond (.t 15) q7t .skip)) (.seq q86 .ret)))
@[go_sem] def s0bq : List (RV × Co) := [(.t 5, .id)]
theorem c0bq : cFun Try.prog 45 = some (21, k0bq, s0bq) := by kernel_rfl

def qbbg : IC := zr [zv 4 zf]
def qbeu : IC := zr [zm 5 0, zm 6 1, zi 7 (.call (.c (.fn 69 [] [])) [((.t 5), (.sl 1)), ((.t 6), .id)]), zv 8 (.bin .geq .no (.t 7) (zc 0)), zm 4 8]
def k0bp : IC := (.seq qbbg (.seq qbeu .ret))
@[go_sem] def s0bp : List (RV × Co) := [(.t 4, .id)]
theorem c0bp : cFun Try.prog 46 = some (9, k0bp, s0bp) := by kernel_rfl

def qbc4 : IC := zr [zi 3 (.box (.t 0)), zv 5 zf]
def qbam : IC := zr [zv 6 (.fad (.t 3) 0), zv 7 (.ld false 1 (.t 6)), zv 8 (.bin .neq .no (.t 7) (.c (.str []))), zm 9 8, zw 9 false 10 (.fad (.t 3) 1), zw 9 false 11 (.ld false 1 (.t 10)), zw 9 false 12 (.ld false 1 (.t 2)), zw 9 false 13 (.bin .neq .no (.t 11) (.t 12)), zv 14 (.pick (.t 9) (.c (.bool true)) (.t 13)), zm 5 14]
def k0ck : IC := (.seq qbc4 (.seq qbam .ret))
@[go_sem] def s0ck : List (RV × Co) := [(.t 5, .id)]
theorem c0ck : cFun Try.prog 49 = some (15, k0ck, s0ck) := by kernel_rfl

def qbbk : IC := zr [zi 1 (.box (.t 0)), zi 2 (.alo [(.str []), (.int .i64 0), .nils])]
def q5q : IC := zr [zv 4 (.ld false 1 (.t 1)), zv 5 (.nck (.t 4)), zv 6 (.fad (.t 5) 1), zv 7 (.ld false 1 (.t 6)), zv 8 (.bin .add .no (.t 7) (zc 1)), zv 9 (.nck (.t 4)), zv 10 (.fad (.t 9) 1), zn (.st 1 .id (.t 10) (.t 8))]
def q8d : IC := zr [zv 11 (.ld false 1 (.t 1)), zv 12 (.nck (.t 11)), zv 13 (.fad (.t 12) 1), zv 14 (.ld false 1 (.t 13)), zv 15 (.bin .gtr .no (.t 14) (zc 200))]
def qbdn : IC := zr [zv 16 (.ld false 1 (.t 1)), zv 17 (.nck (.t 16)), zv 18 (.fad (.t 17) 2), zn (.st 1 .id (.t 18) (.c (.bool true)))]
def qbbc : IC := .dfr [zv 19 (.mfn 71 [] [(.t 1)])] (.t 19)
def qbaa : IC := zr [zv 20 (.ld false 1 (.t 1)), zv 21 (.nck (.t 20)), zv 22 (.fad (.t 21) 2), zv 23 (.ld false 1 (.t 22))]
def qbac : IC := zr [zv 24 (.bld [(.str []), (.int .i64 0), .nils] []), zn (.st 3 (.agg [.id, .id, (.sl 3)]) (.t 2) (.t 24))]
def q94 : IC := zr [zv 25 (.ld false 1 (.t 1)), zi 26 (.call (.c (.fn 72 [] [])) [((.t 25), .id)]), zi 3 (.alo [(.str []), (.int .i64 0), .nils]), zn (.st 3 (.agg [.id, .id, (.sl 3)]) (.t 3) (.t 26))]
def q92 : IC := zr [zv 27 (.ld false 1 (.t 1)), zv 28 (.nck (.t 27)), zv 29 (.fad (.t 28) 2), zv 30 (.ld false 1 (.t 29)), zv 31 (.un .not (.t 30)), zm 32 31, zw 32 true 33 (.ld false 1 (.t 1)), zw 32 true 34 (.nck (.t 33)), zw 32 true 35 (.fad (.t 34) 0), zw 32 true 36 (.ld false 1 (.t 35)), ⟨some (32, true), some 37, .call (.c (.fn 73 [] [])) [((.t 36), .id), ((.c (.str [32, 45, 62, 32])), .id)]⟩, zw 32 true 38 (.un .not (.t 37)), zv 39 (.pick (.t 32) (.t 38) (.c (.bool false))), zm 40 39, zw 40 true 41 (.ld false 1 (.t 1)), ⟨some (40, true), some 42, .call (.c (.fn 74 [] [])) [((.t 41), .id), ((.c (.str [32])), .id)]⟩, zv 43 (.pick (.t 40) (.t 42) (.c (.bool false)))]
def q0s : IC := .drw [zp (zv 44 (.fad (.t 3) 2)), zp (zv 45 (.ld false 1 (.t 44))), (zi 46 (.call (.c (.fn 75 [] [])) [((.t 45), (.sl 3))]), []), (zv 47 (.ld false 1 (.t 1)), [2]), (zi 48 (.call (.c (.fn 72 [] [])) [((.t 47), .id)]), []), (zv 49 (.bsl 3 [((.t 48), (.agg [.id, .id, (.sl 3)]))]), []), (zi 50 (.app 3 (.agg [(.str []), (.int .i64 0), .nils]) 48 (.sl 3) (.t 46) (.t 49)), []), zp (zv 51 (.fad (.t 3) 2)), (zn (.st 1 (.sl 3) (.t 51) (.t 50)), [])]
def qlu : IC := (.seq (.seq q92 (.cond (.t 43) .skip (.exit 0))) (.block 1 q0s))
def q16 : IC := zr [zv 52 (.ld false 1 (.t 1)), zv 53 (.nck (.t 52)), zv 54 (.fad (.t 53) 2), zv 55 (.ld false 1 (.t 54)), zv 56 (.un .not (.t 55)), zm 57 56, zw 57 true 58 (.ld false 1 (.t 1)), ⟨some (57, true), some 59, .call (.c (.fn 74 [] [])) [((.t 58), .id), ((.c (.str [32, 45, 62, 32])), .id)]⟩, zv 60 (.pick (.t 57) (.t 59) (.c (.bool false)))]
def q1s : IC := .drw [zp (zv 61 (.ld true 3 (.t 3))), zp (zv 62 (.ld false 1 (.t 1))), (zi 63 (.call (.c (.fn 53 [] [])) [((.t 62), .id)]), [0]), (zv 64 (.bsl 3 [((.t 61), (.agg [.id, .id, (.sl 3)])), ((.t 63), (.agg [.id, .id, (.sl 3)]))]), []), (zv 65 (.bld [(.str []), (.int .i64 0), .nils] [(0, 1, (.c (.str [45, 62]))), (2, 1, (.t 64))]), []), (zn (.st 3 (.agg [.id, .id, (.sl 3)]) (.t 2) (.t 65)), [])]
def q0d : IC := zr [zv 66 (.ld true 3 (.t 3)), zn (.st 3 (.agg [.id, .id, (.sl 3)]) (.t 2) (.t 66))]
def k0cs : IC := (.seq qbbk (.seq (.seq q5q (.seq q8d (.cond (.t 15) qbdn .skip))) (.seq qbbc (.seq (.seq qbaa (.cond (.t 23) (.seq qbac .ret) .skip)) (.seq q94 (.seq (.block 0 (.loop qlu)) (.seq (.seq q16 (.cond (.t 60) (.seq q1s .ret) .skip)) (.seq q0d .ret))))))))
@[go_sem] def s0cs : List (RV × Co) := [(.c true 3 2, (.agg [.id, .id, (.sl 3)]))]
theorem c0cs : cFun Try.prog 53 = some (67, k0cs, s0cs) := by kernel_rfl

def q97 : IC := zr [zi 1 (.box (.t 0)), zv 2 (.mov (.c (.str [])))]
def qbc5 : IC := zr [zv 6 (.fad (.t 1) 0), zv 7 (.ld false 1 (.t 6)), zv 8 (.bin .eql .no (.t 7) (.c (.str [45, 62])))]
def q77 : IC := .drw [zp (zv 9 (.fad (.t 1) 2)), zp (zv 10 (.ld false 1 (.t 9))), zp (zv 11 (.iad 3 (.t 10) (zc 0))), zp (zv 12 (.ld true 3 (.t 11))), zp (zv 13 (.fad (.t 1) 2)), zp (zv 14 (.ld false 1 (.t 13))), zp (zv 15 (.iad 3 (.t 14) (zc 0))), zp (zv 16 (.fad (.t 15) 0)), zp (zv 17 (.ld false 1 (.t 16))), (zv 18 (.bin .eql .no (.t 17) (.c (.str [45, 62]))), []), (zi 19 (.call (.c (.fn 80 [] [])) [((.t 12), (.agg [.id, .id, (.sl 3)])), ((.t 18), .id)]), []), (zv 20 (.bin .add .no (.t 19) (.c (.str [32, 45, 62, 32]))), []), zp (zv 21 (.fad (.t 1) 2)), (zv 22 (.ld false 1 (.t 21)), [10]), zp (zv 23 (.iad 3 (.t 22) (zc 1))), (zv 24 (.ld true 3 (.t 23)), [10]), (zi 25 (.call (.c (.fn 56 [] [])) [((.t 24), (.agg [.id, .id, (.sl 3)]))]), []), zp (zv 26 (.bin .add .no (.t 20) (.t 25))), zp (zm 2 26)]
def qba5 : IC := zr [zi 3 (.bld 91 5)]
def q4f : IC := zr [zv 27 (.ld true 3 (.t 1)), zi 28 (.call (.c (.fn 40 [] [])) [((.t 27), (.agg [.id, .id, (.sl 3)]))]), zi 29 (.call (.c (.fn 82 [] [])) [((.t 28), .id)]), zi 30 (.call (.c (.fn 81 [] [])) [((.t 3), (.agg [.id, (.sl 1)])), ((.t 29), .id)])]
def q6j : IC := zr [zv 31 (.fad (.t 1) 2), zv 32 (.ld false 1 (.t 31)), zv 33 (.len false (.t 32)), zv 34 (.mov (zc 0))]
def qbfn : IC := zr [zv 35 (.bin .lss .no (.t 34) (.t 33))]
def q4j : IC := zr [zv 36 (.iad 3 (.t 32) (.t 34)), zv 37 (.ld true 3 (.t 36)), zi 5 (.alo [(.str []), (.int .i64 0), .nils]), zn (.st 3 (.agg [.id, .id, (.sl 3)]) (.t 5) (.t 37))]
def qbcz : IC := zr [zv 38 (.ld true 3 (.t 5)), zv 39 (.fad (.t 5) 2), zv 40 (.ld false 1 (.t 39)), zv 41 (.len false (.t 40)), zv 42 (.bin .gtr .no (.t 41) (zc 0)), zi 43 (.call (.c (.fn 80 [] [])) [((.t 38), (.agg [.id, .id, (.sl 3)])), ((.t 42), .id)]), zv 44 (.bin .add .no (.c (.str [32])) (.t 43)), zi 45 (.call (.c (.fn 81 [] [])) [((.t 3), (.agg [.id, (.sl 1)])), ((.t 44), .id)])]
def q03 : IC := zr [zv 46 (.bin .add .no (.t 34) (zc 1)), zm 34 46]
def qbcl : IC := (.seq qbfn (.seq (.cond (.t 35) .skip (.exit 0)) (.seq (.block 1 (.seq q4j qbcz)) q03)))
def q2b : IC := zr [zi 47 (.call (.c (.fn 83 [] [])) [((.t 3), (.agg [.id, (.sl 1)]))]), zm 2 47]
def k0bd : IC := (.seq q97 (.seq (.seq qbc5 (.cond (.t 8) (.seq q77 .ret) .skip)) (.seq qba5 (.seq q4f (.seq (.seq q6j (.block 0 (.loop qbcl))) (.seq q2b .ret))))))
@[go_sem] def s0bd : List (RV × Co) := [(.t 2, .id)]
theorem c0bd : cFun Try.prog 56 = some (48, k0bd, s0bd) := by kernel_rfl

def qbh2 : IC := zr [zi 2 (.alo [(.str []), (.int .i64 0), .nils])]
def qblu : IC := zr [zm 6 0, zi 7 (.call (.c (.fn 29 [] [])) [((.t 6), .id)]), zm 5 7, zv 8 (.ext (.t 5) 0), zv 9 (.ext (.t 5) 1), zi 3 (.alo [(.str []), (.int .i64 0), .nils]), zn (.st 3 (.agg [.id, .id, (.sl 3)]) (.t 3) (.t 8)), zm 4 9]
def qbly : IC := zr [zv 10 (.ld true 3 (.t 3)), zn (.st 3 (.agg [.id, .id, (.sl 3)]) (.t 2) (.t 10))]
def k0c : IC := (.seq qbh2 (.seq qblu (.seq qbly .ret)))
@[go_sem] def s0c : List (RV × Co) := [(.c true 3 2, (.agg [.id, .id, (.sl 3)]))]
theorem c0c : cFun Try.prog 57 = some (11, k0c, s0c) := by kernel_rfl

def qbi0 : IC := zr [zi 4 (.alo [(.str []), (.int .i64 0), .nils]), zv 5 zf]
def qbip : IC := zr [zm 8 0, zv 9 (.bin .eql .ptr (.t 8) (.c .nilp))]
def qbhu : IC := zr [zv 10 (.bld [(.str []), (.int .i64 0), .nils] []), zn (.st 3 (.agg [.id, .id, (.sl 3)]) (.t 4) (.t 10)), zv 5 zf]
def qbif : IC := zr [zm 12 0, zm 13 1, zi 14 (.call (.c (.fn 84 [] [])) [((.t 12), .id), ((.t 13), .id)]), zm 11 14, zv 15 (.ext (.t 11) 0), zv 16 (.ext (.t 11) 1), zm 6 15, zm 7 16]
def qbj2 : IC := zr [zm 17 7, zv 18 (.un .not (.t 17))]
def qbnh : IC := zr [zv 19 (.bld [(.str []), (.int .i64 0), .nils] []), zn (.st 3 (.agg [.id, .id, (.sl 3)]) (.t 4) (.t 19)), zv 5 zf]
def qbgm : IC := zr [zm 20 0, zv 21 (.nck (.t 20)), zv 22 (.fad (.t 21) 0), zv 23 (.ld false 1 (.t 22)), zm 24 6, zv 25 (.iad 4 (.t 23) (.t 24)), zv 26 (.fad (.t 25) 1), zv 27 (.ld true 3 (.t 26)), zn (.st 3 (.agg [.id, .id, (.sl 3)]) (.t 4) (.t 27)), zv 5 (.mov (.c (.bool true)))]
def k0w : IC := (.seq qbi0 (.seq (.seq qbip (.cond (.t 9) (.seq qbhu .ret) .skip)) (.seq qbif (.seq (.seq qbj2 (.cond (.t 18) (.seq qbnh .ret) .skip)) (.seq qbgm .ret)))))
@[go_sem] def s0w : List (RV × Co) := [(.c true 3 4, (.agg [.id, .id, (.sl 3)])), (.t 5, .id)]
theorem c0w : cFun Try.prog 58 = some (28, k0w, s0w) := by kernel_rfl

def qboe : IC := zr [zv 4 (.mov (.c .nilp)), zv 5 (.mov (zc 0))]
def qbg4 : IC := zr [zm 7 0, zi 8 (.call (.c (.fn 62 [] [])) [((.t 7), (.sl 3))]), zv 9 (.un .not (.t 8)), zm 10 9, zw 10 false 11 (.mov (.t 1)), ⟨some (10, false), some 12, .call (.c (.fn 62 [] [])) [((.t 11), (.sl 3))]⟩, zw 10 false 13 (.un .not (.t 12)), zv 14 (.pick (.t 10) (.c (.bool true)) (.t 13)), zm 6 14]
def qbjd : IC := zr [zv 4 (.mov (.c .nilp)), zv 5 (.mov (zc 1))]
def qbmw : IC := zr [zm 16 0, zv 17 (.len false (.t 16)), zm 18 1, zv 19 (.len false (.t 18)), zv 20 (.bin .neq .no (.t 17) (.t 19)), zm 15 20]
def qbg9 : IC := zr [zv 4 (.mov (.c .nilp)), zv 5 (.mov (zc 14))]
def qbmi : IC := zr [zm 21 0, zm 22 1, zi 23 (.call (.c (.fn 85 [] [])) [((.t 21), (.sl 3)), ((.t 22), (.sl 3))]), zi 24 (.call (.c (.fn 63 [] [])) [((.t 23), (.sl 6))]), zv 25 (.ext (.t 24) 0), zv 26 (.ext (.t 24) 1), zm 4 25, zm 5 26]
def k0g : IC := (.seq qboe (.seq (.block 0 (.seq qbg4 (.cond (.t 6) (.seq qbjd .ret) (.seq qbmw (.cond (.t 15) (.seq qbg9 .ret) .skip))))) (.seq qbmi .ret)))
@[go_sem] def s0g : List (RV × Co) := [(.t 4, .id), (.t 5, .id)]
theorem c0g : cFun Try.prog 59 = some (27, k0g, s0g) := by kernel_rfl

def qbld : IC := zr [zi 4 (.box (.t 1)), zi 5 (.box (.t 2)), zv 6 (.mov (.c .nilp)), zv 7 (.mov (zc 0))]
def qbgl : IC := zr [zm 13 0, zv 14 (.ld true 3 (.t 4)), zi 15 (.call (.c (.fn 36 [] [])) [((.t 13), .id), ((.t 14), (.agg [.id, .id, (.sl 3)]))]), zm 12 15, zv 16 (.ext (.t 12) 0), zv 17 (.ext (.t 12) 1), zi 8 (.alo [(.str []), (.int .i64 0), .nils]), zn (.st 3 (.agg [.id, .id, (.sl 3)]) (.t 8) (.t 16)), zm 9 17]
def qbhv : IC := zr [zm 18 9, zv 19 (.bin .neq .no (.t 18) (zc 0))]
def qbf7 : IC := zr [zm 20 9, zv 6 (.mov (.c .nilp)), zm 7 20]
def qbm6 : IC := zr [zm 22 0, zv 23 (.ld true 3 (.t 5)), zi 24 (.call (.c (.fn 36 [] [])) [((.t 22), .id), ((.t 23), (.agg [.id, .id, (.sl 3)]))]), zm 21 24, zv 25 (.ext (.t 21) 0), zv 26 (.ext (.t 21) 1), zi 10 (.alo [(.str []), (.int .i64 0), .nils]), zn (.st 3 (.agg [.id, .id, (.sl 3)]) (.t 10) (.t 25)), zm 9 26]
def qbhw : IC := zr [zm 27 9, zv 28 (.bin .neq .no (.t 27) (zc 0))]
def qbln : IC := zr [zm 29 9, zv 6 (.mov (.c .nilp)), zm 7 29]
def qbkq : IC := zr [zv 31 (.ld true 3 (.t 8)), zv 32 (.ld true 3 (.t 10)), zi 33 (.call (.c (.fn 35 [] [])) [((.t 31), (.agg [.id, .id, (.sl 3)])), ((.t 32), (.agg [.id, .id, (.sl 3)]))]), zm 30 33, zv 34 (.ext (.t 30) 0), zv 35 (.ext (.t 30) 1), zm 11 34, zm 9 35]
def qbfy : IC := zr [zm 36 9, zv 37 (.bin .neq .no (.t 36) (zc 0))]
def qbh9 : IC := zr [zm 38 9, zv 6 (.mov (.c .nilp)), zm 7 38]
def qban : IC := zr [zm 39 0, zm 40 11, zi 41 (.call (.c (.fn 86 [] [])) [((.t 39), .id), ((.t 40), .id)]), zv 42 (.ext (.t 41) 0), zv 43 (.ext (.t 41) 1), zm 6 42, zm 7 43]
def k0h : IC := (.seq qbld (.seq qbgl (.seq (.seq qbhv (.cond (.t 19) (.seq qbf7 .ret) .skip)) (.seq qbm6 (.seq (.seq qbhw (.cond (.t 28) (.seq qbln .ret) .skip)) (.seq qbkq (.seq (.seq qbfy (.cond (.t 37) (.seq qbh9 .ret) .skip)) (.seq qban .ret))))))))
@[go_sem] def s0h : List (RV × Co) := [(.t 6, .id), (.t 7, .id)]
theorem c0h : cFun Try.prog 60 = some (44, k0h, s0h) := by kernel_rfl

def qbhs : IC := zr [zi 2 (.box (.t 0)), zi 3 (.box (.t 1)), zv 4 zf]
def qbhz : IC := zr [zv 7 (.ld true 3 (.t 2)), zv 8 (.ld true 3 (.t 3)), zv 9 (.bsl 3 [((.t 7), (.agg [.id, .id, (.sl 3)])), ((.t 8), (.agg [.id, .id, (.sl 3)]))]), zi 10 (.call (.c (.fn 62 [] [])) [((.t 9), (.sl 3))]), zv 11 (.un .not (.t 10))]
def qbml : IC := zr [zv 4 zf]
def qbof : IC := .drw [zp (zv 13 (.ld true 3 (.t 2))), (zi 14 (.call (.c (.fn 87 [] [])) [((.t 13), (.agg [.id, .id, (.sl 3)])), ((zc 0), .id)]), []), (zv 15 (.ld true 3 (.t 3)), [1]), (zi 16 (.call (.c (.fn 87 [] [])) [((.t 15), (.agg [.id, .id, (.sl 3)])), ((zc 1), .id)]), []), (zi 17 (.call (.c (.fn 35 [] [])) [((.t 14), (.agg [.id, .id, (.sl 3)])), ((.t 16), (.agg [.id, .id, (.sl 3)]))]), []), zp (zm 12 17), zp (zv 18 (.ext (.t 12) 0)), zp (zv 19 (.ext (.t 12) 1)), zp (zm 5 18), zp (zm 6 19)]
def qbmj : IC := zr [zm 20 6, zv 21 (.bin .eql .no (.t 20) (zc 14)), zm 22 21, zw 22 false 23 (.mov (.t 6)), zw 22 false 24 (.bin .eql .no (.t 23) (zc 15)), zv 25 (.pick (.t 22) (.c (.bool true)) (.t 24)), zm 4 25]
def k0f : IC := (.seq qbhs (.seq (.seq qbhz (.cond (.t 11) (.seq qbml .ret) .skip)) (.seq qbof (.seq qbmj .ret))))
@[go_sem] def s0f : List (RV × Co) := [(.t 4, .id)]
theorem c0f : cFun Try.prog 61 = some (26, k0f, s0f) := by kernel_rfl

def qbkl : IC := zr [zv 2 zf]
def qbg0 : IC := zr [zm 5 0, zv 6 (.len false (.t 5)), zv 7 (.mov (zc 0))]
def qbiw : IC := zr [zv 8 (.bin .lss .no (.t 7) (.t 6))]
def qbgn : IC := zr [zv 9 (.iad 3 (.t 5) (.t 7)), zv 10 (.ld true 3 (.t 9)), zi 4 (.alo [(.str []), (.int .i64 0), .nils]), zn (.st 3 (.agg [.id, .id, (.sl 3)]) (.t 4) (.t 10))]
def qbjr : IC := zr [zv 11 (.ld true 3 (.t 4)), zi 12 (.call (.c (.fn 11 [] [])) [((.t 11), (.agg [.id, .id, (.sl 3)]))]), zv 13 (.un .not (.t 12))]
def qbg6 : IC := zr [zv 2 zf]
def qbk0 : IC := zr [zv 14 (.bin .add .no (.t 7) (zc 1)), zm 7 14]
def qbl2 : IC := (.seq qbiw (.seq (.cond (.t 8) .skip (.exit 0)) (.seq (.block 1 (.seq qbgn (.seq qbjr (.cond (.t 13) (.seq qbg6 .ret) .skip)))) qbk0)))
def qbgv : IC := zr [zv 2 (.mov (.c (.bool true)))]
def k0l : IC := (.seq qbkl (.seq (.seq qbg0 (.block 0 (.loop qbl2))) (.seq qbgv .ret)))
@[go_sem] def s0l : List (RV × Co) := [(.t 2, .id)]
theorem c0l : cFun Try.prog 62 = some (15, k0l, s0l) := by kernel_rfl

def qbh0 : IC := zr [zv 2 (.mov (.c .nilp)), zv 3 (.mov (zc 0))]
def qbh3 : IC := zr [zi 9 (.call (.c (.fn 88 [] [])) [((.c .nils), (.sl 4))]), zm 4 9, zv 5 (.mov (zc 0))]
def qbl3 : IC := zr [zv 10 (.bld [.nils] []), zi 11 (.box (.t 10)), zm 6 11]
def qbnd : IC := zr [zm 12 6, zm 13 0, zi 14 (.call (.c (.fn 89 [] [])) [((.t 12), .id), ((.t 13), (.sl 6))])]
def qbhn : IC := zr [zm 16 6, zi 17 (.call (.c (.fn 90 [] [])) [((.t 16), .id)]), zm 15 17, zv 18 (.ext (.t 15) 0), zv 19 (.ext (.t 15) 1), zi 7 (.alo [(.str []), (.int .i64 0), .nils, (.str []), (.int .i64 0), .nils]), zn (.st 6 (.agg [.id, .id, (.sl 3), .id, .id, (.sl 3)]) (.t 7) (.t 18)), zm 8 19]
def qbio : IC := zr [zm 20 8, zv 21 (.un .not (.t 20))]
def qbia : IC := zr [zm 22 4, zm 2 22, zv 3 (.mov (zc 0))]
def qbf3 : IC := zr [zm 24 4, zv 25 (.ld true 6 (.t 7)), zm 26 6, zi 27 (.call (.c (.fn 91 [] [])) [((.t 24), .id), ((.t 25), (.agg [.id, .id, (.sl 3), .id, .id, (.sl 3)])), ((.t 26), .id)]), zm 23 27, zv 28 (.ext (.t 23) 0), zv 29 (.ext (.t 23) 1), zm 4 28, zm 5 29]
def qbnb : IC := zr [zm 30 5, zv 31 (.bin .neq .no (.t 30) (zc 0))]
def qbdo : IC := zr [zm 32 5, zv 2 (.mov (.c .nilp)), zm 3 32]
def qbgc : IC := (.block 1 (.seq qbhn (.seq (.seq qbio (.cond (.t 21) (.seq qbia .ret) .skip)) (.seq qbf3 (.seq qbnb (.cond (.t 31) (.seq qbdo .ret) .skip))))))
def k0j : IC := (.seq qbh0 (.seq qbh3 (.seq qbl3 (.seq qbnd (.block 0 (.loop qbgc))))))
@[go_sem] def s0j : List (RV × Co) := [(.t 2, .id), (.t 3, .id)]
theorem c0j : cFun Try.prog 63 = some (33, k0j, s0j) := by kernel_rfl

def qbk9 : IC := zr [zi 4 (.box (.t 1)), zi 6 (.alo [(.str []), (.int .i64 0), .nils])]
def qbj6 : IC := zr [zv 11 (.fad (.t 4) 0), zv 12 (.ld false 1 (.t 11)), zv 13 (.bin .eql .no (.t 12) (.c (.str [])))]
def qbf8 : IC := .drw [zp (zm 15 0), zp (zv 16 (.nck (.t 15))), zp (zv 17 (.fad (.t 16) 0)), zp (zv 18 (.ld false 1 (.t 17))), zp (zv 19 (.fad (.t 4) 1)), zp (zv 20 (.ld false 1 (.t 19))), (zi 21 (.call (.c (.fn 58 [] [])) [((.t 18), .id), ((.t 20), .id)]), []), zp (zm 14 21), zp (zv 22 (.ext (.t 14) 0)), zp (zv 23 (.ext (.t 14) 1)), (zi 7 (.alo [(.str []), (.int .i64 0), .nils]), [3, 5, 6]), (zn (.st 3 (.agg [.id, .id, (.sl 3)]) (.t 7) (.t 22)), []), zp (zm 8 23)]
def qbkt : IC := zr [zm 24 8]
def qboc : IC := .drw [zp (zm 25 0), zp (zv 26 (.nck (.t 25))), zp (zv 27 (.fad (.t 26) 1)), zp (zv 28 (.ld false 1 (.t 27))), zp (zv 29 (.ld true 3 (.t 7))), (zi 30 (.call (.c (.fn 13 [] [])) [((.t 29), (.agg [.id, .id, (.sl 3)]))]), [3]), zp (zv 31 (.bin .sub .no (.t 28) (.t 30))), zp (zv 32 (.nck (.t 25))), zp (zv 33 (.fad (.t 32) 1)), (zn (.st 1 .id (.t 33) (.t 31)), [])]
def qbib : IC := zr [zm 34 2, zv 35 (.ld true 3 (.t 7)), zi 36 (.call (.c (.fn 15 [] [])) [((.t 35), (.agg [.id, .id, (.sl 3)]))]), zv 37 (.bin .add .no (.t 34) (.t 36)), zv 38 (.bin .gtr .no (.t 37) (zc 101))]
def qbhp : IC := zr [zm 39 0, zv 40 (.nck (.t 39)), zv 41 (.fad (.t 40) 1), zn (.st 1 .id (.t 41) (zc (-1)))]
def qbi3 : IC := zr [zv 42 (.ld true 3 (.t 7)), zi 43 (.call (.c (.fn 92 [] [])) [((.t 42), (.agg [.id, .id, (.sl 3)]))]), zn (.st 3 (.agg [.id, .id, (.sl 3)]) (.t 6) (.t 43))]
def qbhj : IC := zr [zm 44 0, zv 45 (.nck (.t 44)), zv 46 (.fad (.t 45) 1), zv 47 (.ld false 1 (.t 46)), zv 48 (.bin .sub .no (.t 47) (zc 1)), zv 49 (.nck (.t 44)), zv 50 (.fad (.t 49) 1), zn (.st 1 .id (.t 50) (.t 48))]
def qbgp : IC := zr [zv 51 (.fad (.t 4) 2), zv 52 (.ld false 1 (.t 51)), zv 53 (.len false (.t 52)), zi 54 (.mks 3 (.agg [(.str []), (.int .i64 0), .nils]) 48 (.t 53) (.t 53)), zm 9 54]
def qbdt : IC := zr [zv 55 (.fad (.t 4) 2), zv 56 (.ld false 1 (.t 55)), zv 57 (.len false (.t 56)), zv 58 (.mov (zc 0))]
def qbax : IC := zr [zv 59 (.bin .lss .no (.t 58) (.t 57))]
def q6a : IC := zr [zm 60 58, zm 10 60]
def q9b : IC := zr [zm 61 0, zv 62 (.nck (.t 61)), zv 63 (.fad (.t 62) 1), zv 64 (.ld false 1 (.t 63)), zv 65 (.bin .lss .no (.t 64) (zc 0))]
def qbds : IC := zr [zv 66 (.ld true 3 (.t 4)), zn (.st 3 (.agg [.id, .id, (.sl 3)]) (.t 6) (.t 66))]
def qbfr : IC := zr [zm 67 9, zm 68 10, zm 69 0, zv 70 (.fad (.t 4) 2), zv 71 (.ld false 1 (.t 70)), zm 72 10, zv 73 (.iad 3 (.t 71) (.t 72)), zv 74 (.ld true 3 (.t 73)), zm 75 2, zv 76 (.bin .add .no (.t 75) (zc 1)), zi 77 (.call (.c (.fn 64 [] [])) [((.t 69), .id), ((.t 74), (.agg [.id, .id, (.sl 3)])), ((.t 76), .id)]), zv 78 (.iad 3 (.t 67) (.t 68)), zn (.st 3 (.agg [.id, .id, (.sl 3)]) (.t 78) (.t 77))]
def qbdu : IC := zr [zv 79 (.bin .add .no (.t 58) (zc 1)), zm 58 79]
def q8y : IC := (.seq qbax (.seq (.cond (.t 59) .skip (.exit 0)) (.seq (.block 1 (.seq q6a (.seq (.seq q9b (.cond (.t 65) (.seq qbds .ret) .skip)) qbfr))) qbdu)))
def qbex : IC := zr [zm 80 9, zv 81 (.fad (.t 4) 2), zn (.st 1 (.sl 3) (.t 81) (.t 80))]
def qbbs : IC := zr [zv 82 (.ld true 3 (.t 4)), zn (.st 3 (.agg [.id, .id, (.sl 3)]) (.t 6) (.t 82))]
def k0u : IC := (.seq qbk9 (.seq (.seq qbj6 (.cond (.t 13) (.seq qbf8 (.seq qbkt (.cond (.t 24) (.seq qboc (.seq (.seq qbib (.cond (.t 38) qbhp .skip)) (.seq qbi3 .ret))) .skip))) .skip)) (.seq qbhj (.seq qbgp (.seq (.seq qbdt (.block 0 (.loop q8y))) (.seq qbex (.seq qbbs .ret)))))))
@[go_sem] def s0u : List (RV × Co) := [(.c true 3 6, (.agg [.id, .id, (.sl 3)]))]
theorem c0u : cFun Try.prog 64 = some (83, k0u, s0u) := by kernel_rfl

def q4z : IC := zr [zv 2 zf]
def qbfe : IC := zr [zm 5 0, zi 6 (.call (.c (.fn 73 [] [])) [((.t 5), .id), ((.c (.str [33])), .id)]), zv 7 (.un .not (.t 6))]
def qbaq : IC := zr [zv 2 zf]
def q4q : IC := zr [zm 9 0, zv 10 (.sls (.t 9) (some (zc 1)) none), zi 11 (.call (.c (.fn 93 [] [])) [((.t 10), .id)]), zm 8 11, zv 12 (.ext (.t 8) 0), zv 13 (.ext (.t 8) 1), zm 3 12, zm 4 13]
def q6r : IC := .drw [zp (zm 14 4), zp (zv 15 (.bin .eql .no (.t 14) (zc 0))), zp (zm 16 15), zp (zw 16 true 17 (.mov (.t 3))), (⟨some (16, true), some 18, .call (.c (.fn 94 [] [])) [((.t 17), .id)]⟩, []), zp (zw 16 true 19 (.mov (.t 0))), zp (zw 16 true 20 (.sls (.t 19) (some (zc 1)) none)), zp (zw 16 true 21 (.bin .eql .no (.t 18) (.t 20))), zp (zv 22 (.pick (.t 16) (.t 21) (.c (.bool false)))), zp (zm 2 22)]
def k0bv : IC := (.seq q4z (.seq (.seq qbfe (.cond (.t 7) (.seq qbaq .ret) .skip)) (.seq q4q (.seq q6r .ret))))
@[go_sem] def s0bv : List (RV × Co) := [(.t 2, .id)]
theorem c0bv : cFun Try.prog 65 = some (23, k0bv, s0bv) := by kernel_rfl

def q9e : IC := zr [zv 2 zf]
def qbc1 : IC := zr [zm 3 0, zv 4 (.bin .neq .no (.t 3) (.c (.str []))), zm 5 4, zw 5 true 6 (.mov (.t 0)), zw 5 true 7 (.idx (.t 6) (zc 0)), ⟨some (5, true), some 8, .call (.c (.fn 95 [] [])) [((.t 7), .id)]⟩, zv 9 (.pick (.t 5) (.t 8) (.c (.bool false))), zm 10 9, zw 10 true 11 (.mov (.t 0)), ⟨some (10, true), some 12, .call (.c (.fn 96 [] [])) [((.t 11), .id)]⟩, zv 13 (.pick (.t 10) (.t 12) (.c (.bool false))), zm 2 13]
def k0cf : IC := (.seq q9e (.seq qbc1 .ret))
@[go_sem] def s0cf : List (RV × Co) := [(.t 2, .id)]
theorem c0cf : cFun Try.prog 66 = some (14, k0cf, s0cf) := by kernel_rfl

def qbbf : IC := zr [zv 4 (.mov (zc 0))]
def qbee : IC := zr [zm 6 0, zv 7 (.len false (.t 6)), zv 8 (.mov (zc 0))]
def qbem : IC := zr [zv 9 (.bin .lss .no (.t 8) (.t 7))]
def qbdx : IC := zr [zm 10 8, zm 5 10]
def q78 : IC := zr [zm 11 1, zm 12 0, zm 13 5, zv 14 (.iad 1 (.t 12) (.t 13)), zv 15 (.ld false 1 (.t 14)), zv 16 (.bin .eql .no (.t 11) (.t 15))]
def q9z : IC := zr [zm 17 5, zm 4 17]
def qbao : IC := zr [zv 18 (.bin .add .no (.t 8) (zc 1)), zm 8 18]
def qbcr : IC := (.seq qbem (.seq (.cond (.t 9) .skip (.exit 0)) (.seq (.block 1 (.seq qbdx (.seq q78 (.cond (.t 16) (.seq q9z .ret) .skip)))) qbao)))
def q6q : IC := zr [zv 4 (.mov (zc (-1)))]
def k0bo : IC := (.seq qbbf (.seq (.seq qbee (.block 0 (.loop qbcr))) (.seq q6q .ret)))
@[go_sem] def s0bo : List (RV × Co) := [(.t 4, .id)]
theorem c0bo : cFun Try.prog 69 = some (19, k0bo, s0bo) := by kernel_rfl

def q6i : IC := zr [zv 1 (.ld false 1 (.t 0)), zv 2 (.nck (.t 1)), zv 3 (.fad (.t 2) 1), zv 4 (.ld false 1 (.t 3)), zv 5 (.bin .sub .no (.t 4) (zc 1)), zv 6 (.nck (.t 1)), zv 7 (.fad (.t 6) 1), zn (.st 1 .id (.t 7) (.t 5))]
def k0cm : IC := q6i
@[go_sem] def s0cm : List (RV × Co) := []
theorem c0cm : cFun Try.prog 71 = some (8, k0cm, s0cm) := by kernel_rfl

def qbdv : IC := zr [zi 2 (.alo [(.str []), (.int .i64 0), .nils])]
def qbfo : IC := zr [zm 6 0, zi 7 (.call (.c (.fn 74 [] [])) [((.t 6), .id), ((.c (.str [40])), .id)])]
def qbek : IC := zr [zm 8 0, zi 9 (.call (.c (.fn 53 [] [])) [((.t 8), .id)]), zi 3 (.alo [(.str []), (.int .i64 0), .nils]), zn (.st 3 (.agg [.id, .id, (.sl 3)]) (.t 3) (.t 9))]
def q8c : IC := zr [zm 10 0, zm 11 0, zv 12 (.nck (.t 11)), zv 13 (.fad (.t 12) 2), zv 14 (.ld false 1 (.t 13)), zm 15 14, zw 15 false 16 (.mov (.t 0)), ⟨some (15, false), some 17, .call (.c (.fn 74 [] [])) [((.t 16), .id), ((.c (.str [41])), .id)]⟩, zw 15 false 18 (.un .not (.t 17)), zv 19 (.pick (.t 15) (.c (.bool true)) (.t 18)), zv 20 (.nck (.t 10)), zv 21 (.fad (.t 20) 2), zn (.st 1 .id (.t 21) (.t 19))]
def q5l : IC := zr [zv 22 (.ld true 3 (.t 3)), zn (.st 3 (.agg [.id, .id, (.sl 3)]) (.t 2) (.t 22))]
def qbcs : IC := zr [zm 23 0, zv 24 (.nck (.t 23)), zv 25 (.fad (.t 24) 0), zv 26 (.ld false 1 (.t 25)), zi 27 (.call (.c (.fn 100 [] [])) [((.t 26), .id), ((.c (.str [32, 40, 41])), .id)]), zm 4 27]
def qbay : IC := zr [zm 28 4, zv 29 (.bin .lss .no (.t 28) (zc 0))]
def qbcd : IC := zr [zm 30 0, zv 31 (.nck (.t 30)), zv 32 (.fad (.t 31) 0), zv 33 (.ld false 1 (.t 32)), zv 34 (.len true (.t 33)), zm 4 34]
def q4a : IC := zr [zm 35 0, zv 36 (.nck (.t 35)), zv 37 (.fad (.t 36) 0), zv 38 (.ld false 1 (.t 37)), zm 39 4, zv 40 (.sls (.t 38) none (some (.t 39))), zi 41 (.call (.c (.fn 101 [] [])) [((.t 40), .id)]), zi 5 (.alo [(.str []), (.int .i64 0), .nils]), zn (.st 3 (.agg [.id, .id, (.sl 3)]) (.t 5) (.t 41))]
def qbfs : IC := .drw [zp (zm 42 0), zp (zm 43 0), zp (zm 44 0), zp (zv 45 (.nck (.t 44))), zp (zv 46 (.fad (.t 45) 0)), zp (zv 47 (.ld false 1 (.t 46))), zp (zm 48 4), zp (zv 49 (.sls (.t 47) (some (.t 48)) none)), zp (zm 50 0), zp (zv 51 (.nck (.t 50))), zp (zv 52 (.fad (.t 51) 2)), zp (zv 53 (.ld false 1 (.t 52))), zp (zm 54 53), zp (zw 54 false 55 (.mov (.t 4))), zp (zw 54 false 56 (.bin .eql .no (.t 55) (zc 0))), zp (zv 57 (.pick (.t 54) (.c (.bool true)) (.t 56))), zp (zv 58 (.nck (.t 42))), zp (zv 59 (.fad (.t 58) 0)), (zn (.st 1 .id (.t 59) (.t 49)), []), zp (zv 60 (.nck (.t 43))), zp (zv 61 (.fad (.t 60) 2)), (zn (.st 1 .id (.t 61) (.t 57)), [])]
def q2p : IC := zr [zv 62 (.ld true 3 (.t 5)), zn (.st 3 (.agg [.id, .id, (.sl 3)]) (.t 2) (.t 62))]
def k0cn : IC := (.seq qbdv (.seq (.seq qbfo (.cond (.t 7) (.seq qbek (.seq q8c (.seq q5l .ret))) .skip)) (.seq qbcs (.seq (.seq qbay (.cond (.t 29) qbcd .skip)) (.seq q4a (.seq qbfs (.seq q2p .ret)))))))
@[go_sem] def s0cn : List (RV × Co) := [(.c true 3 2, (.agg [.id, .id, (.sl 3)]))]
theorem c0cn : cFun Try.prog 72 = some (63, k0cn, s0cn) := by kernel_rfl

def q9q : IC := zr [zv 4 zf]
def q7k : IC := zr [zm 5 0, zm 6 1, zi 7 (.call (.c (.fn 102 [] [])) [((.t 5), .id), ((.t 6), .id)]), zm 4 7]
def k0bz : IC := (.seq q9q (.seq q7k .ret))
@[go_sem] def s0bz : List (RV × Co) := [(.t 4, .id)]
theorem c0bz : cFun Try.prog 73 = some (8, k0bz, s0bz) := by kernel_rfl

def qbfp : IC := zr [zv 4 zf]
def qbde : IC := zr [zm 6 0, zv 7 (.nck (.t 6)), zv 8 (.fad (.t 7) 0), zv 9 (.ld false 1 (.t 8)), zm 10 1, zi 11 (.call (.c (.fn 73 [] [])) [((.t 9), .id), ((.t 10), .id)]), zm 5 11]
def qbdq : IC := zr [zm 12 5]
def qbc0 : IC := zr [zm 13 0, zm 14 0, zv 15 (.nck (.t 14)), zv 16 (.fad (.t 15) 0), zv 17 (.ld false 1 (.t 16)), zm 18 1, zv 19 (.len true (.t 18)), zv 20 (.sls (.t 17) (some (.t 19)) none), zv 21 (.nck (.t 13)), zv 22 (.fad (.t 21) 0), zn (.st 1 .id (.t 22) (.t 20))]
def qbch : IC := zr [zm 23 5, zm 4 23]
def k0cq : IC := (.seq qbfp (.seq qbde (.seq (.seq qbdq (.cond (.t 12) qbc0 .skip)) (.seq qbch .ret))))
@[go_sem] def s0cq : List (RV × Co) := [(.t 4, .id)]
theorem c0cq : cFun Try.prog 74 = some (24, k0cq, s0cq) := by kernel_rfl

def qbal : IC := zr [zv 2 (.mov (.c .nils))]
def qbea : IC := zr [zm 3 0, zv 4 (.bin .eql .slice (.t 3) (.c .nils))]
def qber : IC := zr [zv 2 (.mov (.c .nils))]
def qbdd : IC := zr [zv 5 (.bsl 3 []), zm 6 0, zi 7 (.app 3 (.agg [(.str []), (.int .i64 0), .nils]) 48 (.sl 3) (.t 5) (.t 6)), zm 2 7]
def k0cp : IC := (.seq qbal (.seq (.seq qbea (.cond (.t 4) (.seq qber .ret) .skip)) (.seq qbdd .ret)))
@[go_sem] def s0cp : List (RV × Co) := [(.t 2, (.sl 3))]
theorem c0cp : cFun Try.prog 75 = some (8, k0cp, s0cp) := by kernel_rfl

def q7b : IC := zr [zv 2 (.mov (.c (.str [])))]
def qbb8 : IC := zr [zm 5 0, zi 6 (.call (.c (.fn 104 [] [])) [((.t 5), .id)]), zm 3 6]
def q75 : IC := zr [zv 4 (.mov (.c (.str [])))]
def qbab : IC := zr [zm 7 3, zv 8 (.bin .gtr .no (.t 7) (.c (.int .u64 9)))]
def qbag : IC := zr [zm 9 3, zv 10 (.bin .rem .no (.t 9) (.c (.int .u64 10))), zv 11 (.bin .add .no (.c (.int .u64 48)) (.t 10)), zv 12 (.cvi .u8 (.t 11)), zv 13 (.bsl 1 [((.t 12), .id)]), zv 14 (.cbs (.t 13)), zm 15 4, zv 16 (.bin .add .no (.t 14) (.t 15)), zm 4 16]
def qbb3 : IC := zr [zm 17 3, zv 18 (.bin .quo .no (.t 17) (.c (.int .u64 10))), zm 3 18]
def qbce : IC := (.seq (.seq qbab (.cond (.t 8) .skip (.exit 0))) (.block 1 (.seq qbag qbb3)))
def q42 : IC := zr [zm 19 3, zv 20 (.bin .add .no (.c (.int .u64 48)) (.t 19)), zv 21 (.cvi .u8 (.t 20)), zv 22 (.bsl 1 [((.t 21), .id)]), zv 23 (.cbs (.t 22)), zm 24 4, zv 25 (.bin .add .no (.t 23) (.t 24)), zm 4 25]
def q56 : IC := zr [zm 26 0, zv 27 (.bin .lss .no (.t 26) (zc 0))]
def q0n : IC := zr [zm 28 4, zv 29 (.bin .add .no (.c (.str [45])) (.t 28)), zm 2 29]
def q0w : IC := zr [zm 30 4, zm 2 30]
def k0ch : IC := (.seq q7b (.seq qbb8 (.seq q75 (.seq (.block 0 (.loop qbce)) (.seq q42 (.seq (.seq q56 (.cond (.t 27) (.seq q0n .ret) .skip)) (.seq q0w .ret)))))))
@[go_sem] def s0ch : List (RV × Co) := [(.t 2, .id)]
theorem c0ch : cFun Try.prog 78 = some (31, k0ch, s0ch) := by kernel_rfl

def qbew : IC := zr [zi 2 (.box (.t 0)), zv 4 (.mov (.c (.str [])))]
def qbbu : IC := zr [zm 5 1]
def q5n : IC := zr [zv 6 (.ld true 3 (.t 2)), zi 7 (.call (.c (.fn 56 [] [])) [((.t 6), (.agg [.id, .id, (.sl 3)]))]), zv 8 (.bin .add .no (.c (.str [40])) (.t 7)), zv 9 (.bin .add .no (.t 8) (.c (.str [41]))), zm 4 9]
def qbfj : IC := zr [zv 10 (.ld true 3 (.t 2)), zi 11 (.call (.c (.fn 56 [] [])) [((.t 10), (.agg [.id, .id, (.sl 3)]))]), zm 4 11]
def k0bc : IC := (.seq qbew (.seq (.seq qbbu (.cond (.t 5) (.seq q5n .ret) .skip)) (.seq qbfj .ret)))
@[go_sem] def s0bc : List (RV × Co) := [(.t 4, .id)]
theorem c0bc : cFun Try.prog 80 = some (12, k0bc, s0bc) := by kernel_rfl

def q64 : IC := zr [zi 1 (.box (.t 0)), zv 2 (.mov (.c (.str [])))]
def qbar : IC := zr [zv 4 (.fad (.t 1) 0), zv 5 (.ld false 1 (.t 4)), zv 6 (.bin .neq .no (.t 5) (.c (.str []))), zm 3 6]
def q8x : IC := zr [zv 7 (.fad (.t 1) 0), zv 8 (.ld false 1 (.t 7)), zm 2 8]
def qben : IC := zr [zv 10 (.fad (.t 1) 1), zv 11 (.ld false 1 (.t 10)), zv 12 (.bin .geq .no (.t 11) (zc 0)), zm 9 12]
def q5b : IC := zr [zv 13 (.fad (.t 1) 1), zv 14 (.ld false 1 (.t 13)), zi 15 (.call (.c (.fn 106 [] [])) [((.t 14), .id)]), zm 2 15]
def q6z : IC := zr [zv 16 (.fad (.t 1) 1), zv 17 (.ld false 1 (.t 16)), zv 18 (.bin .sub .no (zc (-1)) (.t 17)), zi 19 (.call (.c (.fn 94 [] [])) [((.t 18), .id)]), zv 20 (.bin .add .no (.c (.str [63])) (.t 19)), zm 2 20]
def k0bb : IC := (.seq q64 (.seq (.block 0 (.seq qbar (.cond (.t 3) (.seq q8x .ret) (.seq qben (.cond (.t 9) (.seq q5b .ret) .skip))))) (.seq q6z .ret)))
@[go_sem] def s0bb : List (RV × Co) := [(.t 2, .id)]
theorem c0bb : cFun Try.prog 82 = some (21, k0bb, s0bb) := by kernel_rfl

def qbnz : IC := zr [zv 4 (.mov (zc 0)), zv 5 zf]
def qbok : IC := zr [zm 6 0, zv 7 (.nck (.t 6)), zv 8 (.fad (.t 7) 0), zv 9 (.ld false 1 (.t 8)), zm 10 1, zi 11 (.call (.c (.fn 107 [] [])) [((.t 9), (.sl 4)), ((.t 10), .id), ((.c (.fn 108 [] [])), .id)]), zv 12 (.ext (.t 11) 0), zv 13 (.ext (.t 11) 1), zm 4 12, zm 5 13]
def k0y : IC := (.seq qbnz (.seq qbok .ret))
@[go_sem] def s0y : List (RV × Co) := [(.t 4, .id), (.t 5, .id)]
theorem c0y : cFun Try.prog 84 = some (14, k0y, s0y) := by kernel_rfl

def qbjv : IC := zr [zv 4 (.mov (.c .nils))]
def qbhc : IC := zr [zm 7 0, zv 8 (.len false (.t 7)), zi 9 (.mks 6 (.agg [(.str []), (.int .i64 0), .nils, (.str []), (.int .i64 0), .nils]) 96 (.t 8) (.t 8)), zm 5 9]
def qbgj : IC := zr [zm 10 0, zv 11 (.len false (.t 10)), zv 12 (.mov (zc 0))]
def qbnt : IC := zr [zv 13 (.bin .lss .no (.t 12) (.t 11))]
def qbn2 : IC := zr [zm 14 12, zm 6 14]
def qblh : IC := .drw [zp (zm 15 5), zp (zm 16 6), zp (zm 17 0), zp (zm 18 6), zp (zv 19 (.iad 3 (.t 17) (.t 18))), zp (zv 20 (.ld true 3 (.t 19))), zp (zm 21 1), zp (zm 22 6), zp (zv 23 (.iad 3 (.t 21) (.t 22))), zp (zv 24 (.ld true 3 (.t 23))), (zv 25 (.bld [(.str []), (.int .i64 0), .nils, (.str []), (.int .i64 0), .nils] [(0, 3, (.t 20)), (3, 3, (.t 24))]), []), zp (zv 26 (.iad 6 (.t 15) (.t 16))), (zn (.st 6 (.agg [.id, .id, (.sl 3), .id, .id, (.sl 3)]) (.t 26) (.t 25)), [])]
def qbll : IC := zr [zv 27 (.bin .add .no (.t 12) (zc 1)), zm 12 27]
def qbnp : IC := (.seq qbnt (.seq (.cond (.t 13) .skip (.exit 0)) (.seq (.block 1 (.seq qbn2 qblh)) qbll)))
def qbnr : IC := zr [zm 28 5, zm 4 28]
def k0m : IC := (.seq qbjv (.seq qbhc (.seq (.seq qbgj (.block 0 (.loop qbnp))) (.seq qbnr .ret))))
@[go_sem] def s0m : List (RV × Co) := [(.t 4, (.sl 6))]
theorem c0m : cFun Try.prog 85 = some (29, k0m, s0m) := by kernel_rfl

def qbl5 : IC := zr [zv 4 (.mov (.c .nilp)), zv 5 (.mov (zc 0))]
def qbom : IC := zr [zi 13 (.call (.c (.fn 88 [] [])) [((.c .nils), (.sl 4))]), zm 6 13]
def qbky : IC := zr [zm 14 0, zi 15 (.call (.c (.fn 109 [] [])) [((.t 14), .id)]), zv 16 (.len false (.t 15)), zv 17 (.mov (zc 0))]
def qbn5 : IC := zr [zv 18 (.bin .lss .no (.t 17) (.t 16))]
def qbf5 : IC := zr [zv 19 (.iad 4 (.t 15) (.t 17)), zv 20 (.ld true 4 (.t 19)), zi 8 (.alo [(.int .i64 0), (.str []), (.int .i64 0), .nils]), zn (.st 4 (.agg [.id, .id, .id, (.sl 3)]) (.t 8) (.t 20))]
def qbgs : IC := zr [zm 22 1, zv 23 (.fad (.t 8) 1), zv 24 (.ld true 3 (.t 23)), zi 25 (.call (.c (.fn 36 [] [])) [((.t 22), .id), ((.t 24), (.agg [.id, .id, (.sl 3)]))]), zm 21 25, zv 26 (.ext (.t 21) 0), zv 27 (.ext (.t 21) 1), zi 9 (.alo [(.str []), (.int .i64 0), .nils]), zn (.st 3 (.agg [.id, .id, (.sl 3)]) (.t 9) (.t 26)), zm 10 27]
def qbg5 : IC := zr [zm 28 10, zv 29 (.bin .neq .no (.t 28) (zc 0))]
def qbns : IC := zr [zm 30 10, zv 4 (.mov (.c .nilp)), zm 5 30]
def qbor : IC := zr [zm 31 6, zv 32 (.fad (.t 8) 0), zv 33 (.ld false 1 (.t 32)), zv 34 (.ld true 3 (.t 9)), zi 35 (.call (.c (.fn 110 [] [])) [((.t 31), .id), ((.t 33), .id), ((.t 34), (.agg [.id, .id, (.sl 3)]))])]
def q60 : IC := zr [zv 36 (.bin .add .no (.t 17) (zc 1)), zm 17 36]
def qbkj : IC := (.seq qbn5 (.seq (.cond (.t 18) .skip (.exit 0)) (.seq (.block 1 (.seq qbf5 (.seq qbgs (.seq (.seq qbg5 (.cond (.t 29) (.seq qbns .ret) .skip)) qbor)))) q60)))
def q8r : IC := zr [zm 37 1, zi 38 (.call (.c (.fn 109 [] [])) [((.t 37), .id)]), zv 39 (.len false (.t 38)), zv 40 (.mov (zc 0))]
def qbep : IC := zr [zv 41 (.bin .lss .no (.t 40) (.t 39))]
def q9v : IC := zr [zv 42 (.iad 4 (.t 38) (.t 40)), zv 43 (.ld true 4 (.t 42)), zi 12 (.alo [(.int .i64 0), (.str []), (.int .i64 0), .nils]), zn (.st 4 (.agg [.id, .id, .id, (.sl 3)]) (.t 12) (.t 43))]
def qbcc : IC := zr [zm 44 6, zv 45 (.fad (.t 12) 0), zv 46 (.ld false 1 (.t 45)), zv 47 (.fad (.t 12) 1), zv 48 (.ld true 3 (.t 47)), zi 49 (.call (.c (.fn 110 [] [])) [((.t 44), .id), ((.t 46), .id), ((.t 48), (.agg [.id, .id, (.sl 3)]))])]
def qbdk : IC := zr [zv 50 (.bin .add .no (.t 40) (zc 1)), zm 40 50]
def qbfa : IC := (.seq qbep (.seq (.cond (.t 41) .skip (.exit 2)) (.seq (.block 3 (.seq q9v qbcc)) qbdk)))
def q43 : IC := zr [zm 51 6, zm 4 51, zv 5 (.mov (zc 0))]
def k0q : IC := (.seq qbl5 (.seq qbom (.seq (.seq qbky (.block 0 (.loop qbkj))) (.seq (.seq q8r (.block 2 (.loop qbfa))) (.seq q43 .ret)))))
@[go_sem] def s0q : List (RV × Co) := [(.t 4, .id), (.t 5, .id)]
theorem c0q : cFun Try.prog 86 = some (52, k0q, s0q) := by kernel_rfl

def qbh1 : IC := zr [zi 2 (.box (.t 0)), zi 4 (.alo [(.str []), (.int .i64 0), .nils])]
def qbiq : IC := zr [zi 10 (.call (.c (.fn 88 [] [])) [((.c .nils), (.sl 4))]), zm 5 10]
def qbhe : IC := zr [zv 11 (.ld true 3 (.t 2)), zi 12 (.call (.c (.fn 18 [] [])) [((.t 11), (.agg [.id, .id, (.sl 3)]))]), zv 13 (.len false (.t 12)), zv 14 (.mov (zc 0))]
def qbjp : IC := zr [zv 15 (.bin .lss .no (.t 14) (.t 13))]
def qbk8 : IC := zr [zm 16 14, zv 17 (.iad 1 (.t 12) (.t 14)), zv 18 (.ld false 1 (.t 17)), zm 6 16, zm 7 18]
def qbgt : IC := zr [zm 19 5, zm 20 7, zm 21 1, zm 22 6, zv 23 (.bin .mul .no (zc 2) (.t 22)), zv 24 (.bin .add .no (.t 21) (.t 23)), zv 25 (.bld [(.str []), (.int .i64 0), .nils] [(1, 1, (.t 24))]), zi 26 (.call (.c (.fn 110 [] [])) [((.t 19), .id), ((.t 20), .id), ((.t 25), (.agg [.id, .id, (.sl 3)]))])]
def qbjx : IC := zr [zv 27 (.bin .add .no (.t 14) (zc 1)), zm 14 27]
def qbjb : IC := (.seq qbjp (.seq (.cond (.t 15) .skip (.exit 0)) (.seq (.block 1 (.seq qbk8 qbgt)) qbjx)))
def qbi5 : IC := zr [zm 29 5, zv 30 (.ld true 3 (.t 2)), zi 31 (.call (.c (.fn 36 [] [])) [((.t 29), .id), ((.t 30), (.agg [.id, .id, (.sl 3)]))]), zm 28 31, zv 32 (.ext (.t 28) 0), zv 33 (.ext (.t 28) 1), zi 8 (.alo [(.str []), (.int .i64 0), .nils]), zn (.st 3 (.agg [.id, .id, (.sl 3)]) (.t 8) (.t 32)), zm 9 33]
def qbe6 : IC := zr [zv 34 (.ld true 3 (.t 8)), zn (.st 3 (.agg [.id, .id, (.sl 3)]) (.t 4) (.t 34))]
def k0e : IC := (.seq qbh1 (.seq qbiq (.seq (.seq qbhe (.block 0 (.loop qbjb))) (.seq qbi5 (.seq qbe6 .ret)))))
@[go_sem] def s0e : List (RV × Co) := [(.c true 3 4, (.agg [.id, .id, (.sl 3)]))]
theorem c0e : cFun Try.prog 87 = some (35, k0e, s0e) := by kernel_rfl

def qbiv : IC := zr [zv 2 (.mov (.c .nilp))]
def qbim : IC := zr [zv 6 (.bld [.nils] []), zi 7 (.box (.t 6)), zm 3 7]
def qbhl : IC := zr [zm 8 0, zv 9 (.len false (.t 8)), zv 10 (.mov (zc 0))]
def qboq : IC := zr [zv 11 (.bin .lss .no (.t 10) (.t 9))]
def qbk5 : IC := zr [zv 12 (.iad 4 (.t 8) (.t 10)), zv 13 (.ld true 4 (.t 12)), zi 5 (.alo [(.int .i64 0), (.str []), (.int .i64 0), .nils]), zn (.st 4 (.agg [.id, .id, .id, (.sl 3)]) (.t 5) (.t 13))]
def qbm9 : IC := zr [zm 14 3, zv 15 (.fad (.t 5) 0), zv 16 (.ld false 1 (.t 15)), zv 17 (.fad (.t 5) 1), zv 18 (.ld true 3 (.t 17)), zi 19 (.call (.c (.fn 110 [] [])) [((.t 14), .id), ((.t 16), .id), ((.t 18), (.agg [.id, .id, (.sl 3)]))])]
def qbi6 : IC := zr [zv 20 (.bin .add .no (.t 10) (zc 1)), zm 10 20]
def qbgh : IC := (.seq qboq (.seq (.cond (.t 11) .skip (.exit 0)) (.seq (.block 1 (.seq qbk5 qbm9)) qbi6)))
def qbjw : IC := zr [zm 21 3, zm 2 21]
def k0t : IC := (.seq qbiv (.seq qbim (.seq (.seq qbhl (.block 0 (.loop qbgh))) (.seq qbjw .ret))))
@[go_sem] def s0t : List (RV × Co) := [(.t 2, .id)]
theorem c0t : cFun Try.prog 88 = some (22, k0t, s0t) := by kernel_rfl

def qbgx : IC := zr [zm 5 1, zv 6 (.len false (.t 5)), zv 7 (.bin .sub .no (.t 6) (zc 1)), zm 4 7]
def qbmy : IC := zr [zm 8 4, zv 9 (.bin .geq .no (.t 8) (zc 0))]
def qbka : IC := .drw [zp (zm 12 0), zp (zm 13 0), zp (zv 14 (.nck (.t 13))), zp (zv 15 (.fad (.t 14) 0)), zp (zv 16 (.ld false 1 (.t 15))), zp (zm 17 1), zp (zm 18 4), zp (zv 19 (.iad 6 (.t 17) (.t 18))), zp (zv 20 (.ld true 6 (.t 19))), (zv 21 (.bsl 6 [((.t 20), (.agg [.id, .id, (.sl 3), .id, .id, (.sl 3)]))]), []), (zi 22 (.app 6 (.agg [(.str []), (.int .i64 0), .nils, (.str []), (.int .i64 0), .nils]) 96 (.sl 6) (.t 16) (.t 21)), []), zp (zv 23 (.nck (.t 12))), zp (zv 24 (.fad (.t 23) 0)), (zn (.st 1 (.sl 6) (.t 24) (.t 22)), [])]
def qbh6 : IC := zr [zm 10 4, zv 11 (.bin .sub .no (.t 10) (zc 1)), zm 4 11]
def qbgo : IC := (.seq (.seq qbmy (.cond (.t 9) .skip (.exit 0))) (.seq (.block 1 qbka) qbh6))
def k0o : IC := (.seq qbgx (.block 0 (.loop qbgo)))
@[go_sem] def s0o : List (RV × Co) := []
theorem c0o : cFun Try.prog 89 = some (25, k0o, s0o) := by kernel_rfl

def qboa : IC := zr [zi 2 (.alo [(.str []), (.int .i64 0), .nils, (.str []), (.int .i64 0), .nils]), zv 3 zf]
def qbj4 : IC := zr [zi 4 (.alo [(.str []), (.int .i64 0), .nils, (.str []), (.int .i64 0), .nils])]
def qbkx : IC := zr [zm 6 0, zv 7 (.nck (.t 6)), zv 8 (.fad (.t 7) 0), zv 9 (.ld false 1 (.t 8)), zv 10 (.len false (.t 9)), zv 11 (.bin .sub .no (.t 10) (zc 1)), zm 5 11]
def qbik : IC := zr [zm 12 5, zv 13 (.bin .lss .no (.t 12) (zc 0))]
def qboi : IC := zr [zv 14 (.ld true 6 (.t 4)), zn (.st 6 (.agg [.id, .id, (.sl 3), .id, .id, (.sl 3)]) (.t 2) (.t 14)), zv 3 zf]
def qblw : IC := zr [zm 15 0, zv 16 (.nck (.t 15)), zv 17 (.fad (.t 16) 0), zv 18 (.ld false 1 (.t 17)), zm 19 5, zv 20 (.iad 6 (.t 18) (.t 19)), zv 21 (.ld true 6 (.t 20)), zn (.st 6 (.agg [.id, .id, (.sl 3), .id, .id, (.sl 3)]) (.t 4) (.t 21))]
def qbnx : IC := zr [zm 22 0, zm 23 0, zv 24 (.nck (.t 23)), zv 25 (.fad (.t 24) 0), zv 26 (.ld false 1 (.t 25)), zm 27 5, zv 28 (.slv 6 (.t 26) none (some (.t 27)) none), zv 29 (.nck (.t 22)), zv 30 (.fad (.t 29) 0), zn (.st 1 (.sl 6) (.t 30) (.t 28))]
def qbgu : IC := zr [zv 31 (.ld true 6 (.t 4)), zn (.st 6 (.agg [.id, .id, (.sl 3), .id, .id, (.sl 3)]) (.t 2) (.t 31)), zv 3 (.mov (.c (.bool true)))]
def k0p : IC := (.seq qboa (.seq qbj4 (.seq qbkx (.seq (.seq qbik (.cond (.t 13) (.seq qboi .ret) .skip)) (.seq qblw (.seq qbnx (.seq qbgu .ret)))))))
@[go_sem] def s0p : List (RV × Co) := [(.c true 6 2, (.agg [.id, .id, (.sl 3), .id, .id, (.sl 3)])), (.t 3, .id)]
theorem c0p : cFun Try.prog 90 = some (32, k0p, s0p) := by kernel_rfl

def qbhg : IC := zr [zi 4 (.box (.t 1)), zv 6 (.mov (.c .nilp)), zv 7 (.mov (zc 0))]
def qbon : IC := zr [zm 12 0, zv 13 (.fad (.t 4) 0), zv 14 (.ld true 3 (.t 13)), zi 15 (.call (.c (.fn 36 [] [])) [((.t 12), .id), ((.t 14), (.agg [.id, .id, (.sl 3)]))]), zm 11 15, zv 16 (.ext (.t 11) 0), zv 17 (.ext (.t 11) 1), zi 8 (.alo [(.str []), (.int .i64 0), .nils]), zn (.st 3 (.agg [.id, .id, (.sl 3)]) (.t 8) (.t 16)), zm 9 17]
def qboh : IC := zr [zm 18 9, zv 19 (.bin .neq .no (.t 18) (zc 0))]
def qbmu : IC := zr [zm 20 9, zv 6 (.mov (.c .nilp)), zm 7 20]
def qbmz : IC := zr [zm 22 0, zv 23 (.fad (.t 4) 3), zv 24 (.ld true 3 (.t 23)), zi 25 (.call (.c (.fn 36 [] [])) [((.t 22), .id), ((.t 24), (.agg [.id, .id, (.sl 3)]))]), zm 21 25, zv 26 (.ext (.t 21) 0), zv 27 (.ext (.t 21) 1), zi 10 (.alo [(.str []), (.int .i64 0), .nils]), zn (.st 3 (.agg [.id, .id, (.sl 3)]) (.t 10) (.t 26)), zm 9 27]
def qbke : IC := zr [zm 29 9, zv 30 (.bin .neq .no (.t 29) (zc 0)), zm 28 30]
def qbmm : IC := zr [zm 31 9, zv 6 (.mov (.c .nilp)), zm 7 31]
def qbge : IC := zr [zv 33 (.fad (.t 8) 0), zv 34 (.ld false 1 (.t 33)), zv 35 (.bin .eql .no (.t 34) (.c (.str []))), zm 32 35]
def qbod : IC := zr [zm 36 0, zv 37 (.fad (.t 8) 1), zv 38 (.ld false 1 (.t 37)), zv 39 (.ld true 3 (.t 10)), zi 40 (.call (.c (.fn 111 [] [])) [((.t 36), .id), ((.t 38), .id), ((.t 39), (.agg [.id, .id, (.sl 3)]))]), zv 41 (.ext (.t 40) 0), zv 42 (.ext (.t 40) 1), zm 6 41, zm 7 42]
def qbf6 : IC := zr [zv 44 (.fad (.t 10) 0), zv 45 (.ld false 1 (.t 44)), zv 46 (.bin .eql .no (.t 45) (.c (.str []))), zm 43 46]
def qbe1 : IC := zr [zm 47 0, zv 48 (.fad (.t 10) 1), zv 49 (.ld false 1 (.t 48)), zv 50 (.ld true 3 (.t 8)), zi 51 (.call (.c (.fn 111 [] [])) [((.t 47), .id), ((.t 49), .id), ((.t 50), (.agg [.id, .id, (.sl 3)]))]), zv 52 (.ext (.t 51) 0), zv 53 (.ext (.t 51) 1), zm 6 52, zm 7 53]
def q6c : IC := zr [zv 55 (.fad (.t 8) 0), zv 56 (.ld false 1 (.t 55)), zv 57 (.fad (.t 10) 0), zv 58 (.ld false 1 (.t 57)), zv 59 (.bin .neq .no (.t 56) (.t 58)), zm 60 59, zw 60 false 61 (.fad (.t 8) 2), zw 60 false 62 (.ld false 1 (.t 61)), zw 60 false 63 (.len false (.t 62)), zw 60 false 64 (.fad (.t 10) 2), zw 60 false 65 (.ld false 1 (.t 64)), zw 60 false 66 (.len false (.t 65)), zw 60 false 67 (.bin .neq .no (.t 63) (.t 66)), zv 68 (.pick (.t 60) (.c (.bool true)) (.t 67)), zm 54 68]
def q68 : IC := zr [zv 6 (.mov (.c .nilp)), zv 7 (.mov (zc 14))]
def q98 : IC := zr [zm 69 2, zv 70 (.fad (.t 8) 2), zv 71 (.ld false 1 (.t 70)), zv 72 (.fad (.t 10) 2), zv 73 (.ld false 1 (.t 72)), zi 74 (.call (.c (.fn 85 [] [])) [((.t 71), (.sl 3)), ((.t 73), (.sl 3))]), zi 75 (.call (.c (.fn 89 [] [])) [((.t 69), .id), ((.t 74), (.sl 6))])]
def q7r : IC := zr [zm 76 0, zm 6 76, zv 7 (.mov (zc 0))]
def k0k : IC := (.seq qbhg (.seq qbon (.seq (.seq qboh (.cond (.t 19) (.seq qbmu .ret) .skip)) (.seq qbmz (.seq (.block 0 (.seq qbke (.cond (.t 28) (.seq qbmm .ret) (.seq qbge (.cond (.t 32) (.seq qbod .ret) (.seq qbf6 (.cond (.t 43) (.seq qbe1 .ret) (.seq q6c (.cond (.t 54) (.seq q68 .ret) .skip))))))))) (.seq q98 (.seq q7r .ret)))))))
@[go_sem] def s0k : List (RV × Co) := [(.t 6, .id), (.t 7, .id)]
theorem c0k : cFun Try.prog 91 = some (77, k0k, s0k) := by kernel_rfl

def qbe2 : IC := zr [zi 1 (.box (.t 0)), zi 2 (.alo [(.str []), (.int .i64 0), .nils])]
def q4i : IC := zr [zv 6 (.fad (.t 1) 2), zv 7 (.ld false 1 (.t 6)), zv 8 (.len false (.t 7)), zi 9 (.mks 3 (.agg [(.str []), (.int .i64 0), .nils]) 48 (.t 8) (.t 8)), zm 3 9]
def q8k : IC := zr [zv 10 (.fad (.t 1) 2), zv 11 (.ld false 1 (.t 10)), zv 12 (.len false (.t 11)), zv 13 (.mov (zc 0))]
def qbbr : IC := zr [zv 14 (.bin .lss .no (.t 13) (.t 12))]
def qbfh : IC := zr [zm 15 13, zv 16 (.iad 3 (.t 11) (.t 13)), zv 17 (.ld true 3 (.t 16)), zi 5 (.alo [(.str []), (.int .i64 0), .nils]), zm 4 15, zn (.st 3 (.agg [.id, .id, (.sl 3)]) (.t 5) (.t 17))]
def q9w : IC := zr [zm 18 3, zm 19 4, zv 20 (.ld true 3 (.t 5)), zi 21 (.call (.c (.fn 92 [] [])) [((.t 20), (.agg [.id, .id, (.sl 3)]))]), zv 22 (.iad 3 (.t 18) (.t 19)), zn (.st 3 (.agg [.id, .id, (.sl 3)]) (.t 22) (.t 21))]
def q8s : IC := zr [zv 23 (.bin .add .no (.t 13) (zc 1)), zm 13 23]
def q5s : IC := (.seq qbbr (.seq (.cond (.t 14) .skip (.exit 0)) (.seq (.block 1 (.seq qbfh q9w)) q8s)))
def qbeb : IC := zr [zm 24 3, zv 25 (.fad (.t 1) 2), zn (.st 1 (.sl 3) (.t 25) (.t 24))]
def qzz : IC := zr [zv 26 (.ld true 3 (.t 1)), zn (.st 3 (.agg [.id, .id, (.sl 3)]) (.t 2) (.t 26))]
def k0ba : IC := (.seq qbe2 (.seq q4i (.seq (.seq q8k (.block 0 (.loop q5s))) (.seq qbeb (.seq qzz .ret)))))
@[go_sem] def s0ba : List (RV × Co) := [(.c true 3 2, (.agg [.id, .id, (.sl 3)]))]
theorem c0ba : cFun Try.prog 92 = some (27, k0ba, s0ba) := by kernel_rfl

def q5y : IC := zr [zv 2 (.mov (zc 0)), zv 3 (.mov (zc 0))]
def qbah : IC := zr [zm 8 0, zv 9 (.len true (.t 8)), zv 10 (.mov (zc 0))]
def qbe8 : IC := zr [zv 11 (.bin .lss .no (.t 10) (.t 9))]
def q70 : IC := zr [zm 12 10, zm 4 12]
def qbb4 : IC := zr [zm 13 0, zm 14 4, zv 15 (.idx (.t 13) (.t 14)), zv 16 (.bin .lss .no (.t 15) (.c (.int .u8 48))), zm 17 16, zw 17 false 18 (.mov (.t 0)), zw 17 false 19 (.mov (.t 4)), zw 17 false 20 (.idx (.t 18) (.t 19)), zw 17 false 21 (.bin .gtr .no (.t 20) (.c (.int .u8 57))), zv 22 (.pick (.t 17) (.c (.bool true)) (.t 21))]
def qbaz : IC := zr [zv 2 (.mov (zc 0)), zv 3 (.mov (zc 5))]
def q99 : IC := zr [zv 23 (.bin .add .no (.t 10) (zc 1)), zm 10 23]
def qbe5 : IC := (.seq qbe8 (.seq (.cond (.t 11) .skip (.exit 0)) (.seq (.block 1 (.seq q70 (.seq qbb4 (.cond (.t 22) (.seq qbaz .ret) .skip)))) q99)))
def q4s : IC := zr [zm 24 0, zv 25 (.bin .eql .no (.t 24) (.c (.str [])))]
def q2t : IC := zr [zv 2 (.mov (zc 0)), zv 3 (.mov (zc 5))]
def q14 : IC := zr [zv 5 (.mov (zc 0)), zv 6 (.mov (zc 0))]
def qy3 : IC := zr [zm 26 0, zm 27 6, zv 28 (.idx (.t 26) (.t 27)), zv 29 (.bin .sub .no (.t 28) (.c (.int .u8 48))), zv 30 (.cvi .i64 (.t 29)), zm 7 30]
def q1l : IC := zr [zm 31 5, zm 32 7, zv 33 (.bin .sub .no (zc 9223372036854775807) (.t 32)), zv 34 (.bin .quo .no (.t 33) (zc 10)), zv 35 (.bin .gtr .no (.t 31) (.t 34))]
def q3a : IC := zr [zv 2 (.mov (zc 0)), zv 3 (.mov (zc 4))]
def qzb : IC := zr [zm 36 5, zv 37 (.bin .mul .no (zc 10) (.t 36)), zm 38 7, zv 39 (.bin .add .no (.t 37) (.t 38)), zm 5 39]
def q2x : IC := zr [zm 40 6, zv 41 (.bin .add .no (.t 40) (zc 1)), zm 6 41]
def qzg : IC := zr [zm 42 6, zm 43 0, zv 44 (.len true (.t 43)), zv 45 (.bin .lss .no (.t 42) (.t 44))]
def qzl : IC := zr [zm 46 5, zm 2 46, zv 3 (.mov (zc 0))]
def k0cb : IC := (.seq q5y (.scope (.seq (.seq qbah (.block 0 (.loop qbe5))) (.seq (.seq q4s (.cond (.t 25) (.seq q2t .ret) .skip)) (.seq q14 (.seq (.label 0) (.seq qy3 (.seq (.seq q1l (.cond (.t 35) (.seq q3a .ret) .skip)) (.seq qzb (.seq (.seq q2x (.seq qzg (.cond (.t 45) (.goto 0) .skip))) (.seq qzl .ret)))))))))))
@[go_sem] def s0cb : List (RV × Co) := [(.t 2, .id), (.t 3, .id)]
theorem c0cb : cFun Try.prog 93 = some (47, k0cb, s0cb) := by kernel_rfl

def qbc7 : IC := zr [zv 2 (.mov (.c (.str [])))]
def q4t : IC := zr [zm 6 0, zv 7 (.cvi .u64 (.t 6)), zm 3 7]
def q5e : IC := zr [zm 8 0, zv 9 (.bin .lss .no (.t 8) (zc 0))]
def q9p : IC := zr [zm 10 3, zv 11 (.un .neg (.t 10)), zm 3 11]
def qbff : IC := zr [zi 4 (.alo [(.int .u8 0), (.int .u8 0), (.int .u8 0), (.int .u8 0), (.int .u8 0), (.int .u8 0), (.int .u8 0), (.int .u8 0), (.int .u8 0), (.int .u8 0), (.int .u8 0), (.int .u8 0), (.int .u8 0), (.int .u8 0), (.int .u8 0), (.int .u8 0), (.int .u8 0), (.int .u8 0), (.int .u8 0), (.int .u8 0)])]
def qbev : IC := zr [zv 5 (.mov (zc 20))]
def q5a : IC := zr [zm 12 5, zv 13 (.bin .sub .no (.t 12) (zc 1)), zm 5 13]
def q8f : IC := zr [zm 14 5, zm 15 3, zv 16 (.bin .rem .no (.t 15) (.c (.int .u64 10))), zv 17 (.bin .add .no (.c (.int .u64 48)) (.t 16)), zv 18 (.cvi .u8 (.t 17)), zv 19 (.aad 1 20 (.t 4) (.t 14)), zn (.st 1 .id (.t 19) (.t 18))]
def q8a : IC := zr [zm 20 3, zv 21 (.bin .quo .no (.t 20) (.c (.int .u64 10))), zm 3 21]
def qze : IC := zr [zm 22 3, zv 23 (.bin .eql .no (.t 22) (.c (.int .u64 0)))]
def q4g : IC := (.block 1 (.seq q5a (.seq q8f (.seq q8a (.seq qze (.cond (.t 23) (.exit 0) .skip))))))
def qz1 : IC := zr [zm 24 0, zv 25 (.bin .lss .no (.t 24) (zc 0))]
def q0b : IC := zr [zm 26 5, zv 27 (.sla 20 (.t 4) (.t 26)), zv 28 (.cbs (.t 27)), zv 29 (.bin .add .no (.c (.str [45])) (.t 28)), zm 2 29]
def q1t : IC := zr [zm 30 5, zv 31 (.sla 20 (.t 4) (.t 30)), zv 32 (.cbs (.t 31)), zm 2 32]
def k0ci : IC := (.seq qbc7 (.seq q4t (.seq (.seq q5e (.cond (.t 9) q9p .skip)) (.seq qbff (.seq qbev (.seq (.block 0 (.loop q4g)) (.seq (.seq qz1 (.cond (.t 25) (.seq q0b .ret) .skip)) (.seq q1t .ret))))))))
@[go_sem] def s0ci : List (RV × Co) := [(.t 2, .id)]
theorem c0ci : cFun Try.prog 94 = some (33, k0ci, s0ci) := by kernel_rfl

def q5f : IC := zr [zv 2 zf]
def q7y : IC := zr [zm 3 0, zv 4 (.bin .geq .no (.t 3) (.c (.int .u8 65))), zm 5 4, zw 5 true 6 (.mov (.t 0)), zw 5 true 7 (.bin .leq .no (.t 6) (.c (.int .u8 90))), zv 8 (.pick (.t 5) (.t 7) (.c (.bool false))), zm 2 8]
def k0cd : IC := (.seq q5f (.seq q7y .ret))
@[go_sem] def s0cd : List (RV × Co) := [(.t 2, .id)]
theorem c0cd : cFun Try.prog 95 = some (9, k0cd, s0cd) := by kernel_rfl

def q9j : IC := zr [zv 2 zf]
def q4w : IC := zr [zm 5 0, zv 6 (.len true (.t 5)), zv 7 (.mov (zc 0))]
def q4r : IC := zr [zv 8 (.bin .lss .no (.t 7) (.t 6))]
def q81 : IC := zr [zm 9 7, zm 3 9]
def q6n : IC := zr [zm 10 0, zm 11 3, zv 12 (.idx (.t 10) (.t 11)), zm 4 12]
def qba2 : IC := zr [zm 13 4, zi 14 (.call (.c (.fn 112 [] [])) [((.t 13), .id)]), zv 15 (.un .not (.t 14)), zm 16 15, zw 16 true 17 (.mov (.t 4)), ⟨some (16, true), some 18, .call (.c (.fn 95 [] [])) [((.t 17), .id)]⟩, zw 16 true 19 (.un .not (.t 18)), zv 20 (.pick (.t 16) (.t 19) (.c (.bool false))), zm 21 20, zw 21 true 22 (.mov (.t 4)), zw 21 true 23 (.bin .lss .no (.t 22) (.c (.int .u8 48))), zw 21 true 24 (.mov (.t 23)), zw 24 false 25 (.mov (.t 4)), zw 24 false 26 (.bin .gtr .no (.t 25) (.c (.int .u8 57))), zw 21 true 27 (.pick (.t 24) (.c (.bool true)) (.t 26)), zv 28 (.pick (.t 21) (.t 27) (.c (.bool false))), zm 29 28, zw 29 true 30 (.mov (.t 4)), zw 29 true 31 (.bin .neq .no (.t 30) (.c (.int .u8 39))), zv 32 (.pick (.t 29) (.t 31) (.c (.bool false)))]
def q47 : IC := zr [zv 2 zf]
def q7w : IC := zr [zv 33 (.bin .add .no (.t 7) (zc 1)), zm 7 33]
def qbdh : IC := (.seq q4r (.seq (.cond (.t 8) .skip (.exit 0)) (.seq (.block 1 (.seq q81 (.seq q6n (.seq qba2 (.cond (.t 32) (.seq q47 .ret) .skip))))) q7w)))
def q3l : IC := zr [zv 2 (.mov (.c (.bool true)))]
def k0ce : IC := (.seq q9j (.seq (.seq q4w (.block 0 (.loop qbdh))) (.seq q3l .ret)))
@[go_sem] def s0ce : List (RV × Co) := [(.t 2, .id)]
theorem c0ce : cFun Try.prog 96 = some (34, k0ce, s0ce) := by kernel_rfl

def q65 : IC := zr [zv 2 (.mov (zc 0)), zv 3 (.mov (zc 0))]
def q9x : IC := zr [zm 8 0, zv 9 (.bin .eql .no (.t 8) (.c (.str [])))]
def q5i : IC := zr [zv 2 (.mov (zc 0)), zv 3 (.mov (zc 5))]
def q5r : IC := zr [zv 4 (.mov (zc 0))]
def qbdz : IC := zr [zm 10 4, zm 11 0, zv 12 (.len true (.t 11)), zv 13 (.bin .lss .no (.t 10) (.t 12))]
def q95 : IC := zr [zm 16 0, zm 17 4, zv 18 (.idx (.t 16) (.t 17)), zv 19 (.bin .lss .no (.t 18) (.c (.int .u8 48))), zm 20 19, zw 20 false 21 (.mov (.t 0)), zw 20 false 22 (.mov (.t 4)), zw 20 false 23 (.idx (.t 21) (.t 22)), zw 20 false 24 (.bin .gtr .no (.t 23) (.c (.int .u8 57))), zv 25 (.pick (.t 20) (.c (.bool true)) (.t 24))]
def q6g : IC := zr [zv 2 (.mov (zc 0)), zv 3 (.mov (zc 5))]
def q6m : IC := zr [zm 14 4, zv 15 (.bin .add .no (.t 14) (zc 1)), zm 4 15]
def qba3 : IC := (.seq (.seq qbdz (.cond (.t 13) .skip (.exit 0))) (.seq (.block 1 (.seq q95 (.cond (.t 25) (.seq q6g .ret) .skip))) q6m))
def qzd : IC := zr [zv 5 (.mov (zc 0))]
def q0u : IC := zr [zv 6 (.mov (zc 0))]
def q3h : IC := zr [zm 26 6, zm 27 0, zv 28 (.len true (.t 27)), zv 29 (.bin .lss .no (.t 26) (.t 28))]
def q2o : IC := zr [zm 32 0, zm 33 6, zv 34 (.idx (.t 32) (.t 33)), zv 35 (.bin .sub .no (.t 34) (.c (.int .u8 48))), zv 36 (.cvi .i64 (.t 35)), zm 7 36]
def qzm : IC := zr [zm 37 5, zm 38 7, zv 39 (.bin .sub .no (zc 9223372036854775807) (.t 38)), zv 40 (.bin .quo .no (.t 39) (zc 10)), zv 41 (.bin .gtr .no (.t 37) (.t 40))]
def qz3 : IC := zr [zv 2 (.mov (zc 0)), zv 3 (.mov (zc 4))]
def q01 : IC := zr [zm 42 5, zv 43 (.bin .mul .no (zc 10) (.t 42)), zm 44 7, zv 45 (.bin .add .no (.t 43) (.t 44)), zm 5 45]
def q0m : IC := zr [zm 30 6, zv 31 (.bin .add .no (.t 30) (zc 1)), zm 6 31]
def qzw : IC := (.seq (.seq q3h (.cond (.t 29) .skip (.exit 2))) (.seq (.block 3 (.seq q2o (.seq (.seq qzm (.cond (.t 41) (.seq qz3 .ret) .skip)) q01))) q0m))
def q1d : IC := zr [zm 46 5, zm 2 46, zv 3 (.mov (zc 0))]
def k0ca : IC := (.seq q65 (.seq (.seq q9x (.cond (.t 9) (.seq q5i .ret) .skip)) (.seq (.seq q5r (.block 0 (.loop qba3))) (.seq qzd (.seq (.seq q0u (.block 2 (.loop qzw))) (.seq q1d .ret))))))
@[go_sem] def s0ca : List (RV × Co) := [(.t 2, .id), (.t 3, .id)]
theorem c0ca : cFun Try.prog 97 = some (47, k0ca, s0ca) := by kernel_rfl

def qbap : IC := zr [zi 2 (.alo [(.str []), (.int .i64 0), .nils])]
def q4b : IC := zr [zm 6 0, zi 7 (.call (.c (.fn 118 [] [])) [((.t 6), .id)]), zm 3 7]
def q54 : IC := zr [zm 8 3, zv 9 (.bin .geq .no (.t 8) (zc 0))]
def q7u : IC := zr [zm 10 3, zv 11 (.bld [(.str []), (.int .i64 0), .nils] [(1, 1, (.t 10))]), zn (.st 3 (.agg [.id, .id, (.sl 3)]) (.t 2) (.t 11))]
def qbe4 : IC := zr [zm 12 0, zi 13 (.call (.c (.fn 73 [] [])) [((.t 12), .id), ((.c (.str [63])), .id)])]
def q8w : IC := zr [zm 15 0, zv 16 (.sls (.t 15) (some (zc 1)) none), zi 17 (.call (.c (.fn 93 [] [])) [((.t 16), .id)]), zm 14 17, zv 18 (.ext (.t 14) 0), zv 19 (.ext (.t 14) 1), zm 4 18, zm 5 19]
def q7g : IC := zr [zm 20 5, zv 21 (.bin .eql .no (.t 20) (zc 0))]
def q45 : IC := zr [zm 22 4, zv 23 (.bin .sub .no (zc (-1)) (.t 22)), zv 24 (.bld [(.str []), (.int .i64 0), .nils] [(1, 1, (.t 23))]), zn (.st 3 (.agg [.id, .id, (.sl 3)]) (.t 2) (.t 24))]
def q8m : IC := zr [zm 25 0, zv 26 (.bld [(.str []), (.int .i64 0), .nils] [(0, 1, (.t 25))]), zn (.st 3 (.agg [.id, .id, (.sl 3)]) (.t 2) (.t 26))]
def k0co : IC := (.seq qbap (.seq (.seq q4b (.seq q54 (.cond (.t 9) (.seq q7u .ret) .skip))) (.seq (.seq qbe4 (.cond (.t 13) (.seq q8w (.seq q7g (.cond (.t 21) (.seq q45 .ret) .skip))) .skip)) (.seq q8m .ret))))
@[go_sem] def s0co : List (RV × Co) := [(.c true 3 2, (.agg [.id, .id, (.sl 3)]))]
theorem c0co : cFun Try.prog 101 = some (27, k0co, s0co) := by kernel_rfl

def qbdp : IC := zr [zv 4 zf]
def q7s : IC := zr [zm 5 0, zv 6 (.len true (.t 5)), zm 7 1, zv 8 (.len true (.t 7)), zv 9 (.bin .geq .no (.t 6) (.t 8)), zm 10 9, zw 10 true 11 (.mov (.t 0)), zw 10 true 12 (.mov (.t 1)), zw 10 true 13 (.len true (.t 12)), zw 10 true 14 (.sls (.t 11) none (some (.t 13))), zw 10 true 15 (.mov (.t 1)), zw 10 true 16 (.bin .eql .no (.t 14) (.t 15)), zv 17 (.pick (.t 10) (.t 16) (.c (.bool false))), zm 4 17]
def k0by : IC := (.seq qbdp (.seq q7s .ret))
@[go_sem] def s0by : List (RV × Co) := [(.t 4, .id)]
theorem c0by : cFun Try.prog 102 = some (18, k0by, s0by) := by kernel_rfl

def qbdc : IC := zr [zv 2 (.mov (.c (.int .u64 0)))]
def q44 : IC := zr [zm 3 0, zv 4 (.bin .lss .no (.t 3) (zc 0))]
def q5c : IC := zr [zm 5 0, zv 6 (.cvi .u64 (.t 5)), zv 7 (.un .neg (.t 6)), zm 2 7]
def q8g : IC := zr [zm 8 0, zv 9 (.cvi .u64 (.t 8)), zm 2 9]
def k0cg : IC := (.seq qbdc (.seq (.seq q44 (.cond (.t 4) (.seq q5c .ret) .skip)) (.seq q8g .ret)))
@[go_sem] def s0cg : List (RV × Co) := [(.t 2, .id)]
theorem c0cg : cFun Try.prog 104 = some (10, k0cg, s0cg) := by kernel_rfl

def qbcu : IC := zr [zv 2 (.mov (.c (.str [])))]
def q9t : IC := zr [zm 4 0, zv 5 (.bin .lss .no (.t 4) (zc 0))]
def q7z : IC := zr [zv 2 (.mov (.c (.str [])))]
def qbau : IC := zr [zm 6 0, zv 7 (.bin .rem .no (.t 6) (zc 26)), zv 8 (.bin .add .no (zc 97) (.t 7)), zv 9 (.cvi .u8 (.t 8)), zv 10 (.bsl 1 [((.t 9), .id)]), zv 11 (.cbs (.t 10)), zm 3 11]
def q8p : IC := zr [zm 12 0, zv 13 (.bin .lss .no (.t 12) (zc 26))]
def qbfd : IC := zr [zm 14 3, zm 2 14]
def q9a : IC := zr [zm 15 3, zm 16 0, zv 17 (.bin .quo .no (.t 16) (zc 26)), zi 18 (.call (.c (.fn 94 [] [])) [((.t 17), .id)]), zv 19 (.bin .add .no (.t 15) (.t 18)), zm 2 19]
def k0cj : IC := (.seq qbcu (.seq (.seq q9t (.cond (.t 5) (.seq q7z .ret) .skip)) (.seq qbau (.seq (.seq q8p (.cond (.t 13) (.seq qbfd .ret) .skip)) (.seq q9a .ret)))))
@[go_sem] def s0cj : List (RV × Co) := [(.t 2, .id)]
theorem c0cj : cFun Try.prog 106 = some (20, k0cj, s0cj) := by kernel_rfl

def qbg8 : IC := zr [zv 6 (.mov (zc 0)), zv 7 zf]
def qbjm : IC := zr [zm 12 0, zv 13 (.len false (.t 12)), zm 8 13]
def qbj3 : IC := zr [zm 14 8, zv 9 (.mov (zc 0)), zm 10 14]
def qbkm : IC := zr [zm 15 9, zm 16 10, zv 17 (.bin .lss .no (.t 15) (.t 16))]
def qbjh : IC := zr [zm 18 9, zm 19 10, zv 20 (.bin .add .no (.t 18) (.t 19)), zv 21 (.cvi .u64 (.t 20)), zv 22 (.bin .shr .no (.t 21) (.c (.int .u64 1))), zv 23 (.cvi .i64 (.t 22)), zm 11 23]
def qblp : IC := zr [zm 24 2, zm 25 0, zm 26 11, zv 27 (.iad 4 (.t 25) (.t 26)), zv 28 (.ld true 4 (.t 27)), zm 29 1, zi 30 (.call (.t 24) [((.t 28), (.agg [.id, .id, .id, (.sl 3)])), ((.t 29), .id)]), zv 31 (.bin .lss .no (.t 30) (zc 0))]
def qbg3 : IC := zr [zm 32 11, zv 33 (.bin .add .no (.t 32) (zc 1)), zm 9 33]
def qbiu : IC := zr [zm 34 11, zm 10 34]
def qbjc : IC := (.seq (.seq qbkm (.cond (.t 17) .skip (.exit 0))) (.block 1 (.seq qbjh (.seq qblp (.cond (.t 31) qbg3 qbiu)))))
def q6l : IC := zr [zm 35 9, zm 36 9, zm 37 8, zv 38 (.bin .lss .no (.t 36) (.t 37)), zm 39 38, zw 39 true 40 (.mov (.t 2)), zw 39 true 41 (.mov (.t 0)), zw 39 true 42 (.mov (.t 9)), zw 39 true 43 (.iad 4 (.t 41) (.t 42)), zw 39 true 44 (.ld true 4 (.t 43)), zw 39 true 45 (.mov (.t 1)), ⟨some (39, true), some 46, .call (.t 40) [((.t 44), (.agg [.id, .id, .id, (.sl 3)])), ((.t 45), .id)]⟩, zw 39 true 47 (.bin .eql .no (.t 46) (zc 0)), zv 48 (.pick (.t 39) (.t 47) (.c (.bool false))), zm 6 35, zm 7 48]
def k0x : IC := (.seq qbg8 (.seq qbjm (.seq qbj3 (.seq (.block 0 (.loop qbjc)) (.seq q6l .ret)))))
@[go_sem] def s0x : List (RV × Co) := [(.t 6, .id), (.t 7, .id)]
theorem c0x : cFun Try.prog 107 = some (49, k0x, s0x) := by kernel_rfl

def qbno : IC := zr [zi 2 (.box (.t 0)), zv 4 (.mov (zc 0))]
def qbnm : IC := zr [zv 6 (.fad (.t 2) 0), zv 7 (.ld false 1 (.t 6)), zm 8 1, zv 9 (.bin .lss .no (.t 7) (.t 8)), zm 5 9]
def qble : IC := zr [zv 4 (.mov (zc (-1)))]
def qbhf : IC := zr [zv 11 (.fad (.t 2) 0), zv 12 (.ld false 1 (.t 11)), zm 13 1, zv 14 (.bin .gtr .no (.t 12) (.t 13)), zm 10 14]
def qbmc : IC := zr [zv 4 (.mov (zc 1))]
def qbf4 : IC := zr [zv 4 (.mov (zc 0))]
def k0z : IC := (.seq qbno (.seq (.block 0 (.seq qbnm (.cond (.t 5) (.seq qble .ret) (.seq qbhf (.cond (.t 10) (.seq qbmc .ret) .skip))))) (.seq qbf4 .ret)))
@[go_sem] def s0z : List (RV × Co) := [(.t 4, .id)]
theorem c0z : cFun Try.prog 108 = some (15, k0z, s0z) := by kernel_rfl

def qblj : IC := zr [zv 2 (.mov (.c .nils))]
def qbn1 : IC := zr [zm 6 0, zv 7 (.bin .eql .ptr (.t 6) (.c .nilp))]
def qblg : IC := zr [zv 2 (.mov (.c .nils))]
def qbnl : IC := zr [zm 8 0, zv 9 (.nck (.t 8)), zv 10 (.fad (.t 9) 0), zv 11 (.ld false 1 (.t 10)), zv 12 (.len false (.t 11)), zi 13 (.mks 4 (.agg [(.int .i64 0), (.str []), (.int .i64 0), .nils]) 56 (.t 12) (.t 12)), zm 3 13]
def qbnq : IC := zr [zm 14 0, zv 15 (.nck (.t 14)), zv 16 (.fad (.t 15) 0), zv 17 (.ld false 1 (.t 16)), zv 18 (.len false (.t 17)), zv 19 (.mov (zc 0))]
def qblm : IC := zr [zv 20 (.bin .lss .no (.t 19) (.t 18))]
def qbm5 : IC := zr [zm 21 19, zv 22 (.iad 4 (.t 17) (.t 19)), zv 23 (.ld true 4 (.t 22)), zi 5 (.alo [(.int .i64 0), (.str []), (.int .i64 0), .nils]), zm 4 21, zn (.st 4 (.agg [.id, .id, .id, (.sl 3)]) (.t 5) (.t 23))]
def qbjg : IC := .drw [zp (zm 24 3), zp (zm 25 4), zp (zv 26 (.fad (.t 5) 0)), zp (zv 27 (.ld false 1 (.t 26))), zp (zv 28 (.fad (.t 5) 1)), zp (zv 29 (.ld true 3 (.t 28))), (zi 30 (.call (.c (.fn 92 [] [])) [((.t 29), (.agg [.id, .id, (.sl 3)]))]), [3]), (zv 31 (.bld [(.int .i64 0), (.str []), (.int .i64 0), .nils] [(0, 1, (.t 27)), (1, 3, (.t 30))]), []), zp (zv 32 (.iad 4 (.t 24) (.t 25))), (zn (.st 4 (.agg [.id, .id, .id, (.sl 3)]) (.t 32) (.t 31)), [])]
def qbmd : IC := zr [zv 33 (.bin .add .no (.t 19) (zc 1)), zm 19 33]
def qbf2 : IC := (.seq qblm (.seq (.cond (.t 20) .skip (.exit 0)) (.seq (.block 1 (.seq qbm5 qbjg)) qbmd)))
def qbaj : IC := zr [zm 34 3, zm 2 34]
def k0r : IC := (.seq qblj (.seq (.seq qbn1 (.cond (.t 7) (.seq qblg .ret) .skip)) (.seq qbnl (.seq (.seq qbnq (.block 0 (.loop qbf2))) (.seq qbaj .ret)))))
@[go_sem] def s0r : List (RV × Co) := [(.t 2, (.sl 4))]
theorem c0r : cFun Try.prog 109 = some (35, k0r, s0r) := by kernel_rfl

def qbks : IC := zr [zi 5 (.box (.t 2)), zv 6 (.mov (zc 0))]
def qbm2 : IC := zr [zm 9 0, zv 10 (.bin .eql .ptr (.t 9) (.c .nilp)), zm 11 10, zw 11 false 12 (.ld true 3 (.t 5)), ⟨some (11, false), some 13, .call (.c (.fn 11 [] [])) [((.t 12), (.agg [.id, .id, (.sl 3)]))]⟩, zw 11 false 14 (.un .not (.t 13)), zv 15 (.pick (.t 11) (.c (.bool true)) (.t 14))]
def qbju : IC := zr [zv 6 (.mov (zc 1))]
def qblf : IC := zr [zm 17 0, zm 18 1, zi 19 (.call (.c (.fn 84 [] [])) [((.t 17), .id), ((.t 18), .id)]), zm 16 19, zv 20 (.ext (.t 16) 0), zv 21 (.ext (.t 16) 1), zm 7 20, zm 8 21]
def qbi1 : IC := zr [zm 22 8]
def qbkr : IC := zr [zv 6 (.mov (zc 6))]
def qblq : IC := .drw [zp (zm 23 0), zp (zm 24 0), zp (zv 25 (.nck (.t 24))), zp (zv 26 (.fad (.t 25) 0)), zp (zv 27 (.ld false 1 (.t 26))), zp (zm 28 7), zp (zm 29 1), zp (zv 30 (.ld true 3 (.t 5))), (zi 31 (.call (.c (.fn 92 [] [])) [((.t 30), (.agg [.id, .id, (.sl 3)]))]), [4]), (zv 32 (.bld [(.int .i64 0), (.str []), (.int .i64 0), .nils] [(0, 1, (.t 29)), (1, 3, (.t 31))]), []), (zv 33 (.bsl 4 [((.t 32), (.agg [.id, .id, .id, (.sl 3)]))]), []), (zi 34 (.call (.c (.fn 122 [] [])) [((.t 27), (.sl 4)), ((.t 28), .id), ((.t 33), (.sl 4))]), []), zp (zv 35 (.nck (.t 23))), zp (zv 36 (.fad (.t 35) 0)), (zn (.st 1 (.sl 4) (.t 36) (.t 34)), [])]
def qbg2 : IC := zr [zv 6 (.mov (zc 0))]
def k0v : IC := (.seq qbks (.seq (.seq qbm2 (.cond (.t 15) (.seq qbju .ret) .skip)) (.seq qblf (.seq (.seq qbi1 (.cond (.t 22) (.seq qbkr .ret) .skip)) (.seq qblq (.seq qbg2 .ret))))))
@[go_sem] def s0v : List (RV × Co) := [(.t 6, .id)]
theorem c0v : cFun Try.prog 110 = some (37, k0v, s0v) := by kernel_rfl

def qbgi : IC := zr [zi 5 (.box (.t 2)), zv 6 (.mov (.c .nilp)), zv 7 (.mov (zc 0))]
def qbin : IC := zr [zv 9 (.fad (.t 5) 0), zv 10 (.ld false 1 (.t 9)), zv 11 (.bin .eql .no (.t 10) (.c (.str []))), zm 12 11, zw 12 true 13 (.fad (.t 5) 1), zw 12 true 14 (.ld false 1 (.t 13)), zw 12 true 15 (.mov (.t 1)), zw 12 true 16 (.bin .eql .no (.t 14) (.t 15)), zv 17 (.pick (.t 12) (.t 16) (.c (.bool false))), zm 8 17]
def qbjk : IC := zr [zm 18 0, zm 6 18, zv 7 (.mov (zc 0))]
def qblx : IC := zr [zv 20 (.ld true 3 (.t 5)), zm 21 1, zi 22 (.call (.c (.fn 20 [] [])) [((.t 20), (.agg [.id, .id, (.sl 3)])), ((.t 21), .id)]), zm 19 22]
def qboj : IC := zr [zv 6 (.mov (.c .nilp)), zv 7 (.mov (zc 15))]
def qbog : IC := zr [zm 23 0, zm 24 1, zv 25 (.ld true 3 (.t 5)), zv 26 (.bld [(.int .i64 0), (.str []), (.int .i64 0), .nils] [(0, 1, (.t 24)), (1, 3, (.t 25))]), zv 27 (.bsl 4 [((.t 26), (.agg [.id, .id, .id, (.sl 3)]))]), zi 28 (.call (.c (.fn 88 [] [])) [((.t 27), (.sl 4))]), zi 29 (.call (.c (.fn 86 [] [])) [((.t 23), .id), ((.t 28), .id)]), zv 30 (.ext (.t 29) 0), zv 31 (.ext (.t 29) 1), zm 6 30, zm 7 31]
def k0n : IC := (.seq qbgi (.seq (.block 0 (.seq qbin (.cond (.t 8) (.seq qbjk .ret) (.seq qblx (.cond (.t 19) (.seq qboj .ret) .skip))))) (.seq qbog .ret)))
@[go_sem] def s0n : List (RV × Co) := [(.t 6, .id), (.t 7, .id)]
theorem c0n : cFun Try.prog 111 = some (32, k0n, s0n) := by kernel_rfl

def q74 : IC := zr [zv 2 zf]
def q6k : IC := zr [zm 3 0, zv 4 (.bin .geq .no (.t 3) (.c (.int .u8 97))), zm 5 4, zw 5 true 6 (.mov (.t 0)), zw 5 true 7 (.bin .leq .no (.t 6) (.c (.int .u8 122))), zv 8 (.pick (.t 5) (.t 7) (.c (.bool false))), zm 9 8, zw 9 false 10 (.mov (.t 0)), zw 9 false 11 (.bin .eql .no (.t 10) (.c (.int .u8 95))), zv 12 (.pick (.t 9) (.c (.bool true)) (.t 11)), zm 2 12]
def k0cc : IC := (.seq q74 (.seq q6k .ret))
@[go_sem] def s0cc : List (RV × Co) := [(.t 2, .id)]
theorem c0cc : cFun Try.prog 112 = some (13, k0cc, s0cc) := by kernel_rfl

def qbcp : IC := zr [zv 2 (.mov (zc 0))]
def qbb9 : IC := zr [zm 6 0, zv 7 (.bin .eql .no (.t 6) (.c (.str []))), zm 8 7, zw 8 false 9 (.mov (.t 0)), zw 8 false 10 (.idx (.t 9) (zc 0)), zw 8 false 11 (.bin .lss .no (.t 10) (.c (.int .u8 97))), zv 12 (.pick (.t 8) (.c (.bool true)) (.t 11)), zm 13 12, zw 13 false 14 (.mov (.t 0)), zw 13 false 15 (.idx (.t 14) (zc 0)), zw 13 false 16 (.bin .gtr .no (.t 15) (.c (.int .u8 122))), zv 17 (.pick (.t 13) (.c (.bool true)) (.t 16))]
def q9i : IC := zr [zv 2 (.mov (zc (-1)))]
def q52 : IC := zr [zm 18 0, zv 19 (.idx (.t 18) (zc 0)), zv 20 (.bin .sub .no (.t 19) (.c (.int .u8 97))), zv 21 (.cvi .i64 (.t 20)), zm 3 21]
def qbes : IC := zr [zm 22 0, zv 23 (.len true (.t 22)), zv 24 (.bin .gtr .no (.t 23) (zc 1))]
def q9y : IC := zr [zm 26 0, zv 27 (.sls (.t 26) (some (zc 1)) none), zi 28 (.call (.c (.fn 93 [] [])) [((.t 27), .id)]), zm 25 28, zv 29 (.ext (.t 25) 0), zv 30 (.ext (.t 25) 1), zm 4 29, zm 5 30]
def qbeo : IC := zr [zm 31 5, zv 32 (.bin .neq .no (.t 31) (zc 0)), zm 33 32, zw 33 false 34 (.mov (.t 4)), zw 33 false 35 (.bin .gtr .no (.t 34) (zc 177372539170284150)), zv 36 (.pick (.t 33) (.c (.bool true)) (.t 35))]
def q9u : IC := zr [zv 2 (.mov (zc (-1)))]
def q80 : IC := zr [zm 37 3, zm 38 4, zv 39 (.bin .mul .no (zc 26) (.t 38)), zv 40 (.bin .add .no (.t 37) (.t 39)), zm 3 40]
def qbco : IC := zr [zm 41 3, zv 42 (.bin .gtr .no (.t 41) (zc 4611686018427387904)), zm 43 42, zw 43 false 44 (.mov (.t 3)), ⟨some (43, false), some 45, .call (.c (.fn 106 [] [])) [((.t 44), .id)]⟩, zw 43 false 46 (.mov (.t 0)), zw 43 false 47 (.bin .neq .no (.t 45) (.t 46)), zv 48 (.pick (.t 43) (.c (.bool true)) (.t 47))]
def qy5 : IC := zr [zv 2 (.mov (zc (-1)))]
def q2r : IC := zr [zm 49 3, zm 2 49]
def k0cr : IC := (.seq qbcp (.seq (.seq qbb9 (.cond (.t 17) (.seq q9i .ret) .skip)) (.seq q52 (.seq (.seq qbes (.cond (.t 24) (.seq q9y (.seq (.seq qbeo (.cond (.t 36) (.seq q9u .ret) .skip)) q80)) .skip)) (.seq (.seq qbco (.cond (.t 48) (.seq qy5 .ret) .skip)) (.seq q2r .ret))))))
@[go_sem] def s0cr : List (RV × Co) := [(.t 2, .id)]
theorem c0cr : cFun Try.prog 118 = some (50, k0cr, s0cr) := by kernel_rfl

end Go.Proofs.Ytlahgbhhejkgbaa
