/- A text of this proof. -/
import Derived.Test.YtfpobiheiloamaaKaf
import Derived.Test.YtfpobiheiloamaaProg
/- The compiled code of the functions. -/
namespace Go.Proofs.Ytfpobiheiloamaa
open Go Go.V
@[reducible] def zm (d s : Nat) : GI := ⟨none, some d, .v (.mov (.t s))⟩
@[reducible] def zv (d : Nat) (x : IV) : GI := ⟨none, some d, .v x⟩
@[reducible] def zi (d : Nat) (i : I) : GI := ⟨none, some d, i⟩
@[reducible] def zn (i : I) : GI := ⟨none, none, i⟩
@[reducible] def zw (j : Nat) (b : Bool) (d : Nat) (x : IV) : GI := ⟨some (j, b), some d, .v x⟩
@[reducible] def zp (g : GI) : GI × List Nat := (g, [])
@[reducible] def zN : Co := .agg [.id, .id, .id, .id, (.sl 5)]
@[reducible] def zC : Co := .agg [(.sl 4), .id, .id, .id, .id, .id, .id, .id]
@[reducible] def zaN : I := .alo [(.int .i64 0), (.int .i64 0), (.int .i64 0), (.str []), .nils]
@[reducible] def zaC : I := .alo [.nils, (.int .i64 0), (.int .i64 0), (.int .i64 0), (.str []), (.int .i64 0), (.int .i64 0), (.int .i64 0)]
@[reducible] def zaT : I := .alo [(.int .i64 0), (.int .i64 0), (.int .i64 0), (.str [])]
@[reducible] def zZ : AV := .agg [(.int .i64 0), (.int .i64 0), (.int .i64 0), (.str []), .nils]
@[reducible] def zc (n : Int) : Opd := .c (.int .i64 n)
@[reducible] def zf : IV := .mov (.c (.bool false))
@[reducible] def zr (l : List GI) : IC := .reg false l
def qbg5 : IC := zr [zv 4 zf]
def qbg7 : IC := zr [zm 9 0, zv 10 (.len false (.t 9)), zv 11 (.bin .gtr .no (.t 10) (zc 20)), zm 12 11, zw 12 false 13 (.mov (.t 1)), zw 12 false 14 (.len false (.t 13)), zw 12 false 15 (.bin .gtr .no (.t 14) (zc 20)), zv 16 (.pick (.t 12) (.c (.bool true)) (.t 15)), zm 17 16, zw 17 false 18 (.mov (.t 0)), ⟨some (17, false), some 19, .call (.c (.fn 31 [] [])) [((.t 18), (.sl 3))]⟩, zw 17 false 20 (.bin .eql .no (.t 19) (zc 0)), zv 21 (.pick (.t 17) (.c (.bool true)) (.t 20)), zm 22 21, zw 22 false 23 (.mov (.t 1)), ⟨some (22, false), some 24, .call (.c (.fn 31 [] [])) [((.t 23), (.sl 3))]⟩, zw 22 false 25 (.bin .eql .no (.t 24) (zc 0)), zv 26 (.pick (.t 22) (.c (.bool true)) (.t 25))]
def qbie : IC := zr [zi 27 (.call (.c (.fn 51 [] [])) []), zm 4 27]
def qbg8 : IC := zr [zm 29 0, zm 30 1, zi 31 (.call (.c (.fn 57 [] [])) [((.t 29), (.sl 3)), ((.t 30), (.sl 3))]), zm 28 31, zv 32 (.ext (.t 28) 0), zv 33 (.ext (.t 28) 1), zm 5 32, zm 6 33]
def qbh8 : IC := zr [zm 35 0, zm 36 1, zi 37 (.call (.c (.fn 58 [] [])) [((.t 35), (.sl 3)), ((.t 36), (.sl 3))]), zm 34 37, zv 38 (.ext (.t 34) 0), zv 39 (.ext (.t 34) 1), zm 7 38, zm 8 39]
def qbg3 : IC := zr [zm 40 6, zm 41 8, zv 42 (.bin .eql .no (.t 40) (.t 41)), zm 43 42, zw 43 true 44 (.mov (.t 5)), zw 43 true 45 (.bin .eql .ptr (.t 44) (.c .nilp)), zw 43 true 46 (.mov (.t 8)), zw 43 true 47 (.bin .neq .no (.t 46) (zc 0)), zw 43 true 48 (.bin .eql .bool (.t 45) (.t 47)), zv 49 (.pick (.t 43) (.t 48) (.c (.bool false))), zm 50 49, zw 50 true 51 (.mov (.t 5)), ⟨some (50, true), some 52, .call (.c (.fn 41 [] [])) [((.t 51), .id)]⟩, zw 50 true 53 (.mov (.t 7)), ⟨some (50, true), some 54, .call (.c (.fn 40 [] [])) [((.t 52), (.sl 4)), ((.t 53), (.sl 4))]⟩, zv 55 (.pick (.t 50) (.t 54) (.c (.bool false))), zm 56 55, ⟨some (56, true), some 57, .call (.c (.fn 51 [] [])) []⟩, zv 58 (.pick (.t 56) (.t 57) (.c (.bool false))), zm 4 58]
def k0z : IC := (.seq qbg5 (.seq (.seq qbg7 (.cond (.t 26) (.seq qbie .ret) .skip)) (.seq qbg8 (.seq qbh8 (.seq qbg3 .ret)))))
@[go_sem] def s0z : List (RV × Co) := [(.t 4, .id)]
theorem c0z : cFun Try.prog 12 = some (59, k0z, s0z) := by kernel_rfl

def q9p : IC := zr [zv 2 (.mov (zc 0))]
def q6d : IC := zr [zv 3 (.mov (zc 20000))]
def qbb4 : IC := zr [zv 4 (.mov (zc 0))]
def q4g : IC := zr [zm 5 4, zm 6 0, zv 7 (.len false (.t 6)), zv 8 (.bin .lss .no (.t 5) (.t 7))]
def q8r : IC := zr [zm 11 0, zm 12 4, zv 13 (.iad 3 (.t 11) (.t 12)), zv 14 (.ld true 3 (.t 13)), zm 15 3, zi 16 (.call (.c (.fn 77 [] [])) [((.t 14), (.agg [.id, .id, (.sl 3)])), ((.t 15), .id), ((zc 300), .id)]), zm 3 16]
def qbcl : IC := zr [zm 9 4, zv 10 (.bin .add .no (.t 9) (zc 1)), zm 4 10]
def q6t : IC := (.seq (.seq q4g (.cond (.t 8) .skip (.exit 0))) (.seq (.block 1 q8r) qbcl))
def q0z : IC := zr [zm 17 3, zv 18 (.bin .lss .no (.t 17) (zc 0))]
def q13 : IC := zr [zv 2 (.mov (zc 0))]
def qwr : IC := zr [zv 2 (.mov (zc 1))]
def k0ce : IC := (.seq q9p (.seq q6d (.seq (.seq qbb4 (.block 0 (.loop q6t))) (.seq (.seq q0z (.cond (.t 18) (.seq q13 .ret) .skip)) (.seq qwr .ret)))))
@[go_sem] def s0ce : List (RV × Co) := [(.t 2, .id)]
theorem c0ce : cFun Try.prog 31 = some (19, k0ce, s0ce) := by kernel_rfl

def qbaz : IC := zr [zv 2 (.mov (.c .nilp))]
def q2y : IC := zr [zv 6 (.bld [.nils] []), zi 7 (.box (.t 6)), zm 3 7]
def q42 : IC := zr [zm 8 0, zv 9 (.len false (.t 8)), zv 10 (.mov (zc 0))]
def qbbn : IC := zr [zv 11 (.bin .lss .no (.t 10) (.t 9))]
def q4j : IC := zr [zv 12 (.iad 4 (.t 8) (.t 10)), zv 13 (.ld true 4 (.t 12)), zi 5 (.alo [(.int .i64 0), (.str []), (.int .i64 0), .nils]), zn (.st 4 (.agg [.id, .id, .id, (.sl 3)]) (.t 5) (.t 13))]
def q6z : IC := zr [zm 14 3, zv 15 (.fad (.t 5) 0), zv 16 (.ld false 1 (.t 15)), zv 17 (.fad (.t 5) 1), zv 18 (.ld true 3 (.t 17)), zi 19 (.call (.c (.fn 45 [] [])) [((.t 14), .id), ((.t 16), .id), ((.t 18), (.agg [.id, .id, (.sl 3)]))])]
def q73 : IC := zr [zv 20 (.bin .add .no (.t 10) (zc 1)), zm 10 20]
def q31 : IC := (.seq qbbn (.seq (.cond (.t 11) .skip (.exit 0)) (.seq (.block 1 (.seq q4j q6z)) q73)))
def q3q : IC := zr [zm 21 3, zm 2 21]
def k0cn : IC := (.seq qbaz (.seq q2y (.seq (.seq q42 (.block 0 (.loop q31))) (.seq q3q .ret))))
@[go_sem] def s0cn : List (RV × Co) := [(.t 2, .id)]
theorem c0cn : cFun Try.prog 33 = some (22, k0cn, s0cn) := by kernel_rfl

def q95 : IC := zr [zi 3 (.box (.t 1)), zi 4 (.alo [(.str []), (.int .i64 0), .nils]), zv 5 (.mov (zc 0))]
def q5p : IC := zr [zv 7 (.ld true 3 (.t 3)), zi 8 (.call (.c (.fn 79 [] [])) [((.t 7), (.agg [.id, .id, (.sl 3)]))]), zv 9 (.un .not (.t 8))]
def qbcm : IC := zr [zv 10 (.bld [(.str []), (.int .i64 0), .nils] []), zn (.st 3 (.agg [.id, .id, (.sl 3)]) (.t 4) (.t 10)), zv 5 (.mov (zc 1))]
def qbbi : IC := zr [zm 11 0, zv 12 (.ld true 3 (.t 3)), zi 13 (.call (.c (.fn 80 [] [])) [((.t 11), (.sl 4)), ((.t 12), (.agg [.id, .id, (.sl 3)]))]), zv 14 (.bin .gtr .no (.t 13) (zc 4096))]
def q49 : IC := zr [zv 15 (.bld [(.str []), (.int .i64 0), .nils] []), zn (.st 3 (.agg [.id, .id, (.sl 3)]) (.t 4) (.t 15)), zv 5 (.mov (zc 2))]
def qbax : IC := zr [zm 16 0, zv 17 (.ld true 3 (.t 3)), zi 18 (.call (.c (.fn 81 [] [])) [((.t 16), (.sl 4)), ((.t 17), (.agg [.id, .id, (.sl 3)]))]), zi 6 (.alo [(.str []), (.int .i64 0), .nils]), zn (.st 3 (.agg [.id, .id, (.sl 3)]) (.t 6) (.t 18))]
def q8m : IC := zr [zv 19 (.ld true 3 (.t 6)), zi 20 (.call (.c (.fn 79 [] [])) [((.t 19), (.agg [.id, .id, (.sl 3)]))]), zv 21 (.un .not (.t 20))]
def q5k : IC := zr [zv 22 (.bld [(.str []), (.int .i64 0), .nils] []), zn (.st 3 (.agg [.id, .id, (.sl 3)]) (.t 4) (.t 22)), zv 5 (.mov (zc 2))]
def q7x : IC := zr [zv 23 (.ld true 3 (.t 6)), zn (.st 3 (.agg [.id, .id, (.sl 3)]) (.t 4) (.t 23)), zv 5 (.mov (zc 0))]
def k0co : IC := (.seq q95 (.seq (.seq q5p (.cond (.t 9) (.seq qbcm .ret) .skip)) (.seq (.seq qbbi (.cond (.t 14) (.seq q49 .ret) .skip)) (.seq qbax (.seq (.seq q8m (.cond (.t 21) (.seq q5k .ret) .skip)) (.seq q7x .ret))))))
@[go_sem] def s0co : List (RV × Co) := [(.c true 3 4, (.agg [.id, .id, (.sl 3)])), (.t 5, .id)]
theorem c0co : cFun Try.prog 36 = some (24, k0co, s0co) := by kernel_rfl

def q71 : IC := zr [zi 4 (.alo [(.str []), (.int .i64 0), .nils]), zv 5 zf]
def q87 : IC := zr [zm 8 0, zv 9 (.bin .eql .ptr (.t 8) (.c .nilp))]
def q2b : IC := zr [zv 10 (.bld [(.str []), (.int .i64 0), .nils] []), zn (.st 3 (.agg [.id, .id, (.sl 3)]) (.t 4) (.t 10)), zv 5 zf]
def q3v : IC := zr [zm 12 0, zm 13 1, zi 14 (.call (.c (.fn 82 [] [])) [((.t 12), .id), ((.t 13), .id)]), zm 11 14, zv 15 (.ext (.t 11) 0), zv 16 (.ext (.t 11) 1), zm 6 15, zm 7 16]
def q89 : IC := zr [zm 17 7, zv 18 (.un .not (.t 17))]
def q7z : IC := zr [zv 19 (.bld [(.str []), (.int .i64 0), .nils] []), zn (.st 3 (.agg [.id, .id, (.sl 3)]) (.t 4) (.t 19)), zv 5 zf]
def q47 : IC := zr [zm 20 0, zv 21 (.nck (.t 20)), zv 22 (.fad (.t 21) 0), zv 23 (.ld false 1 (.t 22)), zm 24 6, zv 25 (.iad 4 (.t 23) (.t 24)), zv 26 (.fad (.t 25) 1), zv 27 (.ld true 3 (.t 26)), zn (.st 3 (.agg [.id, .id, (.sl 3)]) (.t 4) (.t 27)), zv 5 (.mov (.c (.bool true)))]
def k0bn : IC := (.seq q71 (.seq (.seq q87 (.cond (.t 9) (.seq q2b .ret) .skip)) (.seq q3v (.seq (.seq q89 (.cond (.t 18) (.seq q7z .ret) .skip)) (.seq q47 .ret)))))
@[go_sem] def s0bn : List (RV × Co) := [(.c true 3 4, (.agg [.id, .id, (.sl 3)])), (.t 5, .id)]
theorem c0bn : cFun Try.prog 37 = some (28, k0bn, s0bn) := by kernel_rfl

def q2v : IC := zr [zi 4 (.alo [(.str []), (.int .i64 0), .nils]), zv 5 zf]
def qbbv : IC := zr [zv 6 (.mov (zc 0))]
def q3n : IC := zr [zm 7 6, zm 8 0, zv 9 (.len false (.t 8)), zv 10 (.bin .lss .no (.t 7) (.t 9))]
def q6r : IC := zr [zm 13 0, zm 14 6, zv 15 (.iad 4 (.t 13) (.t 14)), zv 16 (.fad (.t 15) 0), zv 17 (.ld false 1 (.t 16)), zm 18 1, zv 19 (.bin .eql .no (.t 17) (.t 18))]
def q5d : IC := zr [zm 20 0, zm 21 6, zv 22 (.iad 4 (.t 20) (.t 21)), zv 23 (.fad (.t 22) 1), zv 24 (.ld true 3 (.t 23)), zn (.st 3 (.agg [.id, .id, (.sl 3)]) (.t 4) (.t 24)), zv 5 (.mov (.c (.bool true)))]
def q9o : IC := zr [zm 11 6, zv 12 (.bin .add .no (.t 11) (zc 1)), zm 6 12]
def q9s : IC := (.seq (.seq q3n (.cond (.t 10) .skip (.exit 0))) (.seq (.block 1 (.seq q6r (.cond (.t 19) (.seq q5d .ret) .skip))) q9o))
def q7r : IC := zr [zv 25 (.bld [(.str []), (.int .i64 0), .nils] []), zn (.st 3 (.agg [.id, .id, (.sl 3)]) (.t 4) (.t 25)), zv 5 zf]
def k0bs : IC := (.seq q2v (.seq (.seq qbbv (.block 0 (.loop q9s))) (.seq q7r .ret)))
@[go_sem] def s0bs : List (RV × Co) := [(.c true 3 4, (.agg [.id, .id, (.sl 3)])), (.t 5, .id)]
theorem c0bs : cFun Try.prog 38 = some (26, k0bs, s0bs) := by kernel_rfl

def qbh3 : IC := zr [zi 2 (.box (.t 0)), zi 3 (.box (.t 1)), zv 4 zf]
def qbfu : IC := zr [zv 6 (.fad (.t 2) 0), zv 7 (.ld false 1 (.t 6)), zv 8 (.fad (.t 3) 0), zv 9 (.ld false 1 (.t 8)), zv 10 (.bin .neq .no (.t 7) (.t 9)), zm 11 10, zw 11 false 12 (.fad (.t 2) 1), zw 11 false 13 (.ld false 1 (.t 12)), zw 11 false 14 (.fad (.t 3) 1), zw 11 false 15 (.ld false 1 (.t 14)), zw 11 false 16 (.bin .neq .no (.t 13) (.t 15)), zv 17 (.pick (.t 11) (.c (.bool true)) (.t 16)), zm 18 17, zw 18 false 19 (.fad (.t 2) 2), zw 18 false 20 (.ld false 1 (.t 19)), zw 18 false 21 (.len false (.t 20)), zw 18 false 22 (.fad (.t 3) 2), zw 18 false 23 (.ld false 1 (.t 22)), zw 18 false 24 (.len false (.t 23)), zw 18 false 25 (.bin .neq .no (.t 21) (.t 24)), zv 26 (.pick (.t 18) (.c (.bool true)) (.t 25))]
def qbev : IC := zr [zv 4 zf]
def qbfa : IC := zr [zv 5 (.mov (zc 0))]
def qbc9 : IC := zr [zm 27 5, zv 28 (.fad (.t 2) 2), zv 29 (.ld false 1 (.t 28)), zv 30 (.len false (.t 29)), zv 31 (.bin .lss .no (.t 27) (.t 30))]
def qbfc : IC := .drw [zp (zv 34 (.fad (.t 2) 2)), zp (zv 35 (.ld false 1 (.t 34))), zp (zm 36 5), zp (zv 37 (.iad 3 (.t 35) (.t 36))), zp (zv 38 (.ld true 3 (.t 37))), zp (zv 39 (.fad (.t 3) 2)), zp (zv 40 (.ld false 1 (.t 39))), zp (zm 41 5), zp (zv 42 (.iad 3 (.t 40) (.t 41))), zp (zv 43 (.ld true 3 (.t 42))), (zi 44 (.call (.c (.fn 39 [] [])) [((.t 38), (.agg [.id, .id, (.sl 3)])), ((.t 43), (.agg [.id, .id, (.sl 3)]))]), []), zp (zv 45 (.un .not (.t 44)))]
def qbg0 : IC := zr [zv 4 zf]
def qbcy : IC := zr [zm 32 5, zv 33 (.bin .add .no (.t 32) (zc 1)), zm 5 33]
def qbgb : IC := (.seq (.seq qbc9 (.cond (.t 31) .skip (.exit 0))) (.seq (.block 1 (.seq qbfc (.cond (.t 45) (.seq qbg0 .ret) .skip))) qbcy))
def qbck : IC := zr [zv 4 (.mov (.c (.bool true)))]
def k0c : IC := (.seq qbh3 (.seq (.seq qbfu (.cond (.t 26) (.seq qbev .ret) .skip)) (.seq (.seq qbfa (.block 0 (.loop qbgb))) (.seq qbck .ret))))
@[go_sem] def s0c : List (RV × Co) := [(.t 4, .id)]
theorem c0c : cFun Try.prog 39 = some (46, k0c, s0c) := by kernel_rfl

def q29 : IC := zr [zv 4 zf]
def qban : IC := zr [zm 6 0, zv 7 (.len false (.t 6)), zm 8 1, zv 9 (.len false (.t 8)), zv 10 (.bin .neq .no (.t 7) (.t 9))]
def q9e : IC := zr [zv 4 zf]
def q6w : IC := zr [zv 5 (.mov (zc 0))]
def q1k : IC := zr [zm 11 5, zm 12 0, zv 13 (.len false (.t 12)), zv 14 (.bin .lss .no (.t 11) (.t 13))]
def q08 : IC := .drw [zp (zm 17 0), zp (zm 18 5), zp (zv 19 (.iad 4 (.t 17) (.t 18))), zp (zv 20 (.fad (.t 19) 0)), zp (zv 21 (.ld false 1 (.t 20))), zp (zm 22 1), zp (zm 23 5), zp (zv 24 (.iad 4 (.t 22) (.t 23))), zp (zv 25 (.fad (.t 24) 0)), zp (zv 26 (.ld false 1 (.t 25))), zp (zv 27 (.bin .neq .no (.t 21) (.t 26))), zp (zm 28 27), zp (zw 28 false 29 (.mov (.t 0))), zp (zw 28 false 30 (.mov (.t 5))), zp (zw 28 false 31 (.iad 4 (.t 29) (.t 30))), zp (zw 28 false 32 (.fad (.t 31) 1)), zp (zw 28 false 33 (.ld true 3 (.t 32))), zp (zw 28 false 34 (.mov (.t 1))), zp (zw 28 false 35 (.mov (.t 5))), zp (zw 28 false 36 (.iad 4 (.t 34) (.t 35))), zp (zw 28 false 37 (.fad (.t 36) 1)), zp (zw 28 false 38 (.ld true 3 (.t 37))), (⟨some (28, false), some 39, .call (.c (.fn 39 [] [])) [((.t 33), (.agg [.id, .id, (.sl 3)])), ((.t 38), (.agg [.id, .id, (.sl 3)]))]⟩, []), zp (zw 28 false 40 (.un .not (.t 39))), zp (zv 41 (.pick (.t 28) (.c (.bool true)) (.t 40)))]
def q3l : IC := zr [zv 4 zf]
def q5y : IC := zr [zm 15 5, zv 16 (.bin .add .no (.t 15) (zc 1)), zm 5 16]
def q00 : IC := (.seq (.seq q1k (.cond (.t 14) .skip (.exit 0))) (.seq (.block 1 (.seq q08 (.cond (.t 41) (.seq q3l .ret) .skip))) q5y))
def qwg : IC := zr [zv 4 (.mov (.c (.bool true)))]
def k0cp : IC := (.seq q29 (.seq (.seq qban (.cond (.t 10) (.seq q9e .ret) .skip)) (.seq (.seq q6w (.block 0 (.loop q00))) (.seq qwg .ret))))
@[go_sem] def s0cp : List (RV × Co) := [(.t 4, .id)]
theorem c0cp : cFun Try.prog 40 = some (42, k0cp, s0cp) := by kernel_rfl

def q4o : IC := zr [zv 2 (.mov (.c .nils))]
def q19 : IC := zr [zm 6 0, zv 7 (.bin .eql .ptr (.t 6) (.c .nilp))]
def q4e : IC := zr [zv 2 (.mov (.c .nils))]
def q5v : IC := zr [zm 8 0, zv 9 (.nck (.t 8)), zv 10 (.fad (.t 9) 0), zv 11 (.ld false 1 (.t 10)), zv 12 (.len false (.t 11)), zi 13 (.mks 4 (.agg [(.int .i64 0), (.str []), (.int .i64 0), .nils]) 56 (.t 12) (.t 12)), zm 3 13]
def qbav : IC := zr [zm 14 0, zv 15 (.nck (.t 14)), zv 16 (.fad (.t 15) 0), zv 17 (.ld false 1 (.t 16)), zv 18 (.len false (.t 17)), zv 19 (.mov (zc 0))]
def q5n : IC := zr [zv 20 (.bin .lss .no (.t 19) (.t 18))]
def q8v : IC := zr [zm 21 19, zv 22 (.iad 4 (.t 17) (.t 19)), zv 23 (.ld true 4 (.t 22)), zi 5 (.alo [(.int .i64 0), (.str []), (.int .i64 0), .nils]), zm 4 21, zn (.st 4 (.agg [.id, .id, .id, (.sl 3)]) (.t 5) (.t 23))]
def q1y : IC := .drw [zp (zm 24 3), zp (zm 25 4), zp (zv 26 (.fad (.t 5) 0)), zp (zv 27 (.ld false 1 (.t 26))), zp (zv 28 (.fad (.t 5) 1)), zp (zv 29 (.ld true 3 (.t 28))), (zi 30 (.call (.c (.fn 83 [] [])) [((.t 29), (.agg [.id, .id, (.sl 3)]))]), [3]), (zv 31 (.bld [(.int .i64 0), (.str []), (.int .i64 0), .nils] [(0, 1, (.t 27)), (1, 3, (.t 30))]), []), zp (zv 32 (.iad 4 (.t 24) (.t 25))), (zn (.st 4 (.agg [.id, .id, .id, (.sl 3)]) (.t 32) (.t 31)), [])]
def q8z : IC := zr [zv 33 (.bin .add .no (.t 19) (zc 1)), zm 19 33]
def q5l : IC := (.seq q5n (.seq (.cond (.t 20) .skip (.exit 0)) (.seq (.block 1 (.seq q8v q1y)) q8z)))
def qyr : IC := zr [zm 34 3, zm 2 34]
def k0cm : IC := (.seq q4o (.seq (.seq q19 (.cond (.t 7) (.seq q4e .ret) .skip)) (.seq q5v (.seq (.seq qbav (.block 0 (.loop q5l))) (.seq qyr .ret)))))
@[go_sem] def s0cm : List (RV × Co) := [(.t 2, (.sl 4))]
theorem c0cm : cFun Try.prog 41 = some (35, k0cm, s0cm) := by kernel_rfl

def q5e : IC := zr [zi 5 (.box (.t 2)), zv 6 (.mov (.c .nils)), zv 7 (.mov (zc 0))]
def q57 : IC := zr [zv 11 (.ld true 3 (.t 5)), zi 12 (.call (.c (.fn 79 [] [])) [((.t 11), (.agg [.id, .id, (.sl 3)]))]), zv 13 (.un .not (.t 12))]
def q96 : IC := zr [zm 14 0, zm 6 14, zv 7 (.mov (zc 1))]
def qbcu : IC := zr [zm 16 0, zm 17 1, zi 18 (.call (.c (.fn 38 [] [])) [((.t 16), (.sl 4)), ((.t 17), .id)]), zm 15 18, zv 19 (.ext (.t 15) 0), zv 20 (.ext (.t 15) 1), zi 8 (.alo [(.str []), (.int .i64 0), .nils]), zn (.st 3 (.agg [.id, .id, (.sl 3)]) (.t 8) (.t 19)), zm 9 20]
def q22 : IC := zr [zm 21 9]
def q9q : IC := zr [zm 22 0, zm 6 22, zv 7 (.mov (zc 6))]
def q4d : IC := zr [zv 10 (.mov (zc 0))]
def q1s : IC := zr [zm 23 10, zm 24 0, zv 25 (.len false (.t 24)), zv 26 (.bin .lss .no (.t 23) (.t 25)), zm 27 26, zw 27 true 28 (.mov (.t 0)), zw 27 true 29 (.mov (.t 10)), zw 27 true 30 (.iad 4 (.t 28) (.t 29)), zw 27 true 31 (.fad (.t 30) 0), zw 27 true 32 (.ld false 1 (.t 31)), zw 27 true 33 (.mov (.t 1)), zw 27 true 34 (.bin .lss .no (.t 32) (.t 33)), zv 35 (.pick (.t 27) (.t 34) (.c (.bool false)))]
def q9w : IC := zr [zm 36 10, zv 37 (.bin .add .no (.t 36) (zc 1)), zm 10 37]
def q7u : IC := (.seq (.seq q1s (.cond (.t 35) .skip (.exit 0))) (.block 1 q9w))
def qzd : IC := .drw [zp (zm 38 0), zp (zm 39 10), zp (zv 40 (.slv 4 (.t 38) none (some (.t 39)) none)), (zi 41 (.app 4 (.agg [(.int .i64 0), (.str []), (.int .i64 0), .nils]) 56 (.sl 4) (.c .nils) (.t 40)), []), zp (zm 42 1), (zv 43 (.ld true 3 (.t 5)), [3]), (zv 44 (.bld [(.int .i64 0), (.str []), (.int .i64 0), .nils] [(0, 1, (.t 42)), (1, 3, (.t 43))]), []), (zv 45 (.bsl 4 [((.t 44), (.agg [.id, .id, .id, (.sl 3)]))]), [3]), (zi 46 (.app 4 (.agg [(.int .i64 0), (.str []), (.int .i64 0), .nils]) 56 (.sl 4) (.t 41) (.t 45)), []), zp (zm 47 0), zp (zm 48 10), (zv 49 (.slv 4 (.t 47) (some (.t 48)) none none), [3, 8]), (zi 50 (.app 4 (.agg [(.int .i64 0), (.str []), (.int .i64 0), .nils]) 56 (.sl 4) (.t 46) (.t 49)), []), zp (zm 6 50), zp (zv 7 (.mov (zc 0)))]
def k0bt : IC := (.seq q5e (.seq (.seq q57 (.cond (.t 13) (.seq q96 .ret) .skip)) (.seq (.seq qbcu (.seq q22 (.cond (.t 21) (.seq q9q .ret) .skip))) (.seq q4d (.seq (.block 0 (.loop q7u)) (.seq qzd .ret))))))
@[go_sem] def s0bt : List (RV × Co) := [(.t 6, (.sl 4)), (.t 7, .id)]
theorem c0bt : cFun Try.prog 44 = some (51, k0bt, s0bt) := by kernel_rfl

def q3t : IC := zr [zi 5 (.box (.t 2)), zv 6 (.mov (zc 0))]
def q9g : IC := zr [zm 9 0, zv 10 (.bin .eql .ptr (.t 9) (.c .nilp)), zm 11 10, zw 11 false 12 (.ld true 3 (.t 5)), ⟨some (11, false), some 13, .call (.c (.fn 48 [] [])) [((.t 12), (.agg [.id, .id, (.sl 3)]))]⟩, zw 11 false 14 (.un .not (.t 13)), zv 15 (.pick (.t 11) (.c (.bool true)) (.t 14))]
def q2f : IC := zr [zv 6 (.mov (zc 1))]
def q3f : IC := zr [zm 17 0, zm 18 1, zi 19 (.call (.c (.fn 82 [] [])) [((.t 17), .id), ((.t 18), .id)]), zm 16 19, zv 20 (.ext (.t 16) 0), zv 21 (.ext (.t 16) 1), zm 7 20, zm 8 21]
def q03 : IC := zr [zm 22 8]
def qbb2 : IC := zr [zv 6 (.mov (zc 6))]
def q4l : IC := .drw [zp (zm 23 0), zp (zm 24 0), zp (zv 25 (.nck (.t 24))), zp (zv 26 (.fad (.t 25) 0)), zp (zv 27 (.ld false 1 (.t 26))), zp (zm 28 7), zp (zm 29 1), zp (zv 30 (.ld true 3 (.t 5))), (zi 31 (.call (.c (.fn 83 [] [])) [((.t 30), (.agg [.id, .id, (.sl 3)]))]), [4]), (zv 32 (.bld [(.int .i64 0), (.str []), (.int .i64 0), .nils] [(0, 1, (.t 29)), (1, 3, (.t 31))]), []), (zv 33 (.bsl 4 [((.t 32), (.agg [.id, .id, .id, (.sl 3)]))]), []), (zi 34 (.call (.c (.fn 85 [] [])) [((.t 27), (.sl 4)), ((.t 28), .id), ((.t 33), (.sl 4))]), []), zp (zv 35 (.nck (.t 23))), zp (zv 36 (.fad (.t 35) 0)), (zn (.st 1 (.sl 4) (.t 36) (.t 34)), [])]
def q4m : IC := zr [zv 6 (.mov (zc 0))]
def k0bm : IC := (.seq q3t (.seq (.seq q9g (.cond (.t 15) (.seq q2f .ret) .skip)) (.seq q3f (.seq (.seq q03 (.cond (.t 22) (.seq qbb2 .ret) .skip)) (.seq q4l (.seq q4m .ret))))))
@[go_sem] def s0bm : List (RV × Co) := [(.t 6, .id)]
theorem c0bm : cFun Try.prog 45 = some (37, k0bm, s0bm) := by kernel_rfl

def q8q : IC := zr [zi 1 (.box (.t 0)), zv 2 zf]
def qba6 : IC := zr [zi 3 (.alo [(.int .i64 0)]), zn (.st 1 .id (.t 3) (zc 0))]
def qbao : IC := zr [zv 4 (.ld true 3 (.t 1)), zv 5 (.mfn 87 [] [(.t 3)]), zi 6 (.call (.c (.fn 86 [] [])) [((.t 4), (.agg [.id, .id, (.sl 3)])), ((zc 1), .id), ((.t 5), .id)]), zm 2 6]
def k0bz : IC := (.seq q8q (.seq qba6 (.seq qbao .ret)))
@[go_sem] def s0bz : List (RV × Co) := [(.t 2, .id)]
theorem c0bz : cFun Try.prog 48 = some (7, k0bz, s0bz) := by kernel_rfl

def q4a : IC := zr [zv 0 zf]
def q1q : IC := zr [zi 8 (.call (.c (.fn 90 [] [])) [((.c (.str [97, 32, 45, 62, 32, 97])), .id)]), zi 9 (.call (.c (.fn 90 [] [])) [((.c (.str [84, 32, 45, 62, 32, 85])), .id)]), zi 10 (.call (.c (.fn 52 [] [])) [((.t 8), (.agg [.id, .id, (.sl 3)])), ((.t 9), (.agg [.id, .id, (.sl 3)]))]), zm 7 10, zv 11 (.ext (.t 7) 0), zv 12 (.ext (.t 7) 1), zm 1 11, zm 2 12]
def q5w : IC := zr [zi 14 (.call (.c (.fn 90 [] [])) [((.c (.str [97, 32, 45, 62, 32, 98])), .id)]), zi 15 (.call (.c (.fn 90 [] [])) [((.c (.str [98, 32, 45, 62, 32, 84, 32, 97])), .id)]), zi 16 (.call (.c (.fn 52 [] [])) [((.t 14), (.agg [.id, .id, (.sl 3)])), ((.t 15), (.agg [.id, .id, (.sl 3)]))]), zm 13 16, zv 17 (.ext (.t 13) 0), zv 18 (.ext (.t 13) 1), zm 3 17, zm 4 18]
def q8n : IC := zr [zm 20 3, zi 21 (.call (.c (.fn 37 [] [])) [((.t 20), .id), ((zc 0), .id)]), zm 19 21, zv 22 (.ext (.t 19) 0), zv 23 (.ext (.t 19) 1), zi 5 (.alo [(.str []), (.int .i64 0), .nils]), zn (.st 3 (.agg [.id, .id, (.sl 3)]) (.t 5) (.t 22)), zm 6 23]
def q2n : IC := zr [zm 24 2, zv 25 (.bin .eql .no (.t 24) (zc 14)), zm 26 25, zw 26 true 27 (.mov (.t 4)), zw 26 true 28 (.bin .eql .no (.t 27) (zc 0)), zv 29 (.pick (.t 26) (.t 28) (.c (.bool false))), zm 30 29, zw 30 true 31 (.mov (.t 6)), zv 32 (.pick (.t 30) (.t 31) (.c (.bool false))), zm 33 32, zw 33 true 34 (.fad (.t 5) 1), zw 33 true 35 (.ld false 1 (.t 34)), zw 33 true 36 (.bin .eql .no (.t 35) (zc 1)), zv 37 (.pick (.t 33) (.t 36) (.c (.bool false))), zm 38 37, ⟨some (38, true), some 39, .call (.c (.fn 90 [] [])) [((.c (.str [97])), .id)]⟩, ⟨some (38, true), some 40, .call (.c (.fn 90 [] [])) [((.c (.str [84])), .id)]⟩, ⟨some (38, true), some 41, .call (.c (.fn 54 [] [])) [((.t 39), (.agg [.id, .id, (.sl 3)])), ((.t 40), (.agg [.id, .id, (.sl 3)]))]⟩, zv 42 (.pick (.t 38) (.t 41) (.c (.bool false))), zm 43 42, ⟨some (43, true), some 44, .call (.c (.fn 90 [] [])) [((.c (.str [84])), .id)]⟩, ⟨some (43, true), some 45, .call (.c (.fn 90 [] [])) [((.c (.str [97])), .id)]⟩, ⟨some (43, true), some 46, .call (.c (.fn 54 [] [])) [((.t 44), (.agg [.id, .id, (.sl 3)])), ((.t 45), (.agg [.id, .id, (.sl 3)]))]⟩, zw 43 true 47 (.un .not (.t 46)), zv 48 (.pick (.t 43) (.t 47) (.c (.bool false))), zm 49 48, ⟨some (49, true), some 50, .call (.c (.fn 90 [] [])) [((.c (.str [97, 32, 45, 62, 32, 98])), .id)]⟩, ⟨some (49, true), some 51, .call (.c (.fn 90 [] [])) [((.c (.str [98, 32, 45, 62, 32, 99])), .id)]⟩, ⟨some (49, true), some 52, .call (.c (.fn 56 [] [])) [((.t 50), (.agg [.id, .id, (.sl 3)])), ((.t 51), (.agg [.id, .id, (.sl 3)]))]⟩, zv 53 (.pick (.t 49) (.t 52) (.c (.bool false))), zm 54 53, ⟨some (54, true), some 55, .call (.c (.fn 90 [] [])) [((.c (.str [97, 32, 45, 62, 32, 98])), .id)]⟩, ⟨some (54, true), some 56, .call (.c (.fn 90 [] [])) [((.c (.str [97, 32, 45, 62, 32, 97])), .id)]⟩, ⟨some (54, true), some 57, .call (.c (.fn 56 [] [])) [((.t 55), (.agg [.id, .id, (.sl 3)])), ((.t 56), (.agg [.id, .id, (.sl 3)]))]⟩, zw 54 true 58 (.un .not (.t 57)), zv 59 (.pick (.t 54) (.t 58) (.c (.bool false))), zm 0 59]
def k0bb : IC := (.seq q4a (.seq q1q (.seq q5w (.seq q8n (.seq q2n .ret)))))
@[go_sem] def s0bb : List (RV × Co) := [(.t 0, .id)]
theorem c0bb : cFun Try.prog 51 = some (60, k0bb, s0bb) := by kernel_rfl

def q6x : IC := zr [zi 2 (.box (.t 0)), zi 3 (.box (.t 1)), zv 4 (.mov (.c .nilp)), zv 5 (.mov (zc 0))]
def q61 : IC := zr [zv 6 (.ld true 3 (.t 2)), zv 7 (.bsl 3 [((.t 6), (.agg [.id, .id, (.sl 3)]))]), zv 8 (.ld true 3 (.t 3)), zv 9 (.bsl 3 [((.t 8), (.agg [.id, .id, (.sl 3)]))]), zi 10 (.call (.c (.fn 57 [] [])) [((.t 7), (.sl 3)), ((.t 9), (.sl 3))]), zv 11 (.ext (.t 10) 0), zv 12 (.ext (.t 10) 1), zm 4 11, zm 5 12]
def k0bd : IC := (.seq q6x (.seq q61 .ret))
@[go_sem] def s0bd : List (RV × Co) := [(.t 4, .id), (.t 5, .id)]
theorem c0bd : cFun Try.prog 52 = some (13, k0bd, s0bd) := by kernel_rfl

def q91 : IC := zr [zi 2 (.box (.t 0)), zi 3 (.box (.t 1)), zv 4 zf]
def qbci : IC := zr [zv 8 (.ld true 3 (.t 2)), zv 9 (.ld true 3 (.t 3)), zi 10 (.call (.c (.fn 52 [] [])) [((.t 8), (.agg [.id, .id, (.sl 3)])), ((.t 9), (.agg [.id, .id, (.sl 3)]))]), zm 7 10, zv 11 (.ext (.t 7) 0), zv 12 (.ext (.t 7) 1), zm 5 11, zm 6 12]
def q1t : IC := zr [zm 13 6, zv 14 (.bin .eql .no (.t 13) (zc 0)), zm 4 14]
def k0be : IC := (.seq q91 (.seq qbci (.seq q1t .ret)))
@[go_sem] def s0be : List (RV × Co) := [(.t 4, .id)]
theorem c0be : cFun Try.prog 54 = some (15, k0be, s0be) := by kernel_rfl

def q38 : IC := zr [zi 2 (.box (.t 0)), zi 3 (.box (.t 1)), zv 4 zf]
def qbas : IC := zr [zv 5 (.ld true 3 (.t 2)), zv 6 (.ld true 3 (.t 3)), zi 7 (.call (.c (.fn 54 [] [])) [((.t 5), (.agg [.id, .id, (.sl 3)])), ((.t 6), (.agg [.id, .id, (.sl 3)]))]), zm 8 7, zw 8 true 9 (.ld true 3 (.t 3)), zw 8 true 10 (.ld true 3 (.t 2)), ⟨some (8, true), some 11, .call (.c (.fn 54 [] [])) [((.t 9), (.agg [.id, .id, (.sl 3)])), ((.t 10), (.agg [.id, .id, (.sl 3)]))]⟩, zv 12 (.pick (.t 8) (.t 11) (.c (.bool false))), zm 4 12]
def k0bf : IC := (.seq q38 (.seq qbas .ret))
@[go_sem] def s0bf : List (RV × Co) := [(.t 4, .id)]
theorem c0bf : cFun Try.prog 56 = some (13, k0bf, s0bf) := by kernel_rfl

def q4f : IC := zr [zv 4 (.mov (.c .nilp)), zv 5 (.mov (zc 0))]
def q78 : IC := zr [zm 7 0, zi 8 (.call (.c (.fn 91 [] [])) [((.t 7), (.sl 3))]), zv 9 (.un .not (.t 8)), zm 10 9, zw 10 false 11 (.mov (.t 1)), ⟨some (10, false), some 12, .call (.c (.fn 91 [] [])) [((.t 11), (.sl 3))]⟩, zw 10 false 13 (.un .not (.t 12)), zv 14 (.pick (.t 10) (.c (.bool true)) (.t 13))]
def q9x : IC := zr [zv 4 (.mov (.c .nilp)), zv 5 (.mov (zc 1))]
def q6u : IC := zr [zi 15 (.call (.c (.fn 33 [] [])) [((.c .nils), (.sl 4))]), zi 6 (.alo [.nilp]), zn (.st 1 .id (.t 6) (.t 15))]
def q1b : IC := zr [zm 16 0, zm 17 1, zv 18 (.mfn 93 [] [(.t 6)]), zi 19 (.call (.c (.fn 92 [] [])) [((.t 16), (.sl 3)), ((.t 17), (.sl 3)), ((.t 18), .id)]), zv 20 (.un .not (.t 19))]
def q8l : IC := zr [zv 4 (.mov (.c .nilp)), zv 5 (.mov (zc 14))]
def qbb3 : IC := zr [zv 21 (.ld false 1 (.t 6)), zm 4 21, zv 5 (.mov (zc 0))]
def k0bc : IC := (.seq q4f (.seq (.seq q78 (.cond (.t 14) (.seq q9x .ret) .skip)) (.seq q6u (.seq (.seq q1b (.cond (.t 20) (.seq q8l .ret) .skip)) (.seq qbb3 .ret)))))
@[go_sem] def s0bc : List (RV × Co) := [(.t 4, .id), (.t 5, .id)]
theorem c0bc : cFun Try.prog 57 = some (22, k0bc, s0bc) := by kernel_rfl

def q12 : IC := zr [zv 4 (.mov (.c .nils)), zv 5 (.mov (zc 0))]
def q1f : IC := zr [zm 10 0, zi 11 (.call (.c (.fn 95 [] [])) [((.t 10), (.sl 3))]), zv 12 (.un .not (.t 11)), zm 13 12, zw 13 false 14 (.mov (.t 1)), ⟨some (13, false), some 15, .call (.c (.fn 95 [] [])) [((.t 14), (.sl 3))]⟩, zw 13 false 16 (.un .not (.t 15)), zv 17 (.pick (.t 13) (.c (.bool true)) (.t 16))]
def qbcs : IC := zr [zv 4 (.mov (.c .nils)), zv 5 (.mov (zc 1))]
def q2a : IC := zr [zm 18 0, zv 19 (.len false (.t 18)), zm 20 1, zv 21 (.len false (.t 20)), zv 22 (.bin .neq .no (.t 19) (.t 21))]
def q6s : IC := zr [zv 4 (.mov (.c .nils)), zv 5 (.mov (zc 14))]
def q8u : IC := zr [zv 6 (.mov (.c .nils))]
def q59 : IC := zr [zv 7 (.mov (zc 0))]
def q4n : IC := zr [zm 23 7, zm 24 0, zv 25 (.len false (.t 24)), zv 26 (.bin .lss .no (.t 23) (.t 25))]
def q36 : IC := .drw [zp (zm 30 6), zp (zm 31 0), zp (zm 32 7), zp (zv 33 (.iad 3 (.t 31) (.t 32))), zp (zv 34 (.ld true 3 (.t 33))), zp (zm 35 1), zp (zm 36 7), zp (zv 37 (.iad 3 (.t 35) (.t 36))), zp (zv 38 (.ld true 3 (.t 37))), (zi 39 (.call (.c (.fn 96 [] [])) [((.t 30), (.sl 4)), ((.t 34), (.agg [.id, .id, (.sl 3)])), ((.t 38), (.agg [.id, .id, (.sl 3)]))]), []), zp (zm 29 39), zp (zv 40 (.ext (.t 29) 0)), zp (zv 41 (.ext (.t 29) 1)), zp (zm 8 40), zp (zm 9 41)]
def qv4 : IC := zr [zm 42 9, zv 43 (.bin .neq .no (.t 42) (zc 0))]
def qx7 : IC := zr [zm 44 9, zv 4 (.mov (.c .nils)), zm 5 44]
def qww : IC := zr [zm 45 8, zm 6 45]
def qxs : IC := zr [zm 27 7, zv 28 (.bin .add .no (.t 27) (zc 1)), zm 7 28]
def qbam : IC := (.seq (.seq q4n (.cond (.t 26) .skip (.exit 0))) (.seq (.block 1 (.seq q36 (.seq (.seq qv4 (.cond (.t 43) (.seq qx7 .ret) .skip)) qww))) qxs))
def qxq : IC := zr [zm 46 6, zm 4 46, zv 5 (.mov (zc 0))]
def k0cu : IC := (.seq q12 (.seq (.seq q1f (.cond (.t 17) (.seq qbcs .ret) .skip)) (.seq (.seq q2a (.cond (.t 22) (.seq q6s .ret) .skip)) (.seq q8u (.seq (.seq q59 (.block 0 (.loop qbam))) (.seq qxq .ret))))))
@[go_sem] def s0cu : List (RV × Co) := [(.t 4, (.sl 4)), (.t 5, .id)]
theorem c0cu : cFun Try.prog 58 = some (47, k0cu, s0cu) := by kernel_rfl

def qbh4 : IC := zr [zv 2 zf]
def qbja : IC := zr [zm 3 0, zv 4 (.bin .neq .no (.t 3) (.c (.str []))), zm 5 4, zw 5 true 6 (.mov (.t 0)), zw 5 true 7 (.idx (.t 6) (zc 0)), ⟨some (5, true), some 8, .call (.c (.fn 106 [] [])) [((.t 7), .id)]⟩, zv 9 (.pick (.t 5) (.t 8) (.c (.bool false))), zm 10 9, zw 10 true 11 (.mov (.t 0)), ⟨some (10, true), some 12, .call (.c (.fn 107 [] [])) [((.t 11), .id)]⟩, zv 13 (.pick (.t 10) (.t 12) (.c (.bool false))), zm 2 13]
def k0t : IC := (.seq qbh4 (.seq qbja .ret))
@[go_sem] def s0t : List (RV × Co) := [(.t 2, .id)]
theorem c0t : cFun Try.prog 72 = some (14, k0t, s0t) := by kernel_rfl

def q46 : IC := zr [zi 1 (.box (.t 0)), zv 2 (.mov (.c (.str [])))]
def q2s : IC := zr [zv 3 (.ld true 3 (.t 1)), zi 4 (.call (.c (.fn 48 [] [])) [((.t 3), (.agg [.id, .id, (.sl 3)]))]), zv 5 (.un .not (.t 4))]
def qbbf : IC := zr [zv 2 (.mov (.c (.str [])))]
def q9u : IC := zr [zv 6 (.ld true 3 (.t 1)), zi 7 (.call (.c (.fn 109 [] [])) [((.t 6), (.agg [.id, .id, (.sl 3)]))]), zm 2 7]
def k0bx : IC := (.seq q46 (.seq (.seq q2s (.cond (.t 5) (.seq qbbf .ret) .skip)) (.seq q9u .ret)))
@[go_sem] def s0bx : List (RV × Co) := [(.t 2, .id)]
theorem c0bx : cFun Try.prog 75 = some (8, k0bx, s0bx) := by kernel_rfl

def qbf0 : IC := zr [zi 2 (.box (.t 0)), zi 3 (.box (.t 1)), zv 4 zf]
def qbij : IC := .drw [zp (zv 6 (.ld true 3 (.t 2))), (zi 7 (.call (.c (.fn 88 [] [])) [((.t 6), (.agg [.id, .id, (.sl 3)]))]), []), (zv 8 (.ld true 3 (.t 3)), [1]), (zi 9 (.call (.c (.fn 88 [] [])) [((.t 8), (.agg [.id, .id, (.sl 3)]))]), []), (zv 10 (.bin .neq (.cells [.str, (.int .i64), (.int .i64)]) (.t 7) (.t 9)), [])]
def qbi4 : IC := zr [zv 4 zf]
def qbhr : IC := zr [zv 11 (.fad (.t 2) 2), zv 12 (.ld false 1 (.t 11)), zv 13 (.len false (.t 12)), zv 14 (.mov (zc 0))]
def qbfl : IC := zr [zv 15 (.bin .lss .no (.t 14) (.t 13))]
def qbe2 : IC := zr [zm 16 14, zm 5 16]
def qbe7 : IC := .drw [zp (zv 17 (.fad (.t 2) 2)), zp (zv 18 (.ld false 1 (.t 17))), zp (zm 19 5), zp (zv 20 (.iad 3 (.t 18) (.t 19))), zp (zv 21 (.ld true 3 (.t 20))), zp (zv 22 (.fad (.t 3) 2)), zp (zv 23 (.ld false 1 (.t 22))), zp (zm 24 5), zp (zv 25 (.iad 3 (.t 23) (.t 24))), zp (zv 26 (.ld true 3 (.t 25))), (zi 27 (.call (.c (.fn 76 [] [])) [((.t 21), (.agg [.id, .id, (.sl 3)])), ((.t 26), (.agg [.id, .id, (.sl 3)]))]), []), zp (zv 28 (.un .not (.t 27)))]
def qbcz : IC := zr [zv 4 zf]
def qbjj : IC := zr [zv 29 (.bin .add .no (.t 14) (zc 1)), zm 14 29]
def qbdi : IC := (.seq qbfl (.seq (.cond (.t 15) .skip (.exit 0)) (.seq (.block 1 (.seq qbe2 (.seq qbe7 (.cond (.t 28) (.seq qbcz .ret) .skip)))) qbjj)))
def q1v : IC := zr [zv 4 (.mov (.c (.bool true)))]
def k0b : IC := (.seq qbf0 (.seq (.seq qbij (.cond (.t 10) (.seq qbi4 .ret) .skip)) (.seq (.seq qbhr (.block 0 (.loop qbdi))) (.seq q1v .ret))))
@[go_sem] def s0b : List (RV × Co) := [(.t 4, .id)]
theorem c0b : cFun Try.prog 76 = some (30, k0b, s0b) := by kernel_rfl

def q4r : IC := zr [zi 3 (.box (.t 0)), zv 6 (.mov (zc 0))]
def qbbe : IC := zr [zm 8 1, zv 9 (.bin .sub .no (.t 8) (zc 1)), zm 1 9]
def q88 : IC := zr [zm 10 2, zv 11 (.bin .lss .no (.t 10) (zc 1))]
def q5q : IC := zr [zv 6 (.mov (zc (-1)))]
def q1l : IC := zr [zv 7 (.mov (zc 0))]
def q9m : IC := zr [zm 12 7, zv 13 (.fad (.t 3) 2), zv 14 (.ld false 1 (.t 13)), zv 15 (.len false (.t 14)), zv 16 (.bin .lss .no (.t 12) (.t 15)), zm 17 16, zw 17 true 18 (.mov (.t 1)), zw 17 true 19 (.bin .geq .no (.t 18) (zc 0)), zv 20 (.pick (.t 17) (.t 19) (.c (.bool false)))]
def q25 : IC := zr [zv 23 (.fad (.t 3) 2), zv 24 (.ld false 1 (.t 23)), zm 25 7, zv 26 (.iad 3 (.t 24) (.t 25)), zv 27 (.ld true 3 (.t 26)), zm 28 1, zm 29 2, zv 30 (.bin .sub .no (.t 29) (zc 1)), zi 31 (.call (.c (.fn 77 [] [])) [((.t 27), (.agg [.id, .id, (.sl 3)])), ((.t 28), .id), ((.t 30), .id)]), zm 1 31]
def q6f : IC := zr [zm 21 7, zv 22 (.bin .add .no (.t 21) (zc 1)), zm 7 22]
def q8e : IC := (.seq (.seq q9m (.cond (.t 20) .skip (.exit 0))) (.seq (.block 1 q25) q6f))
def qys : IC := zr [zm 32 1, zm 6 32]
def k0cd : IC := (.seq q4r (.seq qbbe (.seq (.seq q88 (.cond (.t 11) (.seq q5q .ret) .skip)) (.seq (.seq q1l (.block 0 (.loop q8e))) (.seq qys .ret)))))
@[go_sem] def s0cd : List (RV × Co) := [(.t 6, .id)]
theorem c0cd : cFun Try.prog 77 = some (33, k0cd, s0cd) := by kernel_rfl

def qba1 : IC := zr [zi 1 (.box (.t 0)), zv 2 zf]
def q7h : IC := zr [zv 3 (.ld true 3 (.t 1)), zi 4 (.call (.c (.fn 112 [] [])) [((.t 3), (.agg [.id, .id, (.sl 3)]))]), zv 5 (.bin .leq .no (.t 4) (zc 4096)), zm 6 5, zw 6 true 7 (.ld true 3 (.t 1)), ⟨some (6, true), some 8, .call (.c (.fn 113 [] [])) [((.t 7), (.agg [.id, .id, (.sl 3)]))]⟩, zw 6 true 9 (.bin .leq .no (.t 8) (zc 100)), zv 10 (.pick (.t 6) (.t 9) (.c (.bool false))), zm 11 10, zw 11 true 12 (.ld true 3 (.t 1)), ⟨some (11, true), some 13, .call (.c (.fn 114 [] [])) [((.t 12), (.agg [.id, .id, (.sl 3)]))]⟩, zv 14 (.pick (.t 11) (.t 13) (.c (.bool false))), zm 2 14]
def k0cf : IC := (.seq qba1 (.seq q7h .ret))
@[go_sem] def s0cf : List (RV × Co) := [(.t 2, .id)]
theorem c0cf : cFun Try.prog 79 = some (15, k0cf, s0cf) := by kernel_rfl

def q5j : IC := zr [zi 3 (.box (.t 1)), zv 4 (.mov (zc 0))]
def q0p : IC := zr [zv 9 (.fad (.t 3) 0), zv 10 (.ld false 1 (.t 9)), zv 11 (.bin .eql .no (.t 10) (.c (.str [])))]
def qbar : IC := zr [zm 13 0, zv 14 (.fad (.t 3) 1), zv 15 (.ld false 1 (.t 14)), zi 16 (.call (.c (.fn 38 [] [])) [((.t 13), (.sl 4)), ((.t 15), .id)]), zm 12 16, zv 17 (.ext (.t 12) 0), zv 18 (.ext (.t 12) 1), zi 5 (.alo [(.str []), (.int .i64 0), .nils]), zn (.st 3 (.agg [.id, .id, (.sl 3)]) (.t 5) (.t 17)), zm 6 18]
def q16 : IC := zr [zm 19 6]
def q4y : IC := zr [zv 20 (.ld true 3 (.t 5)), zi 21 (.call (.c (.fn 112 [] [])) [((.t 20), (.agg [.id, .id, (.sl 3)]))]), zm 4 21]
def q0s : IC := zr [zv 4 (.mov (zc 1))]
def q23 : IC := zr [zv 7 (.mov (zc 1))]
def q2l : IC := zr [zv 8 (.mov (zc 0))]
def q3k : IC := zr [zm 22 8, zv 23 (.fad (.t 3) 2), zv 24 (.ld false 1 (.t 23)), zv 25 (.len false (.t 24)), zv 26 (.bin .lss .no (.t 22) (.t 25))]
def qw8 : IC := zr [zm 29 7, zm 30 0, zv 31 (.fad (.t 3) 2), zv 32 (.ld false 1 (.t 31)), zm 33 8, zv 34 (.iad 3 (.t 32) (.t 33)), zv 35 (.ld true 3 (.t 34)), zi 36 (.call (.c (.fn 80 [] [])) [((.t 30), (.sl 4)), ((.t 35), (.agg [.id, .id, (.sl 3)]))]), zv 37 (.bin .add .no (.t 29) (.t 36)), zm 7 37]
def qzu : IC := zr [zm 27 8, zv 28 (.bin .add .no (.t 27) (zc 1)), zm 8 28]
def q1m : IC := (.seq (.seq q3k (.cond (.t 26) .skip (.exit 0))) (.seq (.block 1 qw8) qzu))
def qzj : IC := zr [zm 38 7, zm 4 38]
def k0cq : IC := (.seq q5j (.seq (.seq q0p (.cond (.t 11) (.seq qbar (.seq (.seq q16 (.cond (.t 19) (.seq q4y .ret) .skip)) (.seq q0s .ret))) .skip)) (.seq q23 (.seq (.seq q2l (.block 0 (.loop q1m))) (.seq qzj .ret)))))
@[go_sem] def s0cq : List (RV × Co) := [(.t 4, .id)]
theorem c0cq : cFun Try.prog 80 = some (39, k0cq, s0cq) := by kernel_rfl

def q0r : IC := zr [zi 3 (.box (.t 1)), zi 4 (.alo [(.str []), (.int .i64 0), .nils])]
def q4x : IC := zr [zv 9 (.fad (.t 3) 0), zv 10 (.ld false 1 (.t 9)), zv 11 (.bin .eql .no (.t 10) (.c (.str [])))]
def q51 : IC := zr [zm 13 0, zv 14 (.fad (.t 3) 1), zv 15 (.ld false 1 (.t 14)), zi 16 (.call (.c (.fn 38 [] [])) [((.t 13), (.sl 4)), ((.t 15), .id)]), zm 12 16, zv 17 (.ext (.t 12) 0), zv 18 (.ext (.t 12) 1), zi 5 (.alo [(.str []), (.int .i64 0), .nils]), zn (.st 3 (.agg [.id, .id, (.sl 3)]) (.t 5) (.t 17)), zm 6 18]
def q06 : IC := zr [zm 19 6]
def q6q : IC := zr [zv 20 (.ld true 3 (.t 5)), zn (.st 3 (.agg [.id, .id, (.sl 3)]) (.t 4) (.t 20))]
def qbb6 : IC := zr [zv 21 (.ld true 3 (.t 3)), zn (.st 3 (.agg [.id, .id, (.sl 3)]) (.t 4) (.t 21))]
def q48 : IC := zr [zv 7 (.mov (.c .nils))]
def q53 : IC := zr [zv 8 (.mov (zc 0))]
def q1o : IC := zr [zm 22 8, zv 23 (.fad (.t 3) 2), zv 24 (.ld false 1 (.t 23)), zv 25 (.len false (.t 24)), zv 26 (.bin .lss .no (.t 22) (.t 25))]
def qyz : IC := zr [zm 29 7, zm 30 0, zv 31 (.fad (.t 3) 2), zv 32 (.ld false 1 (.t 31)), zm 33 8, zv 34 (.iad 3 (.t 32) (.t 33)), zv 35 (.ld true 3 (.t 34)), zi 36 (.call (.c (.fn 81 [] [])) [((.t 30), (.sl 4)), ((.t 35), (.agg [.id, .id, (.sl 3)]))]), zv 37 (.bsl 3 [((.t 36), (.agg [.id, .id, (.sl 3)]))]), zi 38 (.app 3 (.agg [(.str []), (.int .i64 0), .nils]) 48 (.sl 3) (.t 29) (.t 37)), zm 7 38]
def qy3 : IC := zr [zm 27 8, zv 28 (.bin .add .no (.t 27) (zc 1)), zm 8 28]
def q4k : IC := (.seq (.seq q1o (.cond (.t 26) .skip (.exit 0))) (.seq (.block 1 qyz) qy3))
def qvr : IC := zr [zm 39 7, zv 40 (.fad (.t 3) 2), zn (.st 1 (.sl 3) (.t 40) (.t 39))]
def qv6 : IC := zr [zv 41 (.ld true 3 (.t 3)), zn (.st 3 (.agg [.id, .id, (.sl 3)]) (.t 4) (.t 41))]
def k0cr : IC := (.seq q0r (.seq (.seq q4x (.cond (.t 11) (.seq q51 (.seq (.seq q06 (.cond (.t 19) (.seq q6q .ret) .skip)) (.seq qbb6 .ret))) .skip)) (.seq q48 (.seq (.seq q53 (.block 0 (.loop q4k))) (.seq qvr (.seq qv6 .ret))))))
@[go_sem] def s0cr : List (RV × Co) := [(.c true 3 4, (.agg [.id, .id, (.sl 3)]))]
theorem c0cr : cFun Try.prog 81 = some (42, k0cr, s0cr) := by kernel_rfl

def q60 : IC := zr [zv 4 (.mov (zc 0)), zv 5 zf]
def q6y : IC := zr [zm 6 0, zv 7 (.nck (.t 6)), zv 8 (.fad (.t 7) 0), zv 9 (.ld false 1 (.t 8)), zm 10 1, zi 11 (.call (.c (.fn 115 [] [])) [((.t 9), (.sl 4)), ((.t 10), .id), ((.c (.fn 116 [] [])), .id)]), zv 12 (.ext (.t 11) 0), zv 13 (.ext (.t 11) 1), zm 4 12, zm 5 13]
def k0bp : IC := (.seq q60 (.seq q6y .ret))
@[go_sem] def s0bp : List (RV × Co) := [(.t 4, .id), (.t 5, .id)]
theorem c0bp : cFun Try.prog 82 = some (14, k0bp, s0bp) := by kernel_rfl

def q83 : IC := zr [zi 1 (.box (.t 0)), zi 2 (.alo [(.str []), (.int .i64 0), .nils])]
def q5h : IC := zr [zv 6 (.fad (.t 1) 2), zv 7 (.ld false 1 (.t 6)), zv 8 (.len false (.t 7)), zi 9 (.mks 3 (.agg [(.str []), (.int .i64 0), .nils]) 48 (.t 8) (.t 8)), zm 3 9]
def q6e : IC := zr [zv 10 (.fad (.t 1) 2), zv 11 (.ld false 1 (.t 10)), zv 12 (.len false (.t 11)), zv 13 (.mov (zc 0))]
def q67 : IC := zr [zv 14 (.bin .lss .no (.t 13) (.t 12))]
def q94 : IC := zr [zm 15 13, zv 16 (.iad 3 (.t 11) (.t 13)), zv 17 (.ld true 3 (.t 16)), zi 5 (.alo [(.str []), (.int .i64 0), .nils]), zm 4 15, zn (.st 3 (.agg [.id, .id, (.sl 3)]) (.t 5) (.t 17))]
def q7e : IC := zr [zm 18 3, zm 19 4, zv 20 (.ld true 3 (.t 5)), zi 21 (.call (.c (.fn 83 [] [])) [((.t 20), (.agg [.id, .id, (.sl 3)]))]), zv 22 (.iad 3 (.t 18) (.t 19)), zn (.st 3 (.agg [.id, .id, (.sl 3)]) (.t 22) (.t 21))]
def qbaa : IC := zr [zv 23 (.bin .add .no (.t 13) (zc 1)), zm 13 23]
def qbaf : IC := (.seq q67 (.seq (.cond (.t 14) .skip (.exit 0)) (.seq (.block 1 (.seq q94 q7e)) qbaa)))
def q81 : IC := zr [zm 24 3, zv 25 (.fad (.t 1) 2), zn (.st 1 (.sl 3) (.t 25) (.t 24))]
def qzz : IC := zr [zv 26 (.ld true 3 (.t 1)), zn (.st 3 (.agg [.id, .id, (.sl 3)]) (.t 2) (.t 26))]
def k0br : IC := (.seq q83 (.seq q5h (.seq (.seq q6e (.block 0 (.loop qbaf))) (.seq q81 (.seq qzz .ret)))))
@[go_sem] def s0br : List (RV × Co) := [(.c true 3 2, (.agg [.id, .id, (.sl 3)]))]
theorem c0br : cFun Try.prog 83 = some (27, k0br, s0br) := by kernel_rfl

def qbft : IC := zr [zi 3 (.box (.t 0)), zv 6 zf]
def qbeu : IC := zr [zm 9 2, zv 10 (.ld true 3 (.t 3)), zm 11 1, zi 12 (.call (.t 9) [((.t 10), (.agg [.id, .id, (.sl 3)])), ((.t 11), .id)]), zv 13 (.un .not (.t 12))]
def qbf3 : IC := zr [zv 6 zf]
def qbjp : IC := zr [zv 14 (.fad (.t 3) 2), zv 15 (.ld false 1 (.t 14)), zv 16 (.len false (.t 15)), zv 17 (.mov (zc 0))]
def qbd2 : IC := zr [zv 18 (.bin .lss .no (.t 17) (.t 16))]
def qbik : IC := zr [zv 19 (.iad 3 (.t 15) (.t 17)), zv 20 (.ld true 3 (.t 19)), zi 8 (.alo [(.str []), (.int .i64 0), .nils]), zn (.st 3 (.agg [.id, .id, (.sl 3)]) (.t 8) (.t 20))]
def qbc0 : IC := zr [zv 21 (.ld true 3 (.t 8)), zm 22 1, zv 23 (.bin .add .no (.t 22) (zc 1)), zm 24 2, zi 25 (.call (.c (.fn 86 [] [])) [((.t 21), (.agg [.id, .id, (.sl 3)])), ((.t 23), .id), ((.t 24), .id)]), zv 26 (.un .not (.t 25))]
def qbf2 : IC := zr [zv 6 zf]
def qbfi : IC := zr [zv 27 (.bin .add .no (.t 17) (zc 1)), zm 17 27]
def qbgn : IC := (.seq qbd2 (.seq (.cond (.t 18) .skip (.exit 0)) (.seq (.block 1 (.seq qbik (.seq qbc0 (.cond (.t 26) (.seq qbf2 .ret) .skip)))) qbfi)))
def qbcc : IC := zr [zv 6 (.mov (.c (.bool true)))]
def k0g : IC := (.seq qbft (.seq (.seq qbeu (.cond (.t 13) (.seq qbf3 .ret) .skip)) (.seq (.seq qbjp (.block 0 (.loop qbgn))) (.seq qbcc .ret))))
@[go_sem] def s0g : List (RV × Co) := [(.t 6, .id)]
theorem c0g : cFun Try.prog 86 = some (28, k0g, s0g) := by kernel_rfl

def q02 : IC := zr [zi 3 (.box (.t 0)), zv 5 zf]
def q32 : IC := zr [zv 6 (.ld false 1 (.t 2)), zv 7 (.bin .add .no (.t 6) (zc 1)), zn (.st 1 .id (.t 2) (.t 7))]
def qbct : IC := zr [zv 8 (.ld false 1 (.t 2)), zv 9 (.bin .leq .no (.t 8) (zc 4096)), zm 10 9, zw 10 true 11 (.mov (.t 1)), zw 10 true 12 (.bin .leq .no (.t 11) (zc 100)), zv 13 (.pick (.t 10) (.t 12) (.c (.bool false))), zm 14 13, zw 14 true 15 (.ld true 3 (.t 3)), ⟨some (14, true), some 16, .call (.c (.fn 88 [] [])) [((.t 15), (.agg [.id, .id, (.sl 3)]))]⟩, ⟨some (14, true), some 17, .call (.c (.fn 89 [] [])) [((.t 16), .id)]⟩, zv 18 (.pick (.t 14) (.t 17) (.c (.bool false))), zm 5 18]
def k0by : IC := (.seq q02 (.seq q32 (.seq qbct .ret)))
@[go_sem] def s0by : List (RV × Co) := [(.t 5, .id)]
theorem c0by : cFun Try.prog 87 = some (19, k0by, s0by) := by kernel_rfl

def qbix : IC := zr [zi 1 (.box (.t 0)), zi 2 (.alo [(.str []), (.int .i64 0), (.int .i64 0)])]
def qbhv : IC := zr [zv 3 (.fad (.t 1) 0), zv 4 (.ld false 1 (.t 3)), zv 5 (.fad (.t 1) 1), zv 6 (.ld false 1 (.t 5)), zv 7 (.fad (.t 1) 2), zv 8 (.ld false 1 (.t 7)), zv 9 (.len false (.t 8)), zv 10 (.bld [(.str []), (.int .i64 0), (.int .i64 0)] [(0, 1, (.t 4)), (1, 1, (.t 6)), (2, 1, (.t 9))]), zn (.st 3 .id (.t 2) (.t 10))]
def k0a : IC := (.seq qbix (.seq qbhv .ret))
@[go_sem] def s0a : List (RV × Co) := [(.c true 3 2, .id)]
theorem c0a : cFun Try.prog 88 = some (11, k0a, s0a) := by kernel_rfl

def qbe3 : IC := zr [zi 1 (.box (.t 0)), zv 2 zf]
def qbjl : IC := zr [zv 4 (.fad (.t 1) 0), zv 5 (.ld false 1 (.t 4)), zv 6 (.bin .eql .no (.t 5) (.c (.str []))), zm 3 6]
def qbhs : IC := zr [zv 7 (.fad (.t 1) 2), zv 8 (.ld false 1 (.t 7)), zv 9 (.bin .eql .no (.t 8) (zc 0)), zm 2 9]
def qbdz : IC := zr [zv 11 (.fad (.t 1) 0), zv 12 (.ld false 1 (.t 11)), zv 13 (.bin .eql .no (.t 12) (.c (.str [45, 62]))), zm 10 13]
def qbhz : IC := zr [zv 14 (.ld true 3 (.t 1)), zv 15 (.bld [(.str []), (.int .i64 0), (.int .i64 0)] [(0, 1, (.c (.str [45, 62]))), (1, 1, (zc 0)), (2, 1, (zc 2))]), zv 16 (.bin .eql (.cells [.str, (.int .i64), (.int .i64)]) (.t 14) (.t 15)), zm 2 16]
def qbji : IC := zr [zv 18 (.fad (.t 1) 0), zv 19 (.ld false 1 (.t 18)), zi 20 (.call (.c (.fn 119 [] [])) [((.t 19), .id)]), zm 17 20]
def qbig : IC := zr [zv 21 (.ld true 3 (.t 1)), zv 22 (.fad (.t 1) 0), zv 23 (.ld false 1 (.t 22)), zv 24 (.bld [(.str []), (.int .i64 0), (.int .i64 0)] [(0, 1, (.t 23))]), zv 25 (.bin .eql (.cells [.str, (.int .i64), (.int .i64)]) (.t 21) (.t 24)), zm 2 25]
def qbgv : IC := zr [zv 26 (.fad (.t 1) 1), zv 27 (.ld false 1 (.t 26)), zv 28 (.bin .eql .no (.t 27) (zc 0)), zm 29 28, zw 29 true 30 (.fad (.t 1) 0), zw 29 true 31 (.ld false 1 (.t 30)), ⟨some (29, true), some 32, .call (.c (.fn 72 [] [])) [((.t 31), .id)]⟩, zv 33 (.pick (.t 29) (.t 32) (.c (.bool false))), zm 2 33]
def k0f : IC := (.seq qbe3 (.seq (.block 0 (.seq qbjl (.cond (.t 3) (.seq qbhs .ret) (.seq qbdz (.cond (.t 10) (.seq qbhz .ret) (.seq qbji (.cond (.t 17) (.seq qbig .ret) .skip))))))) (.seq qbgv .ret)))
@[go_sem] def s0f : List (RV × Co) := [(.t 2, .id)]
theorem c0f : cFun Try.prog 89 = some (34, k0f, s0f) := by kernel_rfl

def q3a : IC := zr [zi 2 (.alo [(.str []), (.int .i64 0), .nils])]
def qbcp : IC := zr [zm 6 0, zi 7 (.call (.c (.fn 120 [] [])) [((.t 6), .id)]), zm 5 7, zv 8 (.ext (.t 5) 0), zv 9 (.ext (.t 5) 1), zi 3 (.alo [(.str []), (.int .i64 0), .nils]), zn (.st 3 (.agg [.id, .id, (.sl 3)]) (.t 3) (.t 8)), zm 4 9]
def q3z : IC := zr [zv 10 (.ld true 3 (.t 3)), zn (.st 3 (.agg [.id, .id, (.sl 3)]) (.t 2) (.t 10))]
def k0ba : IC := (.seq q3a (.seq qbcp (.seq q3z .ret)))
@[go_sem] def s0ba : List (RV × Co) := [(.c true 3 2, (.agg [.id, .id, (.sl 3)]))]
theorem c0ba : cFun Try.prog 90 = some (11, k0ba, s0ba) := by kernel_rfl

def q0n : IC := zr [zv 2 zf]
def qbbg : IC := zr [zm 3 0, zm 4 0, zi 5 (.call (.c (.fn 92 [] [])) [((.t 3), (.sl 3)), ((.t 4), (.sl 3)), ((.c (.fn 121 [] [])), .id)]), zm 2 5]
def k0bi : IC := (.seq q0n (.seq qbbg .ret))
@[go_sem] def s0bi : List (RV × Co) := [(.t 2, .id)]
theorem c0bi : cFun Try.prog 91 = some (6, k0bi, s0bi) := by kernel_rfl

def qbbj : IC := zr [zv 6 zf]
def q6l : IC := zr [zm 8 0, zv 9 (.len false (.t 8)), zm 10 1, zv 11 (.len false (.t 10)), zv 12 (.bin .neq .no (.t 9) (.t 11))]
def qbbs : IC := zr [zv 6 zf]
def qba4 : IC := zr [zm 13 0, zv 14 (.len false (.t 13)), zv 15 (.mov (zc 0))]
def q80 : IC := zr [zv 16 (.bin .lss .no (.t 15) (.t 14))]
def q86 : IC := zr [zm 17 15, zm 7 17]
def q8w : IC := .drw [zp (zm 18 2), zp (zm 19 0), zp (zm 20 7), zp (zv 21 (.iad 3 (.t 19) (.t 20))), zp (zv 22 (.ld true 3 (.t 21))), zp (zm 23 1), zp (zm 24 7), zp (zv 25 (.iad 3 (.t 23) (.t 24))), zp (zv 26 (.ld true 3 (.t 25))), (zi 27 (.call (.t 18) [((.t 22), (.agg [.id, .id, (.sl 3)])), ((.t 26), (.agg [.id, .id, (.sl 3)]))]), []), zp (zv 28 (.un .not (.t 27)))]
def q3b : IC := zr [zv 6 zf]
def q3x : IC := zr [zv 29 (.bin .add .no (.t 15) (zc 1)), zm 15 29]
def q8f : IC := (.seq q80 (.seq (.cond (.t 16) .skip (.exit 0)) (.seq (.block 1 (.seq q86 (.seq q8w (.cond (.t 28) (.seq q3b .ret) .skip)))) q3x)))
def qxb : IC := zr [zv 6 (.mov (.c (.bool true)))]
def k0bh : IC := (.seq qbbj (.seq (.seq q6l (.cond (.t 12) (.seq qbbs .ret) .skip)) (.seq (.seq qba4 (.block 0 (.loop q8f))) (.seq qxb .ret))))
@[go_sem] def s0bh : List (RV × Co) := [(.t 6, .id)]
theorem c0bh : cFun Try.prog 92 = some (30, k0bh, s0bh) := by kernel_rfl

def qbbw : IC := zr [zi 3 (.box (.t 0)), zi 4 (.box (.t 1)), zv 5 zf]
def q7w : IC := zr [zv 6 (.ld false 1 (.t 2)), zv 7 (.ld true 3 (.t 3)), zv 8 (.ld true 3 (.t 4)), zi 9 (.call (.c (.fn 94 [] [])) [((.t 6), .id), ((.t 7), (.agg [.id, .id, (.sl 3)])), ((.t 8), (.agg [.id, .id, (.sl 3)]))]), zm 5 9]
def k0bk : IC := (.seq qbbw (.seq q7w .ret))
@[go_sem] def s0bk : List (RV × Co) := [(.t 5, .id)]
theorem c0bk : cFun Try.prog 93 = some (10, k0bk, s0bk) := by kernel_rfl

def q11 : IC := zr [zi 3 (.box (.t 0)), zi 4 (.box (.t 1)), zi 5 (.box (.t 2)), zv 6 zf]
def q1i : IC := zr [zv 9 (.fad (.t 4) 0), zv 10 (.ld false 1 (.t 9)), zv 11 (.bin .eql .no (.t 10) (.c (.str [])))]
def qbce : IC := zr [zv 13 (.ld false 1 (.t 3)), zv 14 (.fad (.t 4) 1), zv 15 (.ld false 1 (.t 14)), zi 16 (.call (.c (.fn 37 [] [])) [((.t 13), .id), ((.t 15), .id)]), zm 12 16, zv 17 (.ext (.t 12) 0), zv 18 (.ext (.t 12) 1), zi 7 (.alo [(.str []), (.int .i64 0), .nils]), zn (.st 3 (.agg [.id, .id, (.sl 3)]) (.t 7) (.t 17)), zm 8 18]
def q5t : IC := zr [zm 19 8]
def q1c : IC := zr [zv 20 (.ld true 3 (.t 7)), zv 21 (.ld true 3 (.t 5)), zi 22 (.call (.c (.fn 76 [] [])) [((.t 20), (.agg [.id, .id, (.sl 3)])), ((.t 21), (.agg [.id, .id, (.sl 3)]))]), zm 6 22]
def q79 : IC := zr [zv 23 (.ld false 1 (.t 3)), zv 24 (.fad (.t 4) 1), zv 25 (.ld false 1 (.t 24)), zv 26 (.ld true 3 (.t 5)), zi 27 (.call (.c (.fn 45 [] [])) [((.t 23), .id), ((.t 25), .id), ((.t 26), (.agg [.id, .id, (.sl 3)]))]), zv 28 (.bin .eql .no (.t 27) (zc 0)), zm 6 28]
def qbap : IC := zr [zv 29 (.fad (.t 4) 0), zv 30 (.ld false 1 (.t 29)), zv 31 (.fad (.t 5) 0), zv 32 (.ld false 1 (.t 31)), zv 33 (.bin .eql .no (.t 30) (.t 32)), zm 34 33, zw 34 true 35 (.fad (.t 4) 2), zw 34 true 36 (.ld false 1 (.t 35)), zw 34 true 37 (.fad (.t 5) 2), zw 34 true 38 (.ld false 1 (.t 37)), zw 34 true 39 (.mfn 122 [] [(.t 3)]), ⟨some (34, true), some 40, .call (.c (.fn 92 [] [])) [((.t 36), (.sl 3)), ((.t 38), (.sl 3)), ((.t 39), .id)]⟩, zv 41 (.pick (.t 34) (.t 40) (.c (.bool false))), zm 6 41]
def k0bl : IC := (.seq q11 (.seq (.seq q1i (.cond (.t 11) (.seq qbce (.seq (.seq q5t (.cond (.t 19) (.seq q1c .ret) .skip)) (.seq q79 .ret))) .skip)) (.seq qbap .ret)))
@[go_sem] def s0bl : List (RV × Co) := [(.t 6, .id)]
theorem c0bl : cFun Try.prog 94 = some (42, k0bl, s0bl) := by kernel_rfl

def qbae : IC := zr [zv 2 zf]
def q5c : IC := zr [zv 3 (.mov (zc 0))]
def q82 : IC := zr [zm 4 3, zm 5 0, zv 6 (.len false (.t 5)), zv 7 (.bin .lss .no (.t 4) (.t 6))]
def q92 : IC := zr [zm 10 0, zm 11 3, zv 12 (.iad 3 (.t 10) (.t 11)), zv 13 (.ld true 3 (.t 12)), zi 14 (.call (.c (.fn 79 [] [])) [((.t 13), (.agg [.id, .id, (.sl 3)]))]), zv 15 (.un .not (.t 14))]
def qba3 : IC := zr [zv 2 zf]
def q7f : IC := zr [zm 8 3, zv 9 (.bin .add .no (.t 8) (zc 1)), zm 3 9]
def qbcg : IC := (.seq (.seq q82 (.cond (.t 7) .skip (.exit 0))) (.seq (.block 1 (.seq q92 (.cond (.t 15) (.seq qba3 .ret) .skip))) q7f))
def q1n : IC := zr [zv 2 (.mov (.c (.bool true)))]
def k0ct : IC := (.seq qbae (.seq (.seq q5c (.block 0 (.loop qbcg))) (.seq q1n .ret)))
@[go_sem] def s0ct : List (RV × Co) := [(.t 2, .id)]
theorem c0ct : cFun Try.prog 95 = some (16, k0ct, s0ct) := by kernel_rfl

def q0v : IC := zr [zi 4 (.box (.t 1)), zi 5 (.box (.t 2)), zv 6 (.mov (.c .nils)), zv 7 (.mov (zc 0))]
def q4b : IC := zr [zv 13 (.fad (.t 4) 0), zv 14 (.ld false 1 (.t 13)), zv 15 (.bin .eql .no (.t 14) (.c (.str [])))]
def q0y : IC := zr [zm 17 0, zv 18 (.fad (.t 4) 1), zv 19 (.ld false 1 (.t 18)), zi 20 (.call (.c (.fn 38 [] [])) [((.t 17), (.sl 4)), ((.t 19), .id)]), zm 16 20, zv 21 (.ext (.t 16) 0), zv 22 (.ext (.t 16) 1), zi 8 (.alo [(.str []), (.int .i64 0), .nils]), zn (.st 3 (.agg [.id, .id, (.sl 3)]) (.t 8) (.t 21)), zm 9 22]
def q90 : IC := zr [zm 23 9]
def q21 : IC := zr [zv 24 (.ld true 3 (.t 8)), zv 25 (.ld true 3 (.t 5)), zi 26 (.call (.c (.fn 39 [] [])) [((.t 24), (.agg [.id, .id, (.sl 3)])), ((.t 25), (.agg [.id, .id, (.sl 3)]))]), zv 27 (.un .not (.t 26))]
def q2e : IC := zr [zv 6 (.mov (.c .nils)), zv 7 (.mov (zc 14))]
def qbbc : IC := zr [zm 28 0, zm 6 28, zv 7 (.mov (zc 0))]
def q6h : IC := zr [zm 29 0, zv 30 (.fad (.t 4) 1), zv 31 (.ld false 1 (.t 30)), zv 32 (.ld true 3 (.t 5)), zi 33 (.call (.c (.fn 44 [] [])) [((.t 29), (.sl 4)), ((.t 31), .id), ((.t 32), (.agg [.id, .id, (.sl 3)]))]), zv 34 (.ext (.t 33) 0), zv 35 (.ext (.t 33) 1), zm 6 34, zm 7 35]
def qbab : IC := zr [zv 36 (.fad (.t 4) 0), zv 37 (.ld false 1 (.t 36)), zv 38 (.fad (.t 5) 0), zv 39 (.ld false 1 (.t 38)), zv 40 (.bin .neq .no (.t 37) (.t 39)), zm 41 40, zw 41 false 42 (.fad (.t 4) 2), zw 41 false 43 (.ld false 1 (.t 42)), zw 41 false 44 (.len false (.t 43)), zw 41 false 45 (.fad (.t 5) 2), zw 41 false 46 (.ld false 1 (.t 45)), zw 41 false 47 (.len false (.t 46)), zw 41 false 48 (.bin .neq .no (.t 44) (.t 47)), zv 49 (.pick (.t 41) (.c (.bool true)) (.t 48))]
def q2j : IC := zr [zv 6 (.mov (.c .nils)), zv 7 (.mov (zc 14))]
def qwp : IC := zr [zv 10 (.mov (zc 0))]
def qy6 : IC := zr [zm 50 10, zv 51 (.fad (.t 4) 2), zv 52 (.ld false 1 (.t 51)), zv 53 (.len false (.t 52)), zv 54 (.bin .lss .no (.t 50) (.t 53))]
def qya : IC := .drw [zp (zm 58 0), zp (zv 59 (.fad (.t 4) 2)), zp (zv 60 (.ld false 1 (.t 59))), zp (zm 61 10), zp (zv 62 (.iad 3 (.t 60) (.t 61))), zp (zv 63 (.ld true 3 (.t 62))), zp (zv 64 (.fad (.t 5) 2)), zp (zv 65 (.ld false 1 (.t 64))), zp (zm 66 10), zp (zv 67 (.iad 3 (.t 65) (.t 66))), zp (zv 68 (.ld true 3 (.t 67))), (zi 69 (.call (.c (.fn 96 [] [])) [((.t 58), (.sl 4)), ((.t 63), (.agg [.id, .id, (.sl 3)])), ((.t 68), (.agg [.id, .id, (.sl 3)]))]), []), zp (zm 57 69), zp (zv 70 (.ext (.t 57) 0)), zp (zv 71 (.ext (.t 57) 1)), zp (zm 11 70), zp (zm 12 71)]
def qvw : IC := zr [zm 72 12, zv 73 (.bin .neq .no (.t 72) (zc 0))]
def qwo : IC := zr [zm 74 12, zv 6 (.mov (.c .nils)), zm 7 74]
def qw7 : IC := zr [zm 75 11, zm 0 75]
def qxn : IC := zr [zm 55 10, zv 56 (.bin .add .no (.t 55) (zc 1)), zm 10 56]
def qyh : IC := (.seq (.seq qy6 (.cond (.t 54) .skip (.exit 0))) (.seq (.block 1 (.seq qya (.seq (.seq qvw (.cond (.t 73) (.seq qwo .ret) .skip)) qw7))) qxn))
def qwc : IC := zr [zm 76 0, zm 6 76, zv 7 (.mov (zc 0))]
def k0cs : IC := (.seq q0v (.seq (.seq q4b (.cond (.t 15) (.seq q0y (.seq (.seq q90 (.cond (.t 23) (.seq (.seq q21 (.cond (.t 27) (.seq q2e .ret) .skip)) (.seq qbbc .ret)) .skip)) (.seq q6h .ret))) .skip)) (.seq (.seq qbab (.cond (.t 49) (.seq q2j .ret) .skip)) (.seq (.seq qwp (.block 0 (.loop qyh))) (.seq qwc .ret)))))
@[go_sem] def s0cs : List (RV × Co) := [(.t 6, (.sl 4)), (.t 7, .id)]
theorem c0cs : cFun Try.prog 96 = some (77, k0cs, s0cs) := by kernel_rfl

def qbfm : IC := zr [zv 2 zf]
def qbei : IC := zr [zm 3 0, zv 4 (.bin .geq .no (.t 3) (.c (.int .u8 65))), zm 5 4, zw 5 true 6 (.mov (.t 0)), zw 5 true 7 (.bin .leq .no (.t 6) (.c (.int .u8 90))), zv 8 (.pick (.t 5) (.t 7) (.c (.bool false))), zm 2 8]
def k0n : IC := (.seq qbfm (.seq qbei .ret))
@[go_sem] def s0n : List (RV × Co) := [(.t 2, .id)]
theorem c0n : cFun Try.prog 106 = some (9, k0n, s0n) := by kernel_rfl

def qbgk : IC := zr [zv 2 zf]
def qbej : IC := zr [zm 5 0, zv 6 (.len true (.t 5)), zv 7 (.mov (zc 0))]
def qbe6 : IC := zr [zv 8 (.bin .lss .no (.t 7) (.t 6))]
def qbdp : IC := zr [zm 9 7, zm 3 9]
def qbf7 : IC := zr [zm 10 0, zm 11 3, zv 12 (.idx (.t 10) (.t 11)), zm 4 12]
def qbdd : IC := zr [zm 13 4, zi 14 (.call (.c (.fn 128 [] [])) [((.t 13), .id)]), zv 15 (.un .not (.t 14)), zm 16 15, zw 16 true 17 (.mov (.t 4)), ⟨some (16, true), some 18, .call (.c (.fn 106 [] [])) [((.t 17), .id)]⟩, zw 16 true 19 (.un .not (.t 18)), zv 20 (.pick (.t 16) (.t 19) (.c (.bool false))), zm 21 20, zw 21 true 22 (.mov (.t 4)), zw 21 true 23 (.bin .lss .no (.t 22) (.c (.int .u8 48))), zw 21 true 24 (.mov (.t 23)), zw 24 false 25 (.mov (.t 4)), zw 24 false 26 (.bin .gtr .no (.t 25) (.c (.int .u8 57))), zw 21 true 27 (.pick (.t 24) (.c (.bool true)) (.t 26)), zv 28 (.pick (.t 21) (.t 27) (.c (.bool false))), zm 29 28, zw 29 true 30 (.mov (.t 4)), zw 29 true 31 (.bin .neq .no (.t 30) (.c (.int .u8 39))), zv 32 (.pick (.t 29) (.t 31) (.c (.bool false)))]
def qbic : IC := zr [zv 2 zf]
def qbfq : IC := zr [zv 33 (.bin .add .no (.t 7) (zc 1)), zm 7 33]
def qbhi : IC := (.seq qbe6 (.seq (.cond (.t 8) .skip (.exit 0)) (.seq (.block 1 (.seq qbdp (.seq qbf7 (.seq qbdd (.cond (.t 32) (.seq qbic .ret) .skip))))) qbfq)))
def q3e : IC := zr [zv 2 (.mov (.c (.bool true)))]
def k0r : IC := (.seq qbgk (.seq (.seq qbej (.block 0 (.loop qbhi))) (.seq q3e .ret)))
@[go_sem] def s0r : List (RV × Co) := [(.t 2, .id)]
theorem c0r : cFun Try.prog 107 = some (34, k0r, s0r) := by kernel_rfl

def q3m : IC := zr [zi 1 (.box (.t 0)), zv 2 (.mov (.c (.str [])))]
def q5b : IC := zr [zv 6 (.fad (.t 1) 0), zv 7 (.ld false 1 (.t 6)), zv 8 (.bin .eql .no (.t 7) (.c (.str [45, 62])))]
def q34 : IC := .drw [zp (zv 9 (.fad (.t 1) 2)), zp (zv 10 (.ld false 1 (.t 9))), zp (zv 11 (.iad 3 (.t 10) (zc 0))), zp (zv 12 (.ld true 3 (.t 11))), zp (zv 13 (.fad (.t 1) 2)), zp (zv 14 (.ld false 1 (.t 13))), zp (zv 15 (.iad 3 (.t 14) (zc 0))), zp (zv 16 (.fad (.t 15) 0)), zp (zv 17 (.ld false 1 (.t 16))), (zv 18 (.bin .eql .no (.t 17) (.c (.str [45, 62]))), []), (zi 19 (.call (.c (.fn 129 [] [])) [((.t 12), (.agg [.id, .id, (.sl 3)])), ((.t 18), .id)]), []), (zv 20 (.bin .add .no (.t 19) (.c (.str [32, 45, 62, 32]))), []), zp (zv 21 (.fad (.t 1) 2)), (zv 22 (.ld false 1 (.t 21)), [10]), zp (zv 23 (.iad 3 (.t 22) (zc 1))), (zv 24 (.ld true 3 (.t 23)), [10]), (zi 25 (.call (.c (.fn 109 [] [])) [((.t 24), (.agg [.id, .id, (.sl 3)]))]), []), zp (zv 26 (.bin .add .no (.t 20) (.t 25))), zp (zm 2 26)]
def q9h : IC := zr [zi 3 (.bld 125 5)]
def qba9 : IC := zr [zv 27 (.ld true 3 (.t 1)), zi 28 (.call (.c (.fn 88 [] [])) [((.t 27), (.agg [.id, .id, (.sl 3)]))]), zi 29 (.call (.c (.fn 130 [] [])) [((.t 28), .id)]), zi 30 (.call (.c (.fn 102 [] [])) [((.t 3), (.agg [.id, (.sl 1)])), ((.t 29), .id)])]
def q4h : IC := zr [zv 31 (.fad (.t 1) 2), zv 32 (.ld false 1 (.t 31)), zv 33 (.len false (.t 32)), zv 34 (.mov (zc 0))]
def q3u : IC := zr [zv 35 (.bin .lss .no (.t 34) (.t 33))]
def q1d : IC := zr [zv 36 (.iad 3 (.t 32) (.t 34)), zv 37 (.ld true 3 (.t 36)), zi 5 (.alo [(.str []), (.int .i64 0), .nils]), zn (.st 3 (.agg [.id, .id, (.sl 3)]) (.t 5) (.t 37))]
def q5z : IC := zr [zv 38 (.ld true 3 (.t 5)), zv 39 (.fad (.t 5) 2), zv 40 (.ld false 1 (.t 39)), zv 41 (.len false (.t 40)), zv 42 (.bin .gtr .no (.t 41) (zc 0)), zi 43 (.call (.c (.fn 129 [] [])) [((.t 38), (.agg [.id, .id, (.sl 3)])), ((.t 42), .id)]), zv 44 (.bin .add .no (.c (.str [32])) (.t 43)), zi 45 (.call (.c (.fn 102 [] [])) [((.t 3), (.agg [.id, (.sl 1)])), ((.t 44), .id)])]
def qxl : IC := zr [zv 46 (.bin .add .no (.t 34) (zc 1)), zm 34 46]
def q3c : IC := (.seq q3u (.seq (.cond (.t 35) .skip (.exit 0)) (.seq (.block 1 (.seq q1d q5z)) qxl)))
def qwa : IC := zr [zi 47 (.call (.c (.fn 103 [] [])) [((.t 3), (.agg [.id, (.sl 1)]))]), zm 2 47]
def k0bw : IC := (.seq q3m (.seq (.seq q5b (.cond (.t 8) (.seq q34 .ret) .skip)) (.seq q9h (.seq qba9 (.seq (.seq q4h (.block 0 (.loop q3c))) (.seq qwa .ret))))))
@[go_sem] def s0bw : List (RV × Co) := [(.t 2, .id)]
theorem c0bw : cFun Try.prog 109 = some (48, k0bw, s0bw) := by kernel_rfl

def q9r : IC := zr [zi 1 (.box (.t 0)), zv 2 (.mov (zc 0))]
def qbbm : IC := zr [zv 3 (.mov (zc 1))]
def q7a : IC := zr [zv 4 (.mov (zc 0))]
def q7t : IC := zr [zm 5 4, zv 6 (.fad (.t 1) 2), zv 7 (.ld false 1 (.t 6)), zv 8 (.len false (.t 7)), zv 9 (.bin .lss .no (.t 5) (.t 8))]
def q37 : IC := zr [zm 12 3, zv 13 (.fad (.t 1) 2), zv 14 (.ld false 1 (.t 13)), zm 15 4, zv 16 (.iad 3 (.t 14) (.t 15)), zv 17 (.ld true 3 (.t 16)), zi 18 (.call (.c (.fn 112 [] [])) [((.t 17), (.agg [.id, .id, (.sl 3)]))]), zv 19 (.bin .add .no (.t 12) (.t 18)), zm 3 19]
def qbcq : IC := zr [zm 10 4, zv 11 (.bin .add .no (.t 10) (zc 1)), zm 4 11]
def q1p : IC := (.seq (.seq q7t (.cond (.t 9) .skip (.exit 0))) (.seq (.block 1 q37) qbcq))
def q4w : IC := zr [zm 20 3, zm 2 20]
def k0ca : IC := (.seq q9r (.seq qbbm (.seq (.seq q7a (.block 0 (.loop q1p))) (.seq q4w .ret))))
@[go_sem] def s0ca : List (RV × Co) := [(.t 2, .id)]
theorem c0ca : cFun Try.prog 112 = some (21, k0ca, s0ca) := by kernel_rfl

def q9b : IC := zr [zi 1 (.box (.t 0)), zv 2 (.mov (zc 0))]
def q9t : IC := zr [zv 3 (.mov (zc 0))]
def q1e : IC := zr [zv 4 (.mov (zc 0))]
def q7m : IC := zr [zm 5 4, zv 6 (.fad (.t 1) 2), zv 7 (.ld false 1 (.t 6)), zv 8 (.len false (.t 7)), zv 9 (.bin .lss .no (.t 5) (.t 8))]
def q1r : IC := zr [zm 12 3, zv 13 (.fad (.t 1) 2), zv 14 (.ld false 1 (.t 13)), zm 15 4, zv 16 (.iad 3 (.t 14) (.t 15)), zv 17 (.ld true 3 (.t 16)), zi 18 (.call (.c (.fn 113 [] [])) [((.t 17), (.agg [.id, .id, (.sl 3)]))]), zv 19 (.mm true (.t 12) (.t 18)), zm 3 19]
def qbad : IC := zr [zm 10 4, zv 11 (.bin .add .no (.t 10) (zc 1)), zm 4 11]
def qbcb : IC := (.seq (.seq q7m (.cond (.t 9) .skip (.exit 0))) (.seq (.block 1 q1r) qbad))
def q3y : IC := zr [zm 20 3, zv 21 (.bin .add .no (.t 20) (zc 1)), zm 2 21]
def k0cb : IC := (.seq q9b (.seq q9t (.seq (.seq q1e (.block 0 (.loop qbcb))) (.seq q3y .ret))))
@[go_sem] def s0cb : List (RV × Co) := [(.t 2, .id)]
theorem c0cb : cFun Try.prog 113 = some (22, k0cb, s0cb) := by kernel_rfl

def q45 : IC := zr [zi 1 (.box (.t 0)), zv 2 zf]
def q97 : IC := zr [zv 3 (.mov (zc 0))]
def q6k : IC := zr [zm 5 3, zv 6 (.fad (.t 1) 2), zv 7 (.ld false 1 (.t 6)), zv 8 (.len false (.t 7)), zv 9 (.bin .lss .no (.t 5) (.t 8))]
def qbay : IC := zr [zv 12 (.fad (.t 1) 2), zv 13 (.ld false 1 (.t 12)), zm 14 3, zv 15 (.iad 3 (.t 13) (.t 14)), zv 16 (.ld true 3 (.t 15)), zi 17 (.call (.c (.fn 114 [] [])) [((.t 16), (.agg [.id, .id, (.sl 3)]))]), zv 18 (.un .not (.t 17))]
def q15 : IC := zr [zv 2 zf]
def q0o : IC := zr [zm 10 3, zv 11 (.bin .add .no (.t 10) (zc 1)), zm 3 11]
def qbaj : IC := (.seq (.seq q6k (.cond (.t 9) .skip (.exit 0))) (.seq (.block 1 (.seq qbay (.cond (.t 18) (.seq q15 .ret) .skip))) q0o))
def q7b : IC := zr [zv 19 (.fad (.t 1) 2), zv 20 (.ld false 1 (.t 19)), zv 21 (.len false (.t 20)), zm 4 21]
def q2m : IC := zr [zv 23 (.fad (.t 1) 0), zv 24 (.ld false 1 (.t 23)), zv 25 (.bin .eql .no (.t 24) (.c (.str []))), zm 22 25]
def qv3 : IC := zr [zm 26 4, zv 27 (.bin .eql .no (.t 26) (zc 0)), zm 2 27]
def qw1 : IC := zr [zv 29 (.fad (.t 1) 0), zv 30 (.ld false 1 (.t 29)), zv 31 (.bin .eql .no (.t 30) (.c (.str [45, 62]))), zm 28 31]
def qyu : IC := zr [zm 32 4, zv 33 (.bin .eql .no (.t 32) (zc 2)), zm 34 33, zw 34 true 35 (.fad (.t 1) 1), zw 34 true 36 (.ld false 1 (.t 35)), zw 34 true 37 (.bin .eql .no (.t 36) (zc 0)), zv 38 (.pick (.t 34) (.t 37) (.c (.bool false))), zm 2 38]
def qyl : IC := zr [zv 40 (.fad (.t 1) 0), zv 41 (.ld false 1 (.t 40)), zi 42 (.call (.c (.fn 133 [] [])) [((.t 41), .id)]), zm 39 42]
def qwh : IC := zr [zm 43 4, zv 44 (.bin .eql .no (.t 43) (zc 0)), zm 45 44, zw 45 true 46 (.fad (.t 1) 1), zw 45 true 47 (.ld false 1 (.t 46)), zw 45 true 48 (.bin .eql .no (.t 47) (zc 0)), zv 49 (.pick (.t 45) (.t 48) (.c (.bool false))), zm 2 49]
def qxz : IC := zr [zv 50 (.fad (.t 1) 0), zv 51 (.ld false 1 (.t 50)), zi 52 (.call (.c (.fn 125 [] [])) [((.t 51), .id)]), zm 53 52, zw 53 true 54 (.fad (.t 1) 1), zw 53 true 55 (.ld false 1 (.t 54)), zw 53 true 56 (.bin .eql .no (.t 55) (zc 0)), zv 57 (.pick (.t 53) (.t 56) (.c (.bool false))), zm 2 57]
def k0cc : IC := (.seq q45 (.seq (.seq q97 (.block 0 (.loop qbaj))) (.seq q7b (.seq (.block 2 (.seq q2m (.cond (.t 22) (.seq qv3 .ret) (.seq qw1 (.cond (.t 28) (.seq qyu .ret) (.seq qyl (.cond (.t 39) (.seq qwh .ret) .skip))))))) (.seq qxz .ret)))))
@[go_sem] def s0cc : List (RV × Co) := [(.t 2, .id)]
theorem c0cc : cFun Try.prog 114 = some (58, k0cc, s0cc) := by kernel_rfl

def q9a : IC := zr [zv 6 (.mov (zc 0)), zv 7 zf]
def q72 : IC := zr [zm 12 0, zv 13 (.len false (.t 12)), zm 8 13]
def q3d : IC := zr [zm 14 8, zv 9 (.mov (zc 0)), zm 10 14]
def q7l : IC := zr [zm 15 9, zm 16 10, zv 17 (.bin .lss .no (.t 15) (.t 16))]
def q8c : IC := zr [zm 18 9, zm 19 10, zv 20 (.bin .add .no (.t 18) (.t 19)), zv 21 (.cvi .u64 (.t 20)), zv 22 (.bin .shr .no (.t 21) (.c (.int .u64 1))), zv 23 (.cvi .i64 (.t 22)), zm 11 23]
def q7i : IC := zr [zm 24 2, zm 25 0, zm 26 11, zv 27 (.iad 4 (.t 25) (.t 26)), zv 28 (.ld true 4 (.t 27)), zm 29 1, zi 30 (.call (.t 24) [((.t 28), (.agg [.id, .id, .id, (.sl 3)])), ((.t 29), .id)]), zv 31 (.bin .lss .no (.t 30) (zc 0))]
def qbbu : IC := zr [zm 32 11, zv 33 (.bin .add .no (.t 32) (zc 1)), zm 9 33]
def q0x : IC := zr [zm 34 11, zm 10 34]
def q8g : IC := (.seq (.seq q7l (.cond (.t 17) .skip (.exit 0))) (.block 1 (.seq q8c (.seq q7i (.cond (.t 31) qbbu q0x)))))
def qzl : IC := zr [zm 35 9, zm 36 9, zm 37 8, zv 38 (.bin .lss .no (.t 36) (.t 37)), zm 39 38, zw 39 true 40 (.mov (.t 2)), zw 39 true 41 (.mov (.t 0)), zw 39 true 42 (.mov (.t 9)), zw 39 true 43 (.iad 4 (.t 41) (.t 42)), zw 39 true 44 (.ld true 4 (.t 43)), zw 39 true 45 (.mov (.t 1)), ⟨some (39, true), some 46, .call (.t 40) [((.t 44), (.agg [.id, .id, .id, (.sl 3)])), ((.t 45), .id)]⟩, zw 39 true 47 (.bin .eql .no (.t 46) (zc 0)), zv 48 (.pick (.t 39) (.t 47) (.c (.bool false))), zm 6 35, zm 7 48]
def k0bo : IC := (.seq q9a (.seq q72 (.seq q3d (.seq (.block 0 (.loop q8g)) (.seq qzl .ret)))))
@[go_sem] def s0bo : List (RV × Co) := [(.t 6, .id), (.t 7, .id)]
theorem c0bo : cFun Try.prog 115 = some (49, k0bo, s0bo) := by kernel_rfl

def q9n : IC := zr [zi 2 (.box (.t 0)), zv 4 (.mov (zc 0))]
def q99 : IC := zr [zv 6 (.fad (.t 2) 0), zv 7 (.ld false 1 (.t 6)), zm 8 1, zv 9 (.bin .lss .no (.t 7) (.t 8)), zm 5 9]
def q1w : IC := zr [zv 4 (.mov (zc (-1)))]
def q6o : IC := zr [zv 11 (.fad (.t 2) 0), zv 12 (.ld false 1 (.t 11)), zm 13 1, zv 14 (.bin .gtr .no (.t 12) (.t 13)), zm 10 14]
def qbb9 : IC := zr [zv 4 (.mov (zc 1))]
def q24 : IC := zr [zv 4 (.mov (zc 0))]
def k0bq : IC := (.seq q9n (.seq (.block 0 (.seq q99 (.cond (.t 5) (.seq q1w .ret) (.seq q6o (.cond (.t 10) (.seq qbb9 .ret) .skip))))) (.seq q24 .ret)))
@[go_sem] def s0bq : List (RV × Co) := [(.t 4, .id)]
theorem c0bq : cFun Try.prog 116 = some (15, k0bq, s0bq) := by kernel_rfl

def qbd4 : IC := zr [zv 2 zf]
def qbjo : IC := zr [zm 5 0, zi 6 (.call (.c (.fn 135 [] [])) [((.t 5), .id), ((.c (.str [33])), .id)]), zv 7 (.un .not (.t 6))]
def qbh7 : IC := zr [zv 2 zf]
def qbec : IC := zr [zm 9 0, zv 10 (.sls (.t 9) (some (zc 1)) none), zi 11 (.call (.c (.fn 136 [] [])) [((.t 10), .id)]), zm 8 11, zv 12 (.ext (.t 8) 0), zv 13 (.ext (.t 8) 1), zm 3 12, zm 4 13]
def qbim : IC := .drw [zp (zm 14 4), zp (zv 15 (.bin .eql .no (.t 14) (zc 0))), zp (zm 16 15), zp (zw 16 true 17 (.mov (.t 3))), (⟨some (16, true), some 18, .call (.c (.fn 137 [] [])) [((.t 17), .id)]⟩, []), zp (zw 16 true 19 (.mov (.t 0))), zp (zw 16 true 20 (.sls (.t 19) (some (zc 1)) none)), zp (zw 16 true 21 (.bin .eql .no (.t 18) (.t 20))), zp (zv 22 (.pick (.t 16) (.t 21) (.c (.bool false)))), zp (zm 2 22)]
def k0d : IC := (.seq qbd4 (.seq (.seq qbjo (.cond (.t 7) (.seq qbh7 .ret) .skip)) (.seq qbec (.seq qbim .ret))))
@[go_sem] def s0d : List (RV × Co) := [(.t 2, .id)]
theorem c0d : cFun Try.prog 119 = some (23, k0d, s0d) := by kernel_rfl

def q0m : IC := zr [zi 2 (.alo [(.str []), (.int .i64 0), .nils]), zv 3 (.mov (zc 0))]
def q62 : IC := zr [zm 6 0, zv 7 (.bld [(.str []), (.int .i64 0), (.bool false)] [(0, 1, (.t 6))]), zi 8 (.box (.t 7)), zm 4 8]
def qbbq : IC := zr [zm 9 4, zi 10 (.call (.c (.fn 138 [] [])) [((.t 9), .id)]), zi 5 (.alo [(.str []), (.int .i64 0), .nils]), zn (.st 3 (.agg [.id, .id, (.sl 3)]) (.t 5) (.t 10))]
def qbau : IC := zr [zm 11 4, zv 12 (.nck (.t 11)), zv 13 (.fad (.t 12) 2), zv 14 (.ld false 1 (.t 13)), zm 15 14, zw 15 false 16 (.mov (.t 4)), zw 15 false 17 (.nck (.t 16)), zw 15 false 18 (.fad (.t 17) 0), zw 15 false 19 (.ld false 1 (.t 18)), zw 15 false 20 (.bin .neq .no (.t 19) (.c (.str []))), zv 21 (.pick (.t 15) (.c (.bool true)) (.t 20)), zm 22 21, zw 22 false 23 (.ld true 3 (.t 5)), ⟨some (22, false), some 24, .call (.c (.fn 75 [] [])) [((.t 23), (.agg [.id, .id, (.sl 3)]))]⟩, zw 22 false 25 (.mov (.t 0)), zw 22 false 26 (.bin .neq .no (.t 24) (.t 25)), zv 27 (.pick (.t 22) (.c (.bool true)) (.t 26))]
def q5g : IC := zr [zv 28 (.bld [(.str []), (.int .i64 0), .nils] []), zn (.st 3 (.agg [.id, .id, (.sl 3)]) (.t 2) (.t 28)), zv 3 (.mov (zc 5))]
def qbb5 : IC := zr [zv 29 (.ld true 3 (.t 5)), zn (.st 3 (.agg [.id, .id, (.sl 3)]) (.t 2) (.t 29)), zv 3 (.mov (zc 0))]
def k0cw : IC := (.seq q0m (.seq q62 (.seq qbbq (.seq (.seq qbau (.cond (.t 27) (.seq q5g .ret) .skip)) (.seq qbb5 .ret)))))
@[go_sem] def s0cw : List (RV × Co) := [(.c true 3 2, (.agg [.id, .id, (.sl 3)])), (.t 3, .id)]
theorem c0cw : cFun Try.prog 120 = some (30, k0cw, s0cw) := by kernel_rfl

def qbbx : IC := zr [zi 2 (.box (.t 0)), zi 3 (.box (.t 1)), zv 4 zf]
def q6a : IC := zr [zv 5 (.ld true 3 (.t 2)), zi 6 (.call (.c (.fn 48 [] [])) [((.t 5), (.agg [.id, .id, (.sl 3)]))]), zm 4 6]
def k0bg : IC := (.seq qbbx (.seq q6a .ret))
@[go_sem] def s0bg : List (RV × Co) := [(.t 4, .id)]
theorem c0bg : cFun Try.prog 121 = some (7, k0bg, s0bg) := by kernel_rfl

def qbbr : IC := zr [zi 3 (.box (.t 0)), zi 4 (.box (.t 1)), zv 5 zf]
def q7k : IC := zr [zv 6 (.ld false 1 (.t 2)), zv 7 (.ld true 3 (.t 3)), zv 8 (.ld true 3 (.t 4)), zi 9 (.call (.c (.fn 94 [] [])) [((.t 6), .id), ((.t 7), (.agg [.id, .id, (.sl 3)])), ((.t 8), (.agg [.id, .id, (.sl 3)]))]), zm 5 9]
def k0bj : IC := (.seq qbbr (.seq q7k .ret))
@[go_sem] def s0bj : List (RV × Co) := [(.t 5, .id)]
theorem c0bj : cFun Try.prog 122 = some (10, k0bj, s0bj) := by kernel_rfl

def qbjn : IC := zr [zv 2 zf]
def qbg6 : IC := zr [zm 3 0, zv 4 (.bin .neq .no (.t 3) (.c (.str []))), zm 5 4, zw 5 true 6 (.mov (.t 0)), zw 5 true 7 (.idx (.t 6) (zc 0)), ⟨some (5, true), some 8, .call (.c (.fn 141 [] [])) [((.t 7), .id)]⟩, zv 9 (.pick (.t 5) (.t 8) (.c (.bool false))), zm 10 9, zw 10 true 11 (.mov (.t 0)), ⟨some (10, true), some 12, .call (.c (.fn 142 [] [])) [((.t 11), .id)]⟩, zv 13 (.pick (.t 10) (.t 12) (.c (.bool false))), zm 2 13]
def k0u : IC := (.seq qbjn (.seq qbg6 .ret))
@[go_sem] def s0u : List (RV × Co) := [(.t 2, .id)]
theorem c0u : cFun Try.prog 125 = some (14, k0u, s0u) := by kernel_rfl

def qbc5 : IC := zr [zv 2 (.mov (.c (.str [])))]
def qbd1 : IC := zr [zm 5 0, zi 6 (.call (.c (.fn 143 [] [])) [((.t 5), .id)]), zm 3 6]
def qbe0 : IC := zr [zv 4 (.mov (.c (.str [])))]
def qber : IC := zr [zm 7 3, zv 8 (.bin .gtr .no (.t 7) (.c (.int .u64 9)))]
def qbdb : IC := zr [zm 9 3, zv 10 (.bin .rem .no (.t 9) (.c (.int .u64 10))), zv 11 (.bin .add .no (.c (.int .u64 48)) (.t 10)), zv 12 (.cvi .u8 (.t 11)), zv 13 (.bsl 1 [((.t 12), .id)]), zv 14 (.cbs (.t 13)), zm 15 4, zv 16 (.bin .add .no (.t 14) (.t 15)), zm 4 16]
def qbgp : IC := zr [zm 17 3, zv 18 (.bin .quo .no (.t 17) (.c (.int .u64 10))), zm 3 18]
def qbgm : IC := (.seq (.seq qber (.cond (.t 8) .skip (.exit 0))) (.block 1 (.seq qbdb qbgp)))
def qbdr : IC := zr [zm 19 3, zv 20 (.bin .add .no (.c (.int .u64 48)) (.t 19)), zv 21 (.cvi .u8 (.t 20)), zv 22 (.bsl 1 [((.t 21), .id)]), zv 23 (.cbs (.t 22)), zm 24 4, zv 25 (.bin .add .no (.t 23) (.t 24)), zm 4 25]
def qbin : IC := zr [zm 26 0, zv 27 (.bin .lss .no (.t 26) (zc 0))]
def q3o : IC := zr [zm 28 4, zv 29 (.bin .add .no (.c (.str [45])) (.t 28)), zm 2 29]
def q0q : IC := zr [zm 30 4, zm 2 30]
def k0w : IC := (.seq qbc5 (.seq qbd1 (.seq qbe0 (.seq (.block 0 (.loop qbgm)) (.seq qbdr (.seq (.seq qbin (.cond (.t 27) (.seq q3o .ret) .skip)) (.seq q0q .ret)))))))
@[go_sem] def s0w : List (RV × Co) := [(.t 2, .id)]
theorem c0w : cFun Try.prog 127 = some (31, k0w, s0w) := by kernel_rfl

def qbi3 : IC := zr [zv 2 zf]
def qbi7 : IC := zr [zm 3 0, zv 4 (.bin .geq .no (.t 3) (.c (.int .u8 97))), zm 5 4, zw 5 true 6 (.mov (.t 0)), zw 5 true 7 (.bin .leq .no (.t 6) (.c (.int .u8 122))), zv 8 (.pick (.t 5) (.t 7) (.c (.bool false))), zm 9 8, zw 9 false 10 (.mov (.t 0)), zw 9 false 11 (.bin .eql .no (.t 10) (.c (.int .u8 95))), zv 12 (.pick (.t 9) (.c (.bool true)) (.t 11)), zm 2 12]
def k0l : IC := (.seq qbi3 (.seq qbi7 .ret))
@[go_sem] def s0l : List (RV × Co) := [(.t 2, .id)]
theorem c0l : cFun Try.prog 128 = some (13, k0l, s0l) := by kernel_rfl

def q35 : IC := zr [zi 2 (.box (.t 0)), zv 4 (.mov (.c (.str [])))]
def q55 : IC := zr [zm 5 1]
def q4i : IC := zr [zv 6 (.ld true 3 (.t 2)), zi 7 (.call (.c (.fn 109 [] [])) [((.t 6), (.agg [.id, .id, (.sl 3)]))]), zv 8 (.bin .add .no (.c (.str [40])) (.t 7)), zv 9 (.bin .add .no (.t 8) (.c (.str [41]))), zm 4 9]
def qbcn : IC := zr [zv 10 (.ld true 3 (.t 2)), zi 11 (.call (.c (.fn 109 [] [])) [((.t 10), (.agg [.id, .id, (.sl 3)]))]), zm 4 11]
def k0bv : IC := (.seq q35 (.seq (.seq q55 (.cond (.t 5) (.seq q4i .ret) .skip)) (.seq qbcn .ret)))
@[go_sem] def s0bv : List (RV × Co) := [(.t 4, .id)]
theorem c0bv : cFun Try.prog 129 = some (12, k0bv, s0bv) := by kernel_rfl

def qbaq : IC := zr [zi 1 (.box (.t 0)), zv 2 (.mov (.c (.str [])))]
def qbcd : IC := zr [zv 4 (.fad (.t 1) 0), zv 5 (.ld false 1 (.t 4)), zv 6 (.bin .neq .no (.t 5) (.c (.str []))), zm 3 6]
def qbb7 : IC := zr [zv 7 (.fad (.t 1) 0), zv 8 (.ld false 1 (.t 7)), zm 2 8]
def q3i : IC := zr [zv 10 (.fad (.t 1) 1), zv 11 (.ld false 1 (.t 10)), zv 12 (.bin .geq .no (.t 11) (zc 0)), zm 9 12]
def q70 : IC := zr [zv 13 (.fad (.t 1) 1), zv 14 (.ld false 1 (.t 13)), zi 15 (.call (.c (.fn 144 [] [])) [((.t 14), .id)]), zm 2 15]
def q5x : IC := zr [zv 16 (.fad (.t 1) 1), zv 17 (.ld false 1 (.t 16)), zv 18 (.bin .sub .no (zc (-1)) (.t 17)), zi 19 (.call (.c (.fn 137 [] [])) [((.t 18), .id)]), zv 20 (.bin .add .no (.c (.str [63])) (.t 19)), zm 2 20]
def k0bu : IC := (.seq qbaq (.seq (.block 0 (.seq qbcd (.cond (.t 3) (.seq qbb7 .ret) (.seq q3i (.cond (.t 9) (.seq q70 .ret) .skip))))) (.seq q5x .ret)))
@[go_sem] def s0bu : List (RV × Co) := [(.t 2, .id)]
theorem c0bu : cFun Try.prog 130 = some (21, k0bu, s0bu) := by kernel_rfl

def qbdl : IC := zr [zv 2 zf]
def qbg1 : IC := zr [zm 5 0, zv 6 (.bin .eql .no (.t 5) (.c (.str []))), zm 7 6, zw 7 false 8 (.mov (.t 0)), zw 7 false 9 (.idx (.t 8) (zc 0)), zw 7 false 10 (.bin .neq .no (.t 9) (.c (.int .u8 33))), zv 11 (.pick (.t 7) (.c (.bool true)) (.t 10))]
def qbhj : IC := zr [zv 2 zf]
def qbih : IC := zr [zm 13 0, zv 14 (.sls (.t 13) (some (zc 1)) none), zi 15 (.call (.c (.fn 145 [] [])) [((.t 14), .id)]), zm 12 15, zv 16 (.ext (.t 12) 0), zv 17 (.ext (.t 12) 1), zm 3 16, zm 4 17]
def qbi0 : IC := .drw [zp (zm 18 4), zp (zv 19 (.bin .eql .no (.t 18) (zc 0))), zp (zm 20 19), zp (zw 20 true 21 (.mov (.t 3))), (⟨some (20, true), some 22, .call (.c (.fn 127 [] [])) [((.t 21), .id)]⟩, []), zp (zw 20 true 23 (.mov (.t 0))), zp (zw 20 true 24 (.sls (.t 23) (some (zc 1)) none)), zp (zw 20 true 25 (.bin .eql .no (.t 22) (.t 24))), zp (zv 26 (.pick (.t 20) (.t 25) (.c (.bool false)))), zp (zm 2 26)]
def k0e : IC := (.seq qbdl (.seq (.seq qbg1 (.cond (.t 11) (.seq qbhj .ret) .skip)) (.seq qbih (.seq qbi0 .ret))))
@[go_sem] def s0e : List (RV × Co) := [(.t 2, .id)]
theorem c0e : cFun Try.prog 133 = some (27, k0e, s0e) := by kernel_rfl

def qbcw : IC := zr [zv 4 zf]
def qbfw : IC := zr [zm 5 0, zm 6 1, zi 7 (.call (.c (.fn 147 [] [])) [((.t 5), .id), ((.t 6), .id)]), zm 4 7]
def k0i : IC := (.seq qbcw (.seq qbfw .ret))
@[go_sem] def s0i : List (RV × Co) := [(.t 4, .id)]
theorem c0i : cFun Try.prog 135 = some (8, k0i, s0i) := by kernel_rfl

def qbde : IC := zr [zv 2 (.mov (zc 0)), zv 3 (.mov (zc 0))]
def qbgi : IC := zr [zm 8 0, zv 9 (.len true (.t 8)), zv 10 (.mov (zc 0))]
def qbeh : IC := zr [zv 11 (.bin .lss .no (.t 10) (.t 9))]
def qbfz : IC := zr [zm 12 10, zm 4 12]
def qbhm : IC := zr [zm 13 0, zm 14 4, zv 15 (.idx (.t 13) (.t 14)), zv 16 (.bin .lss .no (.t 15) (.c (.int .u8 48))), zm 17 16, zw 17 false 18 (.mov (.t 0)), zw 17 false 19 (.mov (.t 4)), zw 17 false 20 (.idx (.t 18) (.t 19)), zw 17 false 21 (.bin .gtr .no (.t 20) (.c (.int .u8 57))), zv 22 (.pick (.t 17) (.c (.bool true)) (.t 21))]
def qbil : IC := zr [zv 2 (.mov (zc 0)), zv 3 (.mov (zc 5))]
def qbel : IC := zr [zv 23 (.bin .add .no (.t 10) (zc 1)), zm 10 23]
def qbey : IC := (.seq qbeh (.seq (.cond (.t 11) .skip (.exit 0)) (.seq (.block 1 (.seq qbfz (.seq qbhm (.cond (.t 22) (.seq qbil .ret) .skip)))) qbel)))
def qbf9 : IC := zr [zm 24 0, zv 25 (.bin .eql .no (.t 24) (.c (.str [])))]
def q3p : IC := zr [zv 2 (.mov (zc 0)), zv 3 (.mov (zc 5))]
def q26 : IC := zr [zv 5 (.mov (zc 0)), zv 6 (.mov (zc 0))]
def q2t : IC := zr [zm 26 0, zm 27 6, zv 28 (.idx (.t 26) (.t 27)), zv 29 (.bin .sub .no (.t 28) (.c (.int .u8 48))), zv 30 (.cvi .i64 (.t 29)), zm 7 30]
def q9v : IC := zr [zm 31 5, zm 32 7, zv 33 (.bin .sub .no (zc 9223372036854775807) (.t 32)), zv 34 (.bin .quo .no (.t 33) (zc 10)), zv 35 (.bin .gtr .no (.t 31) (.t 34))]
def q2k : IC := zr [zv 2 (.mov (zc 0)), zv 3 (.mov (zc 4))]
def q68 : IC := zr [zm 36 5, zv 37 (.bin .mul .no (zc 10) (.t 36)), zm 38 7, zv 39 (.bin .add .no (.t 37) (.t 38)), zm 5 39]
def q2w : IC := zr [zm 40 6, zv 41 (.bin .add .no (.t 40) (zc 1)), zm 6 41]
def qbat : IC := zr [zm 42 6, zm 43 0, zv 44 (.len true (.t 43)), zv 45 (.bin .lss .no (.t 42) (.t 44))]
def qbba : IC := zr [zm 46 5, zm 2 46, zv 3 (.mov (zc 0))]
def k0k : IC := (.seq qbde (.scope (.seq (.seq qbgi (.block 0 (.loop qbey))) (.seq (.seq qbf9 (.cond (.t 25) (.seq q3p .ret) .skip)) (.seq q26 (.seq (.label 0) (.seq q2t (.seq (.seq q9v (.cond (.t 35) (.seq q2k .ret) .skip)) (.seq q68 (.seq (.seq q2w (.seq qbat (.cond (.t 45) (.goto 0) .skip))) (.seq qbba .ret)))))))))))
@[go_sem] def s0k : List (RV × Co) := [(.t 2, .id), (.t 3, .id)]
theorem c0k : cFun Try.prog 136 = some (47, k0k, s0k) := by kernel_rfl

def qbgo : IC := zr [zv 2 (.mov (.c (.str [])))]
def qbd7 : IC := zr [zm 6 0, zv 7 (.cvi .u64 (.t 6)), zm 3 7]
def qbia : IC := zr [zm 8 0, zv 9 (.bin .lss .no (.t 8) (zc 0))]
def qbda : IC := zr [zm 10 3, zv 11 (.un .neg (.t 10)), zm 3 11]
def qbg4 : IC := zr [zi 4 (.alo [(.int .u8 0), (.int .u8 0), (.int .u8 0), (.int .u8 0), (.int .u8 0), (.int .u8 0), (.int .u8 0), (.int .u8 0), (.int .u8 0), (.int .u8 0), (.int .u8 0), (.int .u8 0), (.int .u8 0), (.int .u8 0), (.int .u8 0), (.int .u8 0), (.int .u8 0), (.int .u8 0), (.int .u8 0), (.int .u8 0)])]
def qbh0 : IC := zr [zv 5 (.mov (zc 20))]
def qbjc : IC := zr [zm 12 5, zv 13 (.bin .sub .no (.t 12) (zc 1)), zm 5 13]
def qbet : IC := zr [zm 14 5, zm 15 3, zv 16 (.bin .rem .no (.t 15) (.c (.int .u64 10))), zv 17 (.bin .add .no (.c (.int .u64 48)) (.t 16)), zv 18 (.cvi .u8 (.t 17)), zv 19 (.aad 1 20 (.t 4) (.t 14)), zn (.st 1 .id (.t 19) (.t 18))]
def qbew : IC := zr [zm 20 3, zv 21 (.bin .quo .no (.t 20) (.c (.int .u64 10))), zm 3 21]
def q07 : IC := zr [zm 22 3, zv 23 (.bin .eql .no (.t 22) (.c (.int .u64 0)))]
def qbii : IC := (.block 1 (.seq qbjc (.seq qbet (.seq qbew (.seq q07 (.cond (.t 23) (.exit 0) .skip))))))
def q7n : IC := zr [zm 24 0, zv 25 (.bin .lss .no (.t 24) (zc 0))]
def q8j : IC := zr [zm 26 5, zv 27 (.sla 20 (.t 4) (.t 26)), zv 28 (.cbs (.t 27)), zv 29 (.bin .add .no (.c (.str [45])) (.t 28)), zm 2 29]
def qbbp : IC := zr [zm 30 5, zv 31 (.sla 20 (.t 4) (.t 30)), zv 32 (.cbs (.t 31)), zm 2 32]
def k0x : IC := (.seq qbgo (.seq qbd7 (.seq (.seq qbia (.cond (.t 9) qbda .skip)) (.seq qbg4 (.seq qbh0 (.seq (.block 0 (.loop qbii)) (.seq (.seq q7n (.cond (.t 25) (.seq q8j .ret) .skip)) (.seq qbbp .ret))))))))
@[go_sem] def s0x : List (RV × Co) := [(.t 2, .id)]
theorem c0x : cFun Try.prog 137 = some (33, k0x, s0x) := by kernel_rfl

def q28 : IC := zr [zi 1 (.box (.t 0)), zi 2 (.alo [(.str []), (.int .i64 0), .nils])]
def q1x : IC := zr [zv 4 (.ld false 1 (.t 1)), zv 5 (.nck (.t 4)), zv 6 (.fad (.t 5) 1), zv 7 (.ld false 1 (.t 6)), zv 8 (.bin .add .no (.t 7) (zc 1)), zv 9 (.nck (.t 4)), zv 10 (.fad (.t 9) 1), zn (.st 1 .id (.t 10) (.t 8))]
def q5i : IC := zr [zv 11 (.ld false 1 (.t 1)), zv 12 (.nck (.t 11)), zv 13 (.fad (.t 12) 1), zv 14 (.ld false 1 (.t 13)), zv 15 (.bin .gtr .no (.t 14) (zc 200))]
def q5o : IC := zr [zv 16 (.ld false 1 (.t 1)), zv 17 (.nck (.t 16)), zv 18 (.fad (.t 17) 2), zn (.st 1 .id (.t 18) (.c (.bool true)))]
def q5a : IC := .dfr [zv 19 (.mfn 148 [] [(.t 1)])] (.t 19)
def qbak : IC := zr [zv 20 (.ld false 1 (.t 1)), zv 21 (.nck (.t 20)), zv 22 (.fad (.t 21) 2), zv 23 (.ld false 1 (.t 22))]
def q04 : IC := zr [zv 24 (.bld [(.str []), (.int .i64 0), .nils] []), zn (.st 3 (.agg [.id, .id, (.sl 3)]) (.t 2) (.t 24))]
def qbah : IC := zr [zv 25 (.ld false 1 (.t 1)), zi 26 (.call (.c (.fn 149 [] [])) [((.t 25), .id)]), zi 3 (.alo [(.str []), (.int .i64 0), .nils]), zn (.st 3 (.agg [.id, .id, (.sl 3)]) (.t 3) (.t 26))]
def q4u : IC := zr [zv 27 (.ld false 1 (.t 1)), zv 28 (.nck (.t 27)), zv 29 (.fad (.t 28) 2), zv 30 (.ld false 1 (.t 29)), zv 31 (.un .not (.t 30)), zm 32 31, zw 32 true 33 (.ld false 1 (.t 1)), zw 32 true 34 (.nck (.t 33)), zw 32 true 35 (.fad (.t 34) 0), zw 32 true 36 (.ld false 1 (.t 35)), ⟨some (32, true), some 37, .call (.c (.fn 135 [] [])) [((.t 36), .id), ((.c (.str [32, 45, 62, 32])), .id)]⟩, zw 32 true 38 (.un .not (.t 37)), zv 39 (.pick (.t 32) (.t 38) (.c (.bool false))), zm 40 39, zw 40 true 41 (.ld false 1 (.t 1)), ⟨some (40, true), some 42, .call (.c (.fn 150 [] [])) [((.t 41), .id), ((.c (.str [32])), .id)]⟩, zv 43 (.pick (.t 40) (.t 42) (.c (.bool false)))]
def qwq : IC := .drw [zp (zv 44 (.fad (.t 3) 2)), zp (zv 45 (.ld false 1 (.t 44))), (zi 46 (.call (.c (.fn 151 [] [])) [((.t 45), (.sl 3))]), []), (zv 47 (.ld false 1 (.t 1)), [2]), (zi 48 (.call (.c (.fn 149 [] [])) [((.t 47), .id)]), []), (zv 49 (.bsl 3 [((.t 48), (.agg [.id, .id, (.sl 3)]))]), []), (zi 50 (.app 3 (.agg [(.str []), (.int .i64 0), .nils]) 48 (.sl 3) (.t 46) (.t 49)), []), zp (zv 51 (.fad (.t 3) 2)), (zn (.st 1 (.sl 3) (.t 51) (.t 50)), [])]
def qk5 : IC := (.seq (.seq q4u (.cond (.t 43) .skip (.exit 0))) (.block 1 qwq))
def qy2 : IC := zr [zv 52 (.ld false 1 (.t 1)), zv 53 (.nck (.t 52)), zv 54 (.fad (.t 53) 2), zv 55 (.ld false 1 (.t 54)), zv 56 (.un .not (.t 55)), zm 57 56, zw 57 true 58 (.ld false 1 (.t 1)), ⟨some (57, true), some 59, .call (.c (.fn 150 [] [])) [((.t 58), .id), ((.c (.str [32, 45, 62, 32])), .id)]⟩, zv 60 (.pick (.t 57) (.t 59) (.c (.bool false)))]
def qyb : IC := .drw [zp (zv 61 (.ld true 3 (.t 3))), zp (zv 62 (.ld false 1 (.t 1))), (zi 63 (.call (.c (.fn 138 [] [])) [((.t 62), .id)]), [0]), (zv 64 (.bsl 3 [((.t 61), (.agg [.id, .id, (.sl 3)])), ((.t 63), (.agg [.id, .id, (.sl 3)]))]), []), (zv 65 (.bld [(.str []), (.int .i64 0), .nils] [(0, 1, (.c (.str [45, 62]))), (2, 1, (.t 64))]), []), (zn (.st 3 (.agg [.id, .id, (.sl 3)]) (.t 2) (.t 65)), [])]
def qyc : IC := zr [zv 66 (.ld true 3 (.t 3)), zn (.st 3 (.agg [.id, .id, (.sl 3)]) (.t 2) (.t 66))]
def k0cv : IC := (.seq q28 (.seq (.seq q1x (.seq q5i (.cond (.t 15) q5o .skip))) (.seq q5a (.seq (.seq qbak (.cond (.t 23) (.seq q04 .ret) .skip)) (.seq qbah (.seq (.block 0 (.loop qk5)) (.seq (.seq qy2 (.cond (.t 60) (.seq qyb .ret) .skip)) (.seq qyc .ret))))))))
@[go_sem] def s0cv : List (RV × Co) := [(.c true 3 2, (.agg [.id, .id, (.sl 3)]))]
theorem c0cv : cFun Try.prog 138 = some (67, k0cv, s0cv) := by kernel_rfl

def qbc6 : IC := zr [zv 2 zf]
def qbcx : IC := zr [zm 3 0, zv 4 (.bin .geq .no (.t 3) (.c (.int .u8 65))), zm 5 4, zw 5 true 6 (.mov (.t 0)), zw 5 true 7 (.bin .leq .no (.t 6) (.c (.int .u8 90))), zv 8 (.pick (.t 5) (.t 7) (.c (.bool false))), zm 2 8]
def k0o : IC := (.seq qbc6 (.seq qbcx .ret))
@[go_sem] def s0o : List (RV × Co) := [(.t 2, .id)]
theorem c0o : cFun Try.prog 141 = some (9, k0o, s0o) := by kernel_rfl

def qbgq : IC := zr [zv 2 zf]
def qbgj : IC := zr [zv 3 (.mov (zc 1))]
def qbiq : IC := zr [zm 4 3, zm 5 0, zv 6 (.len true (.t 5)), zv 7 (.bin .lss .no (.t 4) (.t 6))]
def qbh1 : IC := zr [zm 10 0, zm 11 3, zv 12 (.idx (.t 10) (.t 11)), zi 13 (.call (.c (.fn 152 [] [])) [((.t 12), .id)]), zv 14 (.un .not (.t 13))]
def qbeq : IC := zr [zv 2 zf]
def qbee : IC := zr [zm 8 3, zv 9 (.bin .add .no (.t 8) (zc 1)), zm 3 9]
def qbep : IC := (.seq (.seq qbiq (.cond (.t 7) .skip (.exit 0))) (.seq (.block 1 (.seq qbh1 (.cond (.t 14) (.seq qbeq .ret) .skip))) qbee))
def qbc8 : IC := zr [zv 2 (.mov (.c (.bool true)))]
def k0s : IC := (.seq qbgq (.seq (.seq qbgj (.block 0 (.loop qbep))) (.seq qbc8 .ret)))
@[go_sem] def s0s : List (RV × Co) := [(.t 2, .id)]
theorem c0s : cFun Try.prog 142 = some (15, k0s, s0s) := by kernel_rfl

def qbgu : IC := zr [zv 2 (.mov (.c (.int .u64 0)))]
def qbhg : IC := zr [zm 3 0, zv 4 (.bin .lss .no (.t 3) (zc 0))]
def qbir : IC := zr [zm 5 0, zv 6 (.cvi .u64 (.t 5)), zv 7 (.un .neg (.t 6)), zm 2 7]
def qbh2 : IC := zr [zm 8 0, zv 9 (.cvi .u64 (.t 8)), zm 2 9]
def k0v : IC := (.seq qbgu (.seq (.seq qbhg (.cond (.t 4) (.seq qbir .ret) .skip)) (.seq qbh2 .ret)))
@[go_sem] def s0v : List (RV × Co) := [(.t 2, .id)]
theorem c0v : cFun Try.prog 143 = some (10, k0v, s0v) := by kernel_rfl

def qbc4 : IC := zr [zv 2 (.mov (.c (.str [])))]
def qbeo : IC := zr [zm 4 0, zv 5 (.bin .lss .no (.t 4) (zc 0))]
def qbgr : IC := zr [zv 2 (.mov (.c (.str [])))]
def qbdh : IC := zr [zm 6 0, zv 7 (.bin .rem .no (.t 6) (zc 26)), zv 8 (.bin .add .no (zc 97) (.t 7)), zv 9 (.cvi .u8 (.t 8)), zv 10 (.bsl 1 [((.t 9), .id)]), zv 11 (.cbs (.t 10)), zm 3 11]
def qbjk : IC := zr [zm 12 0, zv 13 (.bin .lss .no (.t 12) (zc 26))]
def qbek : IC := zr [zm 14 3, zm 2 14]
def qbfd : IC := zr [zm 15 3, zm 16 0, zv 17 (.bin .quo .no (.t 16) (zc 26)), zi 18 (.call (.c (.fn 137 [] [])) [((.t 17), .id)]), zv 19 (.bin .add .no (.t 15) (.t 18)), zm 2 19]
def k0y : IC := (.seq qbc4 (.seq (.seq qbeo (.cond (.t 5) (.seq qbgr .ret) .skip)) (.seq qbdh (.seq (.seq qbjk (.cond (.t 13) (.seq qbek .ret) .skip)) (.seq qbfd .ret)))))
@[go_sem] def s0y : List (RV × Co) := [(.t 2, .id)]
theorem c0y : cFun Try.prog 144 = some (20, k0y, s0y) := by kernel_rfl

def qbhf : IC := zr [zv 2 (.mov (zc 0)), zv 3 (.mov (zc 0))]
def qbem : IC := zr [zm 8 0, zv 9 (.bin .eql .no (.t 8) (.c (.str [])))]
def qbfg : IC := zr [zv 2 (.mov (zc 0)), zv 3 (.mov (zc 5))]
def qbjb : IC := zr [zv 4 (.mov (zc 0))]
def qbhu : IC := zr [zm 10 4, zm 11 0, zv 12 (.len true (.t 11)), zv 13 (.bin .lss .no (.t 10) (.t 12))]
def qbdq : IC := zr [zm 16 0, zm 17 4, zv 18 (.idx (.t 16) (.t 17)), zv 19 (.bin .lss .no (.t 18) (.c (.int .u8 48))), zm 20 19, zw 20 false 21 (.mov (.t 0)), zw 20 false 22 (.mov (.t 4)), zw 20 false 23 (.idx (.t 21) (.t 22)), zw 20 false 24 (.bin .gtr .no (.t 23) (.c (.int .u8 57))), zv 25 (.pick (.t 20) (.c (.bool true)) (.t 24))]
def qbhx : IC := zr [zv 2 (.mov (zc 0)), zv 3 (.mov (zc 5))]
def qbhd : IC := zr [zm 14 4, zv 15 (.bin .add .no (.t 14) (zc 1)), zm 4 15]
def qbdy : IC := (.seq (.seq qbhu (.cond (.t 13) .skip (.exit 0))) (.seq (.block 1 (.seq qbdq (.cond (.t 25) (.seq qbhx .ret) .skip))) qbhd))
def q50 : IC := zr [zv 5 (.mov (zc 0))]
def q01 : IC := zr [zv 6 (.mov (zc 0))]
def q40 : IC := zr [zm 26 6, zm 27 0, zv 28 (.len true (.t 27)), zv 29 (.bin .lss .no (.t 26) (.t 28))]
def q3s : IC := zr [zm 32 0, zm 33 6, zv 34 (.idx (.t 32) (.t 33)), zv 35 (.bin .sub .no (.t 34) (.c (.int .u8 48))), zv 36 (.cvi .i64 (.t 35)), zm 7 36]
def q84 : IC := zr [zm 37 5, zm 38 7, zv 39 (.bin .sub .no (zc 9223372036854775807) (.t 38)), zv 40 (.bin .quo .no (.t 39) (zc 10)), zv 41 (.bin .gtr .no (.t 37) (.t 40))]
def q4z : IC := zr [zv 2 (.mov (zc 0)), zv 3 (.mov (zc 4))]
def q2z : IC := zr [zm 42 5, zv 43 (.bin .mul .no (zc 10) (.t 42)), zm 44 7, zv 45 (.bin .add .no (.t 43) (.t 44)), zm 5 45]
def q5m : IC := zr [zm 30 6, zv 31 (.bin .add .no (.t 30) (zc 1)), zm 6 31]
def q6m : IC := (.seq (.seq q40 (.cond (.t 29) .skip (.exit 2))) (.seq (.block 3 (.seq q3s (.seq (.seq q84 (.cond (.t 41) (.seq q4z .ret) .skip)) q2z))) q5m))
def q0t : IC := zr [zm 46 5, zm 2 46, zv 3 (.mov (zc 0))]
def k0j : IC := (.seq qbhf (.seq (.seq qbem (.cond (.t 9) (.seq qbfg .ret) .skip)) (.seq (.seq qbjb (.block 0 (.loop qbdy))) (.seq q50 (.seq (.seq q01 (.block 2 (.loop q6m))) (.seq q0t .ret))))))
@[go_sem] def s0j : List (RV × Co) := [(.t 2, .id), (.t 3, .id)]
theorem c0j : cFun Try.prog 145 = some (47, k0j, s0j) := by kernel_rfl

def qbiy : IC := zr [zv 4 zf]
def qbh9 : IC := zr [zm 5 0, zv 6 (.len true (.t 5)), zm 7 1, zv 8 (.len true (.t 7)), zv 9 (.bin .geq .no (.t 6) (.t 8)), zm 10 9, zw 10 true 11 (.mov (.t 0)), zw 10 true 12 (.mov (.t 1)), zw 10 true 13 (.len true (.t 12)), zw 10 true 14 (.sls (.t 11) none (some (.t 13))), zw 10 true 15 (.mov (.t 1)), zw 10 true 16 (.bin .eql .no (.t 14) (.t 15)), zv 17 (.pick (.t 10) (.t 16) (.c (.bool false))), zm 4 17]
def k0h : IC := (.seq qbiy (.seq qbh9 .ret))
@[go_sem] def s0h : List (RV × Co) := [(.t 4, .id)]
theorem c0h : cFun Try.prog 147 = some (18, k0h, s0h) := by kernel_rfl

def q2h : IC := zr [zv 1 (.ld false 1 (.t 0)), zv 2 (.nck (.t 1)), zv 3 (.fad (.t 2) 1), zv 4 (.ld false 1 (.t 3)), zv 5 (.bin .sub .no (.t 4) (zc 1)), zv 6 (.nck (.t 1)), zv 7 (.fad (.t 6) 1), zn (.st 1 .id (.t 7) (.t 5))]
def k0cg : IC := q2h
@[go_sem] def s0cg : List (RV × Co) := []
theorem c0cg : cFun Try.prog 148 = some (8, k0cg, s0cg) := by kernel_rfl

def q69 : IC := zr [zi 2 (.alo [(.str []), (.int .i64 0), .nils])]
def q5f : IC := zr [zm 6 0, zi 7 (.call (.c (.fn 150 [] [])) [((.t 6), .id), ((.c (.str [40])), .id)])]
def q2p : IC := zr [zm 8 0, zi 9 (.call (.c (.fn 138 [] [])) [((.t 8), .id)]), zi 3 (.alo [(.str []), (.int .i64 0), .nils]), zn (.st 3 (.agg [.id, .id, (.sl 3)]) (.t 3) (.t 9))]
def q63 : IC := zr [zm 10 0, zm 11 0, zv 12 (.nck (.t 11)), zv 13 (.fad (.t 12) 2), zv 14 (.ld false 1 (.t 13)), zm 15 14, zw 15 false 16 (.mov (.t 0)), ⟨some (15, false), some 17, .call (.c (.fn 150 [] [])) [((.t 16), .id), ((.c (.str [41])), .id)]⟩, zw 15 false 18 (.un .not (.t 17)), zv 19 (.pick (.t 15) (.c (.bool true)) (.t 18)), zv 20 (.nck (.t 10)), zv 21 (.fad (.t 20) 2), zn (.st 1 .id (.t 21) (.t 19))]
def qbal : IC := zr [zv 22 (.ld true 3 (.t 3)), zn (.st 3 (.agg [.id, .id, (.sl 3)]) (.t 2) (.t 22))]
def q7q : IC := zr [zm 23 0, zv 24 (.nck (.t 23)), zv 25 (.fad (.t 24) 0), zv 26 (.ld false 1 (.t 25)), zi 27 (.call (.c (.fn 153 [] [])) [((.t 26), .id), ((.c (.str [32, 40, 41])), .id)]), zm 4 27]
def q5s : IC := zr [zm 28 4, zv 29 (.bin .lss .no (.t 28) (zc 0))]
def q7s : IC := zr [zm 30 0, zv 31 (.nck (.t 30)), zv 32 (.fad (.t 31) 0), zv 33 (.ld false 1 (.t 32)), zv 34 (.len true (.t 33)), zm 4 34]
def q85 : IC := zr [zm 35 0, zv 36 (.nck (.t 35)), zv 37 (.fad (.t 36) 0), zv 38 (.ld false 1 (.t 37)), zm 39 4, zv 40 (.sls (.t 38) none (some (.t 39))), zi 41 (.call (.c (.fn 154 [] [])) [((.t 40), .id)]), zi 5 (.alo [(.str []), (.int .i64 0), .nils]), zn (.st 3 (.agg [.id, .id, (.sl 3)]) (.t 5) (.t 41))]
def q52 : IC := .drw [zp (zm 42 0), zp (zm 43 0), zp (zm 44 0), zp (zv 45 (.nck (.t 44))), zp (zv 46 (.fad (.t 45) 0)), zp (zv 47 (.ld false 1 (.t 46))), zp (zm 48 4), zp (zv 49 (.sls (.t 47) (some (.t 48)) none)), zp (zm 50 0), zp (zv 51 (.nck (.t 50))), zp (zv 52 (.fad (.t 51) 2)), zp (zv 53 (.ld false 1 (.t 52))), zp (zm 54 53), zp (zw 54 false 55 (.mov (.t 4))), zp (zw 54 false 56 (.bin .eql .no (.t 55) (zc 0))), zp (zv 57 (.pick (.t 54) (.c (.bool true)) (.t 56))), zp (zv 58 (.nck (.t 42))), zp (zv 59 (.fad (.t 58) 0)), (zn (.st 1 .id (.t 59) (.t 49)), []), zp (zv 60 (.nck (.t 43))), zp (zv 61 (.fad (.t 60) 2)), (zn (.st 1 .id (.t 61) (.t 57)), [])]
def qzq : IC := zr [zv 62 (.ld true 3 (.t 5)), zn (.st 3 (.agg [.id, .id, (.sl 3)]) (.t 2) (.t 62))]
def k0ch : IC := (.seq q69 (.seq (.seq q5f (.cond (.t 7) (.seq q2p (.seq q63 (.seq qbal .ret))) .skip)) (.seq q7q (.seq (.seq q5s (.cond (.t 29) q7s .skip)) (.seq q85 (.seq q52 (.seq qzq .ret)))))))
@[go_sem] def s0ch : List (RV × Co) := [(.c true 3 2, (.agg [.id, .id, (.sl 3)]))]
theorem c0ch : cFun Try.prog 149 = some (63, k0ch, s0ch) := by kernel_rfl

def q9k : IC := zr [zv 4 zf]
def q2q : IC := zr [zm 6 0, zv 7 (.nck (.t 6)), zv 8 (.fad (.t 7) 0), zv 9 (.ld false 1 (.t 8)), zm 10 1, zi 11 (.call (.c (.fn 135 [] [])) [((.t 9), .id), ((.t 10), .id)]), zm 5 11]
def q8x : IC := zr [zm 12 5]
def q2d : IC := zr [zm 13 0, zm 14 0, zv 15 (.nck (.t 14)), zv 16 (.fad (.t 15) 0), zv 17 (.ld false 1 (.t 16)), zm 18 1, zv 19 (.len true (.t 18)), zv 20 (.sls (.t 17) (some (.t 19)) none), zv 21 (.nck (.t 13)), zv 22 (.fad (.t 21) 0), zn (.st 1 .id (.t 22) (.t 20))]
def q9l : IC := zr [zm 23 5, zm 4 23]
def k0ck : IC := (.seq q9k (.seq q2q (.seq (.seq q8x (.cond (.t 12) q2d .skip)) (.seq q9l .ret))))
@[go_sem] def s0ck : List (RV × Co) := [(.t 4, .id)]
theorem c0ck : cFun Try.prog 150 = some (24, k0ck, s0ck) := by kernel_rfl

def q8s : IC := zr [zv 2 (.mov (.c .nils))]
def q7o : IC := zr [zm 3 0, zv 4 (.bin .eql .slice (.t 3) (.c .nils))]
def q20 : IC := zr [zv 2 (.mov (.c .nils))]
def q8y : IC := zr [zv 5 (.bsl 3 []), zm 6 0, zi 7 (.app 3 (.agg [(.str []), (.int .i64 0), .nils]) 48 (.sl 3) (.t 5) (.t 6)), zm 2 7]
def k0cj : IC := (.seq q8s (.seq (.seq q7o (.cond (.t 4) (.seq q20 .ret) .skip)) (.seq q8y .ret)))
@[go_sem] def s0cj : List (RV × Co) := [(.t 2, (.sl 3))]
theorem c0cj : cFun Try.prog 151 = some (8, k0cj, s0cj) := by kernel_rfl

def qbdf : IC := zr [zv 2 zf]
def qbdo : IC := zr [zm 3 0, zi 4 (.call (.c (.fn 155 [] [])) [((.t 3), .id)]), zm 5 4, zw 5 false 6 (.mov (.t 0)), ⟨some (5, false), some 7, .call (.c (.fn 141 [] [])) [((.t 6), .id)]⟩, zv 8 (.pick (.t 5) (.c (.bool true)) (.t 7)), zm 9 8, zw 9 false 10 (.mov (.t 0)), ⟨some (9, false), some 11, .call (.c (.fn 156 [] [])) [((.t 10), .id)]⟩, zv 12 (.pick (.t 9) (.c (.bool true)) (.t 11)), zm 13 12, zw 13 false 14 (.mov (.t 0)), zw 13 false 15 (.bin .eql .no (.t 14) (.c (.int .u8 39))), zv 16 (.pick (.t 13) (.c (.bool true)) (.t 15)), zm 2 16]
def k0q : IC := (.seq qbdf (.seq qbdo .ret))
@[go_sem] def s0q : List (RV × Co) := [(.t 2, .id)]
theorem c0q : cFun Try.prog 152 = some (17, k0q, s0q) := by kernel_rfl

def q54 : IC := zr [zi 2 (.alo [(.str []), (.int .i64 0), .nils])]
def qbbl : IC := zr [zm 6 0, zi 7 (.call (.c (.fn 161 [] [])) [((.t 6), .id)]), zm 3 7]
def q18 : IC := zr [zm 8 3, zv 9 (.bin .geq .no (.t 8) (zc 0))]
def qba0 : IC := zr [zm 10 3, zv 11 (.bld [(.str []), (.int .i64 0), .nils] [(1, 1, (.t 10))]), zn (.st 3 (.agg [.id, .id, (.sl 3)]) (.t 2) (.t 11))]
def q8p : IC := zr [zm 12 0, zi 13 (.call (.c (.fn 135 [] [])) [((.t 12), .id), ((.c (.str [63])), .id)])]
def qbbd : IC := zr [zm 15 0, zv 16 (.sls (.t 15) (some (zc 1)) none), zi 17 (.call (.c (.fn 136 [] [])) [((.t 16), .id)]), zm 14 17, zv 18 (.ext (.t 14) 0), zv 19 (.ext (.t 14) 1), zm 4 18, zm 5 19]
def q9y : IC := zr [zm 20 5, zv 21 (.bin .eql .no (.t 20) (zc 0))]
def q5r : IC := zr [zm 22 4, zv 23 (.bin .sub .no (zc (-1)) (.t 22)), zv 24 (.bld [(.str []), (.int .i64 0), .nils] [(1, 1, (.t 23))]), zn (.st 3 (.agg [.id, .id, (.sl 3)]) (.t 2) (.t 24))]
def q4c : IC := zr [zm 25 0, zv 26 (.bld [(.str []), (.int .i64 0), .nils] [(0, 1, (.t 25))]), zn (.st 3 (.agg [.id, .id, (.sl 3)]) (.t 2) (.t 26))]
def k0ci : IC := (.seq q54 (.seq (.seq qbbl (.seq q18 (.cond (.t 9) (.seq qba0 .ret) .skip))) (.seq (.seq q8p (.cond (.t 13) (.seq qbbd (.seq q9y (.cond (.t 21) (.seq q5r .ret) .skip))) .skip)) (.seq q4c .ret))))
@[go_sem] def s0ci : List (RV × Co) := [(.c true 3 2, (.agg [.id, .id, (.sl 3)]))]
theorem c0ci : cFun Try.prog 154 = some (27, k0ci, s0ci) := by kernel_rfl

def qbgl : IC := zr [zv 2 zf]
def qbdw : IC := zr [zm 3 0, zv 4 (.bin .geq .no (.t 3) (.c (.int .u8 97))), zm 5 4, zw 5 true 6 (.mov (.t 0)), zw 5 true 7 (.bin .leq .no (.t 6) (.c (.int .u8 122))), zv 8 (.pick (.t 5) (.t 7) (.c (.bool false))), zm 9 8, zw 9 false 10 (.mov (.t 0)), zw 9 false 11 (.bin .eql .no (.t 10) (.c (.int .u8 95))), zv 12 (.pick (.t 9) (.c (.bool true)) (.t 11)), zm 2 12]
def k0m : IC := (.seq qbgl (.seq qbdw .ret))
@[go_sem] def s0m : List (RV × Co) := [(.t 2, .id)]
theorem c0m : cFun Try.prog 155 = some (13, k0m, s0m) := by kernel_rfl

def qbhb : IC := zr [zv 2 zf]
def qbfb : IC := zr [zm 3 0, zv 4 (.bin .geq .no (.t 3) (.c (.int .u8 48))), zm 5 4, zw 5 true 6 (.mov (.t 0)), zw 5 true 7 (.bin .leq .no (.t 6) (.c (.int .u8 57))), zv 8 (.pick (.t 5) (.t 7) (.c (.bool false))), zm 2 8]
def k0p : IC := (.seq qbhb (.seq qbfb .ret))
@[go_sem] def s0p : List (RV × Co) := [(.t 2, .id)]
theorem c0p : cFun Try.prog 156 = some (9, k0p, s0p) := by kernel_rfl

def q8k : IC := zr [zv 2 (.mov (zc 0))]
def qbbz : IC := zr [zm 6 0, zv 7 (.bin .eql .no (.t 6) (.c (.str []))), zm 8 7, zw 8 false 9 (.mov (.t 0)), zw 8 false 10 (.idx (.t 9) (zc 0)), zw 8 false 11 (.bin .lss .no (.t 10) (.c (.int .u8 97))), zv 12 (.pick (.t 8) (.c (.bool true)) (.t 11)), zm 13 12, zw 13 false 14 (.mov (.t 0)), zw 13 false 15 (.idx (.t 14) (zc 0)), zw 13 false 16 (.bin .gtr .no (.t 15) (.c (.int .u8 122))), zv 17 (.pick (.t 13) (.c (.bool true)) (.t 16))]
def q9j : IC := zr [zv 2 (.mov (zc (-1)))]
def q14 : IC := zr [zm 18 0, zv 19 (.idx (.t 18) (zc 0)), zv 20 (.bin .sub .no (.t 19) (.c (.int .u8 97))), zv 21 (.cvi .i64 (.t 20)), zm 3 21]
def q41 : IC := zr [zm 22 0, zv 23 (.len true (.t 22)), zv 24 (.bin .gtr .no (.t 23) (zc 1))]
def q3r : IC := zr [zm 26 0, zv 27 (.sls (.t 26) (some (zc 1)) none), zi 28 (.call (.c (.fn 136 [] [])) [((.t 27), .id)]), zm 25 28, zv 29 (.ext (.t 25) 0), zv 30 (.ext (.t 25) 1), zm 4 29, zm 5 30]
def qbcj : IC := zr [zm 31 5, zv 32 (.bin .neq .no (.t 31) (zc 0)), zm 33 32, zw 33 false 34 (.mov (.t 4)), zw 33 false 35 (.bin .gtr .no (.t 34) (zc 177372539170284150)), zv 36 (.pick (.t 33) (.c (.bool true)) (.t 35))]
def q98 : IC := zr [zv 2 (.mov (zc (-1)))]
def q0u : IC := zr [zm 37 3, zm 38 4, zv 39 (.bin .mul .no (zc 26) (.t 38)), zv 40 (.bin .add .no (.t 37) (.t 39)), zm 3 40]
def q8o : IC := zr [zm 41 3, zv 42 (.bin .gtr .no (.t 41) (zc 4611686018427387904)), zm 43 42, zw 43 false 44 (.mov (.t 3)), ⟨some (43, false), some 45, .call (.c (.fn 144 [] [])) [((.t 44), .id)]⟩, zw 43 false 46 (.mov (.t 0)), zw 43 false 47 (.bin .neq .no (.t 45) (.t 46)), zv 48 (.pick (.t 43) (.c (.bool true)) (.t 47))]
def qyy : IC := zr [zv 2 (.mov (zc (-1)))]
def qz4 : IC := zr [zm 49 3, zm 2 49]
def k0cl : IC := (.seq q8k (.seq (.seq qbbz (.cond (.t 17) (.seq q9j .ret) .skip)) (.seq q14 (.seq (.seq q41 (.cond (.t 24) (.seq q3r (.seq (.seq qbcj (.cond (.t 36) (.seq q98 .ret) .skip)) q0u)) .skip)) (.seq (.seq q8o (.cond (.t 48) (.seq qyy .ret) .skip)) (.seq qz4 .ret))))))
@[go_sem] def s0cl : List (RV × Co) := [(.t 2, .id)]
theorem c0cl : cFun Try.prog 161 = some (50, k0cl, s0cl) := by kernel_rfl

end Go.Proofs.Ytfpobiheiloamaa
