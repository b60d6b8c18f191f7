/- A text of this proof. -/
import Derived.Test.YtmekebfgmjaenaaGreatEae
import Derived.Test.YtmekebfgmjaenaaGreatProg
/- The compiled code of the functions. -/
namespace Go.Proofs.YtmekebfgmjaenaaGreat
open Go Go.V
@[reducible] def zm (d s : Nat) : GI := ⟨none, some d, .v (.mov (.t s))⟩
@[reducible] def zv (d : Nat) (x : IV) : GI := ⟨none, some d, .v x⟩
@[reducible] def zi (d : Nat) (i : I) : GI := ⟨none, some d, i⟩
@[reducible] def zn (i : I) : GI := ⟨none, none, i⟩
@[reducible] def zw (j : Nat) (b : Bool) (d : Nat) (x : IV) : GI := ⟨some (j, b), some d, .v x⟩
@[reducible] def zp (g : GI) : GI × List Nat := (g, [])
def qb1m : IC := .reg false [zv 2 (.mov (.c (.bool false)))]
def qb3f : IC := .reg false [zm 9 0, zv 10 (.len true (.t 9)), zv 11 (.bin .gtr .no (.t 10) (.c (.int .i64 3000)))]
def qb6v : IC := .reg false [zi 12 (.call (.c (.fn 5 [] [])) []), zm 2 12]
def qb3u : IC := .reg false [zm 14 0, zi 15 (.call (.c (.fn 17 [] [])) [((.t 14), .id)]), zm 13 15, zv 16 (.ext (.t 13) 0), zv 17 (.ext (.t 13) 1), zv 18 (.ext (.t 13) 2), zi 3 (.alo [(.int .i64 0), (.int .i64 0), (.int .i64 0), (.str []), .nils]), zn (.st 5 (.agg [.id, .id, .id, .id, (.sl 5)]) (.t 3) (.t 16)), zm 4 17, zm 5 18]
def qb6m : IC := .reg false [zm 20 0, zi 21 (.call (.c (.fn 18 [] [])) [((.t 20), .id)]), zm 19 21, zv 22 (.ext (.t 19) 0), zv 23 (.ext (.t 19) 1), zv 24 (.ext (.t 19) 2), zi 6 (.alo [(.int .i64 0), (.int .i64 0), (.int .i64 0), (.str []), .nils]), zn (.st 5 (.agg [.id, .id, .id, .id, (.sl 5)]) (.t 6) (.t 22)), zm 7 23, zm 8 24]
def qb6e : IC := .reg false [zv 25 (.ld true 5 (.t 3)), zv 26 (.ld true 5 (.t 6)), zi 27 (.call (.c (.fn 14 [] [])) [((.t 25), (.agg [.id, .id, .id, .id, (.sl 5)])), ((.t 26), (.agg [.id, .id, .id, .id, (.sl 5)]))]), zm 28 27, zw 28 true 29 (.mov (.t 4)), zw 28 true 30 (.mov (.t 7)), zw 28 true 31 (.bin .eql .no (.t 29) (.t 30)), zv 32 (.pick (.t 28) (.t 31) (.c (.bool false))), zm 33 32, zw 33 true 34 (.mov (.t 5)), zw 33 true 35 (.mov (.t 8)), zw 33 true 36 (.bin .eql .no (.t 34) (.t 35)), zv 37 (.pick (.t 33) (.t 36) (.c (.bool false))), zm 38 37, zw 38 true 39 (.mov (.t 5)), zw 38 true 40 (.bin .neq .no (.t 39) (.c (.int .i64 0))), zw 38 true 41 (.mov (.t 40)), zw 41 false 42 (.ld true 5 (.t 3)), ⟨some (41, false), some 43, .call (.c (.fn 19 [] [])) [((.t 42), (.agg [.id, .id, .id, .id, (.sl 5)]))]⟩, zw 38 true 44 (.pick (.t 41) (.c (.bool true)) (.t 43)), zv 45 (.pick (.t 38) (.t 44) (.c (.bool false))), zm 46 45, ⟨some (46, true), some 47, .call (.c (.fn 5 [] [])) []⟩, zv 48 (.pick (.t 46) (.t 47) (.c (.bool false))), zm 2 48]
def k0a : IC := (.seq qb1m (.seq (.seq qb3f (.cond (.t 11) (.seq qb6v .ret) .skip)) (.seq qb3u (.seq qb6m (.seq qb6e .ret)))))
@[go_sem] def s0a : List (RV × Co) := [(.t 2, .id)]
theorem c0a : cFun Tryz.prog 4 = some (49, k0a, s0a) := by kernel_rfl

def qbv8 : IC := .reg false [zv 0 (.mov (.c (.bool false)))]
def qbl2 : IC := .reg false [zi 11 (.call (.c (.fn 17 [] [])) [((.c (.str [102, 32, 120, 32, 49])), .id)]), zm 10 11, zv 12 (.ext (.t 10) 0), zv 13 (.ext (.t 10) 1), zv 14 (.ext (.t 10) 2), zi 1 (.alo [(.int .i64 0), (.int .i64 0), (.int .i64 0), (.str []), .nils]), zn (.st 5 (.agg [.id, .id, .id, .id, (.sl 5)]) (.t 1) (.t 12)), zm 2 13, zm 3 14]
def qbtg : IC := .reg false [zi 16 (.call (.c (.fn 17 [] [])) [((.c (.str [92, 32, 120, 32, 121, 32, 45, 62, 32, 108, 101, 116, 32, 123, 32, 103, 32, 122, 32, 61, 32, 122, 59, 32, 125, 32, 105, 110, 32, 99, 97, 115, 101, 32, 120, 32, 111, 102, 32, 123, 32, 75, 32, 97, 32, 45, 62, 32, 105, 102, 32, 97, 32, 116, 104, 101, 110, 32, 121, 32, 101, 108, 115, 101, 32, 50, 32, 125])), .id)]), zm 15 16, zv 17 (.ext (.t 15) 0), zv 18 (.ext (.t 15) 1), zv 19 (.ext (.t 15) 2), zi 4 (.alo [(.int .i64 0), (.int .i64 0), (.int .i64 0), (.str []), .nils]), zn (.st 5 (.agg [.id, .id, .id, .id, (.sl 5)]) (.t 4) (.t 17)), zm 5 18, zm 6 19]
def qbxg : IC := .reg false [zi 21 (.call (.c (.fn 17 [] [])) [((.c (.str [108, 101, 116, 32, 123, 32, 125, 32, 105, 110, 32, 120])), .id)]), zm 20 21, zv 22 (.ext (.t 20) 0), zv 23 (.ext (.t 20) 1), zv 24 (.ext (.t 20) 2), zi 7 (.alo [(.int .i64 0), (.int .i64 0), (.int .i64 0), (.str []), .nils]), zn (.st 5 (.agg [.id, .id, .id, .id, (.sl 5)]) (.t 7) (.t 22)), zm 8 23, zm 9 24]
def qbj1 : IC := .reg false [zv 25 (.fad (.t 1) 4), zv 26 (.ld false 1 (.t 25)), zv 27 (.len false (.t 26)), zv 28 (.bin .neq .no (.t 27) (.c (.int .i64 2))), zm 29 28, zw 29 false 30 (.fad (.t 4) 4), zw 29 false 31 (.ld false 1 (.t 30)), zw 29 false 32 (.len false (.t 31)), zw 29 false 33 (.bin .neq .no (.t 32) (.c (.int .i64 1))), zv 34 (.pick (.t 29) (.c (.bool true)) (.t 33))]
def qbpv : IC := .reg false [zv 0 (.mov (.c (.bool false)))]
def qbq7 : IC := .reg false [zv 35 (.fad (.t 1) 0), zv 36 (.ld false 1 (.t 35)), zv 37 (.bin .eql .no (.t 36) (.c (.int .i64 24))), zm 38 37, zw 38 true 39 (.fad (.t 1) 4), zw 38 true 40 (.ld false 1 (.t 39)), zw 38 true 41 (.iad 5 (.t 40) (.c (.int .i64 1))), zw 38 true 42 (.fad (.t 41) 2), zw 38 true 43 (.ld false 1 (.t 42)), zw 38 true 44 (.bin .eql .no (.t 43) (.c (.int .i64 1))), zv 45 (.pick (.t 38) (.t 44) (.c (.bool false))), zm 46 45, zw 46 true 47 (.fad (.t 1) 4), zw 46 true 48 (.ld false 1 (.t 47)), zw 46 true 49 (.iad 5 (.t 48) (.c (.int .i64 0))), zw 46 true 50 (.fad (.t 49) 0), zw 46 true 51 (.ld false 1 (.t 50)), zw 46 true 52 (.bin .eql .no (.t 51) (.c (.int .i64 24))), zv 53 (.pick (.t 46) (.t 52) (.c (.bool false))), zm 54 53, zw 54 true 55 (.mov (.t 2)), zw 54 true 56 (.bin .eql .no (.t 55) (.c (.int .i64 0))), zv 57 (.pick (.t 54) (.t 56) (.c (.bool false))), zm 58 57, zw 58 true 59 (.mov (.t 3)), zw 58 true 60 (.bin .eql .no (.t 59) (.c (.int .i64 0))), zv 61 (.pick (.t 58) (.t 60) (.c (.bool false))), zm 62 61, zw 62 true 63 (.fad (.t 4) 0), zw 62 true 64 (.ld false 1 (.t 63)), zw 62 true 65 (.bin .eql .no (.t 64) (.c (.int .i64 25))), zv 66 (.pick (.t 62) (.t 65) (.c (.bool false))), zm 67 66, zw 67 true 68 (.fad (.t 4) 3), zw 67 true 69 (.ld false 1 (.t 68)), zw 67 true 70 (.bin .eql .no (.t 69) (.c (.str [120]))), zv 71 (.pick (.t 67) (.t 70) (.c (.bool false))), zm 72 71, zw 72 true 73 (.fad (.t 4) 4), zw 72 true 74 (.ld false 1 (.t 73)), zw 72 true 75 (.iad 5 (.t 74) (.c (.int .i64 0))), zw 72 true 76 (.fad (.t 75) 3), zw 72 true 77 (.ld false 1 (.t 76)), zw 72 true 78 (.bin .eql .no (.t 77) (.c (.str [121]))), zv 79 (.pick (.t 72) (.t 78) (.c (.bool false))), zm 80 79, zw 80 true 81 (.mov (.t 6)), zw 80 true 82 (.bin .eql .no (.t 81) (.c (.int .i64 0))), zv 83 (.pick (.t 80) (.t 82) (.c (.bool false))), zm 84 83, zw 84 true 85 (.mov (.t 8)), zw 84 true 86 (.bin .eql .no (.t 85) (.c (.int .i64 6))), zv 87 (.pick (.t 84) (.t 86) (.c (.bool false))), zm 88 87, zw 88 true 89 (.mov (.t 9)), zw 88 true 90 (.bin .eql .no (.t 89) (.c (.int .i64 5))), zv 91 (.pick (.t 88) (.t 90) (.c (.bool false))), zm 0 91]
def k0fa : IC := (.seq qbv8 (.seq qbl2 (.seq qbtg (.seq qbxg (.seq (.seq qbj1 (.cond (.t 34) (.seq qbpv .ret) .skip)) (.seq qbq7 .ret))))))
@[go_sem] def s0fa : List (RV × Co) := [(.t 0, .id)]
theorem c0fa : cFun Tryz.prog 5 = some (92, k0fa, s0fa) := by kernel_rfl

def qbve : IC := .reg false [zv 2 (.mov (.c .nilp))]
def qbrl : IC := .reg false [zv 6 (.bld [.nils, (.int .i64 0), (.int .i64 0), (.int .i64 0), (.str []), (.int .i64 0), (.int .i64 0), (.int .i64 0), (.int .i64 0)] []), zi 7 (.box (.t 6)), zm 3 7]
def qbh1 : IC := .reg false [zm 8 0, zv 9 (.len false (.t 8)), zv 10 (.mov (.c (.int .i64 0)))]
def qbp2 : IC := .reg false [zv 11 (.bin .lss .no (.t 10) (.t 9))]
def qbg6 : IC := .reg false [zv 12 (.iad 4 (.t 8) (.t 10)), zv 13 (.ld true 4 (.t 12)), zi 5 (.alo [(.int .i64 0), (.int .i64 0), (.int .i64 0), (.str [])]), zn (.st 4 .id (.t 5) (.t 13))]
def qbms : IC := .reg false [zv 14 (.fad (.t 5) 0), zv 15 (.ld false 1 (.t 14)), zv 16 (.bin .eql .no (.t 15) (.c (.int .i64 0)))]
def qbev : IC := .reg false [zm 17 3, zv 18 (.fad (.t 5) 1), zv 19 (.ld false 1 (.t 18)), zv 20 (.nck (.t 17)), zv 21 (.fad (.t 20) 1), zv 22 (.fad (.t 21) 1), zn (.st 1 .id (.t 22) (.t 19))]
def qbnb : IC := .drw [zp (zm 23 3), zp (zm 24 3), zp (zv 25 (.nck (.t 24))), zp (zv 26 (.fad (.t 25) 0)), zp (zv 27 (.ld false 1 (.t 26))), zp (zv 28 (.ld true 4 (.t 5))), (zv 29 (.bsl 4 [((.t 28), .id)]), []), (zi 30 (.app 4 (.agg [(.int .i64 0), (.int .i64 0), (.int .i64 0), (.str [])]) 40 (.sl 4) (.t 27) (.t 29)), []), zp (zv 31 (.nck (.t 23))), zp (zv 32 (.fad (.t 31) 0)), (zn (.st 1 (.sl 4) (.t 32) (.t 30)), [])]
def qbqa : IC := .reg false [zv 33 (.bin .add .no (.t 10) (.c (.int .i64 1))), zm 10 33]
def qbhd : IC := (.seq qbp2 (.seq (.cond (.t 11) .skip (.exit 0)) (.seq (.block 1 (.seq qbg6 (.seq (.seq qbms (.cond (.t 16) (.seq qbev (.exit 0)) .skip)) qbnb))) qbqa)))
def q9o : IC := .reg false [zm 34 3, zm 2 34]
def k0ck : IC := (.seq qbve (.seq qbrl (.seq (.seq qbh1 (.block 0 (.loop qbhd))) (.seq q9o .ret))))
@[go_sem] def s0ck : List (RV × Co) := [(.t 2, .id)]
theorem c0ck : cFun Tryz.prog 6 = some (35, k0ck, s0ck) := by kernel_rfl

def qbir : IC := .reg false [zi 2 (.alo [.nils, (.int .i64 0), (.int .i64 0), (.int .i64 0), (.str []), (.int .i64 0), (.int .i64 0), (.int .i64 0)])]
def qbtw : IC := .reg false [zv 3 (.mov (.c (.int .i64 0)))]
def qbf6 : IC := .reg false [zm 4 3, zm 5 0, zv 6 (.len false (.t 5)), zv 7 (.bin .lss .no (.t 4) (.t 6))]
def qbsu : IC := .reg false [zm 10 0, zm 11 3, zv 12 (.iad 4 (.t 10) (.t 11)), zv 13 (.fad (.t 12) 0), zv 14 (.ld false 1 (.t 13)), zv 15 (.bin .eql .no (.t 14) (.c (.int .i64 0)))]
def qbeg : IC := .drw [zp (zm 16 0), zp (zm 17 3), zp (zv 18 (.slv 4 (.t 16) none (some (.t 17)) none)), zp (zm 19 0), zp (zm 20 3), zp (zv 21 (.iad 4 (.t 19) (.t 20))), zp (zv 22 (.fad (.t 21) 1)), zp (zv 23 (.ld false 1 (.t 22))), (zv 24 (.bld [(.int .i64 0), (.int .i64 0), (.int .i64 0), (.str [])] [(0, 1, (.c (.int .i64 0))), (1, 1, (.t 23))]), []), (zv 25 (.bld [.nils, (.int .i64 0), (.int .i64 0), (.int .i64 0), (.str []), (.int .i64 0), (.int .i64 0), (.int .i64 0)] [(0, 1, (.t 18)), (1, 4, (.t 24))]), []), (zn (.st 8 (.agg [(.sl 4), .id, .id, .id, .id, .id, .id, .id]) (.t 2) (.t 25)), [])]
def qbr1 : IC := .reg false [zm 8 3, zv 9 (.bin .add .no (.t 8) (.c (.int .i64 1))), zm 3 9]
def qbsf : IC := (.seq (.seq qbf6 (.cond (.t 7) .skip (.exit 0))) (.seq (.block 1 (.seq qbsu (.cond (.t 15) (.seq qbeg .ret) .skip))) qbr1))
def qbm7 : IC := .reg false [zm 26 0, zv 27 (.bld [.nils, (.int .i64 0), (.int .i64 0), (.int .i64 0), (.str []), (.int .i64 0), (.int .i64 0), (.int .i64 0)] [(0, 1, (.t 26))]), zn (.st 8 (.agg [(.sl 4), .id, .id, .id, .id, .id, .id, .id]) (.t 2) (.t 27))]
def k0cj : IC := (.seq qbir (.seq (.seq qbtw (.block 0 (.loop qbsf))) (.seq qbm7 .ret)))
@[go_sem] def s0cj : List (RV × Co) := [(.c true 8 2, (.agg [(.sl 4), .id, .id, .id, .id, .id, .id, .id]))]
theorem c0cj : cFun Tryz.prog 7 = some (28, k0cj, s0cj) := by kernel_rfl

def qb1h : IC := .reg false [zi 2 (.alo [(.int .i64 0), (.int .i64 0), (.int .i64 0), (.str []), .nils]), zv 3 (.mov (.c (.bool false)))]
def qb2f : IC := .reg false [zm 9 0, zi 10 (.call (.c (.fn 20 [] [])) [((.t 9), .id), ((.c (.int .i64 1)), .id)]), zm 8 10, zv 11 (.ext (.t 8) 0), zv 12 (.ext (.t 8) 1), zi 4 (.alo [(.int .i64 0), (.int .i64 0), (.int .i64 0), (.str [])]), zn (.st 4 .id (.t 4) (.t 11)), zm 5 12]
def qb39 : IC := .reg false [zm 13 5, zv 14 (.un .not (.t 13))]
def qb5a : IC := .reg false [zv 15 (.bld [(.int .i64 0), (.int .i64 0), (.int .i64 0), (.str []), .nils] []), zn (.st 5 (.agg [.id, .id, .id, .id, (.sl 5)]) (.t 2) (.t 15)), zv 3 (.mov (.c (.bool false)))]
def qbz7 : IC := .reg false [zv 16 (.fad (.t 4) 1), zv 17 (.ld false 1 (.t 16)), zv 18 (.fad (.t 4) 3), zv 19 (.ld false 1 (.t 18)), zv 20 (.bld [(.int .i64 0), (.int .i64 0), (.int .i64 0), (.str []), .nils] [(0, 1, (.c (.int .i64 31))), (1, 1, (.t 17)), (3, 1, (.t 19))]), zi 6 (.alo [(.int .i64 0), (.int .i64 0), (.int .i64 0), (.str []), .nils]), zn (.st 5 (.agg [.id, .id, .id, .id, (.sl 5)]) (.t 6) (.t 20))]
def qb13 : IC := .reg false [zi 7 (.alo [(.int .i64 0), (.int .i64 0), (.int .i64 0), (.str []), .nils])]
def qb3c : IC := .reg false [zm 21 0, zi 22 (.call (.c (.fn 21 [] [])) [((.t 21), .id), ((.c (.str [58, 58])), .id)])]
def qb6s : IC := .reg false [zv 23 (.fad (.t 6) 0), zn (.st 1 .id (.t 23) (.c (.int .i64 32)))]
def qbzl : IC := .reg false [zm 25 0, zi 26 (.call (.c (.fn 22 [] [])) [((.t 25), .id)]), zm 24 26, zv 27 (.ext (.t 24) 0), zv 28 (.ext (.t 24) 1), zn (.st 5 (.agg [.id, .id, .id, .id, (.sl 5)]) (.t 7) (.t 27)), zm 5 28]
def qbyy : IC := .reg false [zm 30 0, zi 31 (.call (.c (.fn 23 [] [])) [((.t 30), .id), ((.c (.str [61])), .id)]), zm 29 31, zv 32 (.ext (.t 29) 0), zv 33 (.ext (.t 29) 1), zn (.st 5 (.agg [.id, .id, .id, .id, (.sl 5)]) (.t 7) (.t 32)), zm 5 33]
def qbwh : IC := .reg false [zm 34 5, zv 35 (.un .not (.t 34))]
def qbmf : IC := .reg false [zv 36 (.bld [(.int .i64 0), (.int .i64 0), (.int .i64 0), (.str []), .nils] []), zn (.st 5 (.agg [.id, .id, .id, .id, (.sl 5)]) (.t 2) (.t 36)), zv 3 (.mov (.c (.bool false)))]
def qbw3 : IC := .reg false [zv 37 (.ld true 5 (.t 7)), zv 38 (.bsl 5 [((.t 37), (.agg [.id, .id, .id, .id, (.sl 5)]))]), zv 39 (.fad (.t 6) 4), zn (.st 1 (.sl 5) (.t 39) (.t 38))]
def qbll : IC := .reg false [zv 40 (.ld true 5 (.t 6)), zn (.st 5 (.agg [.id, .id, .id, .id, (.sl 5)]) (.t 2) (.t 40)), zv 3 (.mov (.c (.bool true)))]
def k0y : IC := (.seq qb1h (.seq qb2f (.seq (.seq qb39 (.cond (.t 14) (.seq qb5a .ret) .skip)) (.seq qbz7 (.seq qb13 (.seq (.seq qb3c (.cond (.t 22) (.seq qb6s qbzl) qbyy)) (.seq (.seq qbwh (.cond (.t 35) (.seq qbmf .ret) .skip)) (.seq qbw3 (.seq qbll .ret)))))))))
@[go_sem] def s0y : List (RV × Co) := [(.c true 5 2, (.agg [.id, .id, .id, .id, (.sl 5)])), (.t 3, .id)]
theorem c0y : cFun Tryz.prog 8 = some (41, k0y, s0y) := by kernel_rfl

def qb5k : IC := .reg false [zi 1 (.box (.t 0)), zi 2 (.alo [.nils, (.int .i64 0), (.int .i64 0), (.int .i64 0), (.str []), (.int .i64 0), (.int .i64 0), (.int .i64 0)]), zi 3 (.alo [(.int .i64 0), (.int .i64 0), (.int .i64 0), (.str []), .nils])]
def qb6n : IC := .reg false [zv 13 (.ld true 8 (.t 1)), zi 14 (.call (.c (.fn 24 [] [])) [((.t 13), (.agg [(.sl 4), .id, .id, .id, .id, .id, .id, .id])), ((.c (.int .i64 1)), .id)]), zm 12 14, zv 15 (.ext (.t 12) 0), zv 16 (.ext (.t 12) 1), zv 17 (.ext (.t 12) 2), zi 4 (.alo [(.int .i64 0), (.int .i64 0), (.int .i64 0), (.str [])]), zn (.st 8 (.agg [(.sl 4), .id, .id, .id, .id, .id, .id, .id]) (.t 1) (.t 15)), zn (.st 4 .id (.t 4) (.t 16)), zm 5 17]
def qb0i : IC := .reg false [zv 19 (.ld true 8 (.t 1)), zi 20 (.call (.c (.fn 25 [] [])) [((.t 19), (.agg [(.sl 4), .id, .id, .id, .id, .id, .id, .id])), ((.c (.str [58, 58])), .id)]), zm 18 20, zv 21 (.ext (.t 18) 0), zv 22 (.ext (.t 18) 1), zi 6 (.alo [.nils, (.int .i64 0), (.int .i64 0), (.int .i64 0), (.str []), (.int .i64 0), (.int .i64 0), (.int .i64 0)]), zn (.st 8 (.agg [(.sl 4), .id, .id, .id, .id, .id, .id, .id]) (.t 6) (.t 21)), zm 7 22]
def qb0y : IC := .reg false [zm 23 7]
def qbzd : IC := .reg false [zv 25 (.ld true 8 (.t 6)), zi 26 (.call (.c (.fn 26 [] [])) [((.t 25), (.agg [(.sl 4), .id, .id, .id, .id, .id, .id, .id]))]), zm 24 26, zv 27 (.ext (.t 24) 0), zv 28 (.ext (.t 24) 1), zi 8 (.alo [.nils, (.int .i64 0), (.int .i64 0), (.int .i64 0), (.str []), (.int .i64 0), (.int .i64 0), (.int .i64 0)]), zi 9 (.alo [(.int .i64 0), (.int .i64 0), (.int .i64 0), (.str []), .nils]), zn (.st 8 (.agg [(.sl 4), .id, .id, .id, .id, .id, .id, .id]) (.t 8) (.t 27)), zn (.st 5 (.agg [.id, .id, .id, .id, (.sl 5)]) (.t 9) (.t 28))]
def qb2n : IC := .drw [zp (zv 29 (.ld true 8 (.t 8))), zp (zv 30 (.fad (.t 4) 1)), zp (zv 31 (.ld false 1 (.t 30))), zp (zv 32 (.fad (.t 4) 3)), zp (zv 33 (.ld false 1 (.t 32))), zp (zv 34 (.ld true 5 (.t 9))), (zv 35 (.bsl 5 [((.t 34), (.agg [.id, .id, .id, .id, (.sl 5)]))]), []), (zv 36 (.bld [(.int .i64 0), (.int .i64 0), (.int .i64 0), (.str []), .nils] [(0, 1, (.c (.int .i64 32))), (1, 1, (.t 31)), (3, 1, (.t 33)), (4, 1, (.t 35))]), []), (zn (.st 8 (.agg [(.sl 4), .id, .id, .id, .id, .id, .id, .id]) (.t 2) (.t 29)), [2, 4, 5, 6]), (zn (.st 5 (.agg [.id, .id, .id, .id, (.sl 5)]) (.t 3) (.t 36)), [])]
def qb2w : IC := .reg false [zv 38 (.ld true 8 (.t 1)), zi 39 (.call (.c (.fn 27 [] [])) [((.t 38), (.agg [(.sl 4), .id, .id, .id, .id, .id, .id, .id]))]), zm 37 39, zv 40 (.ext (.t 37) 0), zv 41 (.ext (.t 37) 1), zn (.st 8 (.agg [(.sl 4), .id, .id, .id, .id, .id, .id, .id]) (.t 1) (.t 40)), zm 10 41]
def qb1q : IC := .reg false [zv 43 (.ld true 8 (.t 1)), zi 44 (.call (.c (.fn 28 [] [])) [((.t 43), (.agg [(.sl 4), .id, .id, .id, .id, .id, .id, .id])), ((.c (.str [61])), .id)]), zm 42 44, zv 45 (.ext (.t 42) 0), zv 46 (.ext (.t 42) 1), zn (.st 8 (.agg [(.sl 4), .id, .id, .id, .id, .id, .id, .id]) (.t 1) (.t 45))]
def qbzy : IC := .reg false [zv 48 (.ld true 8 (.t 1)), zi 49 (.call (.c (.fn 11 [] [])) [((.t 48), (.agg [(.sl 4), .id, .id, .id, .id, .id, .id, .id]))]), zm 47 49, zv 50 (.ext (.t 47) 0), zv 51 (.ext (.t 47) 1), zi 11 (.alo [(.int .i64 0), (.int .i64 0), (.int .i64 0), (.str []), .nils]), zn (.st 8 (.agg [(.sl 4), .id, .id, .id, .id, .id, .id, .id]) (.t 1) (.t 50)), zn (.st 5 (.agg [.id, .id, .id, .id, (.sl 5)]) (.t 11) (.t 51))]
def qbz6 : IC := .drw [zp (zv 52 (.ld true 8 (.t 1))), zp (zv 53 (.fad (.t 4) 1)), zp (zv 54 (.ld false 1 (.t 53))), zp (zv 55 (.fad (.t 4) 3)), zp (zv 56 (.ld false 1 (.t 55))), zp (zm 57 10), zp (zv 58 (.ld true 5 (.t 11))), (zi 59 (.call (.c (.fn 29 [] [])) [((.t 57), (.sl 4)), ((.t 58), (.agg [.id, .id, .id, .id, (.sl 5)]))]), [0, 2, 4]), (zv 60 (.bsl 5 [((.t 59), (.agg [.id, .id, .id, .id, (.sl 5)]))]), []), (zv 61 (.bld [(.int .i64 0), (.int .i64 0), (.int .i64 0), (.str []), .nils] [(0, 1, (.c (.int .i64 31))), (1, 1, (.t 54)), (3, 1, (.t 56)), (4, 1, (.t 60))]), []), (zn (.st 8 (.agg [(.sl 4), .id, .id, .id, .id, .id, .id, .id]) (.t 2) (.t 52)), [2, 4, 8]), (zn (.st 5 (.agg [.id, .id, .id, .id, (.sl 5)]) (.t 3) (.t 61)), [])]
def k0k : IC := (.seq qb5k (.seq qb6n (.seq (.seq qb0i (.seq qb0y (.cond (.t 23) (.seq qbzd (.seq qb2n .ret)) .skip))) (.seq qb2w (.seq qb1q (.seq qbzy (.seq qbz6 .ret)))))))
@[go_sem] def s0k : List (RV × Co) := [(.c true 8 2, (.agg [(.sl 4), .id, .id, .id, .id, .id, .id, .id])), (.c true 5 3, (.agg [.id, .id, .id, .id, (.sl 5)]))]
theorem c0k : cFun Tryz.prog 9 = some (62, k0k, s0k) := by kernel_rfl

def qb5j : IC := .reg false [zi 2 (.alo [(.int .i64 0), (.int .i64 0), (.int .i64 0), (.str []), .nils]), zv 3 (.mov (.c (.bool false)))]
def qbyp : IC := .reg false [zm 6 0, zi 7 (.call (.c (.fn 30 [] [])) [((.t 6), .id)]), zv 8 (.un .not (.t 7))]
def qb4l : IC := .reg false [zv 9 (.bld [(.int .i64 0), (.int .i64 0), (.int .i64 0), (.str []), .nils] []), zn (.st 5 (.agg [.id, .id, .id, .id, (.sl 5)]) (.t 2) (.t 9)), zv 3 (.mov (.c (.bool false)))]
def qb33 : IC := .reg false [zm 11 0, zi 12 (.call (.c (.fn 31 [] [])) [((.t 11), .id)]), zm 10 12, zv 13 (.ext (.t 10) 0), zv 14 (.ext (.t 10) 1), zi 4 (.alo [(.int .i64 0), (.int .i64 0), (.int .i64 0), (.str []), .nils]), zn (.st 5 (.agg [.id, .id, .id, .id, (.sl 5)]) (.t 4) (.t 13)), zm 5 14]
def qb4j : IC := .reg false [zm 15 0, zi 16 (.call (.c (.fn 32 [] [])) [((.t 15), .id)])]
def qb1b : IC := .reg false [zm 17 5, zv 18 (.un .not (.t 17))]
def qbzf : IC := .reg false [zv 19 (.bld [(.int .i64 0), (.int .i64 0), (.int .i64 0), (.str []), .nils] []), zn (.st 5 (.agg [.id, .id, .id, .id, (.sl 5)]) (.t 2) (.t 19)), zv 3 (.mov (.c (.bool false)))]
def qb37 : IC := .reg false [zv 20 (.ld true 5 (.t 4)), zn (.st 5 (.agg [.id, .id, .id, .id, (.sl 5)]) (.t 2) (.t 20)), zv 3 (.mov (.c (.bool true)))]
def k0o : IC := (.seq qb5j (.seq (.seq qbyp (.cond (.t 8) (.seq qb4l .ret) .skip)) (.seq qb33 (.seq qb4j (.seq (.seq qb1b (.cond (.t 18) (.seq qbzf .ret) .skip)) (.seq qb37 .ret))))))
@[go_sem] def s0o : List (RV × Co) := [(.c true 5 2, (.agg [.id, .id, .id, .id, (.sl 5)])), (.t 3, .id)]
theorem c0o : cFun Tryz.prog 10 = some (21, k0o, s0o) := by kernel_rfl

def qb0e : IC := .reg false [zi 1 (.box (.t 0)), zi 2 (.alo [.nils, (.int .i64 0), (.int .i64 0), (.int .i64 0), (.str []), (.int .i64 0), (.int .i64 0), (.int .i64 0)]), zi 3 (.alo [(.int .i64 0), (.int .i64 0), (.int .i64 0), (.str []), .nils])]
def qb2i : IC := .reg false [zv 6 (.ld true 8 (.t 1)), zi 7 (.call (.c (.fn 33 [] [])) [((.t 6), (.agg [(.sl 4), .id, .id, .id, .id, .id, .id, .id]))]), zm 5 7, zv 8 (.ext (.t 5) 0), zv 9 (.ext (.t 5) 1), zn (.st 8 (.agg [(.sl 4), .id, .id, .id, .id, .id, .id, .id]) (.t 1) (.t 8))]
def qb3v : IC := .reg false [zv 11 (.ld true 8 (.t 1)), zi 12 (.call (.c (.fn 34 [] [])) [((.t 11), (.agg [(.sl 4), .id, .id, .id, .id, .id, .id, .id]))]), zm 10 12, zv 13 (.ext (.t 10) 0), zv 14 (.ext (.t 10) 1), zi 4 (.alo [(.int .i64 0), (.int .i64 0), (.int .i64 0), (.str []), .nils]), zn (.st 8 (.agg [(.sl 4), .id, .id, .id, .id, .id, .id, .id]) (.t 1) (.t 13)), zn (.st 5 (.agg [.id, .id, .id, .id, (.sl 5)]) (.t 4) (.t 14))]
def qb22 : IC := .drw [zp (zv 15 (.ld true 8 (.t 1))), (zi 16 (.call (.c (.fn 35 [] [])) [((.t 15), (.agg [(.sl 4), .id, .id, .id, .id, .id, .id, .id]))]), []), (zv 17 (.ld true 5 (.t 4)), [1]), (zn (.st 8 (.agg [(.sl 4), .id, .id, .id, .id, .id, .id, .id]) (.t 2) (.t 16)), [2]), (zn (.st 5 (.agg [.id, .id, .id, .id, (.sl 5)]) (.t 3) (.t 17)), [])]
def k0d : IC := (.seq qb0e (.seq qb2i (.seq qb3v (.seq qb22 .ret))))
@[go_sem] def s0d : List (RV × Co) := [(.c true 8 2, (.agg [(.sl 4), .id, .id, .id, .id, .id, .id, .id])), (.c true 5 3, (.agg [.id, .id, .id, .id, (.sl 5)]))]
theorem c0d : cFun Tryz.prog 11 = some (18, k0d, s0d) := by kernel_rfl

def qbih : IC := .reg false [zv 2 (.mov (.c (.int .i64 0))), zv 3 (.mov (.c (.int .i64 0)))]
def qbnt : IC := .reg false [zm 5 0, zv 6 (.bin .eql .ptr (.t 5) (.c .nilp)), zm 4 6]
def qbl9 : IC := .reg false [zv 2 (.mov (.c (.int .i64 0))), zv 3 (.mov (.c (.int .i64 1)))]
def qbr5 : IC := .reg false [zm 8 0, zv 9 (.nck (.t 8)), zv 10 (.fad (.t 9) 7), zv 11 (.ld false 1 (.t 10)), zv 12 (.bin .neq .no (.t 11) (.c (.int .i64 0))), zm 7 12]
def qbut : IC := .drw [zp (zm 13 0), zp (zv 14 (.nck (.t 13))), zp (zv 15 (.fad (.t 14) 8)), zp (zv 16 (.ld false 1 (.t 15))), zp (zm 17 0), zp (zv 18 (.nck (.t 17))), zp (zv 19 (.fad (.t 18) 7)), zp (zv 20 (.ld false 1 (.t 19))), zp (zm 2 16), zp (zm 3 20)]
def qbgi : IC := .drw [zp (zm 22 0), zp (zv 23 (.nck (.t 22))), zp (zv 24 (.fad (.t 23) 5)), zp (zv 25 (.ld false 1 (.t 24))), zp (zm 26 0), zp (zv 27 (.nck (.t 26))), zp (zv 28 (.fad (.t 27) 0)), zp (zv 29 (.ld false 1 (.t 28))), zp (zv 30 (.len false (.t 29))), zp (zv 31 (.bin .lss .no (.t 25) (.t 30))), zp (zm 21 31)]
def qbyd : IC := .drw [zp (zm 32 0), zp (zv 33 (.nck (.t 32))), zp (zv 34 (.fad (.t 33) 0)), zp (zv 35 (.ld false 1 (.t 34))), zp (zm 36 0), zp (zv 37 (.nck (.t 36))), zp (zv 38 (.fad (.t 37) 5)), zp (zv 39 (.ld false 1 (.t 38))), zp (zv 40 (.iad 4 (.t 35) (.t 39))), zp (zv 41 (.fad (.t 40) 1)), zp (zv 42 (.ld false 1 (.t 41))), zp (zm 2 42), zp (zv 3 (.mov (.c (.int .i64 5))))]
def qbe5 : IC := .reg false [zm 43 0, zv 44 (.nck (.t 43)), zv 45 (.fad (.t 44) 1), zv 46 (.fad (.t 45) 1), zv 47 (.ld false 1 (.t 46)), zm 2 47, zv 3 (.mov (.c (.int .i64 0)))]
def k0cv : IC := (.seq qbih (.seq (.block 0 (.seq qbnt (.cond (.t 4) (.seq qbl9 .ret) (.seq qbr5 (.cond (.t 7) (.seq qbut .ret) (.seq qbgi (.cond (.t 21) (.seq qbyd .ret) .skip))))))) (.seq qbe5 .ret)))
@[go_sem] def s0cv : List (RV × Co) := [(.t 2, .id), (.t 3, .id)]
theorem c0cv : cFun Tryz.prog 12 = some (48, k0cv, s0cv) := by kernel_rfl

def qbxp : IC := .reg false [zi 1 (.box (.t 0)), zv 2 (.mov (.c (.int .i64 0))), zv 3 (.mov (.c (.int .i64 0)))]
def qbta : IC := .reg false [zv 5 (.fad (.t 1) 6), zv 6 (.ld false 1 (.t 5)), zv 7 (.bin .neq .no (.t 6) (.c (.int .i64 0))), zm 4 7]
def qbfp : IC := .drw [zp (zv 8 (.fad (.t 1) 7)), zp (zv 9 (.ld false 1 (.t 8))), zp (zv 10 (.fad (.t 1) 6)), zp (zv 11 (.ld false 1 (.t 10))), zp (zm 2 9), zp (zm 3 11)]
def qbel : IC := .reg false [zv 13 (.fad (.t 1) 0), zv 14 (.ld false 1 (.t 13)), zv 15 (.len false (.t 14)), zv 16 (.bin .gtr .no (.t 15) (.c (.int .i64 0))), zm 12 16]
def qbvv : IC := .reg false [zv 17 (.fad (.t 1) 0), zv 18 (.ld false 1 (.t 17)), zv 19 (.iad 4 (.t 18) (.c (.int .i64 0))), zv 20 (.fad (.t 19) 1), zv 21 (.ld false 1 (.t 20)), zm 2 21, zv 3 (.mov (.c (.int .i64 5)))]
def qbf7 : IC := .reg false [zv 22 (.fad (.t 1) 1), zv 23 (.fad (.t 22) 1), zv 24 (.ld false 1 (.t 23)), zm 2 24, zv 3 (.mov (.c (.int .i64 0)))]
def k0ci : IC := (.seq qbxp (.seq (.block 0 (.seq qbta (.cond (.t 4) (.seq qbfp .ret) (.seq qbel (.cond (.t 12) (.seq qbvv .ret) .skip))))) (.seq qbf7 .ret)))
@[go_sem] def s0ci : List (RV × Co) := [(.t 2, .id), (.t 3, .id)]
theorem c0ci : cFun Tryz.prog 13 = some (25, k0ci, s0ci) := by kernel_rfl

def qbns : IC := .reg false [zi 2 (.box (.t 0)), zi 3 (.box (.t 1)), zv 4 (.mov (.c (.bool false)))]
def qbte : IC := .reg false [zv 6 (.fad (.t 2) 1), zv 7 (.ld false 1 (.t 6)), zv 8 (.fad (.t 3) 1), zv 9 (.ld false 1 (.t 8)), zv 10 (.bin .neq .no (.t 7) (.t 9)), zm 11 10, zw 11 false 12 (.fad (.t 2) 0), zw 11 false 13 (.ld false 1 (.t 12)), zw 11 false 14 (.fad (.t 3) 0), zw 11 false 15 (.ld false 1 (.t 14)), zw 11 false 16 (.bin .neq .no (.t 13) (.t 15)), zv 17 (.pick (.t 11) (.c (.bool true)) (.t 16)), zm 18 17, zw 18 false 19 (.fad (.t 2) 3), zw 18 false 20 (.ld false 1 (.t 19)), zw 18 false 21 (.fad (.t 3) 3), zw 18 false 22 (.ld false 1 (.t 21)), zw 18 false 23 (.bin .neq .no (.t 20) (.t 22)), zv 24 (.pick (.t 18) (.c (.bool true)) (.t 23)), zm 25 24, zw 25 false 26 (.fad (.t 2) 2), zw 25 false 27 (.ld false 1 (.t 26)), zw 25 false 28 (.fad (.t 3) 2), zw 25 false 29 (.ld false 1 (.t 28)), zw 25 false 30 (.bin .neq .no (.t 27) (.t 29)), zv 31 (.pick (.t 25) (.c (.bool true)) (.t 30)), zm 32 31, zw 32 false 33 (.fad (.t 2) 4), zw 32 false 34 (.ld false 1 (.t 33)), zw 32 false 35 (.len false (.t 34)), zw 32 false 36 (.fad (.t 3) 4), zw 32 false 37 (.ld false 1 (.t 36)), zw 32 false 38 (.len false (.t 37)), zw 32 false 39 (.bin .neq .no (.t 35) (.t 38)), zv 40 (.pick (.t 32) (.c (.bool true)) (.t 39))]
def qbsd : IC := .reg false [zv 4 (.mov (.c (.bool false)))]
def qbw1 : IC := .reg false [zv 5 (.mov (.c (.int .i64 0)))]
def qbn3 : IC := .reg false [zm 41 5, zv 42 (.fad (.t 2) 4), zv 43 (.ld false 1 (.t 42)), zv 44 (.len false (.t 43)), zv 45 (.bin .lss .no (.t 41) (.t 44))]
def qbvu : IC := .drw [zp (zv 48 (.fad (.t 2) 4)), zp (zv 49 (.ld false 1 (.t 48))), zp (zm 50 5), zp (zv 51 (.iad 5 (.t 49) (.t 50))), zp (zv 52 (.ld true 5 (.t 51))), zp (zv 53 (.fad (.t 3) 4)), zp (zv 54 (.ld false 1 (.t 53))), zp (zm 55 5), zp (zv 56 (.iad 5 (.t 54) (.t 55))), zp (zv 57 (.ld true 5 (.t 56))), (zi 58 (.call (.c (.fn 14 [] [])) [((.t 52), (.agg [.id, .id, .id, .id, (.sl 5)])), ((.t 57), (.agg [.id, .id, .id, .id, (.sl 5)]))]), []), zp (zv 59 (.un .not (.t 58)))]
def qbwu : IC := .reg false [zv 4 (.mov (.c (.bool false)))]
def qbjq : IC := .reg false [zm 46 5, zv 47 (.bin .add .no (.t 46) (.c (.int .i64 1))), zm 5 47]
def qbl8 : IC := (.seq (.seq qbn3 (.cond (.t 45) .skip (.exit 0))) (.seq (.block 1 (.seq qbvu (.cond (.t 59) (.seq qbwu .ret) .skip))) qbjq))
def qbbt : IC := .reg false [zv 4 (.mov (.c (.bool true)))]
def k0ep : IC := (.seq qbns (.seq (.seq qbte (.cond (.t 40) (.seq qbsd .ret) .skip)) (.seq (.seq qbw1 (.block 0 (.loop qbl8))) (.seq qbbt .ret))))
@[go_sem] def s0ep : List (RV × Co) := [(.t 4, .id)]
theorem c0ep : cFun Tryz.prog 14 = some (60, k0ep, s0ep) := by kernel_rfl

def qbwf : IC := .reg false [zi 2 (.alo [(.int .i64 0), (.int .i64 0), (.int .i64 0), (.str [])])]
def qbxn : IC := .reg false [zm 4 0, zi 5 (.call (.c (.fn 36 [] [])) [((.t 4), .id)]), zm 3 5]
def qbmg : IC := .reg false [zv 6 (.bld [(.int .i64 0), (.int .i64 0), (.int .i64 0), (.str [])] []), zn (.st 4 .id (.t 2) (.t 6))]
def qblr : IC := .drw [zp (zm 8 0), zp (zv 9 (.nck (.t 8))), zp (zv 10 (.fad (.t 9) 5)), zp (zv 11 (.ld false 1 (.t 10))), zp (zm 12 0), zp (zv 13 (.nck (.t 12))), zp (zv 14 (.fad (.t 13) 0)), zp (zv 15 (.ld false 1 (.t 14))), zp (zv 16 (.len false (.t 15))), zp (zv 17 (.bin .lss .no (.t 11) (.t 16))), zp (zm 7 17)]
def qbue : IC := .drw [zp (zm 18 0), zp (zv 19 (.nck (.t 18))), zp (zv 20 (.fad (.t 19) 0)), zp (zv 21 (.ld false 1 (.t 20))), zp (zm 22 0), zp (zv 23 (.nck (.t 22))), zp (zv 24 (.fad (.t 23) 5)), zp (zv 25 (.ld false 1 (.t 24))), zp (zv 26 (.iad 4 (.t 21) (.t 25))), zp (zv 27 (.ld true 4 (.t 26))), (zn (.st 4 .id (.t 2) (.t 27)), [])]
def qbp7 : IC := .reg false [zm 28 0, zv 29 (.nck (.t 28)), zv 30 (.fad (.t 29) 1), zv 31 (.ld true 4 (.t 30)), zn (.st 4 .id (.t 2) (.t 31))]
def k0cm : IC := (.seq qbwf (.seq (.block 0 (.seq qbxn (.cond (.t 3) (.seq qbmg .ret) (.seq qblr (.cond (.t 7) (.seq qbue .ret) .skip))))) (.seq qbp7 .ret)))
@[go_sem] def s0cm : List (RV × Co) := [(.c true 4 2, .id)]
theorem c0cm : cFun Tryz.prog 15 = some (32, k0cm, s0cm) := by kernel_rfl

def qbkg : IC := .reg false [zi 1 (.box (.t 0)), zi 2 (.alo [(.int .i64 0), (.int .i64 0), (.int .i64 0), (.str [])])]
def qbj8 : IC := .reg false [zv 4 (.fad (.t 1) 6), zv 5 (.ld false 1 (.t 4)), zv 6 (.bin .neq .no (.t 5) (.c (.int .i64 0))), zm 3 6]
def qbr2 : IC := .reg false [zv 7 (.bld [(.int .i64 0), (.int .i64 0), (.int .i64 0), (.str [])] []), zn (.st 4 .id (.t 2) (.t 7))]
def qbv2 : IC := .reg false [zv 9 (.fad (.t 1) 0), zv 10 (.ld false 1 (.t 9)), zv 11 (.len false (.t 10)), zv 12 (.bin .eql .no (.t 11) (.c (.int .i64 0))), zm 8 12]
def qbr6 : IC := .reg false [zv 13 (.fad (.t 1) 1), zv 14 (.ld true 4 (.t 13)), zn (.st 4 .id (.t 2) (.t 14))]
def qbe8 : IC := .reg false [zv 15 (.fad (.t 1) 0), zv 16 (.ld false 1 (.t 15)), zv 17 (.iad 4 (.t 16) (.c (.int .i64 0))), zv 18 (.ld true 4 (.t 17)), zn (.st 4 .id (.t 2) (.t 18))]
def k0bz : IC := (.seq qbkg (.seq (.block 0 (.seq qbj8 (.cond (.t 3) (.seq qbr2 .ret) (.seq qbv2 (.cond (.t 8) (.seq qbr6 .ret) .skip))))) (.seq qbe8 .ret)))
@[go_sem] def s0bz : List (RV × Co) := [(.c true 4 2, .id)]
theorem c0bz : cFun Tryz.prog 16 = some (19, k0bz, s0bz) := by kernel_rfl

def qb4c : IC := .reg false [zi 2 (.alo [(.int .i64 0), (.int .i64 0), (.int .i64 0), (.str []), .nils]), zv 3 (.mov (.c (.int .i64 0))), zv 4 (.mov (.c (.int .i64 0)))]
def qb2g : IC := .reg false [zm 14 0, zi 15 (.call (.c (.fn 37 [] [])) [((.t 14), .id)]), zm 13 15, zv 16 (.ext (.t 13) 0), zv 17 (.ext (.t 13) 1), zv 18 (.ext (.t 13) 2), zm 5 16, zm 6 17, zm 7 18]
def qb54 : IC := .reg false [zm 19 7, zv 20 (.bin .neq .no (.t 19) (.c (.int .i64 0)))]
def qb3g : IC := .reg false [zv 21 (.bld [(.int .i64 0), (.int .i64 0), (.int .i64 0), (.str []), .nils] []), zm 22 6, zm 23 7, zn (.st 5 (.agg [.id, .id, .id, .id, (.sl 5)]) (.t 2) (.t 21)), zm 3 22, zm 4 23]
def qb0l : IC := .reg false [zm 24 5, zi 25 (.call (.c (.fn 6 [] [])) [((.t 24), (.sl 4))]), zm 8 25]
def qbza : IC := .reg false [zm 27 8, zi 28 (.call (.c (.fn 10 [] [])) [((.t 27), .id)]), zm 26 28, zv 29 (.ext (.t 26) 0), zv 30 (.ext (.t 26) 1), zi 9 (.alo [(.int .i64 0), (.int .i64 0), (.int .i64 0), (.str []), .nils]), zn (.st 5 (.agg [.id, .id, .id, .id, (.sl 5)]) (.t 9) (.t 29)), zm 10 30]
def qb3l : IC := .reg false [zm 32 8, zi 33 (.call (.c (.fn 12 [] [])) [((.t 32), .id)]), zm 31 33, zv 34 (.ext (.t 31) 0), zv 35 (.ext (.t 31) 1), zm 11 34, zm 12 35]
def qbyu : IC := .reg false [zm 36 12, zv 37 (.bin .neq .no (.t 36) (.c (.int .i64 0)))]
def qb2o : IC := .reg false [zv 38 (.bld [(.int .i64 0), (.int .i64 0), (.int .i64 0), (.str []), .nils] []), zm 39 11, zm 40 12, zn (.st 5 (.agg [.id, .id, .id, .id, (.sl 5)]) (.t 2) (.t 38)), zm 3 39, zm 4 40]
def qb58 : IC := .reg false [zv 41 (.ld true 5 (.t 9)), zi 42 (.call (.c (.fn 38 [] [])) [((.t 41), (.agg [.id, .id, .id, .id, (.sl 5)]))]), zv 43 (.bin .gtr .no (.t 42) (.c (.int .i64 100)))]
def qbx1 : IC := .drw [(zv 44 (.bld [(.int .i64 0), (.int .i64 0), (.int .i64 0), (.str []), .nils] []), []), zp (zv 45 (.fad (.t 9) 1)), zp (zv 46 (.ld false 1 (.t 45))), (zn (.st 5 (.agg [.id, .id, .id, .id, (.sl 5)]) (.t 2) (.t 44)), [2]), zp (zm 3 46), zp (zv 4 (.mov (.c (.int .i64 2))))]
def qbkt : IC := .reg false [zv 47 (.ld true 5 (.t 9)), zn (.st 5 (.agg [.id, .id, .id, .id, (.sl 5)]) (.t 2) (.t 47)), zv 3 (.mov (.c (.int .i64 0))), zv 4 (.mov (.c (.int .i64 0)))]
def k0p : IC := (.seq qb4c (.seq qb2g (.seq (.seq qb54 (.cond (.t 20) (.seq qb3g .ret) .skip)) (.seq qb0l (.seq qbza (.seq (.seq qb3l (.seq qbyu (.cond (.t 37) (.seq qb2o .ret) .skip))) (.seq (.seq qb58 (.cond (.t 43) (.seq qbx1 .ret) .skip)) (.seq qbkt .ret))))))))
@[go_sem] def s0p : List (RV × Co) := [(.c true 5 2, (.agg [.id, .id, .id, .id, (.sl 5)])), (.t 3, .id), (.t 4, .id)]
theorem c0p : cFun Tryz.prog 17 = some (48, k0p, s0p) := by kernel_rfl

def qb53 : IC := .reg false [zi 2 (.alo [(.int .i64 0), (.int .i64 0), (.int .i64 0), (.str []), .nils]), zv 3 (.mov (.c (.int .i64 0))), zv 4 (.mov (.c (.int .i64 0)))]
def qb52 : IC := .reg false [zm 11 0, zi 12 (.call (.c (.fn 39 [] [])) [((.t 11), .id)]), zm 10 12, zv 13 (.ext (.t 10) 0), zv 14 (.ext (.t 10) 1), zv 15 (.ext (.t 10) 2), zm 5 13, zm 6 14, zm 7 15]
def qb0z : IC := .reg false [zm 16 7, zv 17 (.bin .neq .no (.t 16) (.c (.int .i64 0)))]
def qbz5 : IC := .reg false [zv 18 (.bld [(.int .i64 0), (.int .i64 0), (.int .i64 0), (.str []), .nils] []), zm 19 6, zm 20 7, zn (.st 5 (.agg [.id, .id, .id, .id, (.sl 5)]) (.t 2) (.t 18)), zm 3 19, zm 4 20]
def qbzb : IC := .reg false [zm 22 5, zi 23 (.call (.c (.fn 7 [] [])) [((.t 22), (.sl 4))]), zi 24 (.call (.c (.fn 11 [] [])) [((.t 23), (.agg [(.sl 4), .id, .id, .id, .id, .id, .id, .id]))]), zm 21 24, zv 25 (.ext (.t 21) 0), zv 26 (.ext (.t 21) 1), zi 8 (.alo [.nils, (.int .i64 0), (.int .i64 0), (.int .i64 0), (.str []), (.int .i64 0), (.int .i64 0), (.int .i64 0)]), zi 9 (.alo [(.int .i64 0), (.int .i64 0), (.int .i64 0), (.str []), .nils]), zn (.st 8 (.agg [(.sl 4), .id, .id, .id, .id, .id, .id, .id]) (.t 8) (.t 25)), zn (.st 5 (.agg [.id, .id, .id, .id, (.sl 5)]) (.t 9) (.t 26))]
def qb3w : IC := .reg false [zv 27 (.ld true 8 (.t 8)), zv 28 (.ld true 5 (.t 9)), zi 29 (.call (.c (.fn 40 [] [])) [((.t 27), (.agg [(.sl 4), .id, .id, .id, .id, .id, .id, .id])), ((.t 28), (.agg [.id, .id, .id, .id, (.sl 5)]))]), zv 30 (.ext (.t 29) 0), zv 31 (.ext (.t 29) 1), zv 32 (.ext (.t 29) 2), zn (.st 5 (.agg [.id, .id, .id, .id, (.sl 5)]) (.t 2) (.t 30)), zm 3 31, zm 4 32]
def k0b : IC := (.seq qb53 (.seq qb52 (.seq (.seq qb0z (.cond (.t 17) (.seq qbz5 .ret) .skip)) (.seq qbzb (.seq qb3w .ret)))))
@[go_sem] def s0b : List (RV × Co) := [(.c true 5 2, (.agg [.id, .id, .id, .id, (.sl 5)])), (.t 3, .id), (.t 4, .id)]
theorem c0b : cFun Tryz.prog 18 = some (33, k0b, s0b) := by kernel_rfl

def qbxw : IC := .reg false [zi 1 (.box (.t 0)), zv 2 (.mov (.c (.bool false)))]
def qbis : IC := .reg false [zv 3 (.ld true 5 (.t 1)), zi 4 (.call (.c (.fn 41 [] [])) [((.t 3), (.agg [.id, .id, .id, .id, (.sl 5)]))]), zm 5 4, zw 5 true 6 (.ld true 5 (.t 1)), ⟨some (5, true), some 7, .call (.c (.fn 42 [] [])) [((.t 6), (.agg [.id, .id, .id, .id, (.sl 5)]))]⟩, zv 8 (.pick (.t 5) (.t 7) (.c (.bool false))), zm 2 8]
def k0eb : IC := (.seq qbxw (.seq qbis .ret))
@[go_sem] def s0eb : List (RV × Co) := [(.t 2, .id)]
theorem c0eb : cFun Tryz.prog 19 = some (9, k0eb, s0eb) := by kernel_rfl

def qbrj : IC := .reg false [zi 4 (.alo [(.int .i64 0), (.int .i64 0), (.int .i64 0), (.str [])]), zv 5 (.mov (.c (.bool false)))]
def qbff : IC := .reg false [zm 6 0, zi 7 (.call (.c (.fn 36 [] [])) [((.t 6), .id)]), zm 8 7, zw 8 false 9 (.mov (.t 0)), ⟨some (8, false), some 10, .call (.c (.fn 15 [] [])) [((.t 9), .id)]⟩, zw 8 false 11 (.fld false 1 0 (.t 10)), zw 8 false 12 (.mov (.t 1)), zw 8 false 13 (.bin .neq .no (.t 11) (.t 12)), zv 14 (.pick (.t 8) (.c (.bool true)) (.t 13))]
def qblk : IC := .reg false [zv 15 (.bld [(.int .i64 0), (.int .i64 0), (.int .i64 0), (.str [])] []), zm 16 0, zi 17 (.call (.c (.fn 43 [] [])) [((.t 16), .id), ((.c (.int .i64 5)), .id)]), zn (.st 4 .id (.t 4) (.t 15)), zm 5 17]
def qboo : IC := .reg false [zm 18 0, zi 19 (.call (.c (.fn 44 [] [])) [((.t 18), .id)]), zn (.st 4 .id (.t 4) (.t 19)), zv 5 (.mov (.c (.bool true)))]
def k0ev : IC := (.seq qbrj (.seq (.seq qbff (.cond (.t 14) (.seq qblk .ret) .skip)) (.seq qboo .ret)))
@[go_sem] def s0ev : List (RV × Co) := [(.c true 4 4, .id), (.t 5, .id)]
theorem c0ev : cFun Tryz.prog 20 = some (20, k0ev, s0ev) := by kernel_rfl

def qbpc : IC := .reg false [zv 4 (.mov (.c (.bool false)))]
def qbq1 : IC := .reg false [zm 5 0, zm 6 1, zi 7 (.call (.c (.fn 45 [] [])) [((.t 5), .id), ((.t 6), .id)]), zv 8 (.un .not (.t 7))]
def qbi0 : IC := .reg false [zv 4 (.mov (.c (.bool false)))]
def qbh8 : IC := .reg false [zm 9 0, zi 10 (.call (.c (.fn 44 [] [])) [((.t 9), .id)])]
def qbhr : IC := .reg false [zv 4 (.mov (.c (.bool true)))]
def k0cr : IC := (.seq qbpc (.seq (.seq qbq1 (.cond (.t 8) (.seq qbi0 .ret) .skip)) (.seq qbh8 (.seq qbhr .ret))))
@[go_sem] def s0cr : List (RV × Co) := [(.t 4, .id)]
theorem c0cr : cFun Tryz.prog 21 = some (11, k0cr, s0cr) := by kernel_rfl

def qbdr : IC := .reg false [zi 2 (.alo [(.int .i64 0), (.int .i64 0), (.int .i64 0), (.str []), .nils]), zv 3 (.mov (.c (.bool false)))]
def qbon : IC := .reg false [zm 8 0, zi 9 (.call (.c (.fn 15 [] [])) [((.t 8), .id)]), zv 10 (.fld false 1 1 (.t 9)), zv 11 (.bld [(.int .i64 0), (.int .i64 0), (.int .i64 0), (.str []), .nils] [(0, 1, (.c (.int .i64 4))), (1, 1, (.t 10))]), zi 4 (.alo [(.int .i64 0), (.int .i64 0), (.int .i64 0), (.str []), .nils]), zn (.st 5 (.agg [.id, .id, .id, .id, (.sl 5)]) (.t 4) (.t 11))]
def qbst : IC := .reg false [zm 13 0, zi 14 (.call (.c (.fn 46 [] [])) [((.t 13), .id)]), zm 12 14, zv 15 (.ext (.t 12) 0), zv 16 (.ext (.t 12) 1), zm 5 15, zm 6 16]
def qboy : IC := .reg false [zm 17 6, zv 18 (.un .not (.t 17))]
def qbi2 : IC := .reg false [zv 19 (.bld [(.int .i64 0), (.int .i64 0), (.int .i64 0), (.str []), .nils] []), zn (.st 5 (.agg [.id, .id, .id, .id, (.sl 5)]) (.t 2) (.t 19)), zv 3 (.mov (.c (.bool false)))]
def qbrg : IC := .reg false [zm 21 0, zi 22 (.call (.c (.fn 47 [] [])) [((.t 21), .id)]), zm 20 22, zv 23 (.ext (.t 20) 0), zv 24 (.ext (.t 20) 1), zi 7 (.alo [(.int .i64 0), (.int .i64 0), (.int .i64 0), (.str []), .nils]), zn (.st 5 (.agg [.id, .id, .id, .id, (.sl 5)]) (.t 7) (.t 23)), zm 6 24]
def qbnf : IC := .reg false [zm 25 5, zv 26 (.ld true 5 (.t 7)), zv 27 (.bsl 5 [((.t 26), (.agg [.id, .id, .id, .id, (.sl 5)]))]), zi 28 (.app 5 (.agg [(.int .i64 0), (.int .i64 0), (.int .i64 0), (.str []), .nils]) 64 (.sl 5) (.t 25) (.t 27)), zv 29 (.fad (.t 4) 4), zn (.st 1 (.sl 5) (.t 29) (.t 28))]
def qbwt : IC := .reg false [zm 30 0, zv 31 (.ld true 5 (.t 4)), zm 32 6, zi 33 (.call (.c (.fn 48 [] [])) [((.t 30), .id), ((.t 31), (.agg [.id, .id, .id, .id, (.sl 5)])), ((.t 32), .id)]), zv 34 (.ext (.t 33) 0), zv 35 (.ext (.t 33) 1), zn (.st 5 (.agg [.id, .id, .id, .id, (.sl 5)]) (.t 2) (.t 34)), zm 3 35]
def k0bq : IC := (.seq qbdr (.seq qbon (.seq qbst (.seq (.seq qboy (.cond (.t 18) (.seq qbi2 .ret) .skip)) (.seq qbrg (.seq qbnf (.seq qbwt .ret)))))))
@[go_sem] def s0bq : List (RV × Co) := [(.c true 5 2, (.agg [.id, .id, .id, .id, (.sl 5)])), (.t 3, .id)]
theorem c0bq : cFun Tryz.prog 22 = some (36, k0bq, s0bq) := by kernel_rfl

def qb4d : IC := .reg false [zi 4 (.alo [(.int .i64 0), (.int .i64 0), (.int .i64 0), (.str []), .nils]), zv 5 (.mov (.c (.bool false)))]
def qby1 : IC := .reg false [zm 9 0, zi 10 (.call (.c (.fn 15 [] [])) [((.t 9), .id)]), zv 11 (.fld false 1 0 (.t 10)), zv 12 (.bin .neq .no (.t 11) (.c (.int .i64 1)))]
def qb2d : IC := .reg false [zm 13 0, zm 14 1, zi 15 (.call (.c (.fn 49 [] [])) [((.t 13), .id), ((.t 14), .id)]), zv 16 (.un .not (.t 15))]
def qb4e : IC := .reg false [zv 17 (.bld [(.int .i64 0), (.int .i64 0), (.int .i64 0), (.str []), .nils] []), zn (.st 5 (.agg [.id, .id, .id, .id, (.sl 5)]) (.t 4) (.t 17)), zv 5 (.mov (.c (.bool false)))]
def qb07 : IC := .reg false [zm 18 0, zi 19 (.call (.c (.fn 10 [] [])) [((.t 18), .id)]), zv 20 (.ext (.t 19) 0), zv 21 (.ext (.t 19) 1), zn (.st 5 (.agg [.id, .id, .id, .id, (.sl 5)]) (.t 4) (.t 20)), zm 5 21]
def qb3h : IC := .reg false [zm 22 0, zi 23 (.call (.c (.fn 44 [] [])) [((.t 22), .id)]), zi 6 (.alo [(.int .i64 0), (.int .i64 0), (.int .i64 0), (.str [])]), zn (.st 4 .id (.t 6) (.t 23))]
def qb0q : IC := .reg false [zm 25 0, zm 26 1, zi 27 (.call (.c (.fn 23 [] [])) [((.t 25), .id), ((.t 26), .id)]), zm 24 27, zv 28 (.ext (.t 24) 0), zv 29 (.ext (.t 24) 1), zi 7 (.alo [(.int .i64 0), (.int .i64 0), (.int .i64 0), (.str []), .nils]), zn (.st 5 (.agg [.id, .id, .id, .id, (.sl 5)]) (.t 7) (.t 28)), zm 8 29]
def qb4r : IC := .reg false [zv 30 (.fad (.t 6) 1), zv 31 (.ld false 1 (.t 30)), zv 32 (.fad (.t 6) 3), zv 33 (.ld false 1 (.t 32)), zv 34 (.ld true 5 (.t 7)), zv 35 (.bsl 5 [((.t 34), (.agg [.id, .id, .id, .id, (.sl 5)]))]), zv 36 (.bld [(.int .i64 0), (.int .i64 0), (.int .i64 0), (.str []), .nils] [(0, 1, (.c (.int .i64 25))), (1, 1, (.t 31)), (3, 1, (.t 33)), (4, 1, (.t 35))]), zm 37 8, zn (.st 5 (.agg [.id, .id, .id, .id, (.sl 5)]) (.t 4) (.t 36)), zm 5 37]
def k0x : IC := (.seq qb4d (.seq (.seq qby1 (.cond (.t 12) (.seq (.seq qb2d (.cond (.t 16) (.seq qb4e .ret) .skip)) (.seq qb07 .ret)) .skip)) (.seq qb3h (.seq qb0q (.seq qb4r .ret)))))
@[go_sem] def s0x : List (RV × Co) := [(.c true 5 4, (.agg [.id, .id, .id, .id, (.sl 5)])), (.t 5, .id)]
theorem c0x : cFun Tryz.prog 23 = some (38, k0x, s0x) := by kernel_rfl

def qbf5 : IC := .reg false [zi 2 (.box (.t 0)), zi 4 (.alo [.nils, (.int .i64 0), (.int .i64 0), (.int .i64 0), (.str []), (.int .i64 0), (.int .i64 0), (.int .i64 0)]), zi 5 (.alo [(.int .i64 0), (.int .i64 0), (.int .i64 0), (.str [])]), zv 6 (.mov (.c (.bool false)))]
def qbi3 : IC := .reg false [zv 9 (.fad (.t 2) 6), zv 10 (.ld false 1 (.t 9)), zv 11 (.bin .neq .no (.t 10) (.c (.int .i64 0))), zm 12 11, zw 12 false 13 (.ld true 8 (.t 2)), ⟨some (12, false), some 14, .call (.c (.fn 16 [] [])) [((.t 13), (.agg [(.sl 4), .id, .id, .id, .id, .id, .id, .id]))]⟩, zw 12 false 15 (.fld false 1 0 (.t 14)), zw 12 false 16 (.mov (.t 1)), zw 12 false 17 (.bin .neq .no (.t 15) (.t 16)), zv 18 (.pick (.t 12) (.c (.bool true)) (.t 17))]
def qbh0 : IC := .reg false [zv 19 (.ld true 8 (.t 2)), zi 20 (.call (.c (.fn 50 [] [])) [((.t 19), (.agg [(.sl 4), .id, .id, .id, .id, .id, .id, .id])), ((.c (.int .i64 5)), .id)]), zv 21 (.bld [(.int .i64 0), (.int .i64 0), (.int .i64 0), (.str [])] []), zn (.st 8 (.agg [(.sl 4), .id, .id, .id, .id, .id, .id, .id]) (.t 4) (.t 20)), zn (.st 4 .id (.t 5) (.t 21)), zv 6 (.mov (.c (.bool false)))]
def qbsw : IC := .reg false [zv 23 (.ld true 8 (.t 2)), zi 24 (.call (.c (.fn 51 [] [])) [((.t 23), (.agg [(.sl 4), .id, .id, .id, .id, .id, .id, .id]))]), zm 22 24, zv 25 (.ext (.t 22) 0), zv 26 (.ext (.t 22) 1), zi 7 (.alo [.nils, (.int .i64 0), (.int .i64 0), (.int .i64 0), (.str []), (.int .i64 0), (.int .i64 0), (.int .i64 0)]), zi 8 (.alo [(.int .i64 0), (.int .i64 0), (.int .i64 0), (.str [])]), zn (.st 8 (.agg [(.sl 4), .id, .id, .id, .id, .id, .id, .id]) (.t 7) (.t 25)), zn (.st 4 .id (.t 8) (.t 26))]
def qblx : IC := .drw [zp (zv 27 (.ld true 8 (.t 7))), zp (zv 28 (.ld true 4 (.t 8))), (zn (.st 8 (.agg [(.sl 4), .id, .id, .id, .id, .id, .id, .id]) (.t 4) (.t 27)), [1]), (zn (.st 4 .id (.t 5) (.t 28)), []), zp (zv 6 (.mov (.c (.bool true))))]
def k0ew : IC := (.seq qbf5 (.seq (.seq qbi3 (.cond (.t 18) (.seq qbh0 .ret) .skip)) (.seq qbsw (.seq qblx .ret))))
@[go_sem] def s0ew : List (RV × Co) := [(.c true 8 4, (.agg [(.sl 4), .id, .id, .id, .id, .id, .id, .id])), (.c true 4 5, .id), (.t 6, .id)]
theorem c0ew : cFun Tryz.prog 24 = some (29, k0ew, s0ew) := by kernel_rfl

def qbv3 : IC := .reg false [zi 2 (.box (.t 0)), zi 4 (.alo [.nils, (.int .i64 0), (.int .i64 0), (.int .i64 0), (.str []), (.int .i64 0), (.int .i64 0), (.int .i64 0)]), zv 5 (.mov (.c (.bool false)))]
def qblj : IC := .reg false [zv 8 (.ld true 8 (.t 2)), zm 9 1, zi 10 (.call (.c (.fn 52 [] [])) [((.t 8), (.agg [(.sl 4), .id, .id, .id, .id, .id, .id, .id])), ((.t 9), .id)]), zv 11 (.un .not (.t 10))]
def qbp5 : IC := .reg false [zv 12 (.ld true 8 (.t 2)), zn (.st 8 (.agg [(.sl 4), .id, .id, .id, .id, .id, .id, .id]) (.t 4) (.t 12)), zv 5 (.mov (.c (.bool false)))]
def qbn1 : IC := .reg false [zv 14 (.ld true 8 (.t 2)), zi 15 (.call (.c (.fn 51 [] [])) [((.t 14), (.agg [(.sl 4), .id, .id, .id, .id, .id, .id, .id]))]), zm 13 15, zv 16 (.ext (.t 13) 0), zv 17 (.ext (.t 13) 1), zi 6 (.alo [.nils, (.int .i64 0), (.int .i64 0), (.int .i64 0), (.str []), (.int .i64 0), (.int .i64 0), (.int .i64 0)]), zi 7 (.alo [(.int .i64 0), (.int .i64 0), (.int .i64 0), (.str [])]), zn (.st 8 (.agg [(.sl 4), .id, .id, .id, .id, .id, .id, .id]) (.t 6) (.t 16)), zn (.st 4 .id (.t 7) (.t 17))]
def qbpq : IC := .reg false [zv 18 (.ld true 8 (.t 6)), zn (.st 8 (.agg [(.sl 4), .id, .id, .id, .id, .id, .id, .id]) (.t 4) (.t 18)), zv 5 (.mov (.c (.bool true)))]
def k0cd : IC := (.seq qbv3 (.seq (.seq qblj (.cond (.t 11) (.seq qbp5 .ret) .skip)) (.seq qbn1 (.seq qbpq .ret))))
@[go_sem] def s0cd : List (RV × Co) := [(.c true 8 4, (.agg [(.sl 4), .id, .id, .id, .id, .id, .id, .id])), (.t 5, .id)]
theorem c0cd : cFun Tryz.prog 25 = some (19, k0cd, s0cd) := by kernel_rfl

def qbqz : IC := .reg false [zi 1 (.box (.t 0)), zi 2 (.alo [.nils, (.int .i64 0), (.int .i64 0), (.int .i64 0), (.str []), (.int .i64 0), (.int .i64 0), (.int .i64 0)]), zi 3 (.alo [(.int .i64 0), (.int .i64 0), (.int .i64 0), (.str []), .nils])]
def qbs8 : IC := .reg false [zv 7 (.ld true 8 (.t 1)), zi 8 (.call (.c (.fn 16 [] [])) [((.t 7), (.agg [(.sl 4), .id, .id, .id, .id, .id, .id, .id]))]), zv 9 (.fld false 1 1 (.t 8)), zm 4 9]
def qbxe : IC := .reg false [zv 11 (.ld true 8 (.t 1)), zi 12 (.call (.c (.fn 53 [] [])) [((.t 11), (.agg [(.sl 4), .id, .id, .id, .id, .id, .id, .id]))]), zm 10 12, zv 13 (.ext (.t 10) 0), zv 14 (.ext (.t 10) 1), zn (.st 8 (.agg [(.sl 4), .id, .id, .id, .id, .id, .id, .id]) (.t 1) (.t 13)), zm 5 14]
def qbri : IC := .reg false [zv 16 (.ld true 8 (.t 1)), zi 17 (.call (.c (.fn 54 [] [])) [((.t 16), (.agg [(.sl 4), .id, .id, .id, .id, .id, .id, .id]))]), zm 15 17, zv 18 (.ext (.t 15) 0), zv 19 (.ext (.t 15) 1), zi 6 (.alo [(.int .i64 0), (.int .i64 0), (.int .i64 0), (.str []), .nils]), zn (.st 8 (.agg [(.sl 4), .id, .id, .id, .id, .id, .id, .id]) (.t 1) (.t 18)), zn (.st 5 (.agg [.id, .id, .id, .id, (.sl 5)]) (.t 6) (.t 19))]
def qbrx : IC := .drw [zp (zv 20 (.ld true 8 (.t 1))), zp (zm 21 4), zp (zm 22 5), (zi 23 (.app 5 (.agg [(.int .i64 0), (.int .i64 0), (.int .i64 0), (.str []), .nils]) 64 (.sl 5) (.c .nils) (.t 22)), [0]), (zv 24 (.ld true 5 (.t 6)), [3]), (zv 25 (.bsl 5 [((.t 24), (.agg [.id, .id, .id, .id, (.sl 5)]))]), [3]), (zi 26 (.app 5 (.agg [(.int .i64 0), (.int .i64 0), (.int .i64 0), (.str []), .nils]) 64 (.sl 5) (.t 23) (.t 25)), [0]), (zv 27 (.bld [(.int .i64 0), (.int .i64 0), (.int .i64 0), (.str []), .nils] [(0, 1, (.c (.int .i64 4))), (1, 1, (.t 21)), (4, 1, (.t 26))]), []), (zn (.st 8 (.agg [(.sl 4), .id, .id, .id, .id, .id, .id, .id]) (.t 2) (.t 20)), []), (zn (.st 5 (.agg [.id, .id, .id, .id, (.sl 5)]) (.t 3) (.t 27)), [])]
def k0bl : IC := (.seq qbqz (.seq qbs8 (.seq qbxe (.seq qbri (.seq qbrx .ret)))))
@[go_sem] def s0bl : List (RV × Co) := [(.c true 8 2, (.agg [(.sl 4), .id, .id, .id, .id, .id, .id, .id])), (.c true 5 3, (.agg [.id, .id, .id, .id, (.sl 5)]))]
theorem c0bl : cFun Tryz.prog 26 = some (28, k0bl, s0bl) := by kernel_rfl

def qb28 : IC := .reg false [zi 1 (.box (.t 0)), zi 2 (.alo [.nils, (.int .i64 0), (.int .i64 0), (.int .i64 0), (.str []), (.int .i64 0), (.int .i64 0), (.int .i64 0)]), zv 3 (.mov (.c .nils))]
def qb3t : IC := .reg false [zv 4 (.mov (.c .nils))]
def qb11 : IC := .reg false [zv 7 (.fad (.t 1) 6), zv 8 (.ld false 1 (.t 7)), zv 9 (.bin .eql .no (.t 8) (.c (.int .i64 0))), zm 10 9, zw 10 true 11 (.ld true 8 (.t 1)), ⟨some (10, true), some 12, .call (.c (.fn 16 [] [])) [((.t 11), (.agg [(.sl 4), .id, .id, .id, .id, .id, .id, .id]))]⟩, zw 10 true 13 (.fld false 1 0 (.t 12)), zw 10 true 14 (.bin .eql .no (.t 13) (.c (.int .i64 1))), zv 15 (.pick (.t 10) (.t 14) (.c (.bool false)))]
def qb5e : IC := .reg false [zv 17 (.ld true 8 (.t 1)), zi 18 (.call (.c (.fn 51 [] [])) [((.t 17), (.agg [(.sl 4), .id, .id, .id, .id, .id, .id, .id]))]), zm 16 18, zv 19 (.ext (.t 16) 0), zv 20 (.ext (.t 16) 1), zi 5 (.alo [.nils, (.int .i64 0), (.int .i64 0), (.int .i64 0), (.str []), (.int .i64 0), (.int .i64 0), (.int .i64 0)]), zi 6 (.alo [(.int .i64 0), (.int .i64 0), (.int .i64 0), (.str [])]), zn (.st 8 (.agg [(.sl 4), .id, .id, .id, .id, .id, .id, .id]) (.t 5) (.t 19)), zn (.st 4 .id (.t 6) (.t 20))]
def qb2u : IC := .reg false [zv 21 (.ld true 8 (.t 5)), zn (.st 8 (.agg [(.sl 4), .id, .id, .id, .id, .id, .id, .id]) (.t 1) (.t 21))]
def qb12 : IC := .reg false [zm 22 4, zv 23 (.ld true 4 (.t 6)), zv 24 (.bsl 4 [((.t 23), .id)]), zi 25 (.app 4 (.agg [(.int .i64 0), (.int .i64 0), (.int .i64 0), (.str [])]) 40 (.sl 4) (.t 22) (.t 24)), zm 4 25]
def qb4g : IC := (.seq (.seq qb11 (.cond (.t 15) .skip (.exit 0))) (.block 1 (.seq qb5e (.seq qb2u qb12))))
def qb2q : IC := .reg false [zv 26 (.ld true 8 (.t 1)), zm 27 4, zn (.st 8 (.agg [(.sl 4), .id, .id, .id, .id, .id, .id, .id]) (.t 2) (.t 26)), zm 3 27]
def k0n : IC := (.seq qb28 (.seq qb3t (.seq (.block 0 (.loop qb4g)) (.seq qb2q .ret))))
@[go_sem] def s0n : List (RV × Co) := [(.c true 8 2, (.agg [(.sl 4), .id, .id, .id, .id, .id, .id, .id])), (.t 3, (.sl 4))]
theorem c0n : cFun Tryz.prog 27 = some (28, k0n, s0n) := by kernel_rfl

def qbfs : IC := .reg false [zi 2 (.box (.t 0)), zi 4 (.alo [.nils, (.int .i64 0), (.int .i64 0), (.int .i64 0), (.str []), (.int .i64 0), (.int .i64 0), (.int .i64 0)]), zv 5 (.mov (.c (.bool false)))]
def qbna : IC := .reg false [zv 9 (.ld true 8 (.t 2)), zm 10 1, zi 11 (.call (.c (.fn 25 [] [])) [((.t 9), (.agg [(.sl 4), .id, .id, .id, .id, .id, .id, .id])), ((.t 10), .id)]), zm 8 11, zv 12 (.ext (.t 8) 0), zv 13 (.ext (.t 8) 1), zi 6 (.alo [.nils, (.int .i64 0), (.int .i64 0), (.int .i64 0), (.str []), (.int .i64 0), (.int .i64 0), (.int .i64 0)]), zn (.st 8 (.agg [(.sl 4), .id, .id, .id, .id, .id, .id, .id]) (.t 6) (.t 12)), zm 7 13]
def qbes : IC := .reg false [zm 14 7, zv 15 (.un .not (.t 14))]
def qbpw : IC := .reg false [zv 16 (.ld true 8 (.t 2)), zi 17 (.call (.c (.fn 50 [] [])) [((.t 16), (.agg [(.sl 4), .id, .id, .id, .id, .id, .id, .id])), ((.c (.int .i64 5)), .id)]), zn (.st 8 (.agg [(.sl 4), .id, .id, .id, .id, .id, .id, .id]) (.t 4) (.t 17)), zv 5 (.mov (.c (.bool false)))]
def qbe1 : IC := .reg false [zv 18 (.ld true 8 (.t 6)), zn (.st 8 (.agg [(.sl 4), .id, .id, .id, .id, .id, .id, .id]) (.t 4) (.t 18)), zv 5 (.mov (.c (.bool true)))]
def k0cf : IC := (.seq qbfs (.seq qbna (.seq (.seq qbes (.cond (.t 15) (.seq qbpw .ret) .skip)) (.seq qbe1 .ret))))
@[go_sem] def s0cf : List (RV × Co) := [(.c true 8 4, (.agg [(.sl 4), .id, .id, .id, .id, .id, .id, .id])), (.t 5, .id)]
theorem c0cf : cFun Tryz.prog 28 = some (19, k0cf, s0cf) := by kernel_rfl

def qbyw : IC := .reg false [zi 3 (.box (.t 1)), zi 4 (.alo [(.int .i64 0), (.int .i64 0), (.int .i64 0), (.str []), .nils])]
def qb0r : IC := .reg false [zm 6 0, zv 7 (.len false (.t 6)), zv 8 (.bin .sub .no (.t 7) (.c (.int .i64 1))), zm 5 8]
def qb3a : IC := .reg false [zm 9 5, zv 10 (.bin .geq .no (.t 9) (.c (.int .i64 0)))]
def qb2x : IC := .drw [zp (zm 13 0), zp (zm 14 5), zp (zv 15 (.iad 4 (.t 13) (.t 14))), zp (zv 16 (.fad (.t 15) 1)), zp (zv 17 (.ld false 1 (.t 16))), zp (zm 18 0), zp (zm 19 5), zp (zv 20 (.iad 4 (.t 18) (.t 19))), zp (zv 21 (.fad (.t 20) 3)), zp (zv 22 (.ld false 1 (.t 21))), zp (zv 23 (.ld true 5 (.t 3))), (zv 24 (.bsl 5 [((.t 23), (.agg [.id, .id, .id, .id, (.sl 5)]))]), []), (zv 25 (.bld [(.int .i64 0), (.int .i64 0), (.int .i64 0), (.str []), .nils] [(0, 1, (.c (.int .i64 25))), (1, 1, (.t 17)), (3, 1, (.t 22)), (4, 1, (.t 24))]), []), (zn (.st 5 (.agg [.id, .id, .id, .id, (.sl 5)]) (.t 3) (.t 25)), [])]
def qb2s : IC := .reg false [zm 11 5, zv 12 (.bin .sub .no (.t 11) (.c (.int .i64 1))), zm 5 12]
def qb1o : IC := (.seq (.seq qb3a (.cond (.t 10) .skip (.exit 0))) (.seq (.block 1 qb2x) qb2s))
def qb3b : IC := .reg false [zv 26 (.ld true 5 (.t 3)), zn (.st 5 (.agg [.id, .id, .id, .id, (.sl 5)]) (.t 4) (.t 26))]
def k0h : IC := (.seq qbyw (.seq (.seq qb0r (.block 0 (.loop qb1o))) (.seq qb3b .ret)))
@[go_sem] def s0h : List (RV × Co) := [(.c true 5 4, (.agg [.id, .id, .id, .id, (.sl 5)]))]
theorem c0h : cFun Tryz.prog 29 = some (27, k0h, s0h) := by kernel_rfl

def qbwv : IC := .reg false [zv 2 (.mov (.c (.bool false)))]
def qbvl : IC := .reg false [zm 3 0, zi 4 (.call (.c (.fn 36 [] [])) [((.t 3), .id)]), zm 5 4, zw 5 false 6 (.mov (.t 0)), zw 5 false 7 (.nck (.t 6)), zw 5 false 8 (.fad (.t 7) 6), zw 5 false 9 (.ld false 1 (.t 8)), zw 5 false 10 (.bin .geq .no (.t 9) (.c (.int .i64 200))), zv 11 (.pick (.t 5) (.c (.bool true)) (.t 10))]
def qbto : IC := .reg false [zm 12 0, zi 13 (.call (.c (.fn 43 [] [])) [((.t 12), .id), ((.c (.int .i64 2)), .id)]), zm 2 13]
def qbw6 : IC := .reg false [zm 14 0, zv 15 (.nck (.t 14)), zv 16 (.fad (.t 15) 6), zv 17 (.ld false 1 (.t 16)), zv 18 (.bin .add .no (.t 17) (.c (.int .i64 1))), zv 19 (.nck (.t 14)), zv 20 (.fad (.t 19) 6), zn (.st 1 .id (.t 20) (.t 18))]
def qbm8 : IC := .reg false [zv 2 (.mov (.c (.bool true)))]
def k0ct : IC := (.seq qbwv (.seq (.seq qbvl (.cond (.t 11) (.seq qbto .ret) .skip)) (.seq qbw6 (.seq qbm8 .ret))))
@[go_sem] def s0ct : List (RV × Co) := [(.t 2, .id)]
theorem c0ct : cFun Tryz.prog 30 = some (21, k0ct, s0ct) := by kernel_rfl

def qb4m : IC := .reg false [zi 2 (.alo [(.int .i64 0), (.int .i64 0), (.int .i64 0), (.str []), .nils]), zv 3 (.mov (.c (.bool false)))]
def qby9 : IC := .reg false [zm 5 0, zi 6 (.call (.c (.fn 15 [] [])) [((.t 5), .id)]), zv 7 (.fld false 1 1 (.t 6)), zv 8 (.bld [(.int .i64 0), (.int .i64 0), (.int .i64 0), (.str []), .nils] [(1, 1, (.t 7))]), zi 4 (.alo [(.int .i64 0), (.int .i64 0), (.int .i64 0), (.str []), .nils]), zn (.st 5 (.agg [.id, .id, .id, .id, (.sl 5)]) (.t 4) (.t 8))]
def qb19 : IC := .reg false [zm 10 0, zi 11 (.call (.c (.fn 21 [] [])) [((.t 10), .id), ((.c (.str [92])), .id)]), zm 9 11]
def qb27 : IC := .reg false [zm 12 0, zi 13 (.call (.c (.fn 15 [] [])) [((.t 12), .id)]), zv 14 (.fld false 1 0 (.t 13)), zv 15 (.bin .neq .no (.t 14) (.c (.int .i64 1)))]
def qb5d : IC := .drw [zp (zv 16 (.ld true 5 (.t 4))), zp (zm 17 0), (zi 18 (.call (.c (.fn 43 [] [])) [((.t 17), .id), ((.c (.int .i64 5)), .id)]), [0]), (zn (.st 5 (.agg [.id, .id, .id, .id, (.sl 5)]) (.t 2) (.t 16)), []), zp (zm 3 18)]
def qb4b : IC := .reg false [zm 19 0, zi 20 (.call (.c (.fn 23 [] [])) [((.t 19), .id), ((.c (.str [45, 62])), .id)]), zv 21 (.ext (.t 20) 0), zv 22 (.ext (.t 20) 1), zn (.st 5 (.agg [.id, .id, .id, .id, (.sl 5)]) (.t 2) (.t 21)), zm 3 22]
def qbzj : IC := .reg false [zm 24 0, zi 25 (.call (.c (.fn 21 [] [])) [((.t 24), .id), ((.c (.str [108, 101, 116])), .id)]), zm 23 25]
def qbzp : IC := .reg false [zm 26 0, zv 27 (.ld true 5 (.t 4)), zi 28 (.call (.c (.fn 55 [] [])) [((.t 26), .id), ((.t 27), (.agg [.id, .id, .id, .id, (.sl 5)]))]), zv 29 (.ext (.t 28) 0), zv 30 (.ext (.t 28) 1), zn (.st 5 (.agg [.id, .id, .id, .id, (.sl 5)]) (.t 2) (.t 29)), zm 3 30]
def qb5m : IC := .reg false [zm 32 0, zi 33 (.call (.c (.fn 21 [] [])) [((.t 32), .id), ((.c (.str [99, 97, 115, 101])), .id)]), zm 31 33]
def qb0s : IC := .reg false [zm 34 0, zv 35 (.ld true 5 (.t 4)), zi 36 (.call (.c (.fn 56 [] [])) [((.t 34), .id), ((.t 35), (.agg [.id, .id, .id, .id, (.sl 5)]))]), zv 37 (.ext (.t 36) 0), zv 38 (.ext (.t 36) 1), zn (.st 5 (.agg [.id, .id, .id, .id, (.sl 5)]) (.t 2) (.t 37)), zm 3 38]
def qbiv : IC := .reg false [zm 40 0, zi 41 (.call (.c (.fn 21 [] [])) [((.t 40), .id), ((.c (.str [105, 102])), .id)]), zm 39 41]
def qbh9 : IC := .reg false [zm 42 0, zv 43 (.ld true 5 (.t 4)), zi 44 (.call (.c (.fn 57 [] [])) [((.t 42), .id), ((.t 43), (.agg [.id, .id, .id, .id, (.sl 5)]))]), zv 45 (.ext (.t 44) 0), zv 46 (.ext (.t 44) 1), zn (.st 5 (.agg [.id, .id, .id, .id, (.sl 5)]) (.t 2) (.t 45)), zm 3 46]
def qbtz : IC := .reg false [zm 47 0, zi 48 (.call (.c (.fn 58 [] [])) [((.t 47), .id)]), zv 49 (.ext (.t 48) 0), zv 50 (.ext (.t 48) 1), zn (.st 5 (.agg [.id, .id, .id, .id, (.sl 5)]) (.t 2) (.t 49)), zm 3 50]
def k0t : IC := (.seq qb4m (.seq qby9 (.seq (.block 0 (.seq qb19 (.cond (.t 9) (.seq (.seq qb27 (.cond (.t 15) (.seq qb5d .ret) .skip)) (.seq qb4b .ret)) (.seq qbzj (.cond (.t 23) (.seq qbzp .ret) (.seq qb5m (.cond (.t 31) (.seq qb0s .ret) (.seq qbiv (.cond (.t 39) (.seq qbh9 .ret) .skip))))))))) (.seq qbtz .ret))))
@[go_sem] def s0t : List (RV × Co) := [(.c true 5 2, (.agg [.id, .id, .id, .id, (.sl 5)])), (.t 3, .id)]
theorem c0t : cFun Tryz.prog 31 = some (51, k0t, s0t) := by kernel_rfl

def qbv7 : IC := .reg false [zm 2 0, zi 3 (.call (.c (.fn 36 [] [])) [((.t 2), .id)]), zv 4 (.un .not (.t 3)), zm 5 4, zw 5 true 6 (.mov (.t 0)), zw 5 true 7 (.nck (.t 6)), zw 5 true 8 (.fad (.t 7) 6), zw 5 true 9 (.ld false 1 (.t 8)), zw 5 true 10 (.bin .gtr .no (.t 9) (.c (.int .i64 0))), zv 11 (.pick (.t 5) (.t 10) (.c (.bool false)))]
def qbwx : IC := .reg false [zm 12 0, zv 13 (.nck (.t 12)), zv 14 (.fad (.t 13) 6), zv 15 (.ld false 1 (.t 14)), zv 16 (.bin .sub .no (.t 15) (.c (.int .i64 1))), zv 17 (.nck (.t 12)), zv 18 (.fad (.t 17) 6), zn (.st 1 .id (.t 18) (.t 16))]
def k0cu : IC := (.seq qbv7 (.cond (.t 11) qbwx .skip))
@[go_sem] def s0cu : List (RV × Co) := []
theorem c0cu : cFun Tryz.prog 32 = some (19, k0cu, s0cu) := by kernel_rfl

def qbmm : IC := .reg false [zi 1 (.box (.t 0)), zi 2 (.alo [.nils, (.int .i64 0), (.int .i64 0), (.int .i64 0), (.str []), (.int .i64 0), (.int .i64 0), (.int .i64 0)]), zv 3 (.mov (.c (.bool false)))]
def qbov : IC := .reg false [zv 4 (.fad (.t 1) 6), zv 5 (.ld false 1 (.t 4)), zv 6 (.bin .neq .no (.t 5) (.c (.int .i64 0)))]
def qbs6 : IC := .reg false [zv 7 (.ld true 8 (.t 1)), zn (.st 8 (.agg [(.sl 4), .id, .id, .id, .id, .id, .id, .id]) (.t 2) (.t 7)), zv 3 (.mov (.c (.bool false)))]
def qbtl : IC := .reg false [zv 8 (.fad (.t 1) 5), zv 9 (.ld false 1 (.t 8)), zv 10 (.bin .geq .no (.t 9) (.c (.int .i64 200)))]
def qboe : IC := .reg false [zv 11 (.ld true 8 (.t 1)), zi 12 (.call (.c (.fn 50 [] [])) [((.t 11), (.agg [(.sl 4), .id, .id, .id, .id, .id, .id, .id])), ((.c (.int .i64 2)), .id)]), zn (.st 8 (.agg [(.sl 4), .id, .id, .id, .id, .id, .id, .id]) (.t 2) (.t 12)), zv 3 (.mov (.c (.bool false)))]
def qble : IC := .reg false [zv 13 (.fad (.t 1) 5), zv 14 (.ld false 1 (.t 13)), zv 15 (.bin .add .no (.t 14) (.c (.int .i64 1))), zv 16 (.fad (.t 1) 5), zn (.st 1 .id (.t 16) (.t 15))]
def qbtu : IC := .reg false [zv 17 (.ld true 8 (.t 1)), zn (.st 8 (.agg [(.sl 4), .id, .id, .id, .id, .id, .id, .id]) (.t 2) (.t 17)), zv 3 (.mov (.c (.bool true)))]
def k0cg : IC := (.seq qbmm (.seq (.seq qbov (.cond (.t 6) (.seq qbs6 .ret) .skip)) (.seq (.seq qbtl (.cond (.t 10) (.seq qboe .ret) .skip)) (.seq qble (.seq qbtu .ret)))))
@[go_sem] def s0cg : List (RV × Co) := [(.c true 8 2, (.agg [(.sl 4), .id, .id, .id, .id, .id, .id, .id])), (.t 3, .id)]
theorem c0cg : cFun Tryz.prog 33 = some (18, k0cg, s0cg) := by kernel_rfl

def qb6b : IC := .reg false [zi 1 (.box (.t 0)), zi 2 (.alo [.nils, (.int .i64 0), (.int .i64 0), (.int .i64 0), (.str []), (.int .i64 0), (.int .i64 0), (.int .i64 0)]), zi 3 (.alo [(.int .i64 0), (.int .i64 0), (.int .i64 0), (.str []), .nils])]
def qb4t : IC := .reg false [zv 16 (.ld true 8 (.t 1)), zi 17 (.call (.c (.fn 16 [] [])) [((.t 16), (.agg [(.sl 4), .id, .id, .id, .id, .id, .id, .id]))]), zv 18 (.fld false 1 1 (.t 17)), zm 4 18]
def qb1u : IC := .reg false [zv 20 (.ld true 8 (.t 1)), zv 21 (.bsl 1 [((.c (.int .u8 92)), .id)]), zv 22 (.cbs (.t 21)), zi 23 (.call (.c (.fn 25 [] [])) [((.t 20), (.agg [(.sl 4), .id, .id, .id, .id, .id, .id, .id])), ((.t 22), .id)]), zm 19 23, zv 24 (.ext (.t 19) 0), zv 25 (.ext (.t 19) 1), zi 5 (.alo [.nils, (.int .i64 0), (.int .i64 0), (.int .i64 0), (.str []), (.int .i64 0), (.int .i64 0), (.int .i64 0)]), zn (.st 8 (.agg [(.sl 4), .id, .id, .id, .id, .id, .id, .id]) (.t 5) (.t 24)), zm 6 25]
def qb45 : IC := .reg false [zm 26 6]
def qbyr : IC := .reg false [zv 27 (.ld true 8 (.t 5)), zi 28 (.call (.c (.fn 59 [] [])) [((.t 27), (.agg [(.sl 4), .id, .id, .id, .id, .id, .id, .id]))]), zv 29 (.ext (.t 28) 0), zv 30 (.ext (.t 28) 1), zn (.st 8 (.agg [(.sl 4), .id, .id, .id, .id, .id, .id, .id]) (.t 2) (.t 29)), zn (.st 5 (.agg [.id, .id, .id, .id, (.sl 5)]) (.t 3) (.t 30))]
def qb4p : IC := .reg false [zv 32 (.ld true 8 (.t 1)), zi 33 (.call (.c (.fn 25 [] [])) [((.t 32), (.agg [(.sl 4), .id, .id, .id, .id, .id, .id, .id])), ((.c (.str [108, 101, 116])), .id)]), zm 31 33, zv 34 (.ext (.t 31) 0), zv 35 (.ext (.t 31) 1), zi 7 (.alo [.nils, (.int .i64 0), (.int .i64 0), (.int .i64 0), (.str []), (.int .i64 0), (.int .i64 0), (.int .i64 0)]), zn (.st 8 (.agg [(.sl 4), .id, .id, .id, .id, .id, .id, .id]) (.t 7) (.t 34)), zm 8 35]
def qb2j : IC := .reg false [zm 36 8]
def qb2k : IC := .reg false [zv 37 (.ld true 8 (.t 7)), zm 38 4, zi 39 (.call (.c (.fn 60 [] [])) [((.t 37), (.agg [(.sl 4), .id, .id, .id, .id, .id, .id, .id])), ((.t 38), .id)]), zv 40 (.ext (.t 39) 0), zv 41 (.ext (.t 39) 1), zn (.st 8 (.agg [(.sl 4), .id, .id, .id, .id, .id, .id, .id]) (.t 2) (.t 40)), zn (.st 5 (.agg [.id, .id, .id, .id, (.sl 5)]) (.t 3) (.t 41))]
def qb4s : IC := .reg false [zv 43 (.ld true 8 (.t 1)), zi 44 (.call (.c (.fn 25 [] [])) [((.t 43), (.agg [(.sl 4), .id, .id, .id, .id, .id, .id, .id])), ((.c (.str [99, 97, 115, 101])), .id)]), zm 42 44, zv 45 (.ext (.t 42) 0), zv 46 (.ext (.t 42) 1), zi 9 (.alo [.nils, (.int .i64 0), (.int .i64 0), (.int .i64 0), (.str []), (.int .i64 0), (.int .i64 0), (.int .i64 0)]), zn (.st 8 (.agg [(.sl 4), .id, .id, .id, .id, .id, .id, .id]) (.t 9) (.t 45)), zm 10 46]
def qb5r : IC := .reg false [zm 47 10]
def qbil : IC := .reg false [zv 48 (.ld true 8 (.t 9)), zm 49 4, zi 50 (.call (.c (.fn 61 [] [])) [((.t 48), (.agg [(.sl 4), .id, .id, .id, .id, .id, .id, .id])), ((.t 49), .id)]), zv 51 (.ext (.t 50) 0), zv 52 (.ext (.t 50) 1), zn (.st 8 (.agg [(.sl 4), .id, .id, .id, .id, .id, .id, .id]) (.t 2) (.t 51)), zn (.st 5 (.agg [.id, .id, .id, .id, (.sl 5)]) (.t 3) (.t 52))]
def qbdx : IC := .reg false [zv 54 (.ld true 8 (.t 1)), zi 55 (.call (.c (.fn 25 [] [])) [((.t 54), (.agg [(.sl 4), .id, .id, .id, .id, .id, .id, .id])), ((.c (.str [105, 102])), .id)]), zm 53 55, zv 56 (.ext (.t 53) 0), zv 57 (.ext (.t 53) 1), zi 11 (.alo [.nils, (.int .i64 0), (.int .i64 0), (.int .i64 0), (.str []), (.int .i64 0), (.int .i64 0), (.int .i64 0)]), zn (.st 8 (.agg [(.sl 4), .id, .id, .id, .id, .id, .id, .id]) (.t 11) (.t 56)), zm 12 57]
def qbmn : IC := .reg false [zm 58 12]
def qbln : IC := .reg false [zv 59 (.ld true 8 (.t 11)), zm 60 4, zi 61 (.call (.c (.fn 62 [] [])) [((.t 59), (.agg [(.sl 4), .id, .id, .id, .id, .id, .id, .id])), ((.t 60), .id)]), zv 62 (.ext (.t 61) 0), zv 63 (.ext (.t 61) 1), zn (.st 8 (.agg [(.sl 4), .id, .id, .id, .id, .id, .id, .id]) (.t 2) (.t 62)), zn (.st 5 (.agg [.id, .id, .id, .id, (.sl 5)]) (.t 3) (.t 63))]
def qbvf : IC := .reg false [zv 65 (.ld true 8 (.t 1)), zi 66 (.call (.c (.fn 63 [] [])) [((.t 65), (.agg [(.sl 4), .id, .id, .id, .id, .id, .id, .id]))]), zm 64 66, zv 67 (.ext (.t 64) 0), zv 68 (.ext (.t 64) 1), zi 13 (.alo [(.int .i64 0), (.int .i64 0), (.int .i64 0), (.str []), .nils]), zn (.st 8 (.agg [(.sl 4), .id, .id, .id, .id, .id, .id, .id]) (.t 1) (.t 67)), zn (.st 5 (.agg [.id, .id, .id, .id, (.sl 5)]) (.t 13) (.t 68))]
def qbrd : IC := .reg false [zv 69 (.ld true 8 (.t 1)), zi 70 (.call (.c (.fn 64 [] [])) [((.t 69), (.agg [(.sl 4), .id, .id, .id, .id, .id, .id, .id]))])]
def qbqi : IC := .reg false [zv 72 (.ld true 8 (.t 1)), zi 73 (.call (.c (.fn 63 [] [])) [((.t 72), (.agg [(.sl 4), .id, .id, .id, .id, .id, .id, .id]))]), zm 71 73, zv 74 (.ext (.t 71) 0), zv 75 (.ext (.t 71) 1), zi 14 (.alo [.nils, (.int .i64 0), (.int .i64 0), (.int .i64 0), (.str []), (.int .i64 0), (.int .i64 0), (.int .i64 0)]), zi 15 (.alo [(.int .i64 0), (.int .i64 0), (.int .i64 0), (.str []), .nils]), zn (.st 8 (.agg [(.sl 4), .id, .id, .id, .id, .id, .id, .id]) (.t 14) (.t 74)), zn (.st 5 (.agg [.id, .id, .id, .id, (.sl 5)]) (.t 15) (.t 75))]
def qbfh : IC := .reg false [zv 76 (.ld true 8 (.t 14)), zn (.st 8 (.agg [(.sl 4), .id, .id, .id, .id, .id, .id, .id]) (.t 1) (.t 76))]
def qbn4 : IC := .reg false [zv 77 (.fad (.t 13) 1), zv 78 (.ld false 1 (.t 77)), zv 79 (.ld true 5 (.t 13)), zv 80 (.ld true 5 (.t 15)), zv 81 (.bsl 5 [((.t 79), (.agg [.id, .id, .id, .id, (.sl 5)])), ((.t 80), (.agg [.id, .id, .id, .id, (.sl 5)]))]), zv 82 (.bld [(.int .i64 0), (.int .i64 0), (.int .i64 0), (.str []), .nils] [(0, 1, (.c (.int .i64 24))), (1, 1, (.t 78)), (4, 1, (.t 81))]), zn (.st 5 (.agg [.id, .id, .id, .id, (.sl 5)]) (.t 13) (.t 82))]
def qbqm : IC := (.seq (.seq qbrd (.cond (.t 70) .skip (.exit 0))) (.block 1 (.seq qbqi (.seq qbfh qbn4))))
def qbpy : IC := .drw [zp (zv 83 (.ld true 8 (.t 1))), zp (zv 84 (.ld true 5 (.t 13))), (zn (.st 8 (.agg [(.sl 4), .id, .id, .id, .id, .id, .id, .id]) (.t 2) (.t 83)), [1]), (zn (.st 5 (.agg [.id, .id, .id, .id, (.sl 5)]) (.t 3) (.t 84)), [])]
def k0c : IC := (.seq qb6b (.seq qb4t (.seq (.seq qb1u (.seq qb45 (.cond (.t 26) (.seq qbyr .ret) .skip))) (.seq (.seq qb4p (.seq qb2j (.cond (.t 36) (.seq qb2k .ret) .skip))) (.seq (.seq qb4s (.seq qb5r (.cond (.t 47) (.seq qbil .ret) .skip))) (.seq (.seq qbdx (.seq qbmn (.cond (.t 58) (.seq qbln .ret) .skip))) (.seq qbvf (.seq (.block 0 (.loop qbqm)) (.seq qbpy .ret)))))))))
@[go_sem] def s0c : List (RV × Co) := [(.c true 8 2, (.agg [(.sl 4), .id, .id, .id, .id, .id, .id, .id])), (.c true 5 3, (.agg [.id, .id, .id, .id, (.sl 5)]))]
theorem c0c : cFun Tryz.prog 34 = some (85, k0c, s0c) := by kernel_rfl

def qbpt : IC := .reg false [zi 1 (.box (.t 0)), zi 2 (.alo [.nils, (.int .i64 0), (.int .i64 0), (.int .i64 0), (.str []), (.int .i64 0), (.int .i64 0), (.int .i64 0)])]
def qbvj : IC := .reg false [zv 3 (.fad (.t 1) 6), zv 4 (.ld false 1 (.t 3)), zv 5 (.bin .eql .no (.t 4) (.c (.int .i64 0))), zm 6 5, zw 6 true 7 (.fad (.t 1) 5), zw 6 true 8 (.ld false 1 (.t 7)), zw 6 true 9 (.bin .gtr .no (.t 8) (.c (.int .i64 0))), zv 10 (.pick (.t 6) (.t 9) (.c (.bool false)))]
def qbiu : IC := .reg false [zv 11 (.fad (.t 1) 5), zv 12 (.ld false 1 (.t 11)), zv 13 (.bin .sub .no (.t 12) (.c (.int .i64 1))), zv 14 (.fad (.t 1) 5), zn (.st 1 .id (.t 14) (.t 13))]
def qbvy : IC := .reg false [zv 15 (.ld true 8 (.t 1)), zn (.st 8 (.agg [(.sl 4), .id, .id, .id, .id, .id, .id, .id]) (.t 2) (.t 15))]
def k0ch : IC := (.seq qbpt (.seq (.seq qbvj (.cond (.t 10) qbiu .skip)) (.seq qbvy .ret)))
@[go_sem] def s0ch : List (RV × Co) := [(.c true 8 2, (.agg [(.sl 4), .id, .id, .id, .id, .id, .id, .id]))]
theorem c0ch : cFun Tryz.prog 35 = some (16, k0ch, s0ch) := by kernel_rfl

def qbog : IC := .reg false [zv 2 (.mov (.c (.bool false)))]
def qbsa : IC := .reg false [zm 3 0, zv 4 (.bin .eql .ptr (.t 3) (.c .nilp)), zm 5 4, zw 5 false 6 (.mov (.t 0)), zw 5 false 7 (.nck (.t 6)), zw 5 false 8 (.fad (.t 7) 7), zw 5 false 9 (.ld false 1 (.t 8)), zw 5 false 10 (.bin .neq .no (.t 9) (.c (.int .i64 0))), zv 11 (.pick (.t 5) (.c (.bool true)) (.t 10)), zm 2 11]
def k0cl : IC := (.seq qbog (.seq qbsa .ret))
@[go_sem] def s0cl : List (RV × Co) := [(.t 2, .id)]
theorem c0cl : cFun Tryz.prog 36 = some (12, k0cl, s0cl) := by kernel_rfl

def qbt2 : IC := .reg false [zi 2 (.alo [.nils]), zi 3 (.alo [(.int .i64 0)]), zi 4 (.alo [(.int .i64 0)])]
def qbnc : IC := .reg false [zm 8 0, zv 9 (.len true (.t 8)), zv 10 (.bin .gtr .no (.t 9) (.c (.int .i64 1048576)))]
def qbfr : IC := .reg false [zn (.st 1 (.sl 4) (.t 2) (.c .nils)), zn (.st 1 .id (.t 3) (.c (.int .i64 0))), zn (.st 1 .id (.t 4) (.c (.int .i64 2)))]
def qbxs : IC := .reg false [zi 5 (.alo [.nils])]
def qbpm : IC := .reg false [zm 11 0, zi 12 (.call (.c (.fn 65 [] [])) [((.t 11), .id)])]
def qbeb : IC := .reg false [zm 15 7, zv 16 (.bin .neq .no (.t 15) (.c (.int .i64 0)))]
def qbif : IC := .drw [zp (zv 17 (.fad (.t 6) 1)), zp (zv 18 (.ld false 1 (.t 17))), zp (zm 19 7), (zn (.st 1 (.sl 4) (.t 2) (.c .nils)), [1]), (zn (.st 1 .id (.t 3) (.t 18)), []), (zn (.st 1 .id (.t 4) (.t 19)), [])]
def qboh : IC := .reg false [zv 20 (.ld false 1 (.t 5)), zv 21 (.ld true 4 (.t 6)), zv 22 (.bsl 4 [((.t 21), .id)]), zi 23 (.app 4 (.agg [(.int .i64 0), (.int .i64 0), (.int .i64 0), (.str [])]) 40 (.sl 4) (.t 20) (.t 22)), zn (.st 1 (.sl 4) (.t 5) (.t 23))]
def qw0 : IC := (.block 1 (.seq (.seq qbeb (.cond (.t 16) (.seq qbif .ret) .skip)) qboh))
def qq9 : IC := .reg false [zi 6 (.alo [(.int .i64 0), (.int .i64 0), (.int .i64 0), (.str [])]), zn (.st 4 .id (.t 6) (.t 13))]
def qrh : IC := .reg false [zm 7 14]
def qbc5 : IC := .reg false [zv 24 (.ld false 1 (.t 5)), zm 25 0, zv 26 (.len true (.t 25)), zv 27 (.bld [(.int .i64 0), (.int .i64 0), (.int .i64 0), (.str [])] [(0, 1, (.c (.int .i64 0))), (1, 1, (.t 26))]), zv 28 (.bsl 4 [((.t 27), .id)]), zi 29 (.app 4 (.agg [(.int .i64 0), (.int .i64 0), (.int .i64 0), (.str [])]) 40 (.sl 4) (.t 24) (.t 28)), zn (.st 1 (.sl 4) (.t 2) (.t 29)), zn (.st 1 .id (.t 3) (.c (.int .i64 0))), zn (.st 1 .id (.t 4) (.c (.int .i64 0)))]
def k0cz : IC := (.seq qbt2 (.seq (.seq qbnc (.cond (.t 10) (.seq qbfr .ret) .skip)) (.seq qbxs (.seq (.seq qbpm (.block 0 (.rng (.t 12) [13, 14] (.seq qq9 qrh) qw0))) (.seq qbc5 .ret)))))
@[go_sem] def s0cz : List (RV × Co) := [(.c false 1 2, (.sl 4)), (.c false 1 3, .id), (.c false 1 4, .id)]
theorem c0cz : cFun Tryz.prog 37 = some (30, k0cz, s0cz) := by kernel_rfl

def qbma : IC := .reg false [zi 1 (.box (.t 0)), zv 2 (.mov (.c (.int .i64 0)))]
def qbkv : IC := .reg false [zi 3 (.alo [(.int .i64 0)]), zn (.st 1 .id (.t 3) (.c (.int .i64 0)))]
def qbge : IC := .reg false [zv 5 (.ld true 5 (.t 1)), zi 6 (.call (.c (.fn 66 [] [])) [((.t 5), (.agg [.id, .id, .id, .id, (.sl 5)])), ((.c (.int .i64 1)), .id)])]
def qbsj : IC := .reg false [zv 9 (.ld false 1 (.t 3)), zm 10 4, zv 11 (.mm true (.t 9) (.t 10)), zn (.st 1 .id (.t 3) (.t 11))]
def q03 : IC := (.block 1 qbsj)
def q3z : IC := .reg false [zm 4 7]
def qbpx : IC := .reg false [zv 12 (.ld false 1 (.t 3)), zm 2 12]
def k0et : IC := (.seq qbma (.seq qbkv (.seq (.seq qbge (.block 0 (.rng (.t 6) [7, 8] q3z q03))) (.seq qbpx .ret))))
@[go_sem] def s0et : List (RV × Co) := [(.t 2, .id)]
theorem c0et : cFun Tryz.prog 38 = some (13, k0et, s0et) := by kernel_rfl

def qbn2 : IC := .reg false [zv 2 (.mov (.c .nils)), zv 3 (.mov (.c (.int .i64 0))), zv 4 (.mov (.c (.int .i64 0)))]
def qbow : IC := .reg false [zm 9 0, zv 10 (.len true (.t 9)), zv 11 (.bin .gtr .no (.t 10) (.c (.int .i64 1048576)))]
def qbvn : IC := .reg false [zv 2 (.mov (.c .nils)), zv 3 (.mov (.c (.int .i64 0))), zv 4 (.mov (.c (.int .i64 2)))]
def qbd8 : IC := .reg false [zv 5 (.mov (.c .nils))]
def qbkh : IC := .reg false [zm 12 0, zi 13 (.call (.c (.fn 67 [] [])) [((.t 12), .id), ((.c (.int .i64 0)), .id)]), zm 6 13]
def qbum : IC := .reg false [zm 14 6, zm 15 0, zv 16 (.len true (.t 15)), zv 17 (.bin .lss .no (.t 14) (.t 16))]
def qbkj : IC := .reg false [zm 19 0, zm 20 6, zv 21 (.sls (.t 19) (some (.t 20)) none), zi 22 (.call (.c (.fn 68 [] [])) [((.t 21), .id)]), zm 18 22, zv 23 (.ext (.t 18) 0), zv 24 (.ext (.t 18) 1), zi 7 (.alo [(.int .i64 0), (.int .i64 0), (.int .i64 0), (.str [])]), zn (.st 4 .id (.t 7) (.t 23)), zm 8 24]
def qbj6 : IC := .reg false [zm 25 8, zv 26 (.bin .neq .no (.t 25) (.c (.int .i64 0)))]
def qbw7 : IC := .reg false [zm 27 6, zm 28 8, zv 2 (.mov (.c .nils)), zm 3 27, zm 4 28]
def q8o : IC := .reg false [zm 29 6, zv 30 (.fad (.t 7) 1), zn (.st 1 .id (.t 30) (.t 29))]
def qbcz : IC := .reg false [zm 31 5, zv 32 (.ld true 4 (.t 7)), zv 33 (.bsl 4 [((.t 32), .id)]), zi 34 (.app 4 (.agg [(.int .i64 0), (.int .i64 0), (.int .i64 0), (.str [])]) 40 (.sl 4) (.t 31) (.t 33)), zm 5 34]
def q6p : IC := .reg false [zm 35 0, zm 36 6, zv 37 (.fad (.t 7) 3), zv 38 (.ld false 1 (.t 37)), zv 39 (.len true (.t 38)), zv 40 (.bin .add .no (.t 36) (.t 39)), zi 41 (.call (.c (.fn 67 [] [])) [((.t 35), .id), ((.t 40), .id)]), zm 6 41]
def qbqq : IC := (.seq (.seq qbum (.cond (.t 17) .skip (.exit 0))) (.block 1 (.seq qbkj (.seq (.seq qbj6 (.cond (.t 26) (.seq qbw7 .ret) .skip)) (.seq q8o (.seq qbcz q6p))))))
def q72 : IC := .reg false [zm 42 5, zm 43 0, zv 44 (.len true (.t 43)), zv 45 (.bld [(.int .i64 0), (.int .i64 0), (.int .i64 0), (.str [])] [(0, 1, (.c (.int .i64 0))), (1, 1, (.t 44))]), zv 46 (.bsl 4 [((.t 45), .id)]), zi 47 (.app 4 (.agg [(.int .i64 0), (.int .i64 0), (.int .i64 0), (.str [])]) 40 (.sl 4) (.t 42) (.t 46)), zm 2 47, zv 3 (.mov (.c (.int .i64 0))), zv 4 (.mov (.c (.int .i64 0)))]
def k0cx : IC := (.seq qbn2 (.seq (.seq qbow (.cond (.t 11) (.seq qbvn .ret) .skip)) (.seq qbd8 (.seq qbkh (.seq (.block 0 (.loop qbqq)) (.seq q72 .ret))))))
@[go_sem] def s0cx : List (RV × Co) := [(.t 2, (.sl 4)), (.t 3, .id), (.t 4, .id)]
theorem c0cx : cFun Tryz.prog 39 = some (48, k0cx, s0cx) := by kernel_rfl

def qbj9 : IC := .reg false [zi 2 (.box (.t 0)), zi 3 (.box (.t 1)), zi 4 (.alo [(.int .i64 0), (.int .i64 0), (.int .i64 0), (.str []), .nils]), zv 5 (.mov (.c (.int .i64 0))), zv 6 (.mov (.c (.int .i64 0)))]
def qbf8 : IC := .reg false [zv 10 (.ld true 8 (.t 2)), zi 11 (.call (.c (.fn 13 [] [])) [((.t 10), (.agg [(.sl 4), .id, .id, .id, .id, .id, .id, .id]))]), zm 9 11, zv 12 (.ext (.t 9) 0), zv 13 (.ext (.t 9) 1), zm 7 12, zm 8 13]
def qbjn : IC := .reg false [zm 14 8, zv 15 (.bin .neq .no (.t 14) (.c (.int .i64 0)))]
def qbqt : IC := .reg false [zv 16 (.bld [(.int .i64 0), (.int .i64 0), (.int .i64 0), (.str []), .nils] []), zm 17 7, zm 18 8, zn (.st 5 (.agg [.id, .id, .id, .id, (.sl 5)]) (.t 4) (.t 16)), zm 5 17, zm 6 18]
def qbjd : IC := .reg false [zv 19 (.ld true 5 (.t 3)), zi 20 (.call (.c (.fn 69 [] [])) [((.t 19), (.agg [.id, .id, .id, .id, (.sl 5)]))]), zv 21 (.bin .gtr .no (.t 20) (.c (.int .i64 100)))]
def qbo1 : IC := .drw [(zv 22 (.bld [(.int .i64 0), (.int .i64 0), (.int .i64 0), (.str []), .nils] []), []), zp (zv 23 (.fad (.t 3) 1)), zp (zv 24 (.ld false 1 (.t 23))), (zn (.st 5 (.agg [.id, .id, .id, .id, (.sl 5)]) (.t 4) (.t 22)), [2]), zp (zm 5 24), zp (zv 6 (.mov (.c (.int .i64 2))))]
def qbou : IC := .reg false [zv 25 (.ld true 5 (.t 3)), zn (.st 5 (.agg [.id, .id, .id, .id, (.sl 5)]) (.t 4) (.t 25)), zv 5 (.mov (.c (.int .i64 0))), zv 6 (.mov (.c (.int .i64 0)))]
def k0ez : IC := (.seq qbj9 (.seq qbf8 (.seq (.seq qbjn (.cond (.t 15) (.seq qbqt .ret) .skip)) (.seq (.seq qbjd (.cond (.t 21) (.seq qbo1 .ret) .skip)) (.seq qbou .ret)))))
@[go_sem] def s0ez : List (RV × Co) := [(.c true 5 4, (.agg [.id, .id, .id, .id, (.sl 5)])), (.t 5, .id), (.t 6, .id)]
theorem c0ez : cFun Tryz.prog 40 = some (26, k0ez, s0ez) := by kernel_rfl

def qblg : IC := .reg false [zi 1 (.box (.t 0)), zi 2 (.alo [(.bool false)])]
def qbmy : IC := .reg false [zv 4 (.ld true 5 (.t 1)), zi 5 (.call (.c (.fn 66 [] [])) [((.t 4), (.agg [.id, .id, .id, .id, (.sl 5)])), ((.c (.int .i64 1)), .id)])]
def qbgk : IC := .reg false [zm 8 3, zv 9 (.bin .gtr .no (.t 8) (.c (.int .i64 100)))]
def qbke : IC := .reg false [zn (.st 1 .id (.t 2) (.c (.bool false)))]
def q2p : IC := (.block 1 (.seq qbgk (.cond (.t 9) (.seq qbke .ret) .skip)))
def q3m : IC := .reg false [zm 3 6]
def qbeh : IC := .reg false [zn (.st 1 .id (.t 2) (.c (.bool true)))]
def k0eo : IC := (.seq qblg (.seq (.seq qbmy (.block 0 (.rng (.t 5) [6, 7] q3m q2p))) (.seq qbeh .ret)))
@[go_sem] def s0eo : List (RV × Co) := [(.c false 1 2, .id)]
theorem c0eo : cFun Tryz.prog 41 = some (10, k0eo, s0eo) := by kernel_rfl

def qbvi : IC := .reg false [zi 1 (.box (.t 0)), zv 2 (.mov (.c (.bool false)))]
def qbkd : IC := .reg false [zv 5 (.fad (.t 1) 4), zv 6 (.ld false 1 (.t 5)), zv 7 (.len false (.t 6)), zm 3 7]
def qbhi : IC := .reg false [zv 8 (.fad (.t 1) 0), zv 9 (.ld false 1 (.t 8))]
def qbqp : IC := .reg false [zv 11 (.bin .eql .no (.t 9) (.c (.int .i64 21))), zm 10 11]
def qbgt : IC := .reg false [zv 12 (.ld true 5 (.t 1)), zi 13 (.call (.c (.fn 70 [] [])) [((.t 12), (.agg [.id, .id, .id, .id, (.sl 5)])), ((.c (.fn 71 [] [])), .id)]), zm 14 13, zw 14 true 15 (.mov (.t 3)), zw 14 true 16 (.bin .eql .no (.t 15) (.c (.int .i64 0))), zv 17 (.pick (.t 14) (.t 16) (.c (.bool false))), zm 2 17]
def qbdz : IC := .reg false [zv 19 (.bin .eql .no (.t 9) (.c (.int .i64 22))), zm 18 19]
def qbuf : IC := .reg false [zv 20 (.ld true 5 (.t 1)), zi 21 (.call (.c (.fn 70 [] [])) [((.t 20), (.agg [.id, .id, .id, .id, (.sl 5)])), ((.c (.fn 72 [] [])), .id)]), zm 22 21, zw 22 true 23 (.mov (.t 3)), zw 22 true 24 (.bin .eql .no (.t 23) (.c (.int .i64 0))), zv 25 (.pick (.t 22) (.t 24) (.c (.bool false))), zm 2 25]
def qbvg : IC := .reg false [zv 27 (.bin .eql .no (.t 9) (.c (.int .i64 23))), zm 26 27]
def qbs3 : IC := .reg false [zv 28 (.fad (.t 1) 3), zv 29 (.ld false 1 (.t 28)), zv 30 (.bin .eql .no (.t 29) (.c (.str []))), zm 31 30, zw 31 true 32 (.fad (.t 1) 2), zw 31 true 33 (.ld false 1 (.t 32)), zw 31 true 34 (.bin .geq .no (.t 33) (.c (.int .i64 0))), zv 35 (.pick (.t 31) (.t 34) (.c (.bool false))), zm 36 35, zw 36 true 37 (.mov (.t 3)), zw 36 true 38 (.bin .eql .no (.t 37) (.c (.int .i64 0))), zv 39 (.pick (.t 36) (.t 38) (.c (.bool false))), zm 2 39]
def qbpr : IC := .reg false [zv 41 (.bin .eql .no (.t 9) (.c (.int .i64 24))), zm 40 41]
def qbc0 : IC := .reg false [zv 42 (.ld true 5 (.t 1)), zi 43 (.call (.c (.fn 73 [] [])) [((.t 42), (.agg [.id, .id, .id, .id, (.sl 5)]))]), zm 44 43, zw 44 true 45 (.mov (.t 3)), zw 44 true 46 (.bin .eql .no (.t 45) (.c (.int .i64 2))), zv 47 (.pick (.t 44) (.t 46) (.c (.bool false))), zm 48 47, zw 48 true 49 (.fad (.t 1) 4), zw 48 true 50 (.ld false 1 (.t 49)), ⟨some (48, true), some 51, .call (.c (.fn 74 [] [])) [((.t 50), (.sl 5)), ((.c (.fn 42 [] [])), .id)]⟩, zv 52 (.pick (.t 48) (.t 51) (.c (.bool false))), zm 2 52]
def qba3 : IC := .reg false [zv 54 (.bin .eql .no (.t 9) (.c (.int .i64 25))), zm 53 54]
def qbay : IC := .reg false [zv 55 (.ld true 5 (.t 1)), zi 56 (.call (.c (.fn 70 [] [])) [((.t 55), (.agg [.id, .id, .id, .id, (.sl 5)])), ((.c (.fn 71 [] [])), .id)]), zm 57 56, zw 57 true 58 (.mov (.t 3)), zw 57 true 59 (.bin .eql .no (.t 58) (.c (.int .i64 1))), zv 60 (.pick (.t 57) (.t 59) (.c (.bool false))), zm 61 60, zw 61 true 62 (.fad (.t 1) 4), zw 61 true 63 (.ld false 1 (.t 62)), zw 61 true 64 (.iad 5 (.t 63) (.c (.int .i64 0))), zw 61 true 65 (.ld true 5 (.t 64)), ⟨some (61, true), some 66, .call (.c (.fn 42 [] [])) [((.t 65), (.agg [.id, .id, .id, .id, (.sl 5)]))]⟩, zv 67 (.pick (.t 61) (.t 66) (.c (.bool false))), zm 2 67]
def q82 : IC := .reg false [zv 69 (.bin .eql .no (.t 9) (.c (.int .i64 26))), zm 68 69]
def qbbs : IC := .reg false [zv 4 (.mov (.c (.fn 75 [] [])))]
def qba6 : IC := .reg false [zv 70 (.ld true 5 (.t 1)), zi 71 (.call (.c (.fn 73 [] [])) [((.t 70), (.agg [.id, .id, .id, .id, (.sl 5)]))]), zm 72 71, zw 72 true 73 (.mov (.t 3)), zw 72 true 74 (.bin .geq .no (.t 73) (.c (.int .i64 2))), zv 75 (.pick (.t 72) (.t 74) (.c (.bool false))), zm 76 75, zw 76 true 77 (.fad (.t 1) 4), zw 76 true 78 (.ld false 1 (.t 77)), zw 76 true 79 (.mov (.t 3)), zw 76 true 80 (.bin .sub .no (.t 79) (.c (.int .i64 1))), zw 76 true 81 (.slv 5 (.t 78) none (some (.t 80)) none), zw 76 true 82 (.mov (.t 4)), ⟨some (76, true), some 83, .call (.c (.fn 74 [] [])) [((.t 81), (.sl 5)), ((.t 82), .id)]⟩, zv 84 (.pick (.t 76) (.t 83) (.c (.bool false))), zm 85 84, zw 85 true 86 (.fad (.t 1) 4), zw 85 true 87 (.ld false 1 (.t 86)), zw 85 true 88 (.mov (.t 3)), zw 85 true 89 (.bin .sub .no (.t 88) (.c (.int .i64 1))), zw 85 true 90 (.iad 5 (.t 87) (.t 89)), zw 85 true 91 (.ld true 5 (.t 90)), ⟨some (85, true), some 92, .call (.c (.fn 42 [] [])) [((.t 91), (.agg [.id, .id, .id, .id, (.sl 5)]))]⟩, zv 93 (.pick (.t 85) (.t 92) (.c (.bool false))), zm 2 93]
def q9c : IC := .reg false [zv 95 (.bin .eql .no (.t 9) (.c (.int .i64 27))), zm 94 95]
def qbcc : IC := .reg false [zv 96 (.ld true 5 (.t 1)), zi 97 (.call (.c (.fn 73 [] [])) [((.t 96), (.agg [.id, .id, .id, .id, (.sl 5)]))]), zm 98 97, zw 98 true 99 (.mov (.t 3)), zw 98 true 100 (.bin .geq .no (.t 99) (.c (.int .i64 2))), zv 101 (.pick (.t 98) (.t 100) (.c (.bool false))), zm 102 101, zw 102 true 103 (.fad (.t 1) 4), zw 102 true 104 (.ld false 1 (.t 103)), zw 102 true 105 (.iad 5 (.t 104) (.c (.int .i64 0))), zw 102 true 106 (.ld true 5 (.t 105)), ⟨some (102, true), some 107, .call (.c (.fn 42 [] [])) [((.t 106), (.agg [.id, .id, .id, .id, (.sl 5)]))]⟩, zv 108 (.pick (.t 102) (.t 107) (.c (.bool false))), zm 109 108, zw 109 true 110 (.fad (.t 1) 4), zw 109 true 111 (.ld false 1 (.t 110)), zw 109 true 112 (.slv 5 (.t 111) (some (.c (.int .i64 1))) none none), ⟨some (109, true), some 113, .call (.c (.fn 74 [] [])) [((.t 112), (.sl 5)), ((.c (.fn 78 [] [])), .id)]⟩, zv 114 (.pick (.t 109) (.t 113) (.c (.bool false))), zm 2 114]
def qbcb : IC := .reg false [zv 116 (.bin .eql .no (.t 9) (.c (.int .i64 28))), zm 115 116]
def q6d : IC := .reg false [zv 117 (.ld true 5 (.t 1)), zi 118 (.call (.c (.fn 73 [] [])) [((.t 117), (.agg [.id, .id, .id, .id, (.sl 5)]))]), zm 119 118, zw 119 true 120 (.mov (.t 3)), zw 119 true 121 (.bin .eql .no (.t 120) (.c (.int .i64 3))), zv 122 (.pick (.t 119) (.t 121) (.c (.bool false))), zm 123 122, zw 123 true 124 (.fad (.t 1) 4), zw 123 true 125 (.ld false 1 (.t 124)), ⟨some (123, true), some 126, .call (.c (.fn 74 [] [])) [((.t 125), (.sl 5)), ((.c (.fn 42 [] [])), .id)]⟩, zv 127 (.pick (.t 123) (.t 126) (.c (.bool false))), zm 2 127]
def q8q : IC := .reg false [zv 2 (.mov (.c (.bool false)))]
def k0ed : IC := (.seq qbvi (.seq qbkd (.seq (.seq qbhi (.block 0 (.seq qbqp (.cond (.t 10) (.seq qbgt .ret) (.seq qbdz (.cond (.t 18) (.seq qbuf .ret) (.seq qbvg (.cond (.t 26) (.seq qbs3 .ret) (.seq qbpr (.cond (.t 40) (.seq qbc0 .ret) (.seq qba3 (.cond (.t 53) (.seq qbay .ret) (.seq q82 (.cond (.t 68) (.seq qbbs (.seq qba6 .ret)) (.seq q9c (.cond (.t 94) (.seq qbcc .ret) (.seq qbcb (.cond (.t 115) (.seq q6d .ret) .skip)))))))))))))))))) (.seq q8q .ret))))
@[go_sem] def s0ed : List (RV × Co) := [(.t 2, .id)]
theorem c0ed : cFun Tryz.prog 42 = some (128, k0ed, s0ed) := by kernel_rfl

def qbkb : IC := .reg false [zv 4 (.mov (.c (.bool false)))]
def qbot : IC := .reg false [zm 5 0, zi 6 (.call (.c (.fn 36 [] [])) [((.t 5), .id)]), zv 7 (.un .not (.t 6))]
def qbyn : IC := .reg false [zm 8 1, zv 9 (.bin .eql .no (.t 8) (.c (.int .i64 0)))]
def qbgy : IC := .reg false [zv 1 (.mov (.c (.int .i64 1)))]
def qbiq : IC := .reg false [zm 10 0, zm 11 0, zi 12 (.call (.c (.fn 15 [] [])) [((.t 11), .id)]), zv 13 (.fld false 1 1 (.t 12)), zv 14 (.nck (.t 10)), zv 15 (.fad (.t 14) 8), zn (.st 1 .id (.t 15) (.t 13))]
def qbhn : IC := .reg false [zm 16 0, zm 17 1, zv 18 (.nck (.t 16)), zv 19 (.fad (.t 18) 7), zn (.st 1 .id (.t 19) (.t 17))]
def qbmc : IC := .reg false [zv 4 (.mov (.c (.bool false)))]
def k0cq : IC := (.seq qbkb (.seq (.seq qbot (.cond (.t 7) (.seq (.seq qbyn (.cond (.t 9) qbgy .skip)) (.seq qbiq qbhn)) .skip)) (.seq qbmc .ret)))
@[go_sem] def s0cq : List (RV × Co) := [(.t 4, .id)]
theorem c0cq : cFun Tryz.prog 43 = some (20, k0cq, s0cq) := by kernel_rfl

def qbjp : IC := .reg false [zi 2 (.alo [(.int .i64 0), (.int .i64 0), (.int .i64 0), (.str [])])]
def qbwb : IC := .reg false [zm 4 0, zi 5 (.call (.c (.fn 15 [] [])) [((.t 4), .id)]), zi 3 (.alo [(.int .i64 0), (.int .i64 0), (.int .i64 0), (.str [])]), zn (.st 4 .id (.t 3) (.t 5))]
def qbxy : IC := .drw [zp (zm 6 0), (zi 7 (.call (.c (.fn 36 [] [])) [((.t 6), .id)]), []), zp (zv 8 (.un .not (.t 7))), zp (zm 9 8), zp (zw 9 true 10 (.mov (.t 0))), zp (zw 9 true 11 (.nck (.t 10))), zp (zw 9 true 12 (.fad (.t 11) 5)), zp (zw 9 true 13 (.ld false 1 (.t 12))), zp (zw 9 true 14 (.mov (.t 0))), zp (zw 9 true 15 (.nck (.t 14))), zp (zw 9 true 16 (.fad (.t 15) 0)), zp (zw 9 true 17 (.ld false 1 (.t 16))), zp (zw 9 true 18 (.len false (.t 17))), zp (zw 9 true 19 (.bin .lss .no (.t 13) (.t 18))), zp (zv 20 (.pick (.t 9) (.t 19) (.c (.bool false))))]
def qbjs : IC := .reg false [zm 21 0, zv 22 (.nck (.t 21)), zv 23 (.fad (.t 22) 5), zv 24 (.ld false 1 (.t 23)), zv 25 (.bin .add .no (.t 24) (.c (.int .i64 1))), zv 26 (.nck (.t 21)), zv 27 (.fad (.t 26) 5), zn (.st 1 .id (.t 27) (.t 25))]
def qbps : IC := .reg false [zv 28 (.ld true 4 (.t 3)), zn (.st 4 .id (.t 2) (.t 28))]
def k0co : IC := (.seq qbjp (.seq qbwb (.seq (.seq qbxy (.cond (.t 20) qbjs .skip)) (.seq qbps .ret))))
@[go_sem] def s0co : List (RV × Co) := [(.c true 4 2, .id)]
theorem c0co : cFun Tryz.prog 44 = some (29, k0co, s0co) := by kernel_rfl

def qbkn : IC := .reg false [zv 4 (.mov (.c (.bool false)))]
def qbkm : IC := .reg false [zm 5 0, zi 6 (.call (.c (.fn 36 [] [])) [((.t 5), .id)]), zv 7 (.un .not (.t 6)), zm 8 7, zw 8 true 9 (.mov (.t 0)), ⟨some (8, true), some 10, .call (.c (.fn 15 [] [])) [((.t 9), .id)]⟩, zw 8 true 11 (.mov (.t 1)), zw 8 true 12 (.bsl 1 [((.t 11), .id)]), ⟨some (8, true), some 13, .call (.c (.fn 79 [] [])) [((.t 10), .id), ((.t 12), (.sl 1))]⟩, zv 14 (.pick (.t 8) (.t 13) (.c (.bool false))), zm 4 14]
def k0cp : IC := (.seq qbkn (.seq qbkm .ret))
@[go_sem] def s0cp : List (RV × Co) := [(.t 4, .id)]
theorem c0cp : cFun Tryz.prog 45 = some (15, k0cp, s0cp) := by kernel_rfl

def qbng : IC := .reg false [zv 2 (.mov (.c .nils)), zv 3 (.mov (.c (.bool false)))]
def qbml : IC := .reg false [zm 9 0, zi 10 (.call (.c (.fn 80 [] [])) [((.t 9), .id), ((.c (.str [61, 62])), .id)]), zv 11 (.un .not (.t 10))]
def qbyj : IC := .reg false [zm 12 0, zi 13 (.call (.c (.fn 81 [] [])) [((.t 12), .id)]), zv 14 (.un .not (.t 13)), zv 2 (.mov (.c .nils)), zm 3 14]
def qbj0 : IC := .reg false [zv 4 (.mov (.c .nils))]
def qbvm : IC := .reg false [zm 15 0, zi 16 (.call (.c (.fn 21 [] [])) [((.t 15), .id), ((.c (.str [40])), .id)]), zm 5 16]
def qbg7 : IC := .reg false [zm 17 5, zv 18 (.un .not (.t 17)), zm 19 18, zw 19 false 20 (.mov (.t 0)), ⟨some (19, false), some 21, .call (.c (.fn 45 [] [])) [((.t 20), .id), ((.c (.str [41])), .id)]⟩, zw 19 false 22 (.un .not (.t 21)), zv 23 (.pick (.t 19) (.c (.bool true)) (.t 22)), zm 6 23]
def qbk7 : IC := .reg false [zm 24 6]
def qbmw : IC := .reg false [zm 26 0, zi 27 (.call (.c (.fn 82 [] [])) [((.t 26), .id)]), zm 25 27, zv 28 (.ext (.t 25) 0), zv 29 (.ext (.t 25) 1), zi 7 (.alo [(.int .i64 0), (.int .i64 0), (.int .i64 0), (.str []), .nils]), zn (.st 5 (.agg [.id, .id, .id, .id, (.sl 5)]) (.t 7) (.t 28)), zm 8 29]
def qbxr : IC := .reg false [zm 30 8, zv 31 (.un .not (.t 30))]
def qbbf : IC := .reg false [zv 2 (.mov (.c .nils)), zv 3 (.mov (.c (.bool false)))]
def q6f : IC := .reg false [zm 32 4, zv 33 (.ld true 5 (.t 7)), zv 34 (.bsl 5 [((.t 33), (.agg [.id, .id, .id, .id, (.sl 5)]))]), zi 35 (.app 5 (.agg [(.int .i64 0), (.int .i64 0), (.int .i64 0), (.str []), .nils]) 64 (.sl 5) (.t 32) (.t 34)), zm 4 35]
def q8i : IC := .reg false [zm 36 5, zm 37 36, zw 37 true 38 (.mov (.t 0)), ⟨some (37, true), some 39, .call (.c (.fn 21 [] [])) [((.t 38), .id), ((.c (.str [44])), .id)]⟩, zv 40 (.pick (.t 37) (.t 39) (.c (.bool false))), zm 6 40]
def qbu0 : IC := (.seq (.seq qbk7 (.cond (.t 24) .skip (.exit 0))) (.block 1 (.seq qbmw (.seq (.seq qbxr (.cond (.t 31) (.seq qbbf .ret) .skip)) (.seq q6f q8i)))))
def q73 : IC := .reg false [zm 41 5, zm 42 41, zw 42 true 43 (.mov (.t 0)), ⟨some (42, true), some 44, .call (.c (.fn 49 [] [])) [((.t 43), .id), ((.c (.str [41])), .id)]⟩, zw 42 true 45 (.un .not (.t 44)), zv 46 (.pick (.t 42) (.t 45) (.c (.bool false))), zm 47 46, zw 47 false 48 (.mov (.t 0)), ⟨some (47, false), some 49, .call (.c (.fn 49 [] [])) [((.t 48), .id), ((.c (.str [61, 62])), .id)]⟩, zw 47 false 50 (.un .not (.t 49)), zv 51 (.pick (.t 47) (.c (.bool true)) (.t 50))]
def q7c : IC := .reg false [zv 2 (.mov (.c .nils)), zv 3 (.mov (.c (.bool false)))]
def q58 : IC := .reg false [zm 52 4, zm 2 52, zv 3 (.mov (.c (.bool true)))]
def k0br : IC := (.seq qbng (.seq (.seq qbml (.cond (.t 11) (.seq qbyj .ret) .skip)) (.seq qbj0 (.seq qbvm (.seq (.seq qbg7 (.block 0 (.loop qbu0))) (.seq (.seq q73 (.cond (.t 51) (.seq q7c .ret) .skip)) (.seq q58 .ret)))))))
@[go_sem] def s0br : List (RV × Co) := [(.t 2, (.sl 5)), (.t 3, .id)]
theorem c0br : cFun Tryz.prog 46 = some (53, k0br, s0br) := by kernel_rfl

def qbwy : IC := .reg false [zi 2 (.alo [(.int .i64 0), (.int .i64 0), (.int .i64 0), (.str []), .nils]), zv 3 (.mov (.c (.bool false)))]
def qbok : IC := .reg false [zm 8 0, zi 9 (.call (.c (.fn 30 [] [])) [((.t 8), .id)]), zv 10 (.un .not (.t 9))]
def qbqd : IC := .reg false [zv 11 (.bld [(.int .i64 0), (.int .i64 0), (.int .i64 0), (.str []), .nils] []), zn (.st 5 (.agg [.id, .id, .id, .id, (.sl 5)]) (.t 2) (.t 11)), zv 3 (.mov (.c (.bool false)))]
def qbrv : IC := .reg false [zm 13 0, zi 14 (.call (.c (.fn 83 [] [])) [((.t 13), .id)]), zm 12 14, zv 15 (.ext (.t 12) 0), zv 16 (.ext (.t 12) 1), zi 4 (.alo [(.int .i64 0), (.int .i64 0), (.int .i64 0), (.str []), .nils]), zn (.st 5 (.agg [.id, .id, .id, .id, (.sl 5)]) (.t 4) (.t 15)), zm 5 16]
def qbqb : IC := .reg false [zm 17 5, zm 18 17, zw 18 true 19 (.mov (.t 0)), ⟨some (18, true), some 20, .call (.c (.fn 21 [] [])) [((.t 19), .id), ((.c (.str [45, 62])), .id)]⟩, zv 21 (.pick (.t 18) (.t 20) (.c (.bool false)))]
def qbu4 : IC := .reg false [zm 23 0, zi 24 (.call (.c (.fn 47 [] [])) [((.t 23), .id)]), zm 22 24, zv 25 (.ext (.t 22) 0), zv 26 (.ext (.t 22) 1), zi 6 (.alo [(.int .i64 0), (.int .i64 0), (.int .i64 0), (.str []), .nils]), zn (.st 5 (.agg [.id, .id, .id, .id, (.sl 5)]) (.t 6) (.t 25)), zm 7 26]
def qbrz : IC := .reg false [zv 27 (.fad (.t 4) 1), zv 28 (.ld false 1 (.t 27)), zv 29 (.ld true 5 (.t 4)), zv 30 (.ld true 5 (.t 6)), zv 31 (.bsl 5 [((.t 29), (.agg [.id, .id, .id, .id, (.sl 5)])), ((.t 30), (.agg [.id, .id, .id, .id, (.sl 5)]))]), zv 32 (.bld [(.int .i64 0), (.int .i64 0), (.int .i64 0), (.str []), .nils] [(0, 1, (.c (.int .i64 2))), (1, 1, (.t 28)), (3, 1, (.c (.str [45, 62]))), (4, 1, (.t 31))]), zm 33 7, zn (.st 5 (.agg [.id, .id, .id, .id, (.sl 5)]) (.t 4) (.t 32)), zm 5 33]
def qbd3 : IC := .reg false [zm 34 0, zi 35 (.call (.c (.fn 32 [] [])) [((.t 34), .id)])]
def qbhm : IC := .reg false [zm 36 0, zv 37 (.ld true 5 (.t 4)), zm 38 5, zi 39 (.call (.c (.fn 48 [] [])) [((.t 36), .id), ((.t 37), (.agg [.id, .id, .id, .id, (.sl 5)])), ((.t 38), .id)]), zv 40 (.ext (.t 39) 0), zv 41 (.ext (.t 39) 1), zn (.st 5 (.agg [.id, .id, .id, .id, (.sl 5)]) (.t 2) (.t 40)), zm 3 41]
def k0by : IC := (.seq qbwy (.seq (.seq qbok (.cond (.t 10) (.seq qbqd .ret) .skip)) (.seq qbrv (.seq (.seq qbqb (.cond (.t 21) (.seq qbu4 qbrz) .skip)) (.seq qbd3 (.seq qbhm .ret))))))
@[go_sem] def s0by : List (RV × Co) := [(.c true 5 2, (.agg [.id, .id, .id, .id, (.sl 5)])), (.t 3, .id)]
theorem c0by : cFun Tryz.prog 47 = some (42, k0by, s0by) := by kernel_rfl

def qbia : IC := .reg false [zi 4 (.box (.t 1)), zi 6 (.alo [(.int .i64 0), (.int .i64 0), (.int .i64 0), (.str []), .nils]), zv 7 (.mov (.c (.bool false)))]
def qbom : IC := .reg false [zm 8 2, zv 9 (.un .not (.t 8))]
def qbht : IC := .reg false [zv 10 (.bld [(.int .i64 0), (.int .i64 0), (.int .i64 0), (.str []), .nils] []), zn (.st 5 (.agg [.id, .id, .id, .id, (.sl 5)]) (.t 6) (.t 10)), zv 7 (.mov (.c (.bool false)))]
def qbfx : IC := .reg false [zv 11 (.ld true 5 (.t 4)), zn (.st 5 (.agg [.id, .id, .id, .id, (.sl 5)]) (.t 6) (.t 11)), zv 7 (.mov (.c (.bool true)))]
def k0bu : IC := (.seq qbia (.seq (.seq qbom (.cond (.t 9) (.seq qbht .ret) .skip)) (.seq qbfx .ret)))
@[go_sem] def s0bu : List (RV × Co) := [(.c true 5 6, (.agg [.id, .id, .id, .id, (.sl 5)])), (.t 7, .id)]
theorem c0bu : cFun Tryz.prog 48 = some (12, k0bu, s0bu) := by kernel_rfl

def qbod : IC := .reg false [zv 4 (.mov (.c (.bool false)))]
def qbur : IC := .reg false [zm 5 0, zm 6 1, zi 7 (.call (.c (.fn 21 [] [])) [((.t 5), .id), ((.t 6), .id)]), zm 8 7, zw 8 false 9 (.mov (.t 0)), ⟨some (8, false), some 10, .call (.c (.fn 43 [] [])) [((.t 9), .id), ((.c (.int .i64 5)), .id)]⟩, zv 11 (.pick (.t 8) (.c (.bool true)) (.t 10)), zm 4 11]
def k0cs : IC := (.seq qbod (.seq qbur .ret))
@[go_sem] def s0cs : List (RV × Co) := [(.t 4, .id)]
theorem c0cs : cFun Tryz.prog 49 = some (12, k0cs, s0cs) := by kernel_rfl

def qbui : IC := .reg false [zi 2 (.box (.t 0)), zi 4 (.alo [.nils, (.int .i64 0), (.int .i64 0), (.int .i64 0), (.str []), (.int .i64 0), (.int .i64 0), (.int .i64 0)])]
def qbni : IC := .reg false [zv 6 (.fad (.t 2) 6), zv 7 (.ld false 1 (.t 6)), zv 8 (.bin .neq .no (.t 7) (.c (.int .i64 0)))]
def qbk5 : IC := .reg false [zv 9 (.ld true 8 (.t 2)), zn (.st 8 (.agg [(.sl 4), .id, .id, .id, .id, .id, .id, .id]) (.t 4) (.t 9))]
def qbhq : IC := .reg false [zv 10 (.ld true 8 (.t 2)), zi 11 (.call (.c (.fn 16 [] [])) [((.t 10), (.agg [(.sl 4), .id, .id, .id, .id, .id, .id, .id]))]), zv 12 (.fld false 1 1 (.t 11)), zm 5 12]
def qbfk : IC := .reg false [zm 13 1, zv 14 (.bin .eql .no (.t 13) (.c (.int .i64 0)))]
def qbmz : IC := .reg false [zv 1 (.mov (.c (.int .i64 1)))]
def qbyk : IC := .reg false [zm 15 1, zv 16 (.fad (.t 2) 6), zn (.st 1 .id (.t 16) (.t 15))]
def qbm0 : IC := .reg false [zm 17 5, zv 18 (.fad (.t 2) 7), zn (.st 1 .id (.t 18) (.t 17))]
def qbnq : IC := .reg false [zv 19 (.ld true 8 (.t 2)), zn (.st 8 (.agg [(.sl 4), .id, .id, .id, .id, .id, .id, .id]) (.t 4) (.t 19))]
def k0ce : IC := (.seq qbui (.seq (.seq qbni (.cond (.t 8) (.seq qbk5 .ret) .skip)) (.seq qbhq (.seq (.seq qbfk (.cond (.t 14) qbmz .skip)) (.seq qbyk (.seq qbm0 (.seq qbnq .ret)))))))
@[go_sem] def s0ce : List (RV × Co) := [(.c true 8 4, (.agg [(.sl 4), .id, .id, .id, .id, .id, .id, .id]))]
theorem c0ce : cFun Tryz.prog 50 = some (20, k0ce, s0ce) := by kernel_rfl

def qbpo : IC := .reg false [zi 1 (.box (.t 0)), zi 2 (.alo [.nils, (.int .i64 0), (.int .i64 0), (.int .i64 0), (.str []), (.int .i64 0), (.int .i64 0), (.int .i64 0)]), zi 3 (.alo [(.int .i64 0), (.int .i64 0), (.int .i64 0), (.str [])])]
def qbso : IC := .reg false [zv 5 (.ld true 8 (.t 1)), zi 6 (.call (.c (.fn 16 [] [])) [((.t 5), (.agg [(.sl 4), .id, .id, .id, .id, .id, .id, .id]))]), zi 4 (.alo [(.int .i64 0), (.int .i64 0), (.int .i64 0), (.str [])]), zn (.st 4 .id (.t 4) (.t 6))]
def qbkc : IC := .reg false [zv 7 (.fad (.t 1) 6), zv 8 (.ld false 1 (.t 7)), zv 9 (.bin .eql .no (.t 8) (.c (.int .i64 0))), zm 10 9, zw 10 true 11 (.fad (.t 1) 0), zw 10 true 12 (.ld false 1 (.t 11)), zw 10 true 13 (.len false (.t 12)), zw 10 true 14 (.bin .gtr .no (.t 13) (.c (.int .i64 0))), zv 15 (.pick (.t 10) (.t 14) (.c (.bool false)))]
def qbn9 : IC := .reg false [zv 16 (.fad (.t 1) 0), zv 17 (.ld false 1 (.t 16)), zv 18 (.slv 4 (.t 17) (some (.c (.int .i64 1))) none none), zv 19 (.fad (.t 1) 0), zn (.st 1 (.sl 4) (.t 19) (.t 18))]
def qbrs : IC := .drw [zp (zv 20 (.ld true 8 (.t 1))), zp (zv 21 (.ld true 4 (.t 4))), (zn (.st 8 (.agg [(.sl 4), .id, .id, .id, .id, .id, .id, .id]) (.t 2) (.t 20)), [1]), (zn (.st 4 .id (.t 3) (.t 21)), [])]
def k0ca : IC := (.seq qbpo (.seq qbso (.seq (.seq qbkc (.cond (.t 15) qbn9 .skip)) (.seq qbrs .ret))))
@[go_sem] def s0ca : List (RV × Co) := [(.c true 8 2, (.agg [(.sl 4), .id, .id, .id, .id, .id, .id, .id])), (.c true 4 3, .id)]
theorem c0ca : cFun Tryz.prog 51 = some (22, k0ca, s0ca) := by kernel_rfl

def qbw9 : IC := .reg false [zi 2 (.box (.t 0)), zv 4 (.mov (.c (.bool false)))]
def qbez : IC := .reg false [zv 5 (.fad (.t 2) 6), zv 6 (.ld false 1 (.t 5)), zv 7 (.bin .eql .no (.t 6) (.c (.int .i64 0))), zm 8 7, zw 8 true 9 (.ld true 8 (.t 2)), ⟨some (8, true), some 10, .call (.c (.fn 16 [] [])) [((.t 9), (.agg [(.sl 4), .id, .id, .id, .id, .id, .id, .id]))]⟩, zw 8 true 11 (.mov (.t 1)), ⟨some (8, true), some 12, .call (.c (.fn 84 [] [])) [((.t 10), .id), ((.t 11), .id)]⟩, zv 13 (.pick (.t 8) (.t 12) (.c (.bool false))), zm 4 13]
def k0cc : IC := (.seq qbw9 (.seq qbez .ret))
@[go_sem] def s0cc : List (RV × Co) := [(.t 4, .id)]
theorem c0cc : cFun Tryz.prog 52 = some (14, k0cc, s0cc) := by kernel_rfl

def qbtc : IC := .reg false [zi 1 (.box (.t 0)), zi 2 (.alo [.nils, (.int .i64 0), (.int .i64 0), (.int .i64 0), (.str []), (.int .i64 0), (.int .i64 0), (.int .i64 0)]), zv 3 (.mov (.c .nils))]
def qbg8 : IC := .reg false [zv 12 (.ld true 8 (.t 1)), zi 13 (.call (.c (.fn 85 [] [])) [((.t 12), (.agg [(.sl 4), .id, .id, .id, .id, .id, .id, .id])), ((.c (.str [61, 62])), .id)]), zv 14 (.un .not (.t 13))]
def qbwz : IC := .reg false [zv 15 (.ld true 8 (.t 1)), zn (.st 8 (.agg [(.sl 4), .id, .id, .id, .id, .id, .id, .id]) (.t 2) (.t 15)), zv 3 (.mov (.c .nils))]
def qbvt : IC := .reg false [zv 4 (.mov (.c .nils))]
def qbu6 : IC := .reg false [zv 17 (.ld true 8 (.t 1)), zi 18 (.call (.c (.fn 25 [] [])) [((.t 17), (.agg [(.sl 4), .id, .id, .id, .id, .id, .id, .id])), ((.c (.str [40])), .id)]), zm 16 18, zv 19 (.ext (.t 16) 0), zv 20 (.ext (.t 16) 1), zi 5 (.alo [.nils, (.int .i64 0), (.int .i64 0), (.int .i64 0), (.str []), (.int .i64 0), (.int .i64 0), (.int .i64 0)]), zn (.st 8 (.agg [(.sl 4), .id, .id, .id, .id, .id, .id, .id]) (.t 5) (.t 19)), zm 6 20]
def qbn5 : IC := .reg false [zm 21 6, zv 22 (.un .not (.t 21))]
def qbxv : IC := .reg false [zv 24 (.ld true 8 (.t 1)), zi 25 (.call (.c (.fn 86 [] [])) [((.t 24), (.agg [(.sl 4), .id, .id, .id, .id, .id, .id, .id]))]), zm 23 25, zv 26 (.ext (.t 23) 0), zv 27 (.ext (.t 23) 1), zi 7 (.alo [.nils, (.int .i64 0), (.int .i64 0), (.int .i64 0), (.str []), (.int .i64 0), (.int .i64 0), (.int .i64 0)]), zi 8 (.alo [(.int .i64 0), (.int .i64 0), (.int .i64 0), (.str []), .nils]), zn (.st 8 (.agg [(.sl 4), .id, .id, .id, .id, .id, .id, .id]) (.t 7) (.t 26)), zn (.st 5 (.agg [.id, .id, .id, .id, (.sl 5)]) (.t 8) (.t 27))]
def qbox : IC := .reg false [zv 29 (.ld true 8 (.t 7)), zi 30 (.call (.c (.fn 28 [] [])) [((.t 29), (.agg [(.sl 4), .id, .id, .id, .id, .id, .id, .id])), ((.c (.str [61, 62])), .id)]), zm 28 30, zv 31 (.ext (.t 28) 0), zv 32 (.ext (.t 28) 1), zn (.st 8 (.agg [(.sl 4), .id, .id, .id, .id, .id, .id, .id]) (.t 7) (.t 31))]
def qbp9 : IC := .drw [zp (zv 33 (.ld true 8 (.t 7))), zp (zv 34 (.ld true 5 (.t 8))), (zv 35 (.bsl 5 [((.t 34), (.agg [.id, .id, .id, .id, (.sl 5)]))]), []), (zn (.st 8 (.agg [(.sl 4), .id, .id, .id, .id, .id, .id, .id]) (.t 2) (.t 33)), [1, 2]), zp (zm 3 35)]
def qbjk : IC := .reg false [zv 36 (.ld true 8 (.t 5)), zi 37 (.call (.c (.fn 52 [] [])) [((.t 36), (.agg [(.sl 4), .id, .id, .id, .id, .id, .id, .id])), ((.c (.str [41])), .id)]), zv 38 (.un .not (.t 37))]
def qbc3 : IC := .reg false [zv 9 (.mov (.c (.bool true)))]
def q6a : IC := .reg false [zm 39 9]
def q9l : IC := .reg false [zv 41 (.ld true 8 (.t 5)), zi 42 (.call (.c (.fn 86 [] [])) [((.t 41), (.agg [(.sl 4), .id, .id, .id, .id, .id, .id, .id]))]), zm 40 42, zv 43 (.ext (.t 40) 0), zv 44 (.ext (.t 40) 1), zi 10 (.alo [.nils, (.int .i64 0), (.int .i64 0), (.int .i64 0), (.str []), (.int .i64 0), (.int .i64 0), (.int .i64 0)]), zi 11 (.alo [(.int .i64 0), (.int .i64 0), (.int .i64 0), (.str []), .nils]), zn (.st 8 (.agg [(.sl 4), .id, .id, .id, .id, .id, .id, .id]) (.t 10) (.t 43)), zn (.st 5 (.agg [.id, .id, .id, .id, (.sl 5)]) (.t 11) (.t 44))]
def q6w : IC := .reg false [zm 45 4, zv 46 (.ld true 5 (.t 11)), zv 47 (.bsl 5 [((.t 46), (.agg [.id, .id, .id, .id, (.sl 5)]))]), zi 48 (.app 5 (.agg [(.int .i64 0), (.int .i64 0), (.int .i64 0), (.str []), .nils]) 64 (.sl 5) (.t 45) (.t 47)), zm 4 48]
def qbap : IC := .reg false [zv 50 (.ld true 8 (.t 10)), zi 51 (.call (.c (.fn 25 [] [])) [((.t 50), (.agg [(.sl 4), .id, .id, .id, .id, .id, .id, .id])), ((.c (.str [44])), .id)]), zm 49 51, zv 52 (.ext (.t 49) 0), zv 53 (.ext (.t 49) 1), zn (.st 8 (.agg [(.sl 4), .id, .id, .id, .id, .id, .id, .id]) (.t 5) (.t 52)), zm 9 53]
def q6n : IC := (.seq (.seq q6a (.cond (.t 39) .skip (.exit 0))) (.block 1 (.seq q9l (.seq q6w qbap))))
def q7h : IC := .reg false [zv 55 (.ld true 8 (.t 5)), zi 56 (.call (.c (.fn 28 [] [])) [((.t 55), (.agg [(.sl 4), .id, .id, .id, .id, .id, .id, .id])), ((.c (.str [41])), .id)]), zm 54 56, zv 57 (.ext (.t 54) 0), zv 58 (.ext (.t 54) 1), zn (.st 8 (.agg [(.sl 4), .id, .id, .id, .id, .id, .id, .id]) (.t 5) (.t 57))]
def qbcn : IC := .reg false [zv 60 (.ld true 8 (.t 5)), zi 61 (.call (.c (.fn 28 [] [])) [((.t 60), (.agg [(.sl 4), .id, .id, .id, .id, .id, .id, .id])), ((.c (.str [61, 62])), .id)]), zm 59 61, zv 62 (.ext (.t 59) 0), zv 63 (.ext (.t 59) 1), zn (.st 8 (.agg [(.sl 4), .id, .id, .id, .id, .id, .id, .id]) (.t 5) (.t 62))]
def q69 : IC := .reg false [zv 64 (.ld true 8 (.t 5)), zm 65 4, zn (.st 8 (.agg [(.sl 4), .id, .id, .id, .id, .id, .id, .id]) (.t 2) (.t 64)), zm 3 65]
def k0bk : IC := (.seq qbtc (.seq (.seq qbg8 (.cond (.t 14) (.seq qbwz .ret) .skip)) (.seq qbvt (.seq qbu6 (.seq (.seq qbn5 (.cond (.t 22) (.seq qbxv (.seq qbox (.seq qbp9 .ret))) .skip)) (.seq (.seq qbjk (.cond (.t 38) (.seq qbc3 (.block 0 (.loop q6n))) .skip)) (.seq q7h (.seq qbcn (.seq q69 .ret)))))))))
@[go_sem] def s0bk : List (RV × Co) := [(.c true 8 2, (.agg [(.sl 4), .id, .id, .id, .id, .id, .id, .id])), (.t 3, (.sl 5))]
theorem c0bk : cFun Tryz.prog 53 = some (66, k0bk, s0bk) := by kernel_rfl

def qbo0 : IC := .reg false [zi 1 (.box (.t 0)), zi 2 (.alo [.nils, (.int .i64 0), (.int .i64 0), (.int .i64 0), (.str []), (.int .i64 0), (.int .i64 0), (.int .i64 0)]), zi 3 (.alo [(.int .i64 0), (.int .i64 0), (.int .i64 0), (.str []), .nils])]
def qbmp : IC := .reg false [zv 10 (.ld true 8 (.t 1)), zi 11 (.call (.c (.fn 33 [] [])) [((.t 10), (.agg [(.sl 4), .id, .id, .id, .id, .id, .id, .id]))]), zm 9 11, zv 12 (.ext (.t 9) 0), zv 13 (.ext (.t 9) 1), zn (.st 8 (.agg [(.sl 4), .id, .id, .id, .id, .id, .id, .id]) (.t 1) (.t 12))]
def qbm3 : IC := .reg false [zv 15 (.ld true 8 (.t 1)), zi 16 (.call (.c (.fn 87 [] [])) [((.t 15), (.agg [(.sl 4), .id, .id, .id, .id, .id, .id, .id]))]), zm 14 16, zv 17 (.ext (.t 14) 0), zv 18 (.ext (.t 14) 1), zi 4 (.alo [(.int .i64 0), (.int .i64 0), (.int .i64 0), (.str []), .nils]), zn (.st 8 (.agg [(.sl 4), .id, .id, .id, .id, .id, .id, .id]) (.t 1) (.t 17)), zn (.st 5 (.agg [.id, .id, .id, .id, (.sl 5)]) (.t 4) (.t 18))]
def qbyi : IC := .reg false [zv 20 (.ld true 8 (.t 1)), zi 21 (.call (.c (.fn 25 [] [])) [((.t 20), (.agg [(.sl 4), .id, .id, .id, .id, .id, .id, .id])), ((.c (.str [45, 62])), .id)]), zm 19 21, zv 22 (.ext (.t 19) 0), zv 23 (.ext (.t 19) 1), zi 5 (.alo [.nils, (.int .i64 0), (.int .i64 0), (.int .i64 0), (.str []), (.int .i64 0), (.int .i64 0), (.int .i64 0)]), zn (.st 8 (.agg [(.sl 4), .id, .id, .id, .id, .id, .id, .id]) (.t 5) (.t 22)), zm 6 23]
def qbrw : IC := .reg false [zm 24 6]
def qbec : IC := .reg false [zv 26 (.ld true 8 (.t 5)), zi 27 (.call (.c (.fn 54 [] [])) [((.t 26), (.agg [(.sl 4), .id, .id, .id, .id, .id, .id, .id]))]), zm 25 27, zv 28 (.ext (.t 25) 0), zv 29 (.ext (.t 25) 1), zi 7 (.alo [.nils, (.int .i64 0), (.int .i64 0), (.int .i64 0), (.str []), (.int .i64 0), (.int .i64 0), (.int .i64 0)]), zi 8 (.alo [(.int .i64 0), (.int .i64 0), (.int .i64 0), (.str []), .nils]), zn (.st 8 (.agg [(.sl 4), .id, .id, .id, .id, .id, .id, .id]) (.t 7) (.t 28)), zn (.st 5 (.agg [.id, .id, .id, .id, (.sl 5)]) (.t 8) (.t 29))]
def qbkf : IC := .reg false [zv 30 (.ld true 8 (.t 7)), zn (.st 8 (.agg [(.sl 4), .id, .id, .id, .id, .id, .id, .id]) (.t 5) (.t 30))]
def qbgo : IC := .reg false [zv 31 (.fad (.t 4) 1), zv 32 (.ld false 1 (.t 31)), zv 33 (.ld true 5 (.t 4)), zv 34 (.ld true 5 (.t 8)), zv 35 (.bsl 5 [((.t 33), (.agg [.id, .id, .id, .id, (.sl 5)])), ((.t 34), (.agg [.id, .id, .id, .id, (.sl 5)]))]), zv 36 (.bld [(.int .i64 0), (.int .i64 0), (.int .i64 0), (.str []), .nils] [(0, 1, (.c (.int .i64 2))), (1, 1, (.t 32)), (3, 1, (.c (.str [45, 62]))), (4, 1, (.t 35))]), zn (.st 5 (.agg [.id, .id, .id, .id, (.sl 5)]) (.t 4) (.t 36))]
def qbhs : IC := .drw [zp (zv 37 (.ld true 8 (.t 5))), (zi 38 (.call (.c (.fn 35 [] [])) [((.t 37), (.agg [(.sl 4), .id, .id, .id, .id, .id, .id, .id]))]), []), (zv 39 (.ld true 5 (.t 4)), [1]), (zn (.st 8 (.agg [(.sl 4), .id, .id, .id, .id, .id, .id, .id]) (.t 2) (.t 38)), [2]), (zn (.st 5 (.agg [.id, .id, .id, .id, (.sl 5)]) (.t 3) (.t 39)), [])]
def k0bp : IC := (.seq qbo0 (.seq qbmp (.seq qbm3 (.seq qbyi (.seq (.seq qbrw (.cond (.t 24) (.seq qbec (.seq qbkf qbgo)) .skip)) (.seq qbhs .ret))))))
@[go_sem] def s0bp : List (RV × Co) := [(.c true 8 2, (.agg [(.sl 4), .id, .id, .id, .id, .id, .id, .id])), (.c true 5 3, (.agg [.id, .id, .id, .id, (.sl 5)]))]
theorem c0bp : cFun Tryz.prog 54 = some (40, k0bp, s0bp) := by kernel_rfl

def qbz0 : IC := .reg false [zi 2 (.box (.t 0)), zi 3 (.box (.t 1)), zi 4 (.alo [(.int .i64 0), (.int .i64 0), (.int .i64 0), (.str []), .nils]), zv 5 (.mov (.c (.bool false)))]
def qb2z : IC := .reg false [zv 10 (.ld false 1 (.t 2)), zv 11 (.mfn 89 [] [(.t 2)]), zi 12 (.call (.c (.fn 88 [] [])) [((.t 10), .id), ((.t 11), .id)]), zm 9 12, zv 13 (.ext (.t 9) 0), zv 14 (.ext (.t 9) 1), zm 6 13, zm 7 14]
def qb1f : IC := .reg false [zm 15 7, zv 16 (.un .not (.t 15)), zm 17 16, zw 17 false 18 (.ld false 1 (.t 2)), ⟨some (17, false), some 19, .call (.c (.fn 49 [] [])) [((.t 18), .id), ((.c (.str [105, 110])), .id)]⟩, zw 17 false 20 (.un .not (.t 19)), zv 21 (.pick (.t 17) (.c (.bool true)) (.t 20))]
def qbz9 : IC := .reg false [zv 22 (.ld true 5 (.t 3)), zn (.st 5 (.agg [.id, .id, .id, .id, (.sl 5)]) (.t 4) (.t 22)), zv 5 (.mov (.c (.bool false)))]
def qb04 : IC := .reg false [zv 24 (.ld false 1 (.t 2)), zi 25 (.call (.c (.fn 10 [] [])) [((.t 24), .id)]), zm 23 25, zv 26 (.ext (.t 23) 0), zv 27 (.ext (.t 23) 1), zi 8 (.alo [(.int .i64 0), (.int .i64 0), (.int .i64 0), (.str []), .nils]), zn (.st 5 (.agg [.id, .id, .id, .id, (.sl 5)]) (.t 8) (.t 26)), zm 7 27]
def qbz1 : IC := .reg false [zm 28 6, zv 29 (.ld true 5 (.t 8)), zv 30 (.bsl 5 [((.t 29), (.agg [.id, .id, .id, .id, (.sl 5)]))]), zi 31 (.app 5 (.agg [(.int .i64 0), (.int .i64 0), (.int .i64 0), (.str []), .nils]) 64 (.sl 5) (.t 28) (.t 30)), zv 32 (.fad (.t 3) 0), zn (.st 1 .id (.t 32) (.c (.int .i64 26))), zv 33 (.fad (.t 3) 4), zn (.st 1 (.sl 5) (.t 33) (.t 31))]
def qb5w : IC := .reg false [zv 34 (.ld true 5 (.t 3)), zm 35 7, zn (.st 5 (.agg [.id, .id, .id, .id, (.sl 5)]) (.t 4) (.t 34)), zm 5 35]
def k0q : IC := (.seq qbz0 (.seq qb2z (.seq (.seq qb1f (.cond (.t 21) (.seq qbz9 .ret) .skip)) (.seq qb04 (.seq qbz1 (.seq qb5w .ret))))))
@[go_sem] def s0q : List (RV × Co) := [(.c true 5 4, (.agg [.id, .id, .id, .id, (.sl 5)])), (.t 5, .id)]
theorem c0q : cFun Tryz.prog 55 = some (36, k0q, s0q) := by kernel_rfl

def qbzc : IC := .reg false [zi 2 (.box (.t 0)), zi 3 (.box (.t 1)), zi 4 (.alo [(.int .i64 0), (.int .i64 0), (.int .i64 0), (.str []), .nils]), zv 5 (.mov (.c (.bool false)))]
def qbzm : IC := .reg false [zv 10 (.ld false 1 (.t 2)), zi 11 (.call (.c (.fn 10 [] [])) [((.t 10), .id)]), zm 9 11, zv 12 (.ext (.t 9) 0), zv 13 (.ext (.t 9) 1), zi 6 (.alo [(.int .i64 0), (.int .i64 0), (.int .i64 0), (.str []), .nils]), zn (.st 5 (.agg [.id, .id, .id, .id, (.sl 5)]) (.t 6) (.t 12)), zm 7 13]
def qbze : IC := .reg false [zm 14 7, zv 15 (.un .not (.t 14)), zm 16 15, zw 16 false 17 (.ld false 1 (.t 2)), ⟨some (16, false), some 18, .call (.c (.fn 49 [] [])) [((.t 17), .id), ((.c (.str [111, 102])), .id)]⟩, zw 16 false 19 (.un .not (.t 18)), zv 20 (.pick (.t 16) (.c (.bool true)) (.t 19))]
def qb09 : IC := .reg false [zv 21 (.ld true 5 (.t 3)), zn (.st 5 (.agg [.id, .id, .id, .id, (.sl 5)]) (.t 4) (.t 21)), zv 5 (.mov (.c (.bool false)))]
def qb2y : IC := .reg false [zv 23 (.ld false 1 (.t 2)), zv 24 (.mfn 90 [] [(.t 2)]), zi 25 (.call (.c (.fn 88 [] [])) [((.t 23), .id), ((.t 24), .id)]), zm 22 25, zv 26 (.ext (.t 22) 0), zv 27 (.ext (.t 22) 1), zm 8 26, zm 7 27]
def qb1z : IC := .reg false [zv 28 (.ld true 5 (.t 6)), zv 29 (.bsl 5 [((.t 28), (.agg [.id, .id, .id, .id, (.sl 5)]))]), zm 30 8, zi 31 (.app 5 (.agg [(.int .i64 0), (.int .i64 0), (.int .i64 0), (.str []), .nils]) 64 (.sl 5) (.t 29) (.t 30)), zv 32 (.fad (.t 3) 0), zn (.st 1 .id (.t 32) (.c (.int .i64 27))), zv 33 (.fad (.t 3) 4), zn (.st 1 (.sl 5) (.t 33) (.t 31))]
def qbzr : IC := .reg false [zv 34 (.ld true 5 (.t 3)), zm 35 7, zn (.st 5 (.agg [.id, .id, .id, .id, (.sl 5)]) (.t 4) (.t 34)), zm 5 35]
def k0r : IC := (.seq qbzc (.seq qbzm (.seq (.seq qbze (.cond (.t 20) (.seq qb09 .ret) .skip)) (.seq qb2y (.seq qb1z (.seq qbzr .ret))))))
@[go_sem] def s0r : List (RV × Co) := [(.c true 5 4, (.agg [.id, .id, .id, .id, (.sl 5)])), (.t 5, .id)]
theorem c0r : cFun Tryz.prog 56 = some (36, k0r, s0r) := by kernel_rfl

def qb24 : IC := .reg false [zi 3 (.box (.t 1)), zi 4 (.alo [(.int .i64 0), (.int .i64 0), (.int .i64 0), (.str []), .nils]), zv 5 (.mov (.c (.bool false)))]
def qbzq : IC := .reg false [zv 10 (.fad (.t 3) 0), zn (.st 1 .id (.t 10) (.c (.int .i64 28)))]
def qbzh : IC := .reg false [zv 11 (.bld [(.str []), (.str []), (.str [])] [(0, 1, (.c (.str []))), (1, 1, (.c (.str [116, 104, 101, 110]))), (2, 1, (.c (.str [101, 108, 115, 101])))]), zv 12 (.mov (.c (.int .i64 0)))]
def qbyz : IC := .reg false [zv 13 (.bin .lss .no (.t 12) (.c (.int .i64 3)))]
def qb5v : IC := .reg false [zv 14 (.ida false 1 3 (.t 11) (.t 12)), zm 7 14]
def qb0c : IC := .reg false [zm 15 7, zv 16 (.bin .neq .no (.t 15) (.c (.str []))), zm 17 16, zw 17 true 18 (.mov (.t 0)), zw 17 true 19 (.mov (.t 7)), ⟨some (17, true), some 20, .call (.c (.fn 49 [] [])) [((.t 18), .id), ((.t 19), .id)]⟩, zw 17 true 21 (.un .not (.t 20)), zv 22 (.pick (.t 17) (.t 21) (.c (.bool false)))]
def qb56 : IC := .reg false [zv 23 (.ld true 5 (.t 3)), zn (.st 5 (.agg [.id, .id, .id, .id, (.sl 5)]) (.t 4) (.t 23)), zv 5 (.mov (.c (.bool false)))]
def qb0f : IC := .reg false [zm 25 0, zi 26 (.call (.c (.fn 10 [] [])) [((.t 25), .id)]), zm 24 26, zv 27 (.ext (.t 24) 0), zv 28 (.ext (.t 24) 1), zi 8 (.alo [(.int .i64 0), (.int .i64 0), (.int .i64 0), (.str []), .nils]), zn (.st 5 (.agg [.id, .id, .id, .id, (.sl 5)]) (.t 8) (.t 27)), zm 9 28]
def qb4q : IC := .reg false [zm 29 9, zv 30 (.un .not (.t 29))]
def qbg5 : IC := .reg false [zv 31 (.ld true 5 (.t 3)), zn (.st 5 (.agg [.id, .id, .id, .id, (.sl 5)]) (.t 4) (.t 31)), zv 5 (.mov (.c (.bool false)))]
def qbw0 : IC := .reg false [zv 32 (.fad (.t 3) 4), zv 33 (.ld false 1 (.t 32)), zv 34 (.ld true 5 (.t 8)), zv 35 (.bsl 5 [((.t 34), (.agg [.id, .id, .id, .id, (.sl 5)]))]), zi 36 (.app 5 (.agg [(.int .i64 0), (.int .i64 0), (.int .i64 0), (.str []), .nils]) 64 (.sl 5) (.t 33) (.t 35)), zv 37 (.fad (.t 3) 4), zn (.st 1 (.sl 5) (.t 37) (.t 36))]
def qbm9 : IC := .reg false [zv 38 (.bin .add .no (.t 12) (.c (.int .i64 1))), zm 12 38]
def qb1g : IC := (.seq qbyz (.seq (.cond (.t 13) .skip (.exit 0)) (.seq (.block 1 (.seq qb5v (.seq (.seq qb0c (.cond (.t 22) (.seq qb56 .ret) .skip)) (.seq qb0f (.seq (.seq qb4q (.cond (.t 30) (.seq qbg5 .ret) .skip)) qbw0))))) qbm9)))
def qbu2 : IC := .reg false [zv 39 (.ld true 5 (.t 3)), zn (.st 5 (.agg [.id, .id, .id, .id, (.sl 5)]) (.t 4) (.t 39)), zv 5 (.mov (.c (.bool true)))]
def k0s : IC := (.seq qb24 (.seq qbzq (.seq (.seq qbzh (.block 0 (.loop qb1g))) (.seq qbu2 .ret))))
@[go_sem] def s0s : List (RV × Co) := [(.c true 5 4, (.agg [.id, .id, .id, .id, (.sl 5)])), (.t 5, .id)]
theorem c0s : cFun Tryz.prog 57 = some (40, k0s, s0s) := by kernel_rfl

def qbks : IC := .reg false [zi 2 (.alo [(.int .i64 0), (.int .i64 0), (.int .i64 0), (.str []), .nils]), zv 3 (.mov (.c (.bool false)))]
def qbq3 : IC := .reg false [zm 10 0, zi 11 (.call (.c (.fn 92 [] [])) [((.t 10), .id)]), zm 9 11, zv 12 (.ext (.t 9) 0), zv 13 (.ext (.t 9) 1), zi 4 (.alo [(.int .i64 0), (.int .i64 0), (.int .i64 0), (.str []), .nils]), zn (.st 5 (.agg [.id, .id, .id, .id, (.sl 5)]) (.t 4) (.t 12)), zm 5 13]
def qbun : IC := .reg false [zm 14 5]
def qblc : IC := .reg false [zm 16 0, zi 17 (.call (.c (.fn 93 [] [])) [((.t 16), .id)]), zm 15 17, zv 18 (.ext (.t 15) 0), zv 19 (.ext (.t 15) 1), zi 6 (.alo [(.int .i64 0), (.int .i64 0), (.int .i64 0), (.str []), .nils]), zn (.st 5 (.agg [.id, .id, .id, .id, (.sl 5)]) (.t 6) (.t 18)), zm 7 19]
def qbww : IC := .reg false [zm 20 7, zv 21 (.un .not (.t 20)), zm 22 21, zw 22 true 23 (.mov (.t 0)), ⟨some (22, true), some 24, .call (.c (.fn 45 [] [])) [((.t 23), .id), ((.c (.str [40])), .id)]⟩, zw 22 true 25 (.un .not (.t 24)), zv 26 (.pick (.t 22) (.t 25) (.c (.bool false)))]
def qbfu : IC := .reg false [zi 8 (.alo [(.int .i64 0), (.int .i64 0), (.int .i64 0), (.str []), .nils])]
def qbq5 : IC := .reg false [zm 28 0, zi 29 (.call (.c (.fn 92 [] [])) [((.t 28), .id)]), zm 27 29, zv 30 (.ext (.t 27) 0), zv 31 (.ext (.t 27) 1), zn (.st 5 (.agg [.id, .id, .id, .id, (.sl 5)]) (.t 8) (.t 30)), zm 5 31]
def qbyg : IC := .reg false [zv 32 (.fad (.t 4) 1), zv 33 (.ld false 1 (.t 32)), zv 34 (.ld true 5 (.t 4)), zv 35 (.ld true 5 (.t 8)), zv 36 (.bsl 5 [((.t 34), (.agg [.id, .id, .id, .id, (.sl 5)])), ((.t 35), (.agg [.id, .id, .id, .id, (.sl 5)]))]), zv 37 (.bld [(.int .i64 0), (.int .i64 0), (.int .i64 0), (.str []), .nils] [(0, 1, (.c (.int .i64 24))), (1, 1, (.t 33)), (4, 1, (.t 36))]), zn (.st 5 (.agg [.id, .id, .id, .id, (.sl 5)]) (.t 4) (.t 37))]
def qbo3 : IC := (.seq (.seq qbun (.cond (.t 14) .skip (.exit 0))) (.block 1 (.seq (.seq qblc (.seq qbww (.cond (.t 26) (.exit 0) .skip))) (.seq qbfu (.seq qbq5 qbyg)))))
def q53 : IC := .reg false [zv 38 (.ld true 5 (.t 4)), zm 39 5, zn (.st 5 (.agg [.id, .id, .id, .id, (.sl 5)]) (.t 2) (.t 38)), zm 3 39]
def k0bb : IC := (.seq qbks (.seq qbq3 (.seq (.block 0 (.loop qbo3)) (.seq q53 .ret))))
@[go_sem] def s0bb : List (RV × Co) := [(.c true 5 2, (.agg [.id, .id, .id, .id, (.sl 5)])), (.t 3, .id)]
theorem c0bb : cFun Tryz.prog 58 = some (40, k0bb, s0bb) := by kernel_rfl

def qb0g : IC := .reg false [zi 1 (.box (.t 0)), zi 2 (.alo [.nils, (.int .i64 0), (.int .i64 0), (.int .i64 0), (.str []), (.int .i64 0), (.int .i64 0), (.int .i64 0)]), zi 3 (.alo [(.int .i64 0), (.int .i64 0), (.int .i64 0), (.str []), .nils])]
def qb6u : IC := .reg false [zv 6 (.ld true 8 (.t 1)), zi 7 (.call (.c (.fn 16 [] [])) [((.t 6), (.agg [(.sl 4), .id, .id, .id, .id, .id, .id, .id]))]), zv 8 (.fld false 1 0 (.t 7)), zv 9 (.bin .neq .no (.t 8) (.c (.int .i64 1)))]
def qb3z : IC := .reg false [zv 10 (.ld true 8 (.t 1)), zi 11 (.call (.c (.fn 50 [] [])) [((.t 10), (.agg [(.sl 4), .id, .id, .id, .id, .id, .id, .id])), ((.c (.int .i64 5)), .id)]), zv 12 (.bld [(.int .i64 0), (.int .i64 0), (.int .i64 0), (.str []), .nils] []), zn (.st 8 (.agg [(.sl 4), .id, .id, .id, .id, .id, .id, .id]) (.t 2) (.t 11)), zn (.st 5 (.agg [.id, .id, .id, .id, (.sl 5)]) (.t 3) (.t 12))]
def qb06 : IC := .reg false [zv 14 (.ld true 8 (.t 1)), zi 15 (.call (.c (.fn 27 [] [])) [((.t 14), (.agg [(.sl 4), .id, .id, .id, .id, .id, .id, .id]))]), zm 13 15, zv 16 (.ext (.t 13) 0), zv 17 (.ext (.t 13) 1), zn (.st 8 (.agg [(.sl 4), .id, .id, .id, .id, .id, .id, .id]) (.t 1) (.t 16)), zm 4 17]
def qb16 : IC := .reg false [zv 19 (.ld true 8 (.t 1)), zi 20 (.call (.c (.fn 28 [] [])) [((.t 19), (.agg [(.sl 4), .id, .id, .id, .id, .id, .id, .id])), ((.c (.str [45, 62])), .id)]), zm 18 20, zv 21 (.ext (.t 18) 0), zv 22 (.ext (.t 18) 1), zn (.st 8 (.agg [(.sl 4), .id, .id, .id, .id, .id, .id, .id]) (.t 1) (.t 21))]
def qb08 : IC := .reg false [zv 24 (.ld true 8 (.t 1)), zi 25 (.call (.c (.fn 11 [] [])) [((.t 24), (.agg [(.sl 4), .id, .id, .id, .id, .id, .id, .id]))]), zm 23 25, zv 26 (.ext (.t 23) 0), zv 27 (.ext (.t 23) 1), zi 5 (.alo [(.int .i64 0), (.int .i64 0), (.int .i64 0), (.str []), .nils]), zn (.st 8 (.agg [(.sl 4), .id, .id, .id, .id, .id, .id, .id]) (.t 1) (.t 26)), zn (.st 5 (.agg [.id, .id, .id, .id, (.sl 5)]) (.t 5) (.t 27))]
def qb4o : IC := .drw [zp (zv 28 (.ld true 8 (.t 1))), zp (zm 29 4), zp (zv 30 (.ld true 5 (.t 5))), (zi 31 (.call (.c (.fn 29 [] [])) [((.t 29), (.sl 4)), ((.t 30), (.agg [.id, .id, .id, .id, (.sl 5)]))]), [0]), (zn (.st 8 (.agg [(.sl 4), .id, .id, .id, .id, .id, .id, .id]) (.t 2) (.t 28)), []), (zn (.st 5 (.agg [.id, .id, .id, .id, (.sl 5)]) (.t 3) (.t 31)), [])]
def k0j : IC := (.seq qb0g (.seq (.seq qb6u (.cond (.t 9) (.seq qb3z .ret) .skip)) (.seq qb06 (.seq qb16 (.seq qb08 (.seq qb4o .ret))))))
@[go_sem] def s0j : List (RV × Co) := [(.c true 8 2, (.agg [(.sl 4), .id, .id, .id, .id, .id, .id, .id])), (.c true 5 3, (.agg [.id, .id, .id, .id, (.sl 5)]))]
theorem c0j : cFun Tryz.prog 59 = some (32, k0j, s0j) := by kernel_rfl

def qb1r : IC := .reg false [zi 2 (.box (.t 0)), zi 4 (.alo [.nils, (.int .i64 0), (.int .i64 0), (.int .i64 0), (.str []), (.int .i64 0), (.int .i64 0), (.int .i64 0)]), zi 5 (.alo [(.int .i64 0), (.int .i64 0), (.int .i64 0), (.str []), .nils])]
def qby4 : IC := .reg false [zm 11 1, zv 12 (.bld [(.int .i64 0), (.int .i64 0), (.int .i64 0), (.str []), .nils] [(0, 1, (.c (.int .i64 26))), (1, 1, (.t 11))]), zi 6 (.alo [(.int .i64 0), (.int .i64 0), (.int .i64 0), (.str []), .nils]), zn (.st 5 (.agg [.id, .id, .id, .id, (.sl 5)]) (.t 6) (.t 12))]
def qb55 : IC := .reg false [zv 14 (.ld true 8 (.t 2)), zi 15 (.call (.c (.fn 28 [] [])) [((.t 14), (.agg [(.sl 4), .id, .id, .id, .id, .id, .id, .id])), ((.c (.str [123])), .id)]), zm 13 15, zv 16 (.ext (.t 13) 0), zv 17 (.ext (.t 13) 1), zn (.st 8 (.agg [(.sl 4), .id, .id, .id, .id, .id, .id, .id]) (.t 2) (.t 16))]
def qb35 : IC := .reg false [zv 7 (.mov (.c (.bool true)))]
def qbyx : IC := .reg false [zm 18 7]
def qbzt : IC := .reg false [zv 20 (.ld true 8 (.t 2)), zi 21 (.call (.c (.fn 9 [] [])) [((.t 20), (.agg [(.sl 4), .id, .id, .id, .id, .id, .id, .id]))]), zm 19 21, zv 22 (.ext (.t 19) 0), zv 23 (.ext (.t 19) 1), zi 8 (.alo [.nils, (.int .i64 0), (.int .i64 0), (.int .i64 0), (.str []), (.int .i64 0), (.int .i64 0), (.int .i64 0)]), zi 9 (.alo [(.int .i64 0), (.int .i64 0), (.int .i64 0), (.str []), .nils]), zn (.st 8 (.agg [(.sl 4), .id, .id, .id, .id, .id, .id, .id]) (.t 8) (.t 22)), zn (.st 5 (.agg [.id, .id, .id, .id, (.sl 5)]) (.t 9) (.t 23))]
def qb1k : IC := .reg false [zv 24 (.fad (.t 6) 4), zv 25 (.ld false 1 (.t 24)), zv 26 (.ld true 5 (.t 9)), zv 27 (.bsl 5 [((.t 26), (.agg [.id, .id, .id, .id, (.sl 5)]))]), zi 28 (.app 5 (.agg [(.int .i64 0), (.int .i64 0), (.int .i64 0), (.str []), .nils]) 64 (.sl 5) (.t 25) (.t 27)), zv 29 (.fad (.t 6) 4), zn (.st 1 (.sl 5) (.t 29) (.t 28))]
def qb6g : IC := .reg false [zv 31 (.ld true 8 (.t 8)), zi 32 (.call (.c (.fn 94 [] [])) [((.t 31), (.agg [(.sl 4), .id, .id, .id, .id, .id, .id, .id]))]), zm 30 32, zv 33 (.ext (.t 30) 0), zv 34 (.ext (.t 30) 1), zn (.st 8 (.agg [(.sl 4), .id, .id, .id, .id, .id, .id, .id]) (.t 2) (.t 33)), zm 7 34]
def qb3y : IC := (.seq (.seq qbyx (.cond (.t 18) .skip (.exit 0))) (.block 1 (.seq qbzt (.seq qb1k qb6g))))
def qbs2 : IC := .reg false [zv 36 (.ld true 8 (.t 2)), zi 37 (.call (.c (.fn 28 [] [])) [((.t 36), (.agg [(.sl 4), .id, .id, .id, .id, .id, .id, .id])), ((.c (.str [125])), .id)]), zm 35 37, zv 38 (.ext (.t 35) 0), zv 39 (.ext (.t 35) 1), zn (.st 8 (.agg [(.sl 4), .id, .id, .id, .id, .id, .id, .id]) (.t 2) (.t 38))]
def qbk1 : IC := .reg false [zv 41 (.ld true 8 (.t 2)), zi 42 (.call (.c (.fn 28 [] [])) [((.t 41), (.agg [(.sl 4), .id, .id, .id, .id, .id, .id, .id])), ((.c (.str [105, 110])), .id)]), zm 40 42, zv 43 (.ext (.t 40) 0), zv 44 (.ext (.t 40) 1), zn (.st 8 (.agg [(.sl 4), .id, .id, .id, .id, .id, .id, .id]) (.t 2) (.t 43))]
def qbt8 : IC := .reg false [zv 46 (.ld true 8 (.t 2)), zi 47 (.call (.c (.fn 11 [] [])) [((.t 46), (.agg [(.sl 4), .id, .id, .id, .id, .id, .id, .id]))]), zm 45 47, zv 48 (.ext (.t 45) 0), zv 49 (.ext (.t 45) 1), zi 10 (.alo [(.int .i64 0), (.int .i64 0), (.int .i64 0), (.str []), .nils]), zn (.st 8 (.agg [(.sl 4), .id, .id, .id, .id, .id, .id, .id]) (.t 2) (.t 48)), zn (.st 5 (.agg [.id, .id, .id, .id, (.sl 5)]) (.t 10) (.t 49))]
def qbf1 : IC := .reg false [zv 50 (.fad (.t 6) 4), zv 51 (.ld false 1 (.t 50)), zv 52 (.ld true 5 (.t 10)), zv 53 (.bsl 5 [((.t 52), (.agg [.id, .id, .id, .id, (.sl 5)]))]), zi 54 (.app 5 (.agg [(.int .i64 0), (.int .i64 0), (.int .i64 0), (.str []), .nils]) 64 (.sl 5) (.t 51) (.t 53)), zv 55 (.fad (.t 6) 4), zn (.st 1 (.sl 5) (.t 55) (.t 54))]
def qbjo : IC := .drw [zp (zv 56 (.ld true 8 (.t 2))), zp (zv 57 (.ld true 5 (.t 6))), (zn (.st 8 (.agg [(.sl 4), .id, .id, .id, .id, .id, .id, .id]) (.t 4) (.t 56)), [1]), (zn (.st 5 (.agg [.id, .id, .id, .id, (.sl 5)]) (.t 5) (.t 57)), [])]
def k0g : IC := (.seq qb1r (.seq qby4 (.seq qb55 (.seq qb35 (.seq (.block 0 (.loop qb3y)) (.seq qbs2 (.seq qbk1 (.seq qbt8 (.seq qbf1 (.seq qbjo .ret))))))))))
@[go_sem] def s0g : List (RV × Co) := [(.c true 8 4, (.agg [(.sl 4), .id, .id, .id, .id, .id, .id, .id])), (.c true 5 5, (.agg [.id, .id, .id, .id, (.sl 5)]))]
theorem c0g : cFun Tryz.prog 60 = some (58, k0g, s0g) := by kernel_rfl

def qb36 : IC := .reg false [zi 2 (.box (.t 0)), zi 4 (.alo [.nils, (.int .i64 0), (.int .i64 0), (.int .i64 0), (.str []), (.int .i64 0), (.int .i64 0), (.int .i64 0)]), zi 5 (.alo [(.int .i64 0), (.int .i64 0), (.int .i64 0), (.str []), .nils])]
def qb2c : IC := .reg false [zv 13 (.ld true 8 (.t 2)), zi 14 (.call (.c (.fn 11 [] [])) [((.t 13), (.agg [(.sl 4), .id, .id, .id, .id, .id, .id, .id]))]), zm 12 14, zv 15 (.ext (.t 12) 0), zv 16 (.ext (.t 12) 1), zi 6 (.alo [(.int .i64 0), (.int .i64 0), (.int .i64 0), (.str []), .nils]), zn (.st 8 (.agg [(.sl 4), .id, .id, .id, .id, .id, .id, .id]) (.t 2) (.t 15)), zn (.st 5 (.agg [.id, .id, .id, .id, (.sl 5)]) (.t 6) (.t 16))]
def qb3p : IC := .reg false [zm 17 1, zv 18 (.ld true 5 (.t 6)), zv 19 (.bsl 5 [((.t 18), (.agg [.id, .id, .id, .id, (.sl 5)]))]), zv 20 (.bld [(.int .i64 0), (.int .i64 0), (.int .i64 0), (.str []), .nils] [(0, 1, (.c (.int .i64 27))), (1, 1, (.t 17)), (4, 1, (.t 19))]), zi 7 (.alo [(.int .i64 0), (.int .i64 0), (.int .i64 0), (.str []), .nils]), zn (.st 5 (.agg [.id, .id, .id, .id, (.sl 5)]) (.t 7) (.t 20))]
def qb4z : IC := .reg false [zv 22 (.ld true 8 (.t 2)), zi 23 (.call (.c (.fn 28 [] [])) [((.t 22), (.agg [(.sl 4), .id, .id, .id, .id, .id, .id, .id])), ((.c (.str [111, 102])), .id)]), zm 21 23, zv 24 (.ext (.t 21) 0), zv 25 (.ext (.t 21) 1), zn (.st 8 (.agg [(.sl 4), .id, .id, .id, .id, .id, .id, .id]) (.t 2) (.t 24))]
def qb0u : IC := .reg false [zv 27 (.ld true 8 (.t 2)), zi 28 (.call (.c (.fn 28 [] [])) [((.t 27), (.agg [(.sl 4), .id, .id, .id, .id, .id, .id, .id])), ((.c (.str [123])), .id)]), zm 26 28, zv 29 (.ext (.t 26) 0), zv 30 (.ext (.t 26) 1), zn (.st 8 (.agg [(.sl 4), .id, .id, .id, .id, .id, .id, .id]) (.t 2) (.t 29))]
def qb5x : IC := .reg false [zv 8 (.mov (.c (.bool true)))]
def qb0x : IC := .reg false [zm 31 8]
def qb21 : IC := .reg false [zv 33 (.ld true 8 (.t 2)), zi 34 (.call (.c (.fn 95 [] [])) [((.t 33), (.agg [(.sl 4), .id, .id, .id, .id, .id, .id, .id]))]), zm 32 34, zv 35 (.ext (.t 32) 0), zv 36 (.ext (.t 32) 1), zi 9 (.alo [.nils, (.int .i64 0), (.int .i64 0), (.int .i64 0), (.str []), (.int .i64 0), (.int .i64 0), (.int .i64 0)]), zi 10 (.alo [(.int .i64 0), (.int .i64 0), (.int .i64 0), (.str []), .nils]), zn (.st 8 (.agg [(.sl 4), .id, .id, .id, .id, .id, .id, .id]) (.t 9) (.t 35)), zn (.st 5 (.agg [.id, .id, .id, .id, (.sl 5)]) (.t 10) (.t 36))]
def qb5u : IC := .reg false [zv 38 (.ld true 8 (.t 9)), zi 39 (.call (.c (.fn 28 [] [])) [((.t 38), (.agg [(.sl 4), .id, .id, .id, .id, .id, .id, .id])), ((.c (.str [45, 62])), .id)]), zm 37 39, zv 40 (.ext (.t 37) 0), zv 41 (.ext (.t 37) 1), zn (.st 8 (.agg [(.sl 4), .id, .id, .id, .id, .id, .id, .id]) (.t 9) (.t 40))]
def qboz : IC := .reg false [zv 43 (.ld true 8 (.t 9)), zi 44 (.call (.c (.fn 11 [] [])) [((.t 43), (.agg [(.sl 4), .id, .id, .id, .id, .id, .id, .id]))]), zm 42 44, zv 45 (.ext (.t 42) 0), zv 46 (.ext (.t 42) 1), zi 11 (.alo [(.int .i64 0), (.int .i64 0), (.int .i64 0), (.str []), .nils]), zn (.st 8 (.agg [(.sl 4), .id, .id, .id, .id, .id, .id, .id]) (.t 9) (.t 45)), zn (.st 5 (.agg [.id, .id, .id, .id, (.sl 5)]) (.t 11) (.t 46))]
def qbvz : IC := .reg false [zv 47 (.fad (.t 7) 4), zv 48 (.ld false 1 (.t 47)), zv 49 (.fad (.t 10) 1), zv 50 (.ld false 1 (.t 49)), zv 51 (.ld true 5 (.t 10)), zv 52 (.ld true 5 (.t 11)), zv 53 (.bsl 5 [((.t 51), (.agg [.id, .id, .id, .id, (.sl 5)])), ((.t 52), (.agg [.id, .id, .id, .id, (.sl 5)]))]), zv 54 (.bld [(.int .i64 0), (.int .i64 0), (.int .i64 0), (.str []), .nils] [(0, 1, (.c (.int .i64 15))), (1, 1, (.t 50)), (4, 1, (.t 53))]), zv 55 (.bsl 5 [((.t 54), (.agg [.id, .id, .id, .id, (.sl 5)]))]), zi 56 (.app 5 (.agg [(.int .i64 0), (.int .i64 0), (.int .i64 0), (.str []), .nils]) 64 (.sl 5) (.t 48) (.t 55)), zv 57 (.fad (.t 7) 4), zn (.st 1 (.sl 5) (.t 57) (.t 56))]
def qbio : IC := .reg false [zv 59 (.ld true 8 (.t 9)), zi 60 (.call (.c (.fn 94 [] [])) [((.t 59), (.agg [(.sl 4), .id, .id, .id, .id, .id, .id, .id]))]), zm 58 60, zv 61 (.ext (.t 58) 0), zv 62 (.ext (.t 58) 1), zn (.st 8 (.agg [(.sl 4), .id, .id, .id, .id, .id, .id, .id]) (.t 2) (.t 61)), zm 8 62]
def qb6h : IC := (.seq (.seq qb0x (.cond (.t 31) .skip (.exit 0))) (.block 1 (.seq qb21 (.seq qb5u (.seq qboz (.seq qbvz qbio))))))
def qbd1 : IC := .reg false [zv 64 (.ld true 8 (.t 2)), zi 65 (.call (.c (.fn 28 [] [])) [((.t 64), (.agg [(.sl 4), .id, .id, .id, .id, .id, .id, .id])), ((.c (.str [125])), .id)]), zm 63 65, zv 66 (.ext (.t 63) 0), zv 67 (.ext (.t 63) 1), zn (.st 8 (.agg [(.sl 4), .id, .id, .id, .id, .id, .id, .id]) (.t 2) (.t 66))]
def qbg1 : IC := .drw [zp (zv 68 (.ld true 8 (.t 2))), zp (zv 69 (.ld true 5 (.t 7))), (zn (.st 8 (.agg [(.sl 4), .id, .id, .id, .id, .id, .id, .id]) (.t 4) (.t 68)), [1]), (zn (.st 5 (.agg [.id, .id, .id, .id, (.sl 5)]) (.t 5) (.t 69)), [])]
def k0e : IC := (.seq qb36 (.seq qb2c (.seq qb3p (.seq qb4z (.seq qb0u (.seq qb5x (.seq (.block 0 (.loop qb6h)) (.seq qbd1 (.seq qbg1 .ret)))))))))
@[go_sem] def s0e : List (RV × Co) := [(.c true 8 4, (.agg [(.sl 4), .id, .id, .id, .id, .id, .id, .id])), (.c true 5 5, (.agg [.id, .id, .id, .id, (.sl 5)]))]
theorem c0e : cFun Tryz.prog 61 = some (70, k0e, s0e) := by kernel_rfl

def qb0h : IC := .reg false [zi 2 (.box (.t 0)), zi 4 (.alo [.nils, (.int .i64 0), (.int .i64 0), (.int .i64 0), (.str []), (.int .i64 0), (.int .i64 0), (.int .i64 0)]), zi 5 (.alo [(.int .i64 0), (.int .i64 0), (.int .i64 0), (.str []), .nils])]
def qb6d : IC := .reg false [zv 10 (.ld true 8 (.t 2)), zi 11 (.call (.c (.fn 11 [] [])) [((.t 10), (.agg [(.sl 4), .id, .id, .id, .id, .id, .id, .id]))]), zm 9 11, zv 12 (.ext (.t 9) 0), zv 13 (.ext (.t 9) 1), zi 6 (.alo [(.int .i64 0), (.int .i64 0), (.int .i64 0), (.str []), .nils]), zn (.st 8 (.agg [(.sl 4), .id, .id, .id, .id, .id, .id, .id]) (.t 2) (.t 12)), zn (.st 5 (.agg [.id, .id, .id, .id, (.sl 5)]) (.t 6) (.t 13))]
def qb0k : IC := .reg false [zv 15 (.ld true 8 (.t 2)), zi 16 (.call (.c (.fn 28 [] [])) [((.t 15), (.agg [(.sl 4), .id, .id, .id, .id, .id, .id, .id])), ((.c (.str [116, 104, 101, 110])), .id)]), zm 14 16, zv 17 (.ext (.t 14) 0), zv 18 (.ext (.t 14) 1), zn (.st 8 (.agg [(.sl 4), .id, .id, .id, .id, .id, .id, .id]) (.t 2) (.t 17))]
def qb0v : IC := .reg false [zv 20 (.ld true 8 (.t 2)), zi 21 (.call (.c (.fn 11 [] [])) [((.t 20), (.agg [(.sl 4), .id, .id, .id, .id, .id, .id, .id]))]), zm 19 21, zv 22 (.ext (.t 19) 0), zv 23 (.ext (.t 19) 1), zi 7 (.alo [(.int .i64 0), (.int .i64 0), (.int .i64 0), (.str []), .nils]), zn (.st 8 (.agg [(.sl 4), .id, .id, .id, .id, .id, .id, .id]) (.t 2) (.t 22)), zn (.st 5 (.agg [.id, .id, .id, .id, (.sl 5)]) (.t 7) (.t 23))]
def qb4v : IC := .reg false [zv 25 (.ld true 8 (.t 2)), zi 26 (.call (.c (.fn 28 [] [])) [((.t 25), (.agg [(.sl 4), .id, .id, .id, .id, .id, .id, .id])), ((.c (.str [101, 108, 115, 101])), .id)]), zm 24 26, zv 27 (.ext (.t 24) 0), zv 28 (.ext (.t 24) 1), zn (.st 8 (.agg [(.sl 4), .id, .id, .id, .id, .id, .id, .id]) (.t 2) (.t 27))]
def qb00 : IC := .reg false [zv 30 (.ld true 8 (.t 2)), zi 31 (.call (.c (.fn 11 [] [])) [((.t 30), (.agg [(.sl 4), .id, .id, .id, .id, .id, .id, .id]))]), zm 29 31, zv 32 (.ext (.t 29) 0), zv 33 (.ext (.t 29) 1), zi 8 (.alo [(.int .i64 0), (.int .i64 0), (.int .i64 0), (.str []), .nils]), zn (.st 8 (.agg [(.sl 4), .id, .id, .id, .id, .id, .id, .id]) (.t 2) (.t 32)), zn (.st 5 (.agg [.id, .id, .id, .id, (.sl 5)]) (.t 8) (.t 33))]
def qb4n : IC := .drw [zp (zv 34 (.ld true 8 (.t 2))), zp (zm 35 1), zp (zv 36 (.ld true 5 (.t 6))), zp (zv 37 (.ld true 5 (.t 7))), zp (zv 38 (.ld true 5 (.t 8))), (zv 39 (.bsl 5 [((.t 36), (.agg [.id, .id, .id, .id, (.sl 5)])), ((.t 37), (.agg [.id, .id, .id, .id, (.sl 5)])), ((.t 38), (.agg [.id, .id, .id, .id, (.sl 5)]))]), []), (zv 40 (.bld [(.int .i64 0), (.int .i64 0), (.int .i64 0), (.str []), .nils] [(0, 1, (.c (.int .i64 28))), (1, 1, (.t 35)), (4, 1, (.t 39))]), []), (zn (.st 8 (.agg [(.sl 4), .id, .id, .id, .id, .id, .id, .id]) (.t 4) (.t 34)), [2, 3, 4, 5]), (zn (.st 5 (.agg [.id, .id, .id, .id, (.sl 5)]) (.t 5) (.t 40)), [])]
def k0f : IC := (.seq qb0h (.seq qb6d (.seq qb0k (.seq qb0v (.seq qb4v (.seq qb00 (.seq qb4n .ret)))))))
@[go_sem] def s0f : List (RV × Co) := [(.c true 8 4, (.agg [(.sl 4), .id, .id, .id, .id, .id, .id, .id])), (.c true 5 5, (.agg [.id, .id, .id, .id, (.sl 5)]))]
theorem c0f : cFun Tryz.prog 62 = some (41, k0f, s0f) := by kernel_rfl

def qb0o : IC := .reg false [zi 1 (.box (.t 0)), zi 2 (.alo [.nils, (.int .i64 0), (.int .i64 0), (.int .i64 0), (.str []), (.int .i64 0), (.int .i64 0), (.int .i64 0)]), zi 3 (.alo [(.int .i64 0), (.int .i64 0), (.int .i64 0), (.str []), .nils])]
def qb20 : IC := .reg false [zv 7 (.ld true 8 (.t 1)), zi 8 (.call (.c (.fn 16 [] [])) [((.t 7), (.agg [(.sl 4), .id, .id, .id, .id, .id, .id, .id]))]), zi 4 (.alo [(.int .i64 0), (.int .i64 0), (.int .i64 0), (.str [])]), zn (.st 4 .id (.t 4) (.t 8))]
def qb4w : IC := .reg false [zv 9 (.ld true 8 (.t 1)), zi 10 (.call (.c (.fn 64 [] [])) [((.t 9), (.agg [(.sl 4), .id, .id, .id, .id, .id, .id, .id]))]), zv 11 (.un .not (.t 10))]
def qby0 : IC := .reg false [zv 12 (.ld true 8 (.t 1)), zi 13 (.call (.c (.fn 50 [] [])) [((.t 12), (.agg [(.sl 4), .id, .id, .id, .id, .id, .id, .id])), ((.c (.int .i64 5)), .id)]), zv 14 (.bld [(.int .i64 0), (.int .i64 0), (.int .i64 0), (.str []), .nils] []), zn (.st 8 (.agg [(.sl 4), .id, .id, .id, .id, .id, .id, .id]) (.t 2) (.t 13)), zn (.st 5 (.agg [.id, .id, .id, .id, (.sl 5)]) (.t 3) (.t 14))]
def qb0b : IC := .reg false [zv 15 (.ld true 8 (.t 1)), zi 16 (.call (.c (.fn 52 [] [])) [((.t 15), (.agg [(.sl 4), .id, .id, .id, .id, .id, .id, .id])), ((.c (.str [40])), .id)])]
def qb51 : IC := .reg false [zv 18 (.ld true 8 (.t 1)), zi 19 (.call (.c (.fn 33 [] [])) [((.t 18), (.agg [(.sl 4), .id, .id, .id, .id, .id, .id, .id]))]), zm 17 19, zv 20 (.ext (.t 17) 0), zv 21 (.ext (.t 17) 1), zn (.st 8 (.agg [(.sl 4), .id, .id, .id, .id, .id, .id, .id]) (.t 1) (.t 20))]
def qb2m : IC := .reg false [zv 23 (.ld true 8 (.t 1)), zi 24 (.call (.c (.fn 28 [] [])) [((.t 23), (.agg [(.sl 4), .id, .id, .id, .id, .id, .id, .id])), ((.c (.str [40])), .id)]), zm 22 24, zv 25 (.ext (.t 22) 0), zv 26 (.ext (.t 22) 1), zn (.st 8 (.agg [(.sl 4), .id, .id, .id, .id, .id, .id, .id]) (.t 1) (.t 25))]
def qbz8 : IC := .reg false [zv 28 (.ld true 8 (.t 1)), zi 29 (.call (.c (.fn 11 [] [])) [((.t 28), (.agg [(.sl 4), .id, .id, .id, .id, .id, .id, .id]))]), zm 27 29, zv 30 (.ext (.t 27) 0), zv 31 (.ext (.t 27) 1), zi 5 (.alo [.nils, (.int .i64 0), (.int .i64 0), (.int .i64 0), (.str []), (.int .i64 0), (.int .i64 0), (.int .i64 0)]), zi 6 (.alo [(.int .i64 0), (.int .i64 0), (.int .i64 0), (.str []), .nils]), zn (.st 8 (.agg [(.sl 4), .id, .id, .id, .id, .id, .id, .id]) (.t 5) (.t 30)), zn (.st 5 (.agg [.id, .id, .id, .id, (.sl 5)]) (.t 6) (.t 31))]
def qb01 : IC := .reg false [zv 33 (.ld true 8 (.t 5)), zi 34 (.call (.c (.fn 28 [] [])) [((.t 33), (.agg [(.sl 4), .id, .id, .id, .id, .id, .id, .id])), ((.c (.str [41])), .id)]), zm 32 34, zv 35 (.ext (.t 32) 0), zv 36 (.ext (.t 32) 1), zn (.st 8 (.agg [(.sl 4), .id, .id, .id, .id, .id, .id, .id]) (.t 5) (.t 35))]
def qbzx : IC := .drw [zp (zv 37 (.ld true 8 (.t 5))), (zi 38 (.call (.c (.fn 35 [] [])) [((.t 37), (.agg [(.sl 4), .id, .id, .id, .id, .id, .id, .id]))]), []), (zv 39 (.ld true 5 (.t 6)), [1]), (zn (.st 8 (.agg [(.sl 4), .id, .id, .id, .id, .id, .id, .id]) (.t 2) (.t 38)), [2]), (zn (.st 5 (.agg [.id, .id, .id, .id, (.sl 5)]) (.t 3) (.t 39)), [])]
def qbgq : IC := .reg false [zv 41 (.ld true 8 (.t 1)), zi 42 (.call (.c (.fn 51 [] [])) [((.t 41), (.agg [(.sl 4), .id, .id, .id, .id, .id, .id, .id]))]), zm 40 42, zv 43 (.ext (.t 40) 0), zv 44 (.ext (.t 40) 1), zn (.st 8 (.agg [(.sl 4), .id, .id, .id, .id, .id, .id, .id]) (.t 1) (.t 43))]
def qbd7 : IC := .reg false [zv 45 (.fad (.t 4) 0), zv 46 (.ld false 1 (.t 45))]
def qbxx : IC := .reg false [zv 48 (.bin .eql .no (.t 46) (.c (.int .i64 1))), zm 47 48]
def qbm4 : IC := .drw [zp (zv 49 (.ld true 8 (.t 1))), zp (zv 50 (.fad (.t 4) 1)), zp (zv 51 (.ld false 1 (.t 50))), zp (zv 52 (.fad (.t 4) 3)), zp (zv 53 (.ld false 1 (.t 52))), (zv 54 (.bld [(.int .i64 0), (.int .i64 0), (.int .i64 0), (.str []), .nils] [(0, 1, (.c (.int .i64 21))), (1, 1, (.t 51)), (3, 1, (.t 53))]), []), (zn (.st 8 (.agg [(.sl 4), .id, .id, .id, .id, .id, .id, .id]) (.t 2) (.t 49)), [2, 4]), (zn (.st 5 (.agg [.id, .id, .id, .id, (.sl 5)]) (.t 3) (.t 54)), [])]
def qbre : IC := .reg false [zv 56 (.bin .eql .no (.t 46) (.c (.int .i64 2))), zm 55 56]
def qbwn : IC := .drw [zp (zv 57 (.ld true 8 (.t 1))), zp (zv 58 (.fad (.t 4) 1)), zp (zv 59 (.ld false 1 (.t 58))), zp (zv 60 (.fad (.t 4) 3)), zp (zv 61 (.ld false 1 (.t 60))), (zv 62 (.bld [(.int .i64 0), (.int .i64 0), (.int .i64 0), (.str []), .nils] [(0, 1, (.c (.int .i64 22))), (1, 1, (.t 59)), (3, 1, (.t 61))]), []), (zn (.st 8 (.agg [(.sl 4), .id, .id, .id, .id, .id, .id, .id]) (.t 2) (.t 57)), [2, 4]), (zn (.st 5 (.agg [.id, .id, .id, .id, (.sl 5)]) (.t 3) (.t 62)), [])]
def qbfz : IC := .drw [zp (zv 63 (.ld true 8 (.t 1))), zp (zv 64 (.fad (.t 4) 1)), zp (zv 65 (.ld false 1 (.t 64))), zp (zv 66 (.fad (.t 4) 2)), zp (zv 67 (.ld false 1 (.t 66))), (zv 68 (.bld [(.int .i64 0), (.int .i64 0), (.int .i64 0), (.str []), .nils] [(0, 1, (.c (.int .i64 23))), (1, 1, (.t 65)), (2, 1, (.t 67))]), []), (zn (.st 8 (.agg [(.sl 4), .id, .id, .id, .id, .id, .id, .id]) (.t 2) (.t 63)), [2, 4]), (zn (.st 5 (.agg [.id, .id, .id, .id, (.sl 5)]) (.t 3) (.t 68)), [])]
def k0i : IC := (.seq qb0o (.seq qb20 (.seq (.seq qb4w (.cond (.t 11) (.seq qby0 .ret) .skip)) (.seq (.seq qb0b (.cond (.t 16) (.seq qb51 (.seq qb2m (.seq qbz8 (.seq qb01 (.seq qbzx .ret))))) .skip)) (.seq qbgq (.seq (.seq qbd7 (.block 0 (.seq qbxx (.cond (.t 47) (.seq qbm4 .ret) (.seq qbre (.cond (.t 55) (.seq qbwn .ret) .skip)))))) (.seq qbfz .ret)))))))
@[go_sem] def s0i : List (RV × Co) := [(.c true 8 2, (.agg [(.sl 4), .id, .id, .id, .id, .id, .id, .id])), (.c true 5 3, (.agg [.id, .id, .id, .id, (.sl 5)]))]
theorem c0i : cFun Tryz.prog 63 = some (69, k0i, s0i) := by kernel_rfl

def qb3q : IC := .reg false [zi 1 (.box (.t 0)), zv 2 (.mov (.c (.bool false)))]
def qbzu : IC := .reg false [zv 4 (.ld true 8 (.t 1)), zi 5 (.call (.c (.fn 16 [] [])) [((.t 4), (.agg [(.sl 4), .id, .id, .id, .id, .id, .id, .id]))]), zv 6 (.fld false 1 0 (.t 5)), zm 3 6]
def qb3x : IC := .reg false [zv 7 (.fad (.t 1) 6), zv 8 (.ld false 1 (.t 7)), zv 9 (.bin .eql .no (.t 8) (.c (.int .i64 0))), zm 10 9, zw 10 true 11 (.mov (.t 3)), zw 10 true 12 (.bin .eql .no (.t 11) (.c (.int .i64 1))), zw 10 true 13 (.mov (.t 12)), zw 13 false 14 (.mov (.t 3)), zw 13 false 15 (.bin .eql .no (.t 14) (.c (.int .i64 2))), zw 10 true 16 (.pick (.t 13) (.c (.bool true)) (.t 15)), zw 10 true 17 (.mov (.t 16)), zw 17 false 18 (.mov (.t 3)), zw 17 false 19 (.bin .eql .no (.t 18) (.c (.int .i64 3))), zw 10 true 20 (.pick (.t 17) (.c (.bool true)) (.t 19)), zw 10 true 21 (.mov (.t 20)), zw 21 false 22 (.ld true 8 (.t 1)), ⟨some (21, false), some 23, .call (.c (.fn 52 [] [])) [((.t 22), (.agg [(.sl 4), .id, .id, .id, .id, .id, .id, .id])), ((.c (.str [40])), .id)]⟩, zw 10 true 24 (.pick (.t 21) (.c (.bool true)) (.t 23)), zv 25 (.pick (.t 10) (.t 24) (.c (.bool false))), zm 2 25]
def k0l : IC := (.seq qb3q (.seq qbzu (.seq qb3x .ret)))
@[go_sem] def s0l : List (RV × Co) := [(.t 2, .id)]
theorem c0l : cFun Tryz.prog 64 = some (26, k0l, s0l) := by kernel_rfl

def qbwo : IC := .reg false [zi 1 (.box (.t 0)), zv 2 (.mov (.c .nilf))]
def qbqs : IC := .reg false [zv 3 (.mfn 96 [] [(.t 1)]), zm 2 3]
def k0cy : IC := (.seq qbwo (.seq qbqs .ret))
@[go_sem] def s0cy : List (RV × Co) := [(.t 2, .id)]
theorem c0cy : cFun Tryz.prog 65 = some (4, k0cy, s0cy) := by kernel_rfl

def qbsq : IC := .reg false [zi 2 (.box (.t 0)), zi 3 (.box (.t 1)), zv 4 (.mov (.c .nilf))]
def qbxq : IC := .reg false [zv 5 (.mfn 99 [] [(.t 2), (.t 3)]), zm 4 5]
def k0es : IC := (.seq qbsq (.seq qbxq .ret))
@[go_sem] def s0es : List (RV × Co) := [(.t 4, .id)]
theorem c0es : cFun Tryz.prog 66 = some (6, k0es, s0es) := by kernel_rfl

def qbip : IC := .reg false [zv 4 (.mov (.c (.int .i64 0)))]
def qbya : IC := .reg false [zm 5 1, zm 6 0, zv 7 (.len true (.t 6)), zv 8 (.bin .lss .no (.t 5) (.t 7))]
def qbxk : IC := .reg false [zm 11 0, zm 12 1, zv 13 (.idx (.t 11) (.t 12)), zv 14 (.bin .eql .no (.t 13) (.c (.int .u8 9))), zm 15 14, zw 15 false 16 (.mov (.t 0)), zw 15 false 17 (.mov (.t 1)), zw 15 false 18 (.idx (.t 16) (.t 17)), zw 15 false 19 (.bin .eql .no (.t 18) (.c (.int .u8 10))), zv 20 (.pick (.t 15) (.c (.bool true)) (.t 19)), zm 21 20, zw 21 false 22 (.mov (.t 0)), zw 21 false 23 (.mov (.t 1)), zw 21 false 24 (.idx (.t 22) (.t 23)), zw 21 false 25 (.bin .eql .no (.t 24) (.c (.int .u8 13))), zv 26 (.pick (.t 21) (.c (.bool true)) (.t 25)), zm 27 26, zw 27 false 28 (.mov (.t 0)), zw 27 false 29 (.mov (.t 1)), zw 27 false 30 (.idx (.t 28) (.t 29)), zw 27 false 31 (.bin .eql .no (.t 30) (.c (.int .u8 32))), zv 32 (.pick (.t 27) (.c (.bool true)) (.t 31)), zm 10 32]
def qbqn : IC := .reg false [zm 33 1, zv 34 (.bin .add .no (.t 33) (.c (.int .i64 1))), zm 1 34]
def qbja : IC := .reg false [zm 36 0, zm 37 1, zv 38 (.idx (.t 36) (.t 37)), zv 39 (.bin .eql .no (.t 38) (.c (.int .u8 45))), zm 40 39, zw 40 true 41 (.mov (.t 1)), zw 40 true 42 (.bin .add .no (.t 41) (.c (.int .i64 1))), zw 40 true 43 (.mov (.t 0)), zw 40 true 44 (.len true (.t 43)), zw 40 true 45 (.bin .lss .no (.t 42) (.t 44)), zv 46 (.pick (.t 40) (.t 45) (.c (.bool false))), zm 47 46, zw 47 true 48 (.mov (.t 0)), zw 47 true 49 (.mov (.t 1)), zw 47 true 50 (.bin .add .no (.t 49) (.c (.int .i64 1))), zw 47 true 51 (.idx (.t 48) (.t 50)), zw 47 true 52 (.bin .eql .no (.t 51) (.c (.int .u8 45))), zv 53 (.pick (.t 47) (.t 52) (.c (.bool false))), zm 35 53]
def qbef : IC := .reg false [zm 54 1, zm 55 0, zv 56 (.len true (.t 55)), zv 57 (.bin .lss .no (.t 54) (.t 56)), zm 58 57, zw 58 true 59 (.mov (.t 0)), zw 58 true 60 (.mov (.t 1)), zw 58 true 61 (.idx (.t 59) (.t 60)), zw 58 true 62 (.bin .neq .no (.t 61) (.c (.int .u8 10))), zv 63 (.pick (.t 58) (.t 62) (.c (.bool false)))]
def qbr4 : IC := .reg false [zm 64 1, zv 65 (.bin .add .no (.t 64) (.c (.int .i64 1))), zm 1 65]
def qbrq : IC := (.seq (.seq qbef (.cond (.t 63) .skip (.exit 3))) (.block 4 qbr4))
def q7u : IC := .reg false [zm 9 1, zm 4 9]
def qbt3 : IC := (.seq (.seq qbya (.cond (.t 8) .skip (.exit 0))) (.block 1 (.block 2 (.seq qbxk (.cond (.t 10) qbqn (.seq qbja (.cond (.t 35) (.block 3 (.loop qbrq)) (.seq q7u .ret))))))))
def q62 : IC := .reg false [zm 66 1, zm 4 66]
def k0db : IC := (.seq qbip (.seq (.block 0 (.loop qbt3)) (.seq q62 .ret)))
@[go_sem] def s0db : List (RV × Co) := [(.t 4, .id)]
theorem c0db : cFun Tryz.prog 67 = some (67, k0db, s0db) := by kernel_rfl

def qbgj : IC := .reg false [zi 2 (.alo [(.int .i64 0), (.int .i64 0), (.int .i64 0), (.str [])]), zv 3 (.mov (.c (.int .i64 0)))]
def qbgp : IC := .reg false [zv 4 (.mov (.c (.int .i64 0)))]
def qbie : IC := .reg false [zm 10 0, zv 11 (.idx (.t 10) (.c (.int .i64 0))), zi 12 (.call (.c (.fn 101 [] [])) [((.t 11), .id)]), zm 9 12]
def qbij : IC := .reg false [zm 13 4, zm 14 0, zv 15 (.len true (.t 14)), zv 16 (.bin .lss .no (.t 13) (.t 15)), zm 17 16, zw 17 true 18 (.mov (.t 0)), zw 17 true 19 (.mov (.t 4)), zw 17 true 20 (.idx (.t 18) (.t 19)), ⟨some (17, true), some 21, .call (.c (.fn 101 [] [])) [((.t 20), .id)]⟩, zv 22 (.pick (.t 17) (.t 21) (.c (.bool false)))]
def qbjh : IC := .reg false [zm 23 4, zv 24 (.bin .add .no (.t 23) (.c (.int .i64 1))), zm 4 24]
def qbf3 : IC := (.seq (.seq qbij (.cond (.t 22) .skip (.exit 1))) (.block 2 qbjh))
def qbru : IC := .reg false [zm 26 0, zm 27 4, zv 28 (.sls (.t 26) none (some (.t 27))), zi 29 (.call (.c (.fn 102 [] [])) [((.t 28), .id)]), zm 25 29, zv 30 (.ext (.t 25) 0), zv 31 (.ext (.t 25) 1), zm 5 30, zm 6 31]
def qbt1 : IC := .reg false [zm 32 5, zm 33 0, zm 34 4, zv 35 (.sls (.t 33) none (some (.t 34))), zv 36 (.bld [(.int .i64 0), (.int .i64 0), (.int .i64 0), (.str [])] [(0, 1, (.c (.int .i64 3))), (2, 1, (.t 32)), (3, 1, (.t 35))]), zm 37 6, zn (.st 4 .id (.t 2) (.t 36)), zm 3 37]
def qbyb : IC := .reg false [zm 39 0, zv 40 (.idx (.t 39) (.c (.int .i64 0))), zi 41 (.call (.c (.fn 103 [] [])) [((.t 40), .id)]), zm 42 41, zw 42 false 43 (.mov (.t 0)), zw 42 false 44 (.idx (.t 43) (.c (.int .i64 0))), ⟨some (42, false), some 45, .call (.c (.fn 104 [] [])) [((.t 44), .id)]⟩, zv 46 (.pick (.t 42) (.c (.bool true)) (.t 45)), zm 38 46]
def qbcv : IC := .reg false [zm 47 4, zm 48 0, zv 49 (.len true (.t 48)), zv 50 (.bin .lss .no (.t 47) (.t 49)), zm 51 50, zw 51 true 52 (.mov (.t 0)), zw 51 true 53 (.mov (.t 4)), zw 51 true 54 (.idx (.t 52) (.t 53)), ⟨some (51, true), some 55, .call (.c (.fn 105 [] [])) [((.t 54), .id)]⟩, zv 56 (.pick (.t 51) (.t 55) (.c (.bool false)))]
def q7k : IC := .reg false [zm 57 4, zv 58 (.bin .add .no (.t 57) (.c (.int .i64 1))), zm 4 58]
def qbcs : IC := (.seq (.seq qbcv (.cond (.t 56) .skip (.exit 3))) (.block 4 q7k))
def q55 : IC := .reg false [zm 59 0, zm 60 4, zv 61 (.sls (.t 59) none (some (.t 60))), zv 62 (.bld [(.int .i64 0), (.int .i64 0), (.int .i64 0), (.str [])] [(0, 1, (.c (.int .i64 1))), (3, 1, (.t 61))]), zi 7 (.alo [(.int .i64 0), (.int .i64 0), (.int .i64 0), (.str [])]), zn (.st 4 .id (.t 7) (.t 62))]
def q9e : IC := .reg false [zv 64 (.fad (.t 7) 3), zv 65 (.ld false 1 (.t 64)), zv 66 (.bin .eql .no (.t 65) (.c (.str [95]))), zm 63 66]
def qbbl : IC := .reg false [zv 67 (.fad (.t 7) 0), zn (.st 1 .id (.t 67) (.c (.int .i64 5)))]
def q78 : IC := .reg false [zv 69 (.fad (.t 7) 3), zv 70 (.ld false 1 (.t 69)), zi 71 (.call (.c (.fn 106 [] [])) [((.t 70), .id)]), zm 68 71]
def q9a : IC := .reg false [zv 72 (.fad (.t 7) 0), zn (.st 1 .id (.t 72) (.c (.int .i64 4)))]
def q7i : IC := .reg false [zm 74 0, zv 75 (.idx (.t 74) (.c (.int .i64 0))), zi 76 (.call (.c (.fn 104 [] [])) [((.t 75), .id)]), zm 73 76]
def q63 : IC := .reg false [zv 77 (.fad (.t 7) 0), zn (.st 1 .id (.t 77) (.c (.int .i64 2)))]
def q8b : IC := .reg false [zv 78 (.ld true 4 (.t 7)), zn (.st 4 .id (.t 2) (.t 78)), zv 3 (.mov (.c (.int .i64 0)))]
def qbb3 : IC := .reg false [zm 79 0, zi 80 (.call (.c (.fn 107 [] [])) [((.t 79), .id)]), zm 8 80]
def qbb5 : IC := .reg false [zm 81 8, zv 82 (.bin .eql .no (.t 81) (.c (.str [])))]
def q59 : IC := .reg false [zv 83 (.bld [(.int .i64 0), (.int .i64 0), (.int .i64 0), (.str [])] []), zn (.st 4 .id (.t 2) (.t 83)), zv 3 (.mov (.c (.int .i64 3)))]
def q67 : IC := .reg false [zm 84 8, zv 85 (.bld [(.int .i64 0), (.int .i64 0), (.int .i64 0), (.str [])] [(0, 1, (.c (.int .i64 5))), (3, 1, (.t 84))]), zn (.st 4 .id (.t 2) (.t 85)), zv 3 (.mov (.c (.int .i64 0)))]
def k0cw : IC := (.seq qbgj (.seq qbgp (.seq (.block 0 (.seq qbie (.cond (.t 9) (.seq (.block 1 (.loop qbf3)) (.seq qbru (.seq qbt1 .ret))) (.seq qbyb (.cond (.t 38) (.seq (.block 3 (.loop qbcs)) (.seq q55 (.seq (.block 5 (.seq q9e (.cond (.t 63) qbbl (.seq q78 (.cond (.t 68) q9a (.seq q7i (.cond (.t 73) q63 .skip))))))) (.seq q8b .ret)))) .skip))))) (.seq qbb3 (.seq (.seq qbb5 (.cond (.t 82) (.seq q59 .ret) .skip)) (.seq q67 .ret))))))
@[go_sem] def s0cw : List (RV × Co) := [(.c true 4 2, .id), (.t 3, .id)]
theorem c0cw : cFun Tryz.prog 68 = some (86, k0cw, s0cw) := by kernel_rfl

def qbgr : IC := .reg false [zi 1 (.box (.t 0)), zv 2 (.mov (.c (.int .i64 0)))]
def qbro : IC := .reg false [zv 3 (.mov (.c (.int .i64 0)))]
def qbqk : IC := .reg false [zv 4 (.mov (.c (.int .i64 0)))]
def qbli : IC := .reg false [zm 5 4, zv 6 (.fad (.t 1) 4), zv 7 (.ld false 1 (.t 6)), zv 8 (.len false (.t 7)), zv 9 (.bin .lss .no (.t 5) (.t 8))]
def qbo2 : IC := .reg false [zm 12 3, zv 13 (.fad (.t 1) 4), zv 14 (.ld false 1 (.t 13)), zm 15 4, zv 16 (.iad 5 (.t 14) (.t 15)), zv 17 (.ld true 5 (.t 16)), zi 18 (.call (.c (.fn 69 [] [])) [((.t 17), (.agg [.id, .id, .id, .id, (.sl 5)]))]), zv 19 (.mm true (.t 12) (.t 18)), zm 3 19]
def qbi4 : IC := .reg false [zm 10 4, zv 11 (.bin .add .no (.t 10) (.c (.int .i64 1))), zm 4 11]
def qbtj : IC := (.seq (.seq qbli (.cond (.t 9) .skip (.exit 0))) (.seq (.block 1 qbo2) qbi4))
def qbnv : IC := .reg false [zm 20 3, zv 21 (.bin .add .no (.t 20) (.c (.int .i64 1))), zm 2 21]
def k0eu : IC := (.seq qbgr (.seq qbro (.seq (.seq qbqk (.block 0 (.loop qbtj))) (.seq qbnv .ret))))
@[go_sem] def s0eu : List (RV × Co) := [(.t 2, .id)]
theorem c0eu : cFun Tryz.prog 69 = some (22, k0eu, s0eu) := by kernel_rfl

def qbpe : IC := .reg false [zi 2 (.box (.t 0)), zv 4 (.mov (.c (.bool false)))]
def qbqu : IC := .reg false [zv 5 (.fad (.t 2) 2), zv 6 (.ld false 1 (.t 5)), zv 7 (.bin .eql .no (.t 6) (.c (.int .i64 0))), zm 8 7, zw 8 true 9 (.mov (.t 1)), zw 8 true 10 (.fad (.t 2) 3), zw 8 true 11 (.ld false 1 (.t 10)), ⟨some (8, true), some 12, .call (.t 9) [((.t 11), .id)]⟩, zv 13 (.pick (.t 8) (.t 12) (.c (.bool false))), zm 4 13]
def k0em : IC := (.seq qbpe (.seq qbqu .ret))
@[go_sem] def s0em : List (RV × Co) := [(.t 4, .id)]
theorem c0em : cFun Tryz.prog 70 = some (14, k0em, s0em) := by kernel_rfl

def qbm1 : IC := .reg false [zv 2 (.mov (.c (.bool false)))]
def qbq0 : IC := .reg false [zm 3 0, zv 4 (.bin .neq .no (.t 3) (.c (.str []))), zm 5 4, zw 5 true 6 (.mov (.t 0)), zw 5 true 7 (.bin .neq .no (.t 6) (.c (.str [95]))), zv 8 (.pick (.t 5) (.t 7) (.c (.bool false))), zm 9 8, zw 9 true 10 (.mov (.t 0)), zw 9 true 11 (.idx (.t 10) (.c (.int .i64 0))), ⟨some (9, true), some 12, .call (.c (.fn 108 [] [])) [((.t 11), .id)]⟩, zv 13 (.pick (.t 9) (.t 12) (.c (.bool false))), zm 14 13, zw 14 true 15 (.mov (.t 0)), ⟨some (14, true), some 16, .call (.c (.fn 109 [] [])) [((.t 15), .id)]⟩, zv 17 (.pick (.t 14) (.t 16) (.c (.bool false))), zm 18 17, zw 18 true 19 (.mov (.t 0)), ⟨some (18, true), some 20, .call (.c (.fn 110 [] [])) [((.t 19), .id)]⟩, zw 18 true 21 (.un .not (.t 20)), zv 22 (.pick (.t 18) (.t 21) (.c (.bool false))), zm 2 22]
def k0ea : IC := (.seq qbm1 (.seq qbq0 .ret))
@[go_sem] def s0ea : List (RV × Co) := [(.t 2, .id)]
theorem c0ea : cFun Tryz.prog 71 = some (23, k0ea, s0ea) := by kernel_rfl

def qbv5 : IC := .reg false [zv 2 (.mov (.c (.bool false)))]
def qbtx : IC := .reg false [zm 3 0, zv 4 (.bin .neq .no (.t 3) (.c (.str []))), zm 5 4, zw 5 true 6 (.mov (.t 0)), zw 5 true 7 (.idx (.t 6) (.c (.int .i64 0))), ⟨some (5, true), some 8, .call (.c (.fn 111 [] [])) [((.t 7), .id)]⟩, zv 9 (.pick (.t 5) (.t 8) (.c (.bool false))), zm 10 9, zw 10 true 11 (.mov (.t 0)), ⟨some (10, true), some 12, .call (.c (.fn 109 [] [])) [((.t 11), .id)]⟩, zv 13 (.pick (.t 10) (.t 12) (.c (.bool false))), zm 2 13]
def k0dz : IC := (.seq qbv5 (.seq qbtx .ret))
@[go_sem] def s0dz : List (RV × Co) := [(.t 2, .id)]
theorem c0dz : cFun Tryz.prog 72 = some (14, k0dz, s0dz) := by kernel_rfl

def qbud : IC := .reg false [zi 1 (.box (.t 0)), zv 2 (.mov (.c (.bool false)))]
def qbmi : IC := .reg false [zv 3 (.fad (.t 1) 3), zv 4 (.ld false 1 (.t 3)), zv 5 (.bin .eql .no (.t 4) (.c (.str []))), zm 6 5, zw 6 true 7 (.fad (.t 1) 2), zw 6 true 8 (.ld false 1 (.t 7)), zw 6 true 9 (.bin .eql .no (.t 8) (.c (.int .i64 0))), zv 10 (.pick (.t 6) (.t 9) (.c (.bool false))), zm 2 10]
def k0el : IC := (.seq qbud (.seq qbmi .ret))
@[go_sem] def s0el : List (RV × Co) := [(.t 2, .id)]
theorem c0el : cFun Tryz.prog 73 = some (11, k0el, s0el) := by kernel_rfl

def qbuh : IC := .reg false [zv 4 (.mov (.c (.bool false)))]
def qbhg : IC := .reg false [zm 7 0, zv 8 (.len false (.t 7)), zv 9 (.mov (.c (.int .i64 0)))]
def qbpi : IC := .reg false [zv 10 (.bin .lss .no (.t 9) (.t 8))]
def qbj3 : IC := .reg false [zv 11 (.iad 5 (.t 7) (.t 9)), zv 12 (.ld true 5 (.t 11)), zi 6 (.alo [(.int .i64 0), (.int .i64 0), (.int .i64 0), (.str []), .nils]), zn (.st 5 (.agg [.id, .id, .id, .id, (.sl 5)]) (.t 6) (.t 12))]
def qbgb : IC := .reg false [zm 13 1, zv 14 (.ld true 5 (.t 6)), zi 15 (.call (.t 13) [((.t 14), (.agg [.id, .id, .id, .id, (.sl 5)]))]), zv 16 (.un .not (.t 15))]
def qbds : IC := .reg false [zv 4 (.mov (.c (.bool false)))]
def qbf2 : IC := .reg false [zv 17 (.bin .add .no (.t 9) (.c (.int .i64 1))), zm 9 17]
def qbuy : IC := (.seq qbpi (.seq (.cond (.t 10) .skip (.exit 0)) (.seq (.block 1 (.seq qbj3 (.seq qbgb (.cond (.t 16) (.seq qbds .ret) .skip)))) qbf2)))
def qbvs : IC := .reg false [zv 4 (.mov (.c (.bool true)))]
def k0en : IC := (.seq qbuh (.seq (.seq qbhg (.block 0 (.loop qbuy))) (.seq qbvs .ret)))
@[go_sem] def s0en : List (RV × Co) := [(.t 4, .id)]
theorem c0en : cFun Tryz.prog 74 = some (18, k0en, s0en) := by kernel_rfl

def qbhh : IC := .reg false [zi 1 (.box (.t 0)), zv 2 (.mov (.c (.bool false)))]
def qbxj : IC := .reg false [zv 3 (.ld true 5 (.t 1)), zi 4 (.call (.c (.fn 76 [] [])) [((.t 3), (.agg [.id, .id, .id, .id, (.sl 5)]))]), zm 5 4, zw 5 false 6 (.ld true 5 (.t 1)), ⟨some (5, false), some 7, .call (.c (.fn 77 [] [])) [((.t 6), (.agg [.id, .id, .id, .id, (.sl 5)]))]⟩, zv 8 (.pick (.t 5) (.c (.bool true)) (.t 7)), zm 2 8]
def k0ec : IC := (.seq qbhh (.seq qbxj .ret))
@[go_sem] def s0ec : List (RV × Co) := [(.t 2, .id)]
theorem c0ec : cFun Tryz.prog 75 = some (9, k0ec, s0ec) := by kernel_rfl

def qbjl : IC := .reg false [zi 1 (.box (.t 0)), zv 2 (.mov (.c (.bool false)))]
def qbyf : IC := .reg false [zv 3 (.fad (.t 1) 0), zv 4 (.ld false 1 (.t 3)), zv 5 (.bin .eql .no (.t 4) (.c (.int .i64 31))), zm 6 5, zw 6 true 7 (.ld true 5 (.t 1)), ⟨some (6, true), some 8, .call (.c (.fn 70 [] [])) [((.t 7), (.agg [.id, .id, .id, .id, (.sl 5)])), ((.c (.fn 71 [] [])), .id)]⟩, zv 9 (.pick (.t 6) (.t 8) (.c (.bool false))), zm 10 9, zw 10 true 11 (.fad (.t 1) 4), zw 10 true 12 (.ld false 1 (.t 11)), zw 10 true 13 (.len false (.t 12)), zw 10 true 14 (.bin .eql .no (.t 13) (.c (.int .i64 1))), zv 15 (.pick (.t 10) (.t 14) (.c (.bool false))), zm 16 15, zw 16 true 17 (.fad (.t 1) 4), zw 16 true 18 (.ld false 1 (.t 17)), zw 16 true 19 (.iad 5 (.t 18) (.c (.int .i64 0))), zw 16 true 20 (.ld true 5 (.t 19)), ⟨some (16, true), some 21, .call (.c (.fn 42 [] [])) [((.t 20), (.agg [.id, .id, .id, .id, (.sl 5)]))]⟩, zv 22 (.pick (.t 16) (.t 21) (.c (.bool false))), zm 2 22]
def k0ee : IC := (.seq qbjl (.seq qbyf .ret))
@[go_sem] def s0ee : List (RV × Co) := [(.t 2, .id)]
theorem c0ee : cFun Tryz.prog 76 = some (23, k0ee, s0ee) := by kernel_rfl

def qbx2 : IC := .reg false [zi 1 (.box (.t 0)), zv 2 (.mov (.c (.bool false)))]
def qbrm : IC := .reg false [zv 3 (.fad (.t 1) 0), zv 4 (.ld false 1 (.t 3)), zv 5 (.bin .eql .no (.t 4) (.c (.int .i64 32))), zm 6 5, zw 6 true 7 (.ld true 5 (.t 1)), ⟨some (6, true), some 8, .call (.c (.fn 70 [] [])) [((.t 7), (.agg [.id, .id, .id, .id, (.sl 5)])), ((.c (.fn 71 [] [])), .id)]⟩, zv 9 (.pick (.t 6) (.t 8) (.c (.bool false))), zm 10 9, zw 10 true 11 (.fad (.t 1) 4), zw 10 true 12 (.ld false 1 (.t 11)), zw 10 true 13 (.len false (.t 12)), zw 10 true 14 (.bin .eql .no (.t 13) (.c (.int .i64 1))), zv 15 (.pick (.t 10) (.t 14) (.c (.bool false))), zm 16 15, zw 16 true 17 (.fad (.t 1) 4), zw 16 true 18 (.ld false 1 (.t 17)), zw 16 true 19 (.iad 5 (.t 18) (.c (.int .i64 0))), zw 16 true 20 (.ld true 5 (.t 19)), ⟨some (16, true), some 21, .call (.c (.fn 112 [] [])) [((.t 20), (.agg [.id, .id, .id, .id, (.sl 5)]))]⟩, zv 22 (.pick (.t 16) (.t 21) (.c (.bool false))), zm 2 22]
def k0ek : IC := (.seq qbx2 (.seq qbrm .ret))
@[go_sem] def s0ek : List (RV × Co) := [(.t 2, .id)]
theorem c0ek : cFun Tryz.prog 77 = some (23, k0ek, s0ek) := by kernel_rfl

def qbrp : IC := .reg false [zi 1 (.box (.t 0)), zv 2 (.mov (.c (.bool false)))]
def qbvc : IC := .reg false [zv 3 (.fad (.t 1) 0), zv 4 (.ld false 1 (.t 3)), zv 5 (.bin .eql .no (.t 4) (.c (.int .i64 15))), zm 6 5, zw 6 true 7 (.ld true 5 (.t 1)), ⟨some (6, true), some 8, .call (.c (.fn 73 [] [])) [((.t 7), (.agg [.id, .id, .id, .id, (.sl 5)]))]⟩, zv 9 (.pick (.t 6) (.t 8) (.c (.bool false))), zm 10 9, zw 10 true 11 (.fad (.t 1) 4), zw 10 true 12 (.ld false 1 (.t 11)), zw 10 true 13 (.len false (.t 12)), zw 10 true 14 (.bin .eql .no (.t 13) (.c (.int .i64 2))), zv 15 (.pick (.t 10) (.t 14) (.c (.bool false))), zm 16 15, zw 16 true 17 (.fad (.t 1) 4), zw 16 true 18 (.ld false 1 (.t 17)), zw 16 true 19 (.iad 5 (.t 18) (.c (.int .i64 0))), zw 16 true 20 (.ld true 5 (.t 19)), ⟨some (16, true), some 21, .call (.c (.fn 113 [] [])) [((.t 20), (.agg [.id, .id, .id, .id, (.sl 5)]))]⟩, zv 22 (.pick (.t 16) (.t 21) (.c (.bool false))), zm 23 22, zw 23 true 24 (.fad (.t 1) 4), zw 23 true 25 (.ld false 1 (.t 24)), zw 23 true 26 (.iad 5 (.t 25) (.c (.int .i64 1))), zw 23 true 27 (.ld true 5 (.t 26)), ⟨some (23, true), some 28, .call (.c (.fn 42 [] [])) [((.t 27), (.agg [.id, .id, .id, .id, (.sl 5)]))]⟩, zv 29 (.pick (.t 23) (.t 28) (.c (.bool false))), zm 2 29]
def k0ef : IC := (.seq qbrp (.seq qbvc .ret))
@[go_sem] def s0ef : List (RV × Co) := [(.t 2, .id)]
theorem c0ef : cFun Tryz.prog 78 = some (30, k0ef, s0ef) := by kernel_rfl

def qbha : IC := .reg false [zi 2 (.box (.t 0)), zv 4 (.mov (.c (.bool false)))]
def qbyl : IC := .reg false [zv 7 (.fad (.t 2) 0), zv 8 (.ld false 1 (.t 7)), zv 9 (.bin .neq .no (.t 8) (.c (.int .i64 4))), zm 10 9, zw 10 true 11 (.fad (.t 2) 0), zw 10 true 12 (.ld false 1 (.t 11)), zw 10 true 13 (.bin .neq .no (.t 12) (.c (.int .i64 5))), zv 14 (.pick (.t 10) (.t 13) (.c (.bool false)))]
def qbsx : IC := .reg false [zv 4 (.mov (.c (.bool false)))]
def qbg4 : IC := .reg false [zm 15 1, zv 16 (.len false (.t 15)), zv 17 (.mov (.c (.int .i64 0)))]
def qbvr : IC := .reg false [zv 18 (.bin .lss .no (.t 17) (.t 16))]
def qbl0 : IC := .reg false [zv 19 (.iad 1 (.t 15) (.t 17)), zv 20 (.ld false 1 (.t 19)), zm 6 20]
def qbuk : IC := .reg false [zv 21 (.fad (.t 2) 3), zv 22 (.ld false 1 (.t 21)), zm 23 6, zv 24 (.bin .eql .no (.t 22) (.t 23))]
def qblw : IC := .reg false [zv 4 (.mov (.c (.bool true)))]
def qbgn : IC := .reg false [zv 25 (.bin .add .no (.t 17) (.c (.int .i64 1))), zm 17 25]
def k0cn_l4 : IC := (.seq qbvr (.seq (.cond (.t 18) .skip (.exit 0)) (.seq (.block 1 (.seq qbl0 (.seq qbuk (.cond (.t 24) (.seq qblw .ret) .skip)))) qbgn)))
def k0cn_r11 : IC := .reg false [zv 4 (.mov (.c (.bool false)))]
def k0cn : IC := (.seq qbha (.seq (.seq qbyl (.cond (.t 14) (.seq qbsx .ret) .skip)) (.seq (.seq qbg4 (.block 0 (.loop k0cn_l4))) (.seq k0cn_r11 .ret))))
@[go_sem] def s0cn : List (RV × Co) := [(.t 4, .id)]
theorem c0cn : cFun Tryz.prog 79 = some (26, k0cn, s0cn) := by kernel_rfl

def qbe6 : IC := .reg false [zv 4 (.mov (.c (.bool false)))]
def qbop : IC := .reg false [zm 8 0, zi 9 (.call (.c (.fn 36 [] [])) [((.t 8), .id)])]
def qbsz : IC := .reg false [zv 4 (.mov (.c (.bool false)))]
def qbrt : IC := .reg false [zv 5 (.mov (.c (.int .i64 0)))]
def qbf0 : IC := .drw [zp (zm 10 0), zp (zv 11 (.nck (.t 10))), zp (zv 12 (.fad (.t 11) 0)), zp (zv 13 (.ld false 1 (.t 12))), zp (zm 14 0), zp (zv 15 (.nck (.t 14))), zp (zv 16 (.fad (.t 15) 5)), zp (zv 17 (.ld false 1 (.t 16))), zp (zv 18 (.slv 4 (.t 13) (some (.t 17)) none none)), zp (zv 19 (.len false (.t 18))), zp (zv 20 (.mov (.c (.int .i64 0))))]
def qbqx : IC := .reg false [zv 21 (.bin .lss .no (.t 20) (.t 19))]
def qbkr : IC := .reg false [zv 22 (.iad 4 (.t 18) (.t 20)), zv 23 (.ld true 4 (.t 22)), zi 7 (.alo [(.int .i64 0), (.int .i64 0), (.int .i64 0), (.str [])]), zn (.st 4 .id (.t 7) (.t 23))]
def qbm2 : IC := .reg false [zv 25 (.ld true 4 (.t 7)), zv 26 (.bsl 1 [((.c (.str [40])), .id), ((.c (.str [123])), .id)]), zi 27 (.call (.c (.fn 79 [] [])) [((.t 25), .id), ((.t 26), (.sl 1))]), zm 24 27]
def qbpd : IC := .reg false [zm 28 5, zv 29 (.bin .add .no (.t 28) (.c (.int .i64 1))), zm 5 29]
def qba1 : IC := .reg false [zv 31 (.ld true 4 (.t 7)), zv 32 (.bsl 1 [((.c (.str [41])), .id), ((.c (.str [125])), .id)]), zi 33 (.call (.c (.fn 79 [] [])) [((.t 31), .id), ((.t 32), (.sl 1))]), zm 30 33]
def q57 : IC := .reg false [zm 34 5, zv 35 (.bin .sub .no (.t 34) (.c (.int .i64 1))), zm 5 35]
def qbaq : IC := .reg false [zm 36 5, zv 37 (.bin .lss .no (.t 36) (.c (.int .i64 0)))]
def qbat : IC := .reg false [zv 4 (.mov (.c (.bool false)))]
def q56 : IC := .reg false [zm 39 5, zv 40 (.bin .gtr .no (.t 39) (.c (.int .i64 0))), zm 38 40]
def qbbv : IC := .reg false [zv 42 (.ld true 4 (.t 7)), zv 43 (.bsl 1 [((.c (.str [59])), .id)]), zi 44 (.call (.c (.fn 79 [] [])) [((.t 42), .id), ((.t 43), (.sl 1))]), zm 41 44]
def q74 : IC := .reg false [zv 4 (.mov (.c (.bool false)))]
def q9f : IC := .reg false [zv 46 (.ld true 4 (.t 7)), zm 47 1, zv 48 (.bsl 1 [((.t 47), .id)]), zi 49 (.call (.c (.fn 79 [] [])) [((.t 46), .id), ((.t 48), (.sl 1))]), zm 45 49]
def q9t : IC := .reg false [zv 4 (.mov (.c (.bool true)))]
def q6t : IC := .reg false [zv 50 (.bin .add .no (.t 20) (.c (.int .i64 1))), zm 20 50]
def qbq2 : IC := (.seq qbqx (.seq (.cond (.t 21) .skip (.exit 0)) (.seq (.block 1 (.seq qbkr (.block 2 (.seq qbm2 (.cond (.t 24) qbpd (.seq qba1 (.cond (.t 30) (.seq q57 (.seq qbaq (.cond (.t 37) (.seq qbat .ret) .skip))) (.seq q56 (.cond (.t 38) .skip (.seq qbbv (.cond (.t 41) (.seq q74 .ret) (.seq q9f (.cond (.t 45) (.seq q9t .ret) .skip))))))))))))) q6t)))
def q5r : IC := .reg false [zv 4 (.mov (.c (.bool false)))]
def k0ex : IC := (.seq qbe6 (.seq (.seq qbop (.cond (.t 9) (.seq qbsz .ret) .skip)) (.seq qbrt (.seq (.seq qbf0 (.block 0 (.loop qbq2))) (.seq q5r .ret)))))
@[go_sem] def s0ex : List (RV × Co) := [(.t 4, .id)]
theorem c0ex : cFun Tryz.prog 80 = some (51, k0ex, s0ex) := by kernel_rfl

def qbmj : IC := .reg false [zv 2 (.mov (.c (.bool false)))]
def qbfb : IC := .reg false [zm 6 0, zi 7 (.call (.c (.fn 12 [] [])) [((.t 6), .id)]), zm 5 7, zv 8 (.ext (.t 5) 0), zv 9 (.ext (.t 5) 1), zm 3 8, zm 4 9]
def qbob : IC := .reg false [zm 10 4, zv 11 (.bin .neq .no (.t 10) (.c (.int .i64 0))), zm 12 11, zw 12 true 13 (.mov (.t 4)), zw 12 true 14 (.bin .neq .no (.t 13) (.c (.int .i64 5))), zw 12 true 15 (.mov (.t 14)), zw 15 false 16 (.mov (.t 0)), ⟨some (15, false), some 17, .call (.c (.fn 15 [] [])) [((.t 16), .id)]⟩, zw 15 false 18 (.fld false 1 0 (.t 17)), zw 15 false 19 (.bin .eql .no (.t 18) (.c (.int .i64 0))), zw 12 true 20 (.pick (.t 15) (.c (.bool true)) (.t 19)), zv 21 (.pick (.t 12) (.t 20) (.c (.bool false))), zm 2 21]
def k0bs : IC := (.seq qbmj (.seq qbfb (.seq qbob .ret)))
@[go_sem] def s0bs : List (RV × Co) := [(.t 2, .id)]
theorem c0bs : cFun Tryz.prog 81 = some (22, k0bs, s0bs) := by kernel_rfl

def qbh4 : IC := .reg false [zi 2 (.alo [(.int .i64 0), (.int .i64 0), (.int .i64 0), (.str []), .nils]), zv 3 (.mov (.c (.bool false)))]
def qbgd : IC := .reg false [zm 8 0, zi 9 (.call (.c (.fn 20 [] [])) [((.t 8), .id), ((.c (.int .i64 2)), .id)]), zm 7 9, zv 10 (.ext (.t 7) 0), zv 11 (.ext (.t 7) 1), zi 4 (.alo [(.int .i64 0), (.int .i64 0), (.int .i64 0), (.str [])]), zn (.st 4 .id (.t 4) (.t 10)), zm 5 11]
def qbt7 : IC := .reg false [zm 12 5, zv 13 (.un .not (.t 12))]
def qbgf : IC := .reg false [zv 14 (.bld [(.int .i64 0), (.int .i64 0), (.int .i64 0), (.str []), .nils] []), zn (.st 5 (.agg [.id, .id, .id, .id, (.sl 5)]) (.t 2) (.t 14)), zv 3 (.mov (.c (.bool false)))]
def qbe7 : IC := .reg false [zm 16 0, zi 17 (.call (.c (.fn 114 [] [])) [((.t 16), .id)]), zm 15 17, zv 18 (.ext (.t 15) 0), zv 19 (.ext (.t 15) 1), zi 6 (.alo [(.int .i64 0), (.int .i64 0), (.int .i64 0), (.str []), .nils]), zn (.st 5 (.agg [.id, .id, .id, .id, (.sl 5)]) (.t 6) (.t 18)), zm 5 19]
def qbwr : IC := .reg false [zm 20 0, zv 21 (.fad (.t 4) 1), zv 22 (.ld false 1 (.t 21)), zv 23 (.fad (.t 4) 3), zv 24 (.ld false 1 (.t 23)), zv 25 (.ld true 5 (.t 6)), zv 26 (.bsl 5 [((.t 25), (.agg [.id, .id, .id, .id, (.sl 5)]))]), zv 27 (.bld [(.int .i64 0), (.int .i64 0), (.int .i64 0), (.str []), .nils] [(0, 1, (.c (.int .i64 3))), (1, 1, (.t 22)), (3, 1, (.t 24)), (4, 1, (.t 26))]), zm 28 5, zi 29 (.call (.c (.fn 48 [] [])) [((.t 20), .id), ((.t 27), (.agg [.id, .id, .id, .id, (.sl 5)])), ((.t 28), .id)]), zv 30 (.ext (.t 29) 0), zv 31 (.ext (.t 29) 1), zn (.st 5 (.agg [.id, .id, .id, .id, (.sl 5)]) (.t 2) (.t 30)), zm 3 31]
def k0bt : IC := (.seq qbh4 (.seq qbgd (.seq (.seq qbt7 (.cond (.t 13) (.seq qbgf .ret) .skip)) (.seq qbe7 (.seq qbwr .ret)))))
@[go_sem] def s0bt : List (RV × Co) := [(.c true 5 2, (.agg [.id, .id, .id, .id, (.sl 5)])), (.t 3, .id)]
theorem c0bt : cFun Tryz.prog 82 = some (32, k0bt, s0bt) := by kernel_rfl

def qbgl : IC := .reg false [zi 2 (.alo [(.int .i64 0), (.int .i64 0), (.int .i64 0), (.str []), .nils]), zv 3 (.mov (.c (.bool false)))]
def qbjj : IC := .reg false [zm 8 0, zi 9 (.call (.c (.fn 15 [] [])) [((.t 8), .id)]), zv 10 (.fld false 1 0 (.t 9)), zv 11 (.bin .neq .no (.t 10) (.c (.int .i64 2)))]
def qbq6 : IC := .reg false [zm 12 0, zi 13 (.call (.c (.fn 114 [] [])) [((.t 12), .id)]), zv 14 (.ext (.t 13) 0), zv 15 (.ext (.t 13) 1), zn (.st 5 (.agg [.id, .id, .id, .id, (.sl 5)]) (.t 2) (.t 14)), zm 3 15]
def qbk6 : IC := .reg false [zm 16 0, zi 17 (.call (.c (.fn 44 [] [])) [((.t 16), .id)]), zi 4 (.alo [(.int .i64 0), (.int .i64 0), (.int .i64 0), (.str [])]), zn (.st 4 .id (.t 4) (.t 17))]
def qbtb : IC := .reg false [zv 18 (.fad (.t 4) 1), zv 19 (.ld false 1 (.t 18)), zv 20 (.fad (.t 4) 3), zv 21 (.ld false 1 (.t 20)), zv 22 (.bld [(.int .i64 0), (.int .i64 0), (.int .i64 0), (.str []), .nils] [(0, 1, (.c (.int .i64 2))), (1, 1, (.t 19)), (3, 1, (.t 21))]), zi 5 (.alo [(.int .i64 0), (.int .i64 0), (.int .i64 0), (.str []), .nils]), zn (.st 5 (.agg [.id, .id, .id, .id, (.sl 5)]) (.t 5) (.t 22))]
def qbwc : IC := .reg false [zm 23 0, zi 24 (.call (.c (.fn 115 [] [])) [((.t 23), .id)])]
def qbxh : IC := .reg false [zm 26 0, zi 27 (.call (.c (.fn 114 [] [])) [((.t 26), .id)]), zm 25 27, zv 28 (.ext (.t 25) 0), zv 29 (.ext (.t 25) 1), zi 6 (.alo [(.int .i64 0), (.int .i64 0), (.int .i64 0), (.str []), .nils]), zn (.st 5 (.agg [.id, .id, .id, .id, (.sl 5)]) (.t 6) (.t 28)), zm 7 29]
def qbfc : IC := .reg false [zm 30 7, zv 31 (.un .not (.t 30))]
def qbi6 : IC := .reg false [zv 32 (.bld [(.int .i64 0), (.int .i64 0), (.int .i64 0), (.str []), .nils] []), zn (.st 5 (.agg [.id, .id, .id, .id, (.sl 5)]) (.t 2) (.t 32)), zv 3 (.mov (.c (.bool false)))]
def qbbj : IC := .reg false [zv 33 (.fad (.t 5) 4), zv 34 (.ld false 1 (.t 33)), zv 35 (.ld true 5 (.t 6)), zv 36 (.bsl 5 [((.t 35), (.agg [.id, .id, .id, .id, (.sl 5)]))]), zi 37 (.app 5 (.agg [(.int .i64 0), (.int .i64 0), (.int .i64 0), (.str []), .nils]) 64 (.sl 5) (.t 34) (.t 36)), zv 38 (.fad (.t 5) 4), zn (.st 1 (.sl 5) (.t 38) (.t 37))]
def qbgm : IC := (.seq (.seq qbwc (.cond (.t 24) .skip (.exit 0))) (.block 1 (.seq qbxh (.seq (.seq qbfc (.cond (.t 31) (.seq qbi6 .ret) .skip)) qbbj))))
def q7n : IC := .reg false [zv 39 (.ld true 5 (.t 5)), zn (.st 5 (.agg [.id, .id, .id, .id, (.sl 5)]) (.t 2) (.t 39)), zv 3 (.mov (.c (.bool true)))]
def k0bx : IC := (.seq qbgl (.seq (.seq qbjj (.cond (.t 11) (.seq qbq6 .ret) .skip)) (.seq qbk6 (.seq qbtb (.seq (.block 0 (.loop qbgm)) (.seq q7n .ret))))))
@[go_sem] def s0bx : List (RV × Co) := [(.c true 5 2, (.agg [.id, .id, .id, .id, (.sl 5)])), (.t 3, .id)]
theorem c0bx : cFun Tryz.prog 83 = some (40, k0bx, s0bx) := by kernel_rfl

def qbo7 : IC := .reg false [zi 2 (.box (.t 0)), zv 4 (.mov (.c (.bool false)))]
def qbwd : IC := .reg false [zv 5 (.fad (.t 2) 0), zv 6 (.ld false 1 (.t 5)), zv 7 (.bin .eql .no (.t 6) (.c (.int .i64 4))), zm 8 7, zw 8 false 9 (.fad (.t 2) 0), zw 8 false 10 (.ld false 1 (.t 9)), zw 8 false 11 (.bin .eql .no (.t 10) (.c (.int .i64 5))), zv 12 (.pick (.t 8) (.c (.bool true)) (.t 11)), zm 13 12, zw 13 true 14 (.fad (.t 2) 3), zw 13 true 15 (.ld false 1 (.t 14)), zw 13 true 16 (.mov (.t 1)), zw 13 true 17 (.bin .eql .no (.t 15) (.t 16)), zv 18 (.pick (.t 13) (.t 17) (.c (.bool false))), zm 4 18]
def k0cb : IC := (.seq qbo7 (.seq qbwd .ret))
@[go_sem] def s0cb : List (RV × Co) := [(.t 4, .id)]
theorem c0cb : cFun Tryz.prog 84 = some (19, k0cb, s0cb) := by kernel_rfl

def qbn0 : IC := .reg false [zi 2 (.box (.t 0)), zv 4 (.mov (.c (.bool false)))]
def qbu3 : IC := .reg false [zv 8 (.fad (.t 2) 6), zv 9 (.ld false 1 (.t 8)), zv 10 (.bin .neq .no (.t 9) (.c (.int .i64 0)))]
def qbxi : IC := .reg false [zv 4 (.mov (.c (.bool false)))]
def qbd9 : IC := .reg false [zv 5 (.mov (.c (.int .i64 0)))]
def qbti : IC := .reg false [zv 6 (.mov (.c (.int .i64 0)))]
def qbfy : IC := .reg false [zm 11 6, zv 12 (.fad (.t 2) 0), zv 13 (.ld false 1 (.t 12)), zv 14 (.len false (.t 13)), zv 15 (.bin .lss .no (.t 11) (.t 14))]
def qbuv : IC := .reg false [zv 18 (.fad (.t 2) 0), zv 19 (.ld false 1 (.t 18)), zm 20 6, zv 21 (.iad 4 (.t 19) (.t 20)), zv 22 (.ld true 4 (.t 21)), zi 7 (.alo [(.int .i64 0), (.int .i64 0), (.int .i64 0), (.str [])]), zn (.st 4 .id (.t 7) (.t 22))]
def qbx7 : IC := .reg false [zv 24 (.ld true 4 (.t 7)), zi 25 (.call (.c (.fn 84 [] [])) [((.t 24), .id), ((.c (.str [40])), .id)]), zm 26 25, zw 26 false 27 (.ld true 4 (.t 7)), ⟨some (26, false), some 28, .call (.c (.fn 84 [] [])) [((.t 27), .id), ((.c (.str [123])), .id)]⟩, zv 29 (.pick (.t 26) (.c (.bool true)) (.t 28)), zm 23 29]
def qbgu : IC := .reg false [zm 30 5, zv 31 (.bin .add .no (.t 30) (.c (.int .i64 1))), zm 5 31]
def q6v : IC := .reg false [zv 33 (.ld true 4 (.t 7)), zi 34 (.call (.c (.fn 84 [] [])) [((.t 33), .id), ((.c (.str [41])), .id)]), zm 35 34, zw 35 false 36 (.ld true 4 (.t 7)), ⟨some (35, false), some 37, .call (.c (.fn 84 [] [])) [((.t 36), .id), ((.c (.str [125])), .id)]⟩, zv 38 (.pick (.t 35) (.c (.bool true)) (.t 37)), zm 32 38]
def qbcp : IC := .reg false [zm 39 5, zv 40 (.bin .sub .no (.t 39) (.c (.int .i64 1))), zm 5 40]
def q9w : IC := .reg false [zm 42 5, zv 43 (.bin .eql .no (.t 42) (.c (.int .i64 0))), zm 44 43, zw 44 true 45 (.ld true 4 (.t 7)), ⟨some (44, true), some 46, .call (.c (.fn 84 [] [])) [((.t 45), .id), ((.c (.str [59])), .id)]⟩, zv 47 (.pick (.t 44) (.t 46) (.c (.bool false))), zm 41 47]
def q7o : IC := .reg false [zv 4 (.mov (.c (.bool false)))]
def q9j : IC := .reg false [zm 49 5, zv 50 (.bin .eql .no (.t 49) (.c (.int .i64 0))), zm 51 50, zw 51 true 52 (.ld true 4 (.t 7)), zw 51 true 53 (.mov (.t 1)), ⟨some (51, true), some 54, .call (.c (.fn 84 [] [])) [((.t 52), .id), ((.t 53), .id)]⟩, zv 55 (.pick (.t 51) (.t 54) (.c (.bool false))), zm 48 55]
def q51 : IC := .reg false [zv 4 (.mov (.c (.bool true)))]
def q7l : IC := .reg false [zm 56 5, zv 57 (.bin .lss .no (.t 56) (.c (.int .i64 0)))]
def qbbo : IC := .reg false [zv 4 (.mov (.c (.bool false)))]
def q81 : IC := .reg false [zm 16 6, zv 17 (.bin .add .no (.t 16) (.c (.int .i64 1))), zm 6 17]
def qbp0 : IC := (.seq (.seq qbfy (.cond (.t 15) .skip (.exit 0))) (.seq (.block 1 (.seq qbuv (.seq (.block 2 (.seq qbx7 (.cond (.t 23) qbgu (.seq q6v (.cond (.t 32) qbcp (.seq q9w (.cond (.t 41) (.seq q7o .ret) (.seq q9j (.cond (.t 48) (.seq q51 .ret) .skip))))))))) (.seq q7l (.cond (.t 57) (.seq qbbo .ret) .skip))))) q81))
def q8c : IC := .reg false [zv 4 (.mov (.c (.bool false)))]
def k0ey : IC := (.seq qbn0 (.seq (.seq qbu3 (.cond (.t 10) (.seq qbxi .ret) .skip)) (.seq qbd9 (.seq (.seq qbti (.block 0 (.loop qbp0))) (.seq q8c .ret)))))
@[go_sem] def s0ey : List (RV × Co) := [(.t 4, .id)]
theorem c0ey : cFun Tryz.prog 85 = some (58, k0ey, s0ey) := by kernel_rfl

def qbfw : IC := .reg false [zi 1 (.box (.t 0)), zi 2 (.alo [.nils, (.int .i64 0), (.int .i64 0), (.int .i64 0), (.str []), (.int .i64 0), (.int .i64 0), (.int .i64 0)]), zi 3 (.alo [(.int .i64 0), (.int .i64 0), (.int .i64 0), (.str []), .nils])]
def qbhy : IC := .reg false [zv 8 (.ld true 8 (.t 1)), zi 9 (.call (.c (.fn 24 [] [])) [((.t 8), (.agg [(.sl 4), .id, .id, .id, .id, .id, .id, .id])), ((.c (.int .i64 2)), .id)]), zm 7 9, zv 10 (.ext (.t 7) 0), zv 11 (.ext (.t 7) 1), zv 12 (.ext (.t 7) 2), zi 4 (.alo [(.int .i64 0), (.int .i64 0), (.int .i64 0), (.str [])]), zn (.st 8 (.agg [(.sl 4), .id, .id, .id, .id, .id, .id, .id]) (.t 1) (.t 10)), zn (.st 4 .id (.t 4) (.t 11)), zm 5 12]
def qbx6 : IC := .reg false [zv 14 (.ld true 8 (.t 1)), zi 15 (.call (.c (.fn 116 [] [])) [((.t 14), (.agg [(.sl 4), .id, .id, .id, .id, .id, .id, .id]))]), zm 13 15, zv 16 (.ext (.t 13) 0), zv 17 (.ext (.t 13) 1), zi 6 (.alo [(.int .i64 0), (.int .i64 0), (.int .i64 0), (.str []), .nils]), zn (.st 8 (.agg [(.sl 4), .id, .id, .id, .id, .id, .id, .id]) (.t 1) (.t 16)), zn (.st 5 (.agg [.id, .id, .id, .id, (.sl 5)]) (.t 6) (.t 17))]
def qbqv : IC := .drw [zp (zv 18 (.ld true 8 (.t 1))), zp (zv 19 (.fad (.t 4) 1)), zp (zv 20 (.ld false 1 (.t 19))), zp (zv 21 (.fad (.t 4) 3)), zp (zv 22 (.ld false 1 (.t 21))), zp (zv 23 (.ld true 5 (.t 6))), (zv 24 (.bsl 5 [((.t 23), (.agg [.id, .id, .id, .id, (.sl 5)]))]), []), (zv 25 (.bld [(.int .i64 0), (.int .i64 0), (.int .i64 0), (.str []), .nils] [(0, 1, (.c (.int .i64 3))), (1, 1, (.t 20)), (3, 1, (.t 22)), (4, 1, (.t 24))]), []), (zn (.st 8 (.agg [(.sl 4), .id, .id, .id, .id, .id, .id, .id]) (.t 2) (.t 18)), [2, 4, 5, 6]), (zn (.st 5 (.agg [.id, .id, .id, .id, (.sl 5)]) (.t 3) (.t 25)), [])]
def k0bj : IC := (.seq qbfw (.seq qbhy (.seq qbx6 (.seq qbqv .ret))))
@[go_sem] def s0bj : List (RV × Co) := [(.c true 8 2, (.agg [(.sl 4), .id, .id, .id, .id, .id, .id, .id])), (.c true 5 3, (.agg [.id, .id, .id, .id, (.sl 5)]))]
theorem c0bj : cFun Tryz.prog 86 = some (26, k0bj, s0bj) := by kernel_rfl

def qbmv : IC := .reg false [zi 1 (.box (.t 0)), zi 2 (.alo [.nils, (.int .i64 0), (.int .i64 0), (.int .i64 0), (.str []), (.int .i64 0), (.int .i64 0), (.int .i64 0)]), zi 3 (.alo [(.int .i64 0), (.int .i64 0), (.int .i64 0), (.str []), .nils])]
def qbjf : IC := .reg false [zv 8 (.ld true 8 (.t 1)), zi 9 (.call (.c (.fn 16 [] [])) [((.t 8), (.agg [(.sl 4), .id, .id, .id, .id, .id, .id, .id]))]), zi 4 (.alo [(.int .i64 0), (.int .i64 0), (.int .i64 0), (.str [])]), zn (.st 4 .id (.t 4) (.t 9))]
def qbhz : IC := .reg false [zv 10 (.fad (.t 4) 0), zv 11 (.ld false 1 (.t 10)), zv 12 (.bin .neq .no (.t 11) (.c (.int .i64 2)))]
def qbo5 : IC := .reg false [zv 13 (.ld true 8 (.t 1)), zi 14 (.call (.c (.fn 116 [] [])) [((.t 13), (.agg [(.sl 4), .id, .id, .id, .id, .id, .id, .id]))]), zv 15 (.ext (.t 14) 0), zv 16 (.ext (.t 14) 1), zn (.st 8 (.agg [(.sl 4), .id, .id, .id, .id, .id, .id, .id]) (.t 2) (.t 15)), zn (.st 5 (.agg [.id, .id, .id, .id, (.sl 5)]) (.t 3) (.t 16))]
def qbra : IC := .reg false [zv 18 (.ld true 8 (.t 1)), zi 19 (.call (.c (.fn 51 [] [])) [((.t 18), (.agg [(.sl 4), .id, .id, .id, .id, .id, .id, .id]))]), zm 17 19, zv 20 (.ext (.t 17) 0), zv 21 (.ext (.t 17) 1), zn (.st 8 (.agg [(.sl 4), .id, .id, .id, .id, .id, .id, .id]) (.t 1) (.t 20))]
def qbse : IC := .reg false [zv 22 (.fad (.t 4) 1), zv 23 (.ld false 1 (.t 22)), zv 24 (.fad (.t 4) 3), zv 25 (.ld false 1 (.t 24)), zv 26 (.bld [(.int .i64 0), (.int .i64 0), (.int .i64 0), (.str []), .nils] [(0, 1, (.c (.int .i64 2))), (1, 1, (.t 23)), (3, 1, (.t 25))]), zi 5 (.alo [(.int .i64 0), (.int .i64 0), (.int .i64 0), (.str []), .nils]), zn (.st 5 (.agg [.id, .id, .id, .id, (.sl 5)]) (.t 5) (.t 26))]
def qbuw : IC := .reg false [zv 27 (.ld true 8 (.t 1)), zi 28 (.call (.c (.fn 117 [] [])) [((.t 27), (.agg [(.sl 4), .id, .id, .id, .id, .id, .id, .id]))])]
def qbl4 : IC := .reg false [zv 30 (.ld true 8 (.t 1)), zi 31 (.call (.c (.fn 116 [] [])) [((.t 30), (.agg [(.sl 4), .id, .id, .id, .id, .id, .id, .id]))]), zm 29 31, zv 32 (.ext (.t 29) 0), zv 33 (.ext (.t 29) 1), zi 6 (.alo [.nils, (.int .i64 0), (.int .i64 0), (.int .i64 0), (.str []), (.int .i64 0), (.int .i64 0), (.int .i64 0)]), zi 7 (.alo [(.int .i64 0), (.int .i64 0), (.int .i64 0), (.str []), .nils]), zn (.st 8 (.agg [(.sl 4), .id, .id, .id, .id, .id, .id, .id]) (.t 6) (.t 32)), zn (.st 5 (.agg [.id, .id, .id, .id, (.sl 5)]) (.t 7) (.t 33))]
def qbqh : IC := .reg false [zv 34 (.ld true 8 (.t 6)), zn (.st 8 (.agg [(.sl 4), .id, .id, .id, .id, .id, .id, .id]) (.t 1) (.t 34))]
def qbco : IC := .reg false [zv 35 (.fad (.t 5) 4), zv 36 (.ld false 1 (.t 35)), zv 37 (.ld true 5 (.t 7)), zv 38 (.bsl 5 [((.t 37), (.agg [.id, .id, .id, .id, (.sl 5)]))]), zi 39 (.app 5 (.agg [(.int .i64 0), (.int .i64 0), (.int .i64 0), (.str []), .nils]) 64 (.sl 5) (.t 36) (.t 38)), zv 40 (.fad (.t 5) 4), zn (.st 1 (.sl 5) (.t 40) (.t 39))]
def qboi : IC := (.seq (.seq qbuw (.cond (.t 28) .skip (.exit 0))) (.block 1 (.seq qbl4 (.seq qbqh qbco))))
def qbcy : IC := .drw [zp (zv 41 (.ld true 8 (.t 1))), zp (zv 42 (.ld true 5 (.t 5))), (zn (.st 8 (.agg [(.sl 4), .id, .id, .id, .id, .id, .id, .id]) (.t 2) (.t 41)), [1]), (zn (.st 5 (.agg [.id, .id, .id, .id, (.sl 5)]) (.t 3) (.t 42)), [])]
def k0bo : IC := (.seq qbmv (.seq qbjf (.seq (.seq qbhz (.cond (.t 12) (.seq qbo5 .ret) .skip)) (.seq qbra (.seq qbse (.seq (.block 0 (.loop qboi)) (.seq qbcy .ret)))))))
@[go_sem] def s0bo : List (RV × Co) := [(.c true 8 2, (.agg [(.sl 4), .id, .id, .id, .id, .id, .id, .id])), (.c true 5 3, (.agg [.id, .id, .id, .id, (.sl 5)]))]
theorem c0bo : cFun Tryz.prog 87 = some (43, k0bo, s0bo) := by kernel_rfl

def qb3k : IC := .reg false [zv 4 (.mov (.c .nils)), zv 5 (.mov (.c (.bool false)))]
def qb5g : IC := .reg false [zm 9 0, zi 10 (.call (.c (.fn 49 [] [])) [((.t 9), .id), ((.c (.str [123])), .id)]), zv 11 (.un .not (.t 10))]
def qb26 : IC := .reg false [zv 4 (.mov (.c .nils)), zv 5 (.mov (.c (.bool false)))]
def qbyv : IC := .reg false [zv 6 (.mov (.c .nils))]
def qbzs : IC := .reg false [zm 13 1, zi 14 (.call (.t 13) []), zm 12 14, zv 15 (.ext (.t 12) 0), zv 16 (.ext (.t 12) 1), zi 7 (.alo [(.int .i64 0), (.int .i64 0), (.int .i64 0), (.str []), .nils]), zn (.st 5 (.agg [.id, .id, .id, .id, (.sl 5)]) (.t 7) (.t 15)), zm 8 16]
def qb30 : IC := .reg false [zm 17 8, zv 18 (.un .not (.t 17))]
def qbyt : IC := .reg false [zv 4 (.mov (.c .nils)), zv 5 (.mov (.c (.bool false)))]
def qb5h : IC := .reg false [zm 19 6, zv 20 (.ld true 5 (.t 7)), zv 21 (.bsl 5 [((.t 20), (.agg [.id, .id, .id, .id, (.sl 5)]))]), zi 22 (.app 5 (.agg [(.int .i64 0), (.int .i64 0), (.int .i64 0), (.str []), .nils]) 64 (.sl 5) (.t 19) (.t 21)), zm 6 22]
def qbdk : IC := .reg false [zm 23 0, zi 24 (.call (.c (.fn 21 [] [])) [((.t 23), .id), ((.c (.str [59])), .id)]), zv 25 (.un .not (.t 24)), zm 26 25, zw 26 false 27 (.mov (.t 0)), ⟨some (26, false), some 28, .call (.c (.fn 45 [] [])) [((.t 27), .id), ((.c (.str [125])), .id)]⟩, zv 29 (.pick (.t 26) (.c (.bool true)) (.t 28))]
def qbp3 : IC := .reg false [zm 30 6, zm 31 0, zi 32 (.call (.c (.fn 49 [] [])) [((.t 31), .id), ((.c (.str [125])), .id)]), zm 4 30, zm 5 32]
def qbdj : IC := (.block 1 (.seq qbzs (.seq (.seq qb30 (.cond (.t 18) (.seq qbyt .ret) .skip)) (.seq qb5h (.seq qbdk (.cond (.t 29) (.seq qbp3 .ret) .skip))))))
def k0w : IC := (.seq qb3k (.seq (.seq qb5g (.cond (.t 11) (.seq qb26 .ret) .skip)) (.seq qbyv (.block 0 (.loop qbdj)))))
@[go_sem] def s0w : List (RV × Co) := [(.t 4, (.sl 5)), (.t 5, .id)]
theorem c0w : cFun Tryz.prog 88 = some (33, k0w, s0w) := by kernel_rfl

def qb6t : IC := .reg false [zi 1 (.alo [(.int .i64 0), (.int .i64 0), (.int .i64 0), (.str []), .nils]), zv 2 (.mov (.c (.bool false)))]
def qb25 : IC := .reg false [zv 3 (.ld false 1 (.t 0)), zi 4 (.call (.c (.fn 8 [] [])) [((.t 3), .id)]), zv 5 (.ext (.t 4) 0), zv 6 (.ext (.t 4) 1), zn (.st 5 (.agg [.id, .id, .id, .id, (.sl 5)]) (.t 1) (.t 5)), zm 2 6]
def k0u : IC := (.seq qb6t (.seq qb25 .ret))
@[go_sem] def s0u : List (RV × Co) := [(.c true 5 1, (.agg [.id, .id, .id, .id, (.sl 5)])), (.t 2, .id)]
theorem c0u : cFun Tryz.prog 89 = some (7, k0u, s0u) := by kernel_rfl

def qb0d : IC := .reg false [zi 1 (.alo [(.int .i64 0), (.int .i64 0), (.int .i64 0), (.str []), .nils]), zv 2 (.mov (.c (.bool false)))]
def qb57 : IC := .reg false [zv 7 (.ld false 1 (.t 0)), zi 8 (.call (.c (.fn 91 [] [])) [((.t 7), .id)]), zm 6 8, zv 9 (.ext (.t 6) 0), zv 10 (.ext (.t 6) 1), zi 3 (.alo [(.int .i64 0), (.int .i64 0), (.int .i64 0), (.str []), .nils]), zn (.st 5 (.agg [.id, .id, .id, .id, (.sl 5)]) (.t 3) (.t 9)), zm 4 10]
def qb48 : IC := .reg false [zm 11 4, zv 12 (.un .not (.t 11)), zm 13 12, zw 13 false 14 (.ld false 1 (.t 0)), ⟨some (13, false), some 15, .call (.c (.fn 49 [] [])) [((.t 14), .id), ((.c (.str [45, 62])), .id)]⟩, zw 13 false 16 (.un .not (.t 15)), zv 17 (.pick (.t 13) (.c (.bool true)) (.t 16))]
def qbzi : IC := .reg false [zv 18 (.ld true 5 (.t 3)), zn (.st 5 (.agg [.id, .id, .id, .id, (.sl 5)]) (.t 1) (.t 18)), zv 2 (.mov (.c (.bool false)))]
def qb6l : IC := .reg false [zv 20 (.ld false 1 (.t 0)), zi 21 (.call (.c (.fn 10 [] [])) [((.t 20), .id)]), zm 19 21, zv 22 (.ext (.t 19) 0), zv 23 (.ext (.t 19) 1), zi 5 (.alo [(.int .i64 0), (.int .i64 0), (.int .i64 0), (.str []), .nils]), zn (.st 5 (.agg [.id, .id, .id, .id, (.sl 5)]) (.t 5) (.t 22)), zm 4 23]
def qb2e : IC := .reg false [zv 24 (.fad (.t 3) 1), zv 25 (.ld false 1 (.t 24)), zv 26 (.ld true 5 (.t 3)), zv 27 (.ld true 5 (.t 5)), zv 28 (.bsl 5 [((.t 26), (.agg [.id, .id, .id, .id, (.sl 5)])), ((.t 27), (.agg [.id, .id, .id, .id, (.sl 5)]))]), zv 29 (.bld [(.int .i64 0), (.int .i64 0), (.int .i64 0), (.str []), .nils] [(0, 1, (.c (.int .i64 15))), (1, 1, (.t 25)), (4, 1, (.t 28))]), zm 30 4, zn (.st 5 (.agg [.id, .id, .id, .id, (.sl 5)]) (.t 1) (.t 29)), zm 2 30]
def k0v : IC := (.seq qb0d (.seq qb57 (.seq (.seq qb48 (.cond (.t 17) (.seq qbzi .ret) .skip)) (.seq qb6l (.seq qb2e .ret)))))
@[go_sem] def s0v : List (RV × Co) := [(.c true 5 1, (.agg [.id, .id, .id, .id, (.sl 5)])), (.t 2, .id)]
theorem c0v : cFun Tryz.prog 90 = some (31, k0v, s0v) := by kernel_rfl

def qbtd : IC := .reg false [zi 2 (.alo [(.int .i64 0), (.int .i64 0), (.int .i64 0), (.str []), .nils]), zv 3 (.mov (.c (.bool false)))]
def qbpf : IC := .reg false [zm 8 0, zi 9 (.call (.c (.fn 30 [] [])) [((.t 8), .id)]), zv 10 (.un .not (.t 9))]
def qbuc : IC := .reg false [zv 11 (.bld [(.int .i64 0), (.int .i64 0), (.int .i64 0), (.str []), .nils] []), zn (.st 5 (.agg [.id, .id, .id, .id, (.sl 5)]) (.t 2) (.t 11)), zv 3 (.mov (.c (.bool false)))]
def qbv4 : IC := .reg false [zm 12 0, zi 13 (.call (.c (.fn 15 [] [])) [((.t 12), .id)]), zv 14 (.fld false 1 0 (.t 13)), zv 15 (.bin .eql .no (.t 14) (.c (.int .i64 2))), zm 4 15]
def qbv6 : IC := .reg false [zm 17 0, zi 18 (.call (.c (.fn 118 [] [])) [((.t 17), .id)]), zm 16 18, zv 19 (.ext (.t 16) 0), zv 20 (.ext (.t 16) 1), zi 5 (.alo [(.int .i64 0), (.int .i64 0), (.int .i64 0), (.str []), .nils]), zn (.st 5 (.agg [.id, .id, .id, .id, (.sl 5)]) (.t 5) (.t 19)), zm 6 20]
def qbjb : IC := .reg false [zm 21 6, zm 22 21, zw 22 true 23 (.mov (.t 4)), zv 24 (.pick (.t 22) (.t 23) (.c (.bool false))), zm 25 24, zw 25 true 26 (.mov (.t 0)), ⟨some (25, true), some 27, .call (.c (.fn 119 [] [])) [((.t 26), .id)]⟩, zv 28 (.pick (.t 25) (.t 27) (.c (.bool false)))]
def qbnm : IC := .reg false [zi 7 (.alo [(.int .i64 0), (.int .i64 0), (.int .i64 0), (.str []), .nils])]
def qbnh : IC := .reg false [zm 30 0, zi 31 (.call (.c (.fn 118 [] [])) [((.t 30), .id)]), zm 29 31, zv 32 (.ext (.t 29) 0), zv 33 (.ext (.t 29) 1), zn (.st 5 (.agg [.id, .id, .id, .id, (.sl 5)]) (.t 7) (.t 32)), zm 6 33]
def qbym : IC := .reg false [zm 34 6]
def q8t : IC := .reg false [zv 35 (.fad (.t 5) 4), zv 36 (.ld false 1 (.t 35)), zv 37 (.ld true 5 (.t 7)), zv 38 (.bsl 5 [((.t 37), (.agg [.id, .id, .id, .id, (.sl 5)]))]), zi 39 (.app 5 (.agg [(.int .i64 0), (.int .i64 0), (.int .i64 0), (.str []), .nils]) 64 (.sl 5) (.t 36) (.t 38)), zv 40 (.fad (.t 5) 4), zn (.st 1 (.sl 5) (.t 40) (.t 39))]
def qbsk : IC := (.seq (.seq qbjb (.cond (.t 28) .skip (.exit 0))) (.block 1 (.seq qbnm (.seq qbnh (.seq qbym (.cond (.t 34) q8t .skip))))))
def qbcu : IC := .reg false [zm 41 0, zi 42 (.call (.c (.fn 32 [] [])) [((.t 41), .id)])]
def q9q : IC := .reg false [zm 43 6, zv 44 (.un .not (.t 43))]
def qbbr : IC := .reg false [zv 45 (.bld [(.int .i64 0), (.int .i64 0), (.int .i64 0), (.str []), .nils] []), zn (.st 5 (.agg [.id, .id, .id, .id, (.sl 5)]) (.t 2) (.t 45)), zv 3 (.mov (.c (.bool false)))]
def q6g : IC := .reg false [zv 46 (.ld true 5 (.t 5)), zn (.st 5 (.agg [.id, .id, .id, .id, (.sl 5)]) (.t 2) (.t 46)), zv 3 (.mov (.c (.bool true)))]
def k0bi : IC := (.seq qbtd (.seq (.seq qbpf (.cond (.t 10) (.seq qbuc .ret) .skip)) (.seq qbv4 (.seq qbv6 (.seq (.block 0 (.loop qbsk)) (.seq qbcu (.seq (.seq q9q (.cond (.t 44) (.seq qbbr .ret) .skip)) (.seq q6g .ret))))))))
@[go_sem] def s0bi : List (RV × Co) := [(.c true 5 2, (.agg [.id, .id, .id, .id, (.sl 5)])), (.t 3, .id)]
theorem c0bi : cFun Tryz.prog 91 = some (47, k0bi, s0bi) := by kernel_rfl

def qbsy : IC := .reg false [zi 2 (.alo [(.int .i64 0), (.int .i64 0), (.int .i64 0), (.str []), .nils]), zv 3 (.mov (.c (.bool false)))]
def qbpn : IC := .reg false [zm 9 0, zi 10 (.call (.c (.fn 93 [] [])) [((.t 9), .id)]), zm 8 10, zv 11 (.ext (.t 8) 0), zv 12 (.ext (.t 8) 1), zi 4 (.alo [(.int .i64 0), (.int .i64 0), (.int .i64 0), (.str []), .nils]), zn (.st 5 (.agg [.id, .id, .id, .id, (.sl 5)]) (.t 4) (.t 11)), zm 5 12]
def qbkk : IC := .reg false [zm 13 5]
def qbtp : IC := .reg false [zm 14 0, zi 15 (.call (.c (.fn 44 [] [])) [((.t 14), .id)])]
def qbnj : IC := .reg false [zv 16 (.ld true 5 (.t 4)), zn (.st 5 (.agg [.id, .id, .id, .id, (.sl 5)]) (.t 2) (.t 16)), zv 3 (.mov (.c (.bool true)))]
def qbuj : IC := .reg false [zm 17 0, zi 18 (.call (.c (.fn 45 [] [])) [((.t 17), .id), ((.c (.str [40])), .id)]), zv 19 (.un .not (.t 18))]
def qbpa : IC := .reg false [zv 20 (.bld [(.int .i64 0), (.int .i64 0), (.int .i64 0), (.str []), .nils] []), zm 21 0, zi 22 (.call (.c (.fn 43 [] [])) [((.t 21), .id), ((.c (.int .i64 5)), .id)]), zn (.st 5 (.agg [.id, .id, .id, .id, (.sl 5)]) (.t 2) (.t 20)), zm 3 22]
def qbo8 : IC := .reg false [zm 23 0, zi 24 (.call (.c (.fn 30 [] [])) [((.t 23), .id)]), zv 25 (.un .not (.t 24))]
def qbme : IC := .reg false [zv 26 (.bld [(.int .i64 0), (.int .i64 0), (.int .i64 0), (.str []), .nils] []), zn (.st 5 (.agg [.id, .id, .id, .id, (.sl 5)]) (.t 2) (.t 26)), zv 3 (.mov (.c (.bool false)))]
def qbtk : IC := .reg false [zm 27 0, zi 28 (.call (.c (.fn 44 [] [])) [((.t 27), .id)])]
def q7t : IC := .reg false [zm 30 0, zi 31 (.call (.c (.fn 10 [] [])) [((.t 30), .id)]), zm 29 31, zv 32 (.ext (.t 29) 0), zv 33 (.ext (.t 29) 1), zi 6 (.alo [(.int .i64 0), (.int .i64 0), (.int .i64 0), (.str []), .nils]), zn (.st 5 (.agg [.id, .id, .id, .id, (.sl 5)]) (.t 6) (.t 32)), zm 7 33]
def q6k : IC := .reg false [zm 34 7, zv 35 (.un .not (.t 34)), zm 36 35, zw 36 false 37 (.mov (.t 0)), ⟨some (36, false), some 38, .call (.c (.fn 49 [] [])) [((.t 37), .id), ((.c (.str [41])), .id)]⟩, zw 36 false 39 (.un .not (.t 38)), zv 40 (.pick (.t 36) (.c (.bool true)) (.t 39))]
def qbb9 : IC := .reg false [zv 41 (.bld [(.int .i64 0), (.int .i64 0), (.int .i64 0), (.str []), .nils] []), zn (.st 5 (.agg [.id, .id, .id, .id, (.sl 5)]) (.t 2) (.t 41)), zv 3 (.mov (.c (.bool false)))]
def q7q : IC := .reg false [zm 42 0, zi 43 (.call (.c (.fn 32 [] [])) [((.t 42), .id)])]
def qbcq : IC := .reg false [zv 44 (.ld true 5 (.t 6)), zn (.st 5 (.agg [.id, .id, .id, .id, (.sl 5)]) (.t 2) (.t 44)), zv 3 (.mov (.c (.bool true)))]
def k0ba : IC := (.seq qbsy (.seq (.seq qbpn (.seq qbkk (.cond (.t 13) (.seq qbtp (.seq qbnj .ret)) .skip))) (.seq (.seq qbuj (.cond (.t 19) (.seq qbpa .ret) .skip)) (.seq (.seq qbo8 (.cond (.t 25) (.seq qbme .ret) .skip)) (.seq qbtk (.seq q7t (.seq (.seq q6k (.cond (.t 40) (.seq qbb9 .ret) .skip)) (.seq q7q (.seq qbcq .ret)))))))))
@[go_sem] def s0ba : List (RV × Co) := [(.c true 5 2, (.agg [.id, .id, .id, .id, (.sl 5)])), (.t 3, .id)]
theorem c0ba : cFun Tryz.prog 92 = some (45, k0ba, s0ba) := by kernel_rfl

def qb5p : IC := .reg false [zi 2 (.alo [(.int .i64 0), (.int .i64 0), (.int .i64 0), (.str []), .nils]), zv 3 (.mov (.c (.bool false)))]
def qb5o : IC := .reg false [zm 5 0, zi 6 (.call (.c (.fn 15 [] [])) [((.t 5), .id)]), zi 4 (.alo [(.int .i64 0), (.int .i64 0), (.int .i64 0), (.str [])]), zn (.st 4 .id (.t 4) (.t 6))]
def qb49 : IC := .reg false [zv 7 (.fad (.t 4) 0), zv 8 (.ld false 1 (.t 7))]
def qb14 : IC := .reg false [zv 10 (.bin .eql .no (.t 8) (.c (.int .i64 1))), zm 9 10]
def qb5b : IC := .reg false [zv 11 (.fad (.t 4) 1), zv 12 (.ld false 1 (.t 11)), zv 13 (.fad (.t 4) 3), zv 14 (.ld false 1 (.t 13)), zv 15 (.bld [(.int .i64 0), (.int .i64 0), (.int .i64 0), (.str []), .nils] [(0, 1, (.c (.int .i64 21))), (1, 1, (.t 12)), (3, 1, (.t 14))]), zn (.st 5 (.agg [.id, .id, .id, .id, (.sl 5)]) (.t 2) (.t 15)), zv 3 (.mov (.c (.bool true)))]
def qby7 : IC := .reg false [zv 17 (.bin .eql .no (.t 8) (.c (.int .i64 2))), zm 16 17]
def qb4h : IC := .reg false [zv 18 (.fad (.t 4) 1), zv 19 (.ld false 1 (.t 18)), zv 20 (.fad (.t 4) 3), zv 21 (.ld false 1 (.t 20)), zv 22 (.bld [(.int .i64 0), (.int .i64 0), (.int .i64 0), (.str []), .nils] [(0, 1, (.c (.int .i64 22))), (1, 1, (.t 19)), (3, 1, (.t 21))]), zn (.st 5 (.agg [.id, .id, .id, .id, (.sl 5)]) (.t 2) (.t 22)), zv 3 (.mov (.c (.bool true)))]
def qb1e : IC := .reg false [zv 24 (.bin .eql .no (.t 8) (.c (.int .i64 3))), zm 23 24]
def qbzv : IC := .reg false [zv 25 (.fad (.t 4) 1), zv 26 (.ld false 1 (.t 25)), zv 27 (.fad (.t 4) 2), zv 28 (.ld false 1 (.t 27)), zv 29 (.bld [(.int .i64 0), (.int .i64 0), (.int .i64 0), (.str []), .nils] [(0, 1, (.c (.int .i64 23))), (1, 1, (.t 26)), (2, 1, (.t 28))]), zn (.st 5 (.agg [.id, .id, .id, .id, (.sl 5)]) (.t 2) (.t 29)), zv 3 (.mov (.c (.bool true)))]
def qb0w : IC := .reg false [zv 30 (.bld [(.int .i64 0), (.int .i64 0), (.int .i64 0), (.str []), .nils] []), zn (.st 5 (.agg [.id, .id, .id, .id, (.sl 5)]) (.t 2) (.t 30)), zv 3 (.mov (.c (.bool false)))]
def k0z : IC := (.seq qb5p (.seq qb5o (.seq (.seq qb49 (.block 0 (.seq qb14 (.cond (.t 9) (.seq qb5b .ret) (.seq qby7 (.cond (.t 16) (.seq qb4h .ret) (.seq qb1e (.cond (.t 23) (.seq qbzv .ret) .skip)))))))) (.seq qb0w .ret))))
@[go_sem] def s0z : List (RV × Co) := [(.c true 5 2, (.agg [.id, .id, .id, .id, (.sl 5)])), (.t 3, .id)]
theorem c0z : cFun Tryz.prog 93 = some (31, k0z, s0z) := by kernel_rfl

def qb3e : IC := .reg false [zi 1 (.box (.t 0)), zi 2 (.alo [.nils, (.int .i64 0), (.int .i64 0), (.int .i64 0), (.str []), (.int .i64 0), (.int .i64 0), (.int .i64 0)]), zv 3 (.mov (.c (.bool false)))]
def qb0m : IC := .reg false [zv 6 (.ld true 8 (.t 1)), zi 7 (.call (.c (.fn 25 [] [])) [((.t 6), (.agg [(.sl 4), .id, .id, .id, .id, .id, .id, .id])), ((.c (.str [59])), .id)]), zm 5 7, zv 8 (.ext (.t 5) 0), zv 9 (.ext (.t 5) 1), zn (.st 8 (.agg [(.sl 4), .id, .id, .id, .id, .id, .id, .id]) (.t 1) (.t 8)), zm 4 9]
def qb6f : IC := .drw [zp (zv 10 (.ld true 8 (.t 1))), zp (zm 11 4), zp (zm 12 11), zp (zw 12 true 13 (.ld true 8 (.t 1))), (⟨some (12, true), some 14, .call (.c (.fn 52 [] [])) [((.t 13), (.agg [(.sl 4), .id, .id, .id, .id, .id, .id, .id])), ((.c (.str [125])), .id)]⟩, [0]), zp (zw 12 true 15 (.un .not (.t 14))), zp (zv 16 (.pick (.t 12) (.t 15) (.c (.bool false)))), (zn (.st 8 (.agg [(.sl 4), .id, .id, .id, .id, .id, .id, .id]) (.t 2) (.t 10)), []), zp (zm 3 16)]
def k0m : IC := (.seq qb3e (.seq qb0m (.seq qb6f .ret)))
@[go_sem] def s0m : List (RV × Co) := [(.c true 8 2, (.agg [(.sl 4), .id, .id, .id, .id, .id, .id, .id])), (.t 3, .id)]
theorem c0m : cFun Tryz.prog 94 = some (17, k0m, s0m) := by kernel_rfl

def qbxa : IC := .reg false [zi 1 (.box (.t 0)), zi 2 (.alo [.nils, (.int .i64 0), (.int .i64 0), (.int .i64 0), (.str []), (.int .i64 0), (.int .i64 0), (.int .i64 0)]), zi 3 (.alo [(.int .i64 0), (.int .i64 0), (.int .i64 0), (.str []), .nils])]
def qbtf : IC := .reg false [zv 11 (.ld true 8 (.t 1)), zi 12 (.call (.c (.fn 33 [] [])) [((.t 11), (.agg [(.sl 4), .id, .id, .id, .id, .id, .id, .id]))]), zm 10 12, zv 13 (.ext (.t 10) 0), zv 14 (.ext (.t 10) 1), zn (.st 8 (.agg [(.sl 4), .id, .id, .id, .id, .id, .id, .id]) (.t 1) (.t 13))]
def qbjx : IC := .reg false [zv 15 (.ld true 8 (.t 1)), zi 16 (.call (.c (.fn 16 [] [])) [((.t 15), (.agg [(.sl 4), .id, .id, .id, .id, .id, .id, .id]))]), zv 17 (.fld false 1 0 (.t 16)), zv 18 (.bin .neq .no (.t 17) (.c (.int .i64 2)))]
def qbr7 : IC := .reg false [zv 20 (.ld true 8 (.t 1)), zi 21 (.call (.c (.fn 120 [] [])) [((.t 20), (.agg [(.sl 4), .id, .id, .id, .id, .id, .id, .id]))]), zm 19 21, zv 22 (.ext (.t 19) 0), zv 23 (.ext (.t 19) 1), zi 4 (.alo [.nils, (.int .i64 0), (.int .i64 0), (.int .i64 0), (.str []), (.int .i64 0), (.int .i64 0), (.int .i64 0)]), zi 5 (.alo [(.int .i64 0), (.int .i64 0), (.int .i64 0), (.str []), .nils]), zn (.st 8 (.agg [(.sl 4), .id, .id, .id, .id, .id, .id, .id]) (.t 4) (.t 22)), zn (.st 5 (.agg [.id, .id, .id, .id, (.sl 5)]) (.t 5) (.t 23))]
def qbly : IC := .drw [zp (zv 24 (.ld true 8 (.t 4))), (zi 25 (.call (.c (.fn 35 [] [])) [((.t 24), (.agg [(.sl 4), .id, .id, .id, .id, .id, .id, .id]))]), []), (zv 26 (.ld true 5 (.t 5)), [1]), (zn (.st 8 (.agg [(.sl 4), .id, .id, .id, .id, .id, .id, .id]) (.t 2) (.t 25)), [2]), (zn (.st 5 (.agg [.id, .id, .id, .id, (.sl 5)]) (.t 3) (.t 26)), [])]
def qbw2 : IC := .reg false [zv 28 (.ld true 8 (.t 1)), zi 29 (.call (.c (.fn 51 [] [])) [((.t 28), (.agg [(.sl 4), .id, .id, .id, .id, .id, .id, .id]))]), zm 27 29, zv 30 (.ext (.t 27) 0), zv 31 (.ext (.t 27) 1), zi 6 (.alo [(.int .i64 0), (.int .i64 0), (.int .i64 0), (.str [])]), zn (.st 8 (.agg [(.sl 4), .id, .id, .id, .id, .id, .id, .id]) (.t 1) (.t 30)), zn (.st 4 .id (.t 6) (.t 31))]
def qbhw : IC := .reg false [zv 32 (.fad (.t 6) 1), zv 33 (.ld false 1 (.t 32)), zv 34 (.fad (.t 6) 3), zv 35 (.ld false 1 (.t 34)), zv 36 (.bld [(.int .i64 0), (.int .i64 0), (.int .i64 0), (.str []), .nils] [(0, 1, (.c (.int .i64 14))), (1, 1, (.t 33)), (3, 1, (.t 35))]), zi 7 (.alo [(.int .i64 0), (.int .i64 0), (.int .i64 0), (.str []), .nils]), zn (.st 5 (.agg [.id, .id, .id, .id, (.sl 5)]) (.t 7) (.t 36))]
def qboj : IC := .reg false [zv 37 (.ld true 8 (.t 1)), zi 38 (.call (.c (.fn 121 [] [])) [((.t 37), (.agg [(.sl 4), .id, .id, .id, .id, .id, .id, .id]))])]
def qbg2 : IC := .reg false [zv 40 (.ld true 8 (.t 1)), zi 41 (.call (.c (.fn 120 [] [])) [((.t 40), (.agg [(.sl 4), .id, .id, .id, .id, .id, .id, .id]))]), zm 39 41, zv 42 (.ext (.t 39) 0), zv 43 (.ext (.t 39) 1), zi 8 (.alo [.nils, (.int .i64 0), (.int .i64 0), (.int .i64 0), (.str []), (.int .i64 0), (.int .i64 0), (.int .i64 0)]), zi 9 (.alo [(.int .i64 0), (.int .i64 0), (.int .i64 0), (.str []), .nils]), zn (.st 8 (.agg [(.sl 4), .id, .id, .id, .id, .id, .id, .id]) (.t 8) (.t 42)), zn (.st 5 (.agg [.id, .id, .id, .id, (.sl 5)]) (.t 9) (.t 43))]
def q85 : IC := .reg false [zv 44 (.ld true 8 (.t 8)), zn (.st 8 (.agg [(.sl 4), .id, .id, .id, .id, .id, .id, .id]) (.t 1) (.t 44))]
def q5h : IC := .reg false [zv 45 (.fad (.t 7) 4), zv 46 (.ld false 1 (.t 45)), zv 47 (.ld true 5 (.t 9)), zv 48 (.bsl 5 [((.t 47), (.agg [.id, .id, .id, .id, (.sl 5)]))]), zi 49 (.app 5 (.agg [(.int .i64 0), (.int .i64 0), (.int .i64 0), (.str []), .nils]) 64 (.sl 5) (.t 46) (.t 48)), zv 50 (.fad (.t 7) 4), zn (.st 1 (.sl 5) (.t 50) (.t 49))]
def qbik : IC := (.seq (.seq qboj (.cond (.t 38) .skip (.exit 0))) (.block 1 (.seq qbg2 (.seq q85 q5h))))
def q6z : IC := .drw [zp (zv 51 (.ld true 8 (.t 1))), (zi 52 (.call (.c (.fn 35 [] [])) [((.t 51), (.agg [(.sl 4), .id, .id, .id, .id, .id, .id, .id]))]), []), (zv 53 (.ld true 5 (.t 7)), [1]), (zn (.st 8 (.agg [(.sl 4), .id, .id, .id, .id, .id, .id, .id]) (.t 2) (.t 52)), [2]), (zn (.st 5 (.agg [.id, .id, .id, .id, (.sl 5)]) (.t 3) (.t 53)), [])]
def k0be : IC := (.seq qbxa (.seq qbtf (.seq (.seq qbjx (.cond (.t 18) (.seq qbr7 (.seq qbly .ret)) .skip)) (.seq qbw2 (.seq qbhw (.seq (.block 0 (.loop qbik)) (.seq q6z .ret)))))))
@[go_sem] def s0be : List (RV × Co) := [(.c true 8 2, (.agg [(.sl 4), .id, .id, .id, .id, .id, .id, .id])), (.c true 5 3, (.agg [.id, .id, .id, .id, (.sl 5)]))]
theorem c0be : cFun Tryz.prog 95 = some (54, k0be, s0be) := by kernel_rfl

def qbnd : IC := .reg false [zv 6 (.ld false 1 (.t 1)), zi 7 (.call (.c (.fn 97 [] [])) [((.t 6), .id)]), zm 3 7]
def qbeu : IC := .reg false [zm 8 3, zv 9 (.ld false 1 (.t 1)), zv 10 (.len true (.t 9)), zv 11 (.bin .lss .no (.t 8) (.t 10))]
def qbv9 : IC := .reg false [zv 13 (.ld false 1 (.t 1)), zm 14 3, zv 15 (.sls (.t 13) (some (.t 14)) none), zi 16 (.call (.c (.fn 98 [] [])) [((.t 15), .id)]), zm 12 16, zv 17 (.ext (.t 12) 0), zv 18 (.ext (.t 12) 1), zi 4 (.alo [(.int .i64 0), (.int .i64 0), (.int .i64 0), (.str [])]), zn (.st 4 .id (.t 4) (.t 17)), zm 5 18]
def qbr3 : IC := .reg false [zm 19 3, zv 20 (.fad (.t 4) 1), zn (.st 1 .id (.t 20) (.t 19))]
def qbry : IC := .reg false [zm 21 0, zv 22 (.ld true 4 (.t 4)), zm 23 5, zi 24 (.call (.t 21) [((.t 22), .id), ((.t 23), .id)]), zv 25 (.un .not (.t 24))]
def qbjy : IC := .reg false [zm 26 3, zv 27 (.fad (.t 4) 3), zv 28 (.ld false 1 (.t 27)), zv 29 (.len true (.t 28)), zv 30 (.bin .add .no (.t 26) (.t 29)), zm 3 30]
def qbfj : IC := .reg false [zm 31 3, zv 32 (.ld false 1 (.t 1)), zm 33 3, zv 34 (.sls (.t 32) (some (.t 33)) none), zi 35 (.call (.c (.fn 97 [] [])) [((.t 34), .id)]), zv 36 (.bin .add .no (.t 31) (.t 35)), zm 3 36]
def qbqf : IC := (.seq (.seq qbeu (.cond (.t 11) .skip (.exit 0))) (.block 1 (.seq qbv9 (.seq qbr3 (.seq (.seq qbry (.cond (.t 25) .ret .skip)) (.seq qbjy qbfj))))))
def k0da : IC := (.seq qbnd (.block 0 (.loop qbqf)))
@[go_sem] def s0da : List (RV × Co) := []
theorem c0da : cFun Tryz.prog 96 = some (37, k0da, s0da) := by kernel_rfl

def qbxz : IC := .reg false [zv 2 (.mov (.c (.int .i64 0)))]
def qbor : IC := .reg false [zv 3 (.mov (.c (.int .i64 0)))]
def qblu : IC := .reg false [zm 5 0, zm 6 3, zv 7 (.sls (.t 5) (some (.t 6)) none), zi 8 (.call (.c (.fn 122 [] [])) [((.t 7), .id), ((.c (.fn 123 [] [])), .id)]), zm 4 8]
def qbo9 : IC := .reg false [zm 9 0, zm 10 3, zm 11 4, zv 12 (.bin .add .no (.t 10) (.t 11)), zv 13 (.sls (.t 9) (some (.t 12)) none), zi 14 (.call (.c (.fn 124 [] [])) [((.t 13), .id), ((.c (.str [45, 45])), .id)])]
def qbwe : IC := .reg false [zm 15 4, zm 16 0, zm 17 3, zm 18 4, zv 19 (.bin .add .no (.t 17) (.t 18)), zv 20 (.sls (.t 16) (some (.t 19)) none), zi 21 (.call (.c (.fn 122 [] [])) [((.t 20), .id), ((.c (.fn 125 [] [])), .id)]), zv 22 (.bin .add .no (.t 15) (.t 21)), zm 4 22]
def qbho : IC := .reg false [zm 23 4, zv 24 (.bin .eql .no (.t 23) (.c (.int .i64 0)))]
def qbnk : IC := .reg false [zm 25 3, zm 2 25]
def qbw5 : IC := .reg false [zm 26 3, zm 27 4, zv 28 (.bin .add .no (.t 26) (.t 27)), zm 3 28]
def qblp : IC := (.block 1 (.seq qblu (.seq (.seq qbo9 (.cond (.t 14) qbwe .skip)) (.seq (.seq qbho (.cond (.t 24) (.seq qbnk .ret) .skip)) qbw5))))
def k0dn : IC := (.seq qbxz (.seq qbor (.block 0 (.loop qblp))))
@[go_sem] def s0dn : List (RV × Co) := [(.t 2, .id)]
theorem c0dn : cFun Tryz.prog 97 = some (29, k0dn, s0dn) := by kernel_rfl

def qbwq : IC := .reg false [zi 2 (.alo [(.int .i64 0), (.int .i64 0), (.int .i64 0), (.str [])]), zv 3 (.mov (.c (.int .i64 0)))]
def qbuo : IC := .reg false [zm 9 0, zv 10 (.idx (.t 9) (.c (.int .i64 0))), zm 4 10]
def qbeq : IC := .reg false [zm 12 4, zi 13 (.call (.c (.fn 126 [] [])) [((.t 12), .id)]), zm 11 13]
def qbql : IC := .reg false [zm 14 0, zm 15 0, zi 16 (.call (.c (.fn 122 [] [])) [((.t 15), .id), ((.c (.fn 126 [] [])), .id)]), zv 17 (.sls (.t 14) none (some (.t 16))), zm 5 17]
def qbfe : IC := .reg false [zm 19 5, zi 20 (.call (.c (.fn 127 [] [])) [((.t 19), .id)]), zm 18 20, zv 21 (.ext (.t 18) 0), zv 22 (.ext (.t 18) 1), zm 6 21, zm 7 22]
def qbnu : IC := .reg false [zm 23 6, zm 24 5, zv 25 (.bld [(.int .i64 0), (.int .i64 0), (.int .i64 0), (.str [])] [(0, 1, (.c (.int .i64 3))), (2, 1, (.t 23)), (3, 1, (.t 24))]), zm 26 7, zn (.st 4 .id (.t 2) (.t 25)), zm 3 26]
def qbib : IC := .reg false [zm 28 4, zi 29 (.call (.c (.fn 128 [] [])) [((.t 28), .id)]), zm 30 29, zw 30 true 31 (.mov (.t 4)), zw 30 true 32 (.bin .neq .no (.t 31) (.c (.int .u8 39))), zv 33 (.pick (.t 30) (.t 32) (.c (.bool false))), zm 27 33]
def qbfg : IC := .reg false [zm 34 0, zm 35 0, zi 36 (.call (.c (.fn 122 [] [])) [((.t 35), .id), ((.c (.fn 128 [] [])), .id)]), zv 37 (.sls (.t 34) none (some (.t 36))), zi 38 (.call (.c (.fn 129 [] [])) [((.t 37), .id)]), zn (.st 4 .id (.t 2) (.t 38)), zv 3 (.mov (.c (.int .i64 0)))]
def qbxo : IC := .reg false [zm 39 0, zi 40 (.call (.c (.fn 130 [] [])) [((.t 39), .id)]), zm 8 40]
def qblz : IC := .reg false [zm 41 8, zv 42 (.bin .eql .no (.t 41) (.c (.int .i64 0)))]
def qbc2 : IC := .reg false [zv 43 (.bld [(.int .i64 0), (.int .i64 0), (.int .i64 0), (.str [])] []), zn (.st 4 .id (.t 2) (.t 43)), zv 3 (.mov (.c (.int .i64 3)))]
def q7w : IC := .reg false [zm 44 0, zm 45 8, zv 46 (.sls (.t 44) none (some (.t 45))), zv 47 (.bld [(.int .i64 0), (.int .i64 0), (.int .i64 0), (.str [])] [(0, 1, (.c (.int .i64 5))), (3, 1, (.t 46))]), zn (.st 4 .id (.t 2) (.t 47)), zv 3 (.mov (.c (.int .i64 0)))]
def k0df : IC := (.seq qbwq (.seq (.seq qbuo (.block 0 (.seq qbeq (.cond (.t 11) (.seq qbql (.seq qbfe (.seq qbnu .ret))) (.seq qbib (.cond (.t 27) (.seq qbfg .ret) .skip)))))) (.seq qbxo (.seq (.seq qblz (.cond (.t 42) (.seq qbc2 .ret) .skip)) (.seq q7w .ret)))))
@[go_sem] def s0df : List (RV × Co) := [(.c true 4 2, .id), (.t 3, .id)]
theorem c0df : cFun Tryz.prog 98 = some (48, k0df, s0df) := by kernel_rfl

def qbe2 : IC := .reg false [zv 4 (.ld true 5 (.t 1)), zv 5 (.ld false 1 (.t 2)), zm 6 0, zi 7 (.call (.c (.fn 100 [] [])) [((.t 4), (.agg [.id, .id, .id, .id, (.sl 5)])), ((.t 5), .id), ((.t 6), .id)])]
def k0er : IC := qbe2
@[go_sem] def s0er : List (RV × Co) := []
theorem c0er : cFun Tryz.prog 99 = some (8, k0er, s0er) := by kernel_rfl

def qbug : IC := .reg false [zi 3 (.box (.t 0)), zv 6 (.mov (.c (.bool false)))]
def qbsm : IC := .reg false [zm 9 2, zm 10 1, zv 11 (.ld true 5 (.t 3)), zi 12 (.call (.t 9) [((.t 10), .id), ((.t 11), (.agg [.id, .id, .id, .id, (.sl 5)]))]), zv 13 (.un .not (.t 12))]
def qbg0 : IC := .reg false [zv 6 (.mov (.c (.bool false)))]
def qbl7 : IC := .reg false [zv 14 (.fad (.t 3) 4), zv 15 (.ld false 1 (.t 14)), zv 16 (.len false (.t 15)), zv 17 (.mov (.c (.int .i64 0)))]
def qbiw : IC := .reg false [zv 18 (.bin .lss .no (.t 17) (.t 16))]
def qbkp : IC := .reg false [zv 19 (.iad 5 (.t 15) (.t 17)), zv 20 (.ld true 5 (.t 19)), zi 8 (.alo [(.int .i64 0), (.int .i64 0), (.int .i64 0), (.str []), .nils]), zn (.st 5 (.agg [.id, .id, .id, .id, (.sl 5)]) (.t 8) (.t 20))]
def qbhf : IC := .reg false [zv 21 (.ld true 5 (.t 8)), zm 22 1, zv 23 (.bin .add .no (.t 22) (.c (.int .i64 1))), zm 24 2, zi 25 (.call (.c (.fn 100 [] [])) [((.t 21), (.agg [.id, .id, .id, .id, (.sl 5)])), ((.t 23), .id), ((.t 24), .id)]), zv 26 (.un .not (.t 25))]
def qbx3 : IC := .reg false [zv 6 (.mov (.c (.bool false)))]
def qbgx : IC := .reg false [zv 27 (.bin .add .no (.t 17) (.c (.int .i64 1))), zm 17 27]
def qbhj : IC := (.seq qbiw (.seq (.cond (.t 18) .skip (.exit 0)) (.seq (.block 1 (.seq qbkp (.seq qbhf (.cond (.t 26) (.seq qbx3 .ret) .skip)))) qbgx)))
def qbas : IC := .reg false [zv 6 (.mov (.c (.bool true)))]
def k0eq : IC := (.seq qbug (.seq (.seq qbsm (.cond (.t 13) (.seq qbg0 .ret) .skip)) (.seq (.seq qbl7 (.block 0 (.loop qbhj))) (.seq qbas .ret))))
@[go_sem] def s0eq : List (RV × Co) := [(.t 6, .id)]
theorem c0eq : cFun Tryz.prog 100 = some (28, k0eq, s0eq) := by kernel_rfl

def qbmr : IC := .reg false [zv 2 (.mov (.c (.bool false)))]
def qbxd : IC := .reg false [zm 3 0, zv 4 (.bin .geq .no (.t 3) (.c (.int .u8 48))), zm 5 4, zw 5 true 6 (.mov (.t 0)), zw 5 true 7 (.bin .leq .no (.t 6) (.c (.int .u8 57))), zv 8 (.pick (.t 5) (.t 7) (.c (.bool false))), zm 2 8]
def k0du : IC := (.seq qbmr (.seq qbxd .ret))
@[go_sem] def s0du : List (RV × Co) := [(.t 2, .id)]
theorem c0du : cFun Tryz.prog 101 = some (9, k0du, s0du) := by kernel_rfl

def qblq : IC := .reg false [zv 2 (.mov (.c (.int .i64 0))), zv 3 (.mov (.c (.int .i64 0)))]
def qbft : IC := .reg false [zm 8 0, zv 9 (.bin .eql .no (.t 8) (.c (.str [])))]
def qbh6 : IC := .reg false [zv 2 (.mov (.c (.int .i64 0))), zv 3 (.mov (.c (.int .i64 5)))]
def qbwp : IC := .reg false [zv 4 (.mov (.c (.int .i64 0)))]
def qboc : IC := .reg false [zm 10 4, zm 11 0, zv 12 (.len true (.t 11)), zv 13 (.bin .lss .no (.t 10) (.t 12))]
def qbyc : IC := .reg false [zm 16 0, zm 17 4, zv 18 (.idx (.t 16) (.t 17)), zv 19 (.bin .lss .no (.t 18) (.c (.int .u8 48))), zm 20 19, zw 20 false 21 (.mov (.t 0)), zw 20 false 22 (.mov (.t 4)), zw 20 false 23 (.idx (.t 21) (.t 22)), zw 20 false 24 (.bin .gtr .no (.t 23) (.c (.int .u8 57))), zv 25 (.pick (.t 20) (.c (.bool true)) (.t 24))]
def qbpu : IC := .reg false [zv 2 (.mov (.c (.int .i64 0))), zv 3 (.mov (.c (.int .i64 5)))]
def qbd0 : IC := .reg false [zm 14 4, zv 15 (.bin .add .no (.t 14) (.c (.int .i64 1))), zm 4 15]
def qbfi : IC := (.seq (.seq qboc (.cond (.t 13) .skip (.exit 0))) (.seq (.block 1 (.seq qbyc (.cond (.t 25) (.seq qbpu .ret) .skip))) qbd0))
def q89 : IC := .reg false [zv 5 (.mov (.c (.int .i64 0)))]
def qbb7 : IC := .reg false [zv 6 (.mov (.c (.int .i64 0)))]
def q87 : IC := .reg false [zm 26 6, zm 27 0, zv 28 (.len true (.t 27)), zv 29 (.bin .lss .no (.t 26) (.t 28))]
def q8x : IC := .reg false [zm 32 0, zm 33 6, zv 34 (.idx (.t 32) (.t 33)), zv 35 (.bin .sub .no (.t 34) (.c (.int .u8 48))), zv 36 (.cvi .i64 (.t 35)), zm 7 36]
def q8n : IC := .reg false [zm 37 5, zm 38 7, zv 39 (.bin .sub .no (.c (.int .i64 9223372036854775807)) (.t 38)), zv 40 (.bin .quo .no (.t 39) (.c (.int .i64 10))), zv 41 (.bin .gtr .no (.t 37) (.t 40))]
def qbcd : IC := .reg false [zv 2 (.mov (.c (.int .i64 0))), zv 3 (.mov (.c (.int .i64 4)))]
def qban : IC := .reg false [zm 42 5, zv 43 (.bin .mul .no (.c (.int .i64 10)) (.t 42)), zm 44 7, zv 45 (.bin .add .no (.t 43) (.t 44)), zm 5 45]
def q6i : IC := .reg false [zm 30 6, zv 31 (.bin .add .no (.t 30) (.c (.int .i64 1))), zm 6 31]
def q8d : IC := (.seq (.seq q87 (.cond (.t 29) .skip (.exit 2))) (.seq (.block 3 (.seq q8x (.seq (.seq q8n (.cond (.t 41) (.seq qbcd .ret) .skip)) qban))) q6i))
def qbak : IC := .reg false [zm 46 5, zm 2 46, zv 3 (.mov (.c (.int .i64 0)))]
def k0do : IC := (.seq qblq (.seq (.seq qbft (.cond (.t 9) (.seq qbh6 .ret) .skip)) (.seq (.seq qbwp (.block 0 (.loop qbfi))) (.seq q89 (.seq (.seq qbb7 (.block 2 (.loop q8d))) (.seq qbak .ret))))))
@[go_sem] def s0do : List (RV × Co) := [(.t 2, .id), (.t 3, .id)]
theorem c0do : cFun Tryz.prog 102 = some (47, k0do, s0do) := by kernel_rfl

def qbjv : IC := .reg false [zv 2 (.mov (.c (.bool false)))]
def qbe9 : IC := .reg false [zm 3 0, zv 4 (.bin .geq .no (.t 3) (.c (.int .u8 97))), zm 5 4, zw 5 true 6 (.mov (.t 0)), zw 5 true 7 (.bin .leq .no (.t 6) (.c (.int .u8 122))), zv 8 (.pick (.t 5) (.t 7) (.c (.bool false))), zm 9 8, zw 9 false 10 (.mov (.t 0)), zw 9 false 11 (.bin .eql .no (.t 10) (.c (.int .u8 95))), zv 12 (.pick (.t 9) (.c (.bool true)) (.t 11)), zm 2 12]
def k0dr : IC := (.seq qbjv (.seq qbe9 .ret))
@[go_sem] def s0dr : List (RV × Co) := [(.t 2, .id)]
theorem c0dr : cFun Tryz.prog 103 = some (13, k0dr, s0dr) := by kernel_rfl

def qbgz : IC := .reg false [zv 2 (.mov (.c (.bool false)))]
def qbr0 : IC := .reg false [zm 3 0, zv 4 (.bin .geq .no (.t 3) (.c (.int .u8 65))), zm 5 4, zw 5 true 6 (.mov (.t 0)), zw 5 true 7 (.bin .leq .no (.t 6) (.c (.int .u8 90))), zv 8 (.pick (.t 5) (.t 7) (.c (.bool false))), zm 2 8]
def k0dt : IC := (.seq qbgz (.seq qbr0 .ret))
@[go_sem] def s0dt : List (RV × Co) := [(.t 2, .id)]
theorem c0dt : cFun Tryz.prog 104 = some (9, k0dt, s0dt) := by kernel_rfl

def qbdu : IC := .reg false [zv 2 (.mov (.c (.bool false)))]
def qbid : IC := .reg false [zm 3 0, zi 4 (.call (.c (.fn 103 [] [])) [((.t 3), .id)]), zm 5 4, zw 5 false 6 (.mov (.t 0)), ⟨some (5, false), some 7, .call (.c (.fn 104 [] [])) [((.t 6), .id)]⟩, zv 8 (.pick (.t 5) (.c (.bool true)) (.t 7)), zm 9 8, zw 9 false 10 (.mov (.t 0)), ⟨some (9, false), some 11, .call (.c (.fn 101 [] [])) [((.t 10), .id)]⟩, zv 12 (.pick (.t 9) (.c (.bool true)) (.t 11)), zm 13 12, zw 13 false 14 (.mov (.t 0)), zw 13 false 15 (.bin .eql .no (.t 14) (.c (.int .u8 39))), zv 16 (.pick (.t 13) (.c (.bool true)) (.t 15)), zm 2 16]
def k0dv : IC := (.seq qbdu (.seq qbid .ret))
@[go_sem] def s0dv : List (RV × Co) := [(.t 2, .id)]
theorem c0dv : cFun Tryz.prog 105 = some (17, k0dv, s0dv) := by kernel_rfl

def qbix : IC := .reg false [zv 2 (.mov (.c (.bool false)))]
def qber : IC := .reg false [zm 3 0]
def qbsh : IC := .reg false [zv 5 (.bin .eql .no (.t 3) (.c (.str [100, 97, 116, 97]))), zm 4 5]
def qbi9 : IC := .reg false [zv 6 (.bin .eql .no (.t 3) (.c (.str [99, 108, 97, 115, 115]))), zm 4 6]
def qbq4 : IC := .reg false [zv 7 (.bin .eql .no (.t 3) (.c (.str [105, 110, 115, 116, 97, 110, 99, 101]))), zm 4 7]
def qbvb : IC := .reg false [zv 8 (.bin .eql .no (.t 3) (.c (.str [119, 104, 101, 114, 101]))), zm 4 8]
def qbu5 : IC := .reg false [zv 9 (.bin .eql .no (.t 3) (.c (.str [108, 101, 116]))), zm 4 9]
def qbiy : IC := .reg false [zv 10 (.bin .eql .no (.t 3) (.c (.str [105, 110]))), zm 4 10]
def qbwl : IC := .reg false [zv 11 (.bin .eql .no (.t 3) (.c (.str [99, 97, 115, 101]))), zm 4 11]
def qbf4 : IC := .reg false [zv 12 (.bin .eql .no (.t 3) (.c (.str [111, 102]))), zm 4 12]
def q7b : IC := .reg false [zv 13 (.bin .eql .no (.t 3) (.c (.str [105, 102]))), zm 4 13]
def q5p : IC := .reg false [zv 14 (.bin .eql .no (.t 3) (.c (.str [116, 104, 101, 110]))), zm 4 14]
def q84 : IC := .reg false [zv 15 (.bin .eql .no (.t 3) (.c (.str [101, 108, 115, 101]))), zm 4 15]
def q7y : IC := .reg false [zv 2 (.mov (.c (.bool true)))]
def qbbw : IC := .reg false [zv 2 (.mov (.c (.bool false)))]
def k0dx : IC := (.seq qbix (.seq (.seq qber (.block 0 (.seq (.seq qbsh (.cond (.t 4) .skip (.seq qbi9 (.cond (.t 4) .skip (.seq qbq4 (.cond (.t 4) .skip (.seq qbvb (.cond (.t 4) .skip (.seq qbu5 (.cond (.t 4) .skip (.seq qbiy (.cond (.t 4) .skip (.seq qbwl (.cond (.t 4) .skip (.seq qbf4 (.cond (.t 4) .skip (.seq q7b (.cond (.t 4) .skip (.seq q5p (.cond (.t 4) .skip q84)))))))))))))))))))) (.cond (.t 4) (.seq q7y .ret) .skip)))) (.seq qbbw .ret)))
@[go_sem] def s0dx : List (RV × Co) := [(.t 2, .id)]
theorem c0dx : cFun Tryz.prog 106 = some (16, k0dx, s0dx) := by kernel_rfl

def qbu8 : IC := .reg false [zv 2 (.mov (.c (.str [])))]
def qbhb : IC := .reg false [zm 3 0, zv 4 (.len true (.t 3)), zv 5 (.bin .geq .no (.t 4) (.c (.int .i64 2)))]
def qbi7 : IC := .reg false [zm 6 0, zv 7 (.sls (.t 6) none (some (.c (.int .i64 2))))]
def qbmt : IC := .reg false [zv 9 (.bin .eql .no (.t 7) (.c (.str [45, 62]))), zm 8 9]
def qbpb : IC := .reg false [zv 10 (.bin .eql .no (.t 7) (.c (.str [61, 62]))), zm 8 10]
def qbsl : IC := .reg false [zv 11 (.bin .eql .no (.t 7) (.c (.str [58, 58]))), zm 8 11]
def qbmk : IC := .reg false [zm 12 0, zv 13 (.sls (.t 12) none (some (.c (.int .i64 2)))), zm 2 13]
def qbqy : IC := .reg false [zm 14 0, zv 15 (.idx (.t 14) (.c (.int .i64 0)))]
def qbua : IC := .reg false [zv 17 (.bin .eql .no (.t 15) (.c (.int .u8 40))), zm 16 17]
def qbfo : IC := .reg false [zv 18 (.bin .eql .no (.t 15) (.c (.int .u8 41))), zm 16 18]
def qbal : IC := .reg false [zv 19 (.bin .eql .no (.t 15) (.c (.int .u8 123))), zm 16 19]
def q9n : IC := .reg false [zv 20 (.bin .eql .no (.t 15) (.c (.int .u8 125))), zm 16 20]
def q77 : IC := .reg false [zv 21 (.bin .eql .no (.t 15) (.c (.int .u8 59))), zm 16 21]
def qbbq : IC := .reg false [zv 22 (.bin .eql .no (.t 15) (.c (.int .u8 44))), zm 16 22]
def q9x : IC := .reg false [zv 23 (.bin .eql .no (.t 15) (.c (.int .u8 61))), zm 16 23]
def qbch : IC := .reg false [zv 24 (.bin .eql .no (.t 15) (.c (.int .u8 124))), zm 16 24]
def q7a : IC := .reg false [zv 25 (.bin .eql .no (.t 15) (.c (.int .u8 92))), zm 16 25]
def qbbk : IC := .reg false [zm 26 0, zv 27 (.sls (.t 26) none (some (.c (.int .i64 1)))), zm 2 27]
def q8u : IC := .reg false [zv 2 (.mov (.c (.str [])))]
def k0de : IC := (.seq qbu8 (.seq (.seq qbhb (.cond (.t 5) (.seq qbi7 (.block 0 (.seq (.seq qbmt (.cond (.t 8) .skip (.seq qbpb (.cond (.t 8) .skip qbsl)))) (.cond (.t 8) (.seq qbmk .ret) .skip)))) .skip)) (.seq (.seq qbqy (.block 1 (.seq (.seq qbua (.cond (.t 16) .skip (.seq qbfo (.cond (.t 16) .skip (.seq qbal (.cond (.t 16) .skip (.seq q9n (.cond (.t 16) .skip (.seq q77 (.cond (.t 16) .skip (.seq qbbq (.cond (.t 16) .skip (.seq q9x (.cond (.t 16) .skip (.seq qbch (.cond (.t 16) .skip q7a)))))))))))))))) (.cond (.t 16) (.seq qbbk .ret) .skip)))) (.seq q8u .ret))))
@[go_sem] def s0de : List (RV × Co) := [(.t 2, .id)]
theorem c0de : cFun Tryz.prog 107 = some (28, k0de, s0de) := by kernel_rfl

def qbvw : IC := .reg false [zv 2 (.mov (.c (.bool false)))]
def qben : IC := .reg false [zm 3 0, zv 4 (.bin .geq .no (.t 3) (.c (.int .u8 97))), zm 5 4, zw 5 true 6 (.mov (.t 0)), zw 5 true 7 (.bin .leq .no (.t 6) (.c (.int .u8 122))), zv 8 (.pick (.t 5) (.t 7) (.c (.bool false))), zm 9 8, zw 9 false 10 (.mov (.t 0)), zw 9 false 11 (.bin .eql .no (.t 10) (.c (.int .u8 95))), zv 12 (.pick (.t 9) (.c (.bool true)) (.t 11)), zm 2 12]
def k0dq : IC := (.seq qbvw (.seq qben .ret))
@[go_sem] def s0dq : List (RV × Co) := [(.t 2, .id)]
theorem c0dq : cFun Tryz.prog 108 = some (13, k0dq, s0dq) := by kernel_rfl

def qbw4 : IC := .reg false [zv 2 (.mov (.c (.bool false)))]
def qbub : IC := .reg false [zm 5 0, zv 6 (.len true (.t 5)), zv 7 (.mov (.c (.int .i64 0)))]
def qbyo : IC := .reg false [zv 8 (.bin .lss .no (.t 7) (.t 6))]
def qbi1 : IC := .reg false [zm 9 7, zm 3 9]
def qbt0 : IC := .reg false [zm 10 0, zm 11 3, zv 12 (.idx (.t 10) (.t 11)), zm 4 12]
def qbk2 : IC := .reg false [zm 13 4, zi 14 (.call (.c (.fn 108 [] [])) [((.t 13), .id)]), zv 15 (.un .not (.t 14)), zm 16 15, zw 16 true 17 (.mov (.t 4)), ⟨some (16, true), some 18, .call (.c (.fn 111 [] [])) [((.t 17), .id)]⟩, zw 16 true 19 (.un .not (.t 18)), zv 20 (.pick (.t 16) (.t 19) (.c (.bool false))), zm 21 20, zw 21 true 22 (.mov (.t 4)), zw 21 true 23 (.bin .lss .no (.t 22) (.c (.int .u8 48))), zw 21 true 24 (.mov (.t 23)), zw 24 false 25 (.mov (.t 4)), zw 24 false 26 (.bin .gtr .no (.t 25) (.c (.int .u8 57))), zw 21 true 27 (.pick (.t 24) (.c (.bool true)) (.t 26)), zv 28 (.pick (.t 21) (.t 27) (.c (.bool false))), zm 29 28, zw 29 true 30 (.mov (.t 4)), zw 29 true 31 (.bin .neq .no (.t 30) (.c (.int .u8 39))), zv 32 (.pick (.t 29) (.t 31) (.c (.bool false)))]
def qbp4 : IC := .reg false [zv 2 (.mov (.c (.bool false)))]
def qbe0 : IC := .reg false [zv 33 (.bin .add .no (.t 7) (.c (.int .i64 1))), zm 7 33]
def qbpz : IC := (.seq qbyo (.seq (.cond (.t 8) .skip (.exit 0)) (.seq (.block 1 (.seq qbi1 (.seq qbt0 (.seq qbk2 (.cond (.t 32) (.seq qbp4 .ret) .skip))))) qbe0)))
def qbai : IC := .reg false [zv 2 (.mov (.c (.bool true)))]
def k0dw : IC := (.seq qbw4 (.seq (.seq qbub (.block 0 (.loop qbpz))) (.seq qbai .ret)))
@[go_sem] def s0dw : List (RV × Co) := [(.t 2, .id)]
theorem c0dw : cFun Tryz.prog 109 = some (34, k0dw, s0dw) := by kernel_rfl

def qblb : IC := .reg false [zv 2 (.mov (.c (.bool false)))]
def qbvp : IC := .reg false [zv 3 (.mov (.c (.bool false)))]
def qbl3 : IC := .reg false [zv 6 (.bld [(.str []), (.str []), (.str []), (.str []), (.str []), (.str []), (.str []), (.str []), (.str []), (.str []), (.str [])] [(0, 1, (.c (.str [100, 97, 116, 97]))), (1, 1, (.c (.str [99, 108, 97, 115, 115]))), (2, 1, (.c (.str [105, 110, 115, 116, 97, 110, 99, 101]))), (3, 1, (.c (.str [119, 104, 101, 114, 101]))), (4, 1, (.c (.str [108, 101, 116]))), (5, 1, (.c (.str [105, 110]))), (6, 1, (.c (.str [99, 97, 115, 101]))), (7, 1, (.c (.str [111, 102]))), (8, 1, (.c (.str [105, 102]))), (9, 1, (.c (.str [116, 104, 101, 110]))), (10, 1, (.c (.str [101, 108, 115, 101])))]), zv 7 (.mov (.c (.int .i64 0)))]
def qblm : IC := .reg false [zv 8 (.bin .lss .no (.t 7) (.c (.int .i64 11)))]
def qbsc : IC := .reg false [zv 9 (.ida false 1 11 (.t 6) (.t 7)), zm 5 9]
def qbmo : IC := .reg false [zm 10 5, zm 11 0, zv 12 (.bin .neq .no (.t 10) (.t 11))]
def qbn7 : IC := .reg false [zv 3 (.mov (.c (.bool true)))]
def qbj2 : IC := .reg false [zv 13 (.bin .add .no (.t 7) (.c (.int .i64 1))), zm 7 13]
def qbjg : IC := (.seq qblm (.seq (.cond (.t 8) .skip (.exit 0)) (.seq (.block 1 (.seq qbsc (.seq (.seq qbmo (.cond (.t 12) (.exit 1) .skip)) (.seq qbn7 (.exit 0))))) qbj2)))
def qba9 : IC := .reg false [zm 14 3, zm 2 14]
def k0dy : IC := (.seq qblb (.scope (.seq qbvp (.seq (.label 0) (.seq (.seq qbl3 (.block 0 (.loop qbjg))) (.seq qba9 .ret))))))
@[go_sem] def s0dy : List (RV × Co) := [(.t 2, .id)]
theorem c0dy : cFun Tryz.prog 110 = some (15, k0dy, s0dy) := by kernel_rfl

def qbss : IC := .reg false [zv 2 (.mov (.c (.bool false)))]
def qbuq : IC := .reg false [zm 3 0, zv 4 (.bin .geq .no (.t 3) (.c (.int .u8 65))), zm 5 4, zw 5 true 6 (.mov (.t 0)), zw 5 true 7 (.bin .leq .no (.t 6) (.c (.int .u8 90))), zv 8 (.pick (.t 5) (.t 7) (.c (.bool false))), zm 2 8]
def k0ds : IC := (.seq qbss (.seq qbuq .ret))
@[go_sem] def s0ds : List (RV × Co) := [(.t 2, .id)]
theorem c0ds : cFun Tryz.prog 111 = some (9, k0ds, s0ds) := by kernel_rfl

def qbs9 : IC := .reg false [zi 1 (.box (.t 0)), zv 2 (.mov (.c (.bool false)))]
def qbk0 : IC := .reg false [zv 4 (.fad (.t 1) 4), zv 5 (.ld false 1 (.t 4)), zv 6 (.len false (.t 5)), zv 7 (.bin .sub .no (.t 6) (.c (.int .i64 1))), zm 3 7]
def qbsr : IC := .reg false [zv 8 (.fad (.t 1) 0), zv 9 (.ld false 1 (.t 8)), zv 10 (.bin .eql .no (.t 9) (.c (.int .i64 4))), zm 11 10, zw 11 true 12 (.ld true 5 (.t 1)), ⟨some (11, true), some 13, .call (.c (.fn 73 [] [])) [((.t 12), (.agg [.id, .id, .id, .id, (.sl 5)]))]⟩, zv 14 (.pick (.t 11) (.t 13) (.c (.bool false))), zm 15 14, zw 15 true 16 (.mov (.t 3)), zw 15 true 17 (.bin .geq .no (.t 16) (.c (.int .i64 0))), zv 18 (.pick (.t 15) (.t 17) (.c (.bool false))), zm 19 18, zw 19 true 20 (.fad (.t 1) 4), zw 19 true 21 (.ld false 1 (.t 20)), zw 19 true 22 (.mov (.t 3)), zw 19 true 23 (.slv 5 (.t 21) none (some (.t 22)) none), ⟨some (19, true), some 24, .call (.c (.fn 74 [] [])) [((.t 23), (.sl 5)), ((.c (.fn 131 [] [])), .id)]⟩, zv 25 (.pick (.t 19) (.t 24) (.c (.bool false))), zm 26 25, zw 26 true 27 (.fad (.t 1) 4), zw 26 true 28 (.ld false 1 (.t 27)), zw 26 true 29 (.mov (.t 3)), zw 26 true 30 (.iad 5 (.t 28) (.t 29)), zw 26 true 31 (.ld true 5 (.t 30)), ⟨some (26, true), some 32, .call (.c (.fn 132 [] [])) [((.t 31), (.agg [.id, .id, .id, .id, (.sl 5)]))]⟩, zv 33 (.pick (.t 26) (.t 32) (.c (.bool false))), zm 2 33]
def k0ej : IC := (.seq qbs9 (.seq qbk0 (.seq qbsr .ret)))
@[go_sem] def s0ej : List (RV × Co) := [(.t 2, .id)]
theorem c0ej : cFun Tryz.prog 112 = some (34, k0ej, s0ej) := by kernel_rfl

def qbq8 : IC := .reg false [zi 1 (.box (.t 0)), zv 2 (.mov (.c (.bool false)))]
def qbjr : IC := .reg false [zv 3 (.fad (.t 1) 0), zv 4 (.ld false 1 (.t 3))]
def qbkw : IC := .reg false [zv 6 (.bin .eql .no (.t 4) (.c (.int .i64 11))), zm 5 6]
def qbrr : IC := .reg false [zv 7 (.ld true 5 (.t 1)), zi 8 (.call (.c (.fn 70 [] [])) [((.t 7), (.agg [.id, .id, .id, .id, (.sl 5)])), ((.c (.fn 71 [] [])), .id)]), zm 9 8, zw 9 true 10 (.fad (.t 1) 4), zw 9 true 11 (.ld false 1 (.t 10)), zw 9 true 12 (.len false (.t 11)), zw 9 true 13 (.bin .eql .no (.t 12) (.c (.int .i64 0))), zv 14 (.pick (.t 9) (.t 13) (.c (.bool false))), zm 2 14]
def qbnz : IC := .reg false [zv 16 (.bin .eql .no (.t 4) (.c (.int .i64 12))), zm 15 16]
def qbmq : IC := .reg false [zv 17 (.ld true 5 (.t 1)), zi 18 (.call (.c (.fn 73 [] [])) [((.t 17), (.agg [.id, .id, .id, .id, (.sl 5)]))]), zm 19 18, zw 19 true 20 (.fad (.t 1) 4), zw 19 true 21 (.ld false 1 (.t 20)), zw 19 true 22 (.len false (.t 21)), zw 19 true 23 (.bin .eql .no (.t 22) (.c (.int .i64 0))), zv 24 (.pick (.t 19) (.t 23) (.c (.bool false))), zm 2 24]
def qbhp : IC := .reg false [zv 26 (.bin .eql .no (.t 4) (.c (.int .i64 13))), zm 25 26]
def qbgs : IC := .reg false [zv 27 (.fad (.t 1) 3), zv 28 (.ld false 1 (.t 27)), zv 29 (.bin .eql .no (.t 28) (.c (.str []))), zm 30 29, zw 30 true 31 (.fad (.t 1) 2), zw 30 true 32 (.ld false 1 (.t 31)), zw 30 true 33 (.bin .geq .no (.t 32) (.c (.int .i64 0))), zv 34 (.pick (.t 30) (.t 33) (.c (.bool false))), zm 35 34, zw 35 true 36 (.fad (.t 1) 4), zw 35 true 37 (.ld false 1 (.t 36)), zw 35 true 38 (.len false (.t 37)), zw 35 true 39 (.bin .eql .no (.t 38) (.c (.int .i64 0))), zv 40 (.pick (.t 35) (.t 39) (.c (.bool false))), zm 2 40]
def qbii : IC := .reg false [zv 42 (.bin .eql .no (.t 4) (.c (.int .i64 14))), zm 41 42]
def qblv : IC := .reg false [zv 43 (.ld true 5 (.t 1)), zi 44 (.call (.c (.fn 70 [] [])) [((.t 43), (.agg [.id, .id, .id, .id, (.sl 5)])), ((.c (.fn 72 [] [])), .id)]), zm 45 44, zw 45 true 46 (.fad (.t 1) 4), zw 45 true 47 (.ld false 1 (.t 46)), ⟨some (45, true), some 48, .call (.c (.fn 74 [] [])) [((.t 47), (.sl 5)), ((.c (.fn 113 [] [])), .id)]⟩, zv 49 (.pick (.t 45) (.t 48) (.c (.bool false))), zm 2 49]
def q6j : IC := .reg false [zv 2 (.mov (.c (.bool false)))]
def k0eh : IC := (.seq qbq8 (.seq (.seq qbjr (.block 0 (.seq qbkw (.cond (.t 5) (.seq qbrr .ret) (.seq qbnz (.cond (.t 15) (.seq qbmq .ret) (.seq qbhp (.cond (.t 25) (.seq qbgs .ret) (.seq qbii (.cond (.t 41) (.seq qblv .ret) .skip)))))))))) (.seq q6j .ret)))
@[go_sem] def s0eh : List (RV × Co) := [(.t 2, .id)]
theorem c0eh : cFun Tryz.prog 113 = some (50, k0eh, s0eh) := by kernel_rfl

def qbi5 : IC := .reg false [zi 2 (.alo [(.int .i64 0), (.int .i64 0), (.int .i64 0), (.str []), .nils]), zv 3 (.mov (.c (.bool false)))]
def qbm6 : IC := .reg false [zm 7 0, zi 8 (.call (.c (.fn 15 [] [])) [((.t 7), .id)]), zi 4 (.alo [(.int .i64 0), (.int .i64 0), (.int .i64 0), (.str [])]), zn (.st 4 .id (.t 4) (.t 8))]
def qbuu : IC := .reg false [zv 10 (.fad (.t 4) 0), zv 11 (.ld false 1 (.t 10)), zv 12 (.bin .eql .no (.t 11) (.c (.int .i64 1))), zm 9 12]
def qbin : IC := .reg false [zm 13 0, zi 14 (.call (.c (.fn 44 [] [])) [((.t 13), .id)])]
def qbn6 : IC := .reg false [zv 15 (.fad (.t 4) 1), zv 16 (.ld false 1 (.t 15)), zv 17 (.fad (.t 4) 3), zv 18 (.ld false 1 (.t 17)), zv 19 (.bld [(.int .i64 0), (.int .i64 0), (.int .i64 0), (.str []), .nils] [(0, 1, (.c (.int .i64 1))), (1, 1, (.t 16)), (3, 1, (.t 18))]), zn (.st 5 (.agg [.id, .id, .id, .id, (.sl 5)]) (.t 2) (.t 19)), zv 3 (.mov (.c (.bool true)))]
def qbrb : IC := .reg false [zv 21 (.fad (.t 4) 0), zv 22 (.ld false 1 (.t 21)), zv 23 (.bin .eql .no (.t 22) (.c (.int .i64 2))), zm 20 23]
def qbqj : IC := .reg false [zm 24 0, zi 25 (.call (.c (.fn 44 [] [])) [((.t 24), .id)])]
def qbws : IC := .reg false [zv 26 (.fad (.t 4) 1), zv 27 (.ld false 1 (.t 26)), zv 28 (.fad (.t 4) 3), zv 29 (.ld false 1 (.t 28)), zv 30 (.bld [(.int .i64 0), (.int .i64 0), (.int .i64 0), (.str []), .nils] [(0, 1, (.c (.int .i64 2))), (1, 1, (.t 27)), (3, 1, (.t 29))]), zn (.st 5 (.agg [.id, .id, .id, .id, (.sl 5)]) (.t 2) (.t 30)), zv 3 (.mov (.c (.bool true)))]
def qbrn : IC := .reg false [zm 32 0, zi 33 (.call (.c (.fn 45 [] [])) [((.t 32), .id), ((.c (.str [40])), .id)]), zv 34 (.un .not (.t 33)), zm 31 34]
def qbfa : IC := .reg false [zv 35 (.bld [(.int .i64 0), (.int .i64 0), (.int .i64 0), (.str []), .nils] []), zm 36 0, zi 37 (.call (.c (.fn 43 [] [])) [((.t 36), .id), ((.c (.int .i64 5)), .id)]), zn (.st 5 (.agg [.id, .id, .id, .id, (.sl 5)]) (.t 2) (.t 35)), zm 3 37]
def q93 : IC := .reg false [zm 38 0, zi 39 (.call (.c (.fn 30 [] [])) [((.t 38), .id)]), zv 40 (.un .not (.t 39))]
def q52 : IC := .reg false [zv 41 (.bld [(.int .i64 0), (.int .i64 0), (.int .i64 0), (.str []), .nils] []), zn (.st 5 (.agg [.id, .id, .id, .id, (.sl 5)]) (.t 2) (.t 41)), zv 3 (.mov (.c (.bool false)))]
def qbct : IC := .reg false [zm 42 0, zi 43 (.call (.c (.fn 44 [] [])) [((.t 42), .id)])]
def qbbi : IC := .reg false [zm 45 0, zi 46 (.call (.c (.fn 47 [] [])) [((.t 45), .id)]), zm 44 46, zv 47 (.ext (.t 44) 0), zv 48 (.ext (.t 44) 1), zi 5 (.alo [(.int .i64 0), (.int .i64 0), (.int .i64 0), (.str []), .nils]), zn (.st 5 (.agg [.id, .id, .id, .id, (.sl 5)]) (.t 5) (.t 47)), zm 6 48]
def qbcg : IC := .reg false [zm 49 6, zm 50 49, zw 50 true 51 (.mov (.t 0)), ⟨some (50, true), some 52, .call (.c (.fn 49 [] [])) [((.t 51), .id), ((.c (.str [41])), .id)]⟩, zv 53 (.pick (.t 50) (.t 52) (.c (.bool false))), zm 6 53]
def q8p : IC := .reg false [zm 54 0, zi 55 (.call (.c (.fn 32 [] [])) [((.t 54), .id)])]
def q5l : IC := .reg false [zm 56 0, zv 57 (.ld true 5 (.t 5)), zm 58 6, zi 59 (.call (.c (.fn 48 [] [])) [((.t 56), .id), ((.t 57), (.agg [.id, .id, .id, .id, (.sl 5)])), ((.t 58), .id)]), zv 60 (.ext (.t 59) 0), zv 61 (.ext (.t 59) 1), zn (.st 5 (.agg [.id, .id, .id, .id, (.sl 5)]) (.t 2) (.t 60)), zm 3 61]
def k0bw : IC := (.seq qbi5 (.seq (.seq qbm6 (.block 0 (.seq qbuu (.cond (.t 9) (.seq qbin (.seq qbn6 .ret)) (.seq qbrb (.cond (.t 20) (.seq qbqj (.seq qbws .ret)) (.seq qbrn (.cond (.t 31) (.seq qbfa .ret) .skip)))))))) (.seq (.seq q93 (.cond (.t 40) (.seq q52 .ret) .skip)) (.seq qbct (.seq qbbi (.seq qbcg (.seq q8p (.seq q5l .ret))))))))
@[go_sem] def s0bw : List (RV × Co) := [(.c true 5 2, (.agg [.id, .id, .id, .id, (.sl 5)])), (.t 3, .id)]
theorem c0bw : cFun Tryz.prog 114 = some (62, k0bw, s0bw) := by kernel_rfl

def qbm5 : IC := .reg false [zv 2 (.mov (.c (.bool false)))]
def qbos : IC := .reg false [zm 4 0, zi 5 (.call (.c (.fn 15 [] [])) [((.t 4), .id)]), zv 6 (.fld false 1 0 (.t 5)), zm 3 6]
def qbuz : IC := .reg false [zm 7 3, zv 8 (.bin .eql .no (.t 7) (.c (.int .i64 1))), zm 9 8, zw 9 false 10 (.mov (.t 3)), zw 9 false 11 (.bin .eql .no (.t 10) (.c (.int .i64 2))), zv 12 (.pick (.t 9) (.c (.bool true)) (.t 11)), zm 13 12, zw 13 false 14 (.mov (.t 0)), ⟨some (13, false), some 15, .call (.c (.fn 45 [] [])) [((.t 14), .id), ((.c (.str [40])), .id)]⟩, zv 16 (.pick (.t 13) (.c (.bool true)) (.t 15)), zm 2 16]
def k0bv : IC := (.seq qbm5 (.seq qbos (.seq qbuz .ret)))
@[go_sem] def s0bv : List (RV × Co) := [(.t 2, .id)]
theorem c0bv : cFun Tryz.prog 115 = some (17, k0bv, s0bv) := by kernel_rfl

def qbpg : IC := .reg false [zi 1 (.box (.t 0)), zi 2 (.alo [.nils, (.int .i64 0), (.int .i64 0), (.int .i64 0), (.str []), (.int .i64 0), (.int .i64 0), (.int .i64 0)]), zi 3 (.alo [(.int .i64 0), (.int .i64 0), (.int .i64 0), (.str []), .nils])]
def qbhe : IC := .reg false [zv 6 (.ld true 8 (.t 1)), zi 7 (.call (.c (.fn 16 [] [])) [((.t 6), (.agg [(.sl 4), .id, .id, .id, .id, .id, .id, .id]))]), zi 4 (.alo [(.int .i64 0), (.int .i64 0), (.int .i64 0), (.str [])]), zn (.st 4 .id (.t 4) (.t 7))]
def qbno : IC := .reg false [zv 9 (.fad (.t 1) 6), zv 10 (.ld false 1 (.t 9)), zv 11 (.bin .neq .no (.t 10) (.c (.int .i64 0))), zm 8 11]
def qbxu : IC := .reg false [zv 12 (.ld true 8 (.t 1)), zv 13 (.bld [(.int .i64 0), (.int .i64 0), (.int .i64 0), (.str []), .nils] []), zn (.st 8 (.agg [(.sl 4), .id, .id, .id, .id, .id, .id, .id]) (.t 2) (.t 12)), zn (.st 5 (.agg [.id, .id, .id, .id, (.sl 5)]) (.t 3) (.t 13))]
def qbl5 : IC := .reg false [zv 15 (.fad (.t 4) 0), zv 16 (.ld false 1 (.t 15)), zv 17 (.bin .eql .no (.t 16) (.c (.int .i64 1))), zm 14 17]
def qbx9 : IC := .reg false [zv 19 (.ld true 8 (.t 1)), zi 20 (.call (.c (.fn 51 [] [])) [((.t 19), (.agg [(.sl 4), .id, .id, .id, .id, .id, .id, .id]))]), zm 18 20, zv 21 (.ext (.t 18) 0), zv 22 (.ext (.t 18) 1), zn (.st 8 (.agg [(.sl 4), .id, .id, .id, .id, .id, .id, .id]) (.t 1) (.t 21))]
def qbmd : IC := .drw [zp (zv 23 (.ld true 8 (.t 1))), zp (zv 24 (.fad (.t 4) 1)), zp (zv 25 (.ld false 1 (.t 24))), zp (zv 26 (.fad (.t 4) 3)), zp (zv 27 (.ld false 1 (.t 26))), (zv 28 (.bld [(.int .i64 0), (.int .i64 0), (.int .i64 0), (.str []), .nils] [(0, 1, (.c (.int .i64 1))), (1, 1, (.t 25)), (3, 1, (.t 27))]), []), (zn (.st 8 (.agg [(.sl 4), .id, .id, .id, .id, .id, .id, .id]) (.t 2) (.t 23)), [2, 4]), (zn (.st 5 (.agg [.id, .id, .id, .id, (.sl 5)]) (.t 3) (.t 28)), [])]
def qbqw : IC := .reg false [zv 30 (.fad (.t 4) 0), zv 31 (.ld false 1 (.t 30)), zv 32 (.bin .eql .no (.t 31) (.c (.int .i64 2))), zm 29 32]
def qbne : IC := .reg false [zv 34 (.ld true 8 (.t 1)), zi 35 (.call (.c (.fn 51 [] [])) [((.t 34), (.agg [(.sl 4), .id, .id, .id, .id, .id, .id, .id]))]), zm 33 35, zv 36 (.ext (.t 33) 0), zv 37 (.ext (.t 33) 1), zn (.st 8 (.agg [(.sl 4), .id, .id, .id, .id, .id, .id, .id]) (.t 1) (.t 36))]
def qbjc : IC := .drw [zp (zv 38 (.ld true 8 (.t 1))), zp (zv 39 (.fad (.t 4) 1)), zp (zv 40 (.ld false 1 (.t 39))), zp (zv 41 (.fad (.t 4) 3)), zp (zv 42 (.ld false 1 (.t 41))), (zv 43 (.bld [(.int .i64 0), (.int .i64 0), (.int .i64 0), (.str []), .nils] [(0, 1, (.c (.int .i64 2))), (1, 1, (.t 40)), (3, 1, (.t 42))]), []), (zn (.st 8 (.agg [(.sl 4), .id, .id, .id, .id, .id, .id, .id]) (.t 2) (.t 38)), [2, 4]), (zn (.st 5 (.agg [.id, .id, .id, .id, (.sl 5)]) (.t 3) (.t 43)), [])]
def q9h : IC := .reg false [zv 45 (.ld true 8 (.t 1)), zi 46 (.call (.c (.fn 52 [] [])) [((.t 45), (.agg [(.sl 4), .id, .id, .id, .id, .id, .id, .id])), ((.c (.str [40])), .id)]), zv 47 (.un .not (.t 46)), zm 44 47]
def q8h : IC := .reg false [zv 48 (.ld true 8 (.t 1)), zi 49 (.call (.c (.fn 50 [] [])) [((.t 48), (.agg [(.sl 4), .id, .id, .id, .id, .id, .id, .id])), ((.c (.int .i64 5)), .id)]), zv 50 (.bld [(.int .i64 0), (.int .i64 0), (.int .i64 0), (.str []), .nils] []), zn (.st 8 (.agg [(.sl 4), .id, .id, .id, .id, .id, .id, .id]) (.t 2) (.t 49)), zn (.st 5 (.agg [.id, .id, .id, .id, (.sl 5)]) (.t 3) (.t 50))]
def q83 : IC := .reg false [zv 52 (.ld true 8 (.t 1)), zi 53 (.call (.c (.fn 33 [] [])) [((.t 52), (.agg [(.sl 4), .id, .id, .id, .id, .id, .id, .id]))]), zm 51 53, zv 54 (.ext (.t 51) 0), zv 55 (.ext (.t 51) 1), zn (.st 8 (.agg [(.sl 4), .id, .id, .id, .id, .id, .id, .id]) (.t 1) (.t 54))]
def q7x : IC := .reg false [zv 57 (.ld true 8 (.t 1)), zi 58 (.call (.c (.fn 28 [] [])) [((.t 57), (.agg [(.sl 4), .id, .id, .id, .id, .id, .id, .id])), ((.c (.str [40])), .id)]), zm 56 58, zv 59 (.ext (.t 56) 0), zv 60 (.ext (.t 56) 1), zn (.st 8 (.agg [(.sl 4), .id, .id, .id, .id, .id, .id, .id]) (.t 1) (.t 59))]
def qbbp : IC := .reg false [zv 62 (.ld true 8 (.t 1)), zi 63 (.call (.c (.fn 54 [] [])) [((.t 62), (.agg [(.sl 4), .id, .id, .id, .id, .id, .id, .id]))]), zm 61 63, zv 64 (.ext (.t 61) 0), zv 65 (.ext (.t 61) 1), zi 5 (.alo [(.int .i64 0), (.int .i64 0), (.int .i64 0), (.str []), .nils]), zn (.st 8 (.agg [(.sl 4), .id, .id, .id, .id, .id, .id, .id]) (.t 1) (.t 64)), zn (.st 5 (.agg [.id, .id, .id, .id, (.sl 5)]) (.t 5) (.t 65))]
def q8e : IC := .reg false [zv 67 (.ld true 8 (.t 1)), zi 68 (.call (.c (.fn 28 [] [])) [((.t 67), (.agg [(.sl 4), .id, .id, .id, .id, .id, .id, .id])), ((.c (.str [41])), .id)]), zm 66 68, zv 69 (.ext (.t 66) 0), zv 70 (.ext (.t 66) 1), zn (.st 8 (.agg [(.sl 4), .id, .id, .id, .id, .id, .id, .id]) (.t 1) (.t 69))]
def qba4 : IC := .drw [zp (zv 71 (.ld true 8 (.t 1))), (zi 72 (.call (.c (.fn 35 [] [])) [((.t 71), (.agg [(.sl 4), .id, .id, .id, .id, .id, .id, .id]))]), []), (zv 73 (.ld true 5 (.t 5)), [1]), (zn (.st 8 (.agg [(.sl 4), .id, .id, .id, .id, .id, .id, .id]) (.t 2) (.t 72)), [2]), (zn (.st 5 (.agg [.id, .id, .id, .id, (.sl 5)]) (.t 3) (.t 73)), [])]
def k0bn : IC := (.seq qbpg (.seq qbhe (.seq (.block 0 (.seq qbno (.cond (.t 8) (.seq qbxu .ret) (.seq qbl5 (.cond (.t 14) (.seq qbx9 (.seq qbmd .ret)) (.seq qbqw (.cond (.t 29) (.seq qbne (.seq qbjc .ret)) (.seq q9h (.cond (.t 44) (.seq q8h .ret) .skip))))))))) (.seq q83 (.seq q7x (.seq qbbp (.seq q8e (.seq qba4 .ret))))))))
@[go_sem] def s0bn : List (RV × Co) := [(.c true 8 2, (.agg [(.sl 4), .id, .id, .id, .id, .id, .id, .id])), (.c true 5 3, (.agg [.id, .id, .id, .id, (.sl 5)]))]
theorem c0bn : cFun Tryz.prog 116 = some (74, k0bn, s0bn) := by kernel_rfl

def qbp1 : IC := .reg false [zi 1 (.box (.t 0)), zv 2 (.mov (.c (.bool false)))]
def qbgw : IC := .reg false [zv 4 (.ld true 8 (.t 1)), zi 5 (.call (.c (.fn 16 [] [])) [((.t 4), (.agg [(.sl 4), .id, .id, .id, .id, .id, .id, .id]))]), zv 6 (.fld false 1 0 (.t 5)), zm 3 6]
def qbye : IC := .reg false [zv 7 (.fad (.t 1) 6), zv 8 (.ld false 1 (.t 7)), zv 9 (.bin .eql .no (.t 8) (.c (.int .i64 0))), zm 10 9, zw 10 true 11 (.mov (.t 3)), zw 10 true 12 (.bin .eql .no (.t 11) (.c (.int .i64 1))), zw 10 true 13 (.mov (.t 12)), zw 13 false 14 (.mov (.t 3)), zw 13 false 15 (.bin .eql .no (.t 14) (.c (.int .i64 2))), zw 10 true 16 (.pick (.t 13) (.c (.bool true)) (.t 15)), zw 10 true 17 (.mov (.t 16)), zw 17 false 18 (.ld true 8 (.t 1)), ⟨some (17, false), some 19, .call (.c (.fn 52 [] [])) [((.t 18), (.agg [(.sl 4), .id, .id, .id, .id, .id, .id, .id])), ((.c (.str [40])), .id)]⟩, zw 10 true 20 (.pick (.t 17) (.c (.bool true)) (.t 19)), zv 21 (.pick (.t 10) (.t 20) (.c (.bool false))), zm 2 21]
def k0bm : IC := (.seq qbp1 (.seq qbgw (.seq qbye .ret)))
@[go_sem] def s0bm : List (RV × Co) := [(.t 2, .id)]
theorem c0bm : cFun Tryz.prog 117 = some (22, k0bm, s0bm) := by kernel_rfl

def qbwg : IC := .reg false [zi 2 (.alo [(.int .i64 0), (.int .i64 0), (.int .i64 0), (.str []), .nils]), zv 3 (.mov (.c (.bool false)))]
def qbhk : IC := .reg false [zm 9 0, zi 10 (.call (.c (.fn 133 [] [])) [((.t 9), .id)]), zm 8 10, zv 11 (.ext (.t 8) 0), zv 12 (.ext (.t 8) 1), zi 4 (.alo [(.int .i64 0), (.int .i64 0), (.int .i64 0), (.str []), .nils]), zn (.st 5 (.agg [.id, .id, .id, .id, (.sl 5)]) (.t 4) (.t 11)), zm 5 12]
def qbmh : IC := .reg false [zm 13 5]
def qbgg : IC := .reg false [zm 14 0, zi 15 (.call (.c (.fn 44 [] [])) [((.t 14), .id)])]
def qbex : IC := .reg false [zv 16 (.ld true 5 (.t 4)), zn (.st 5 (.agg [.id, .id, .id, .id, (.sl 5)]) (.t 2) (.t 16)), zv 3 (.mov (.c (.bool true)))]
def qbkq : IC := .reg false [zm 17 0, zi 18 (.call (.c (.fn 45 [] [])) [((.t 17), .id), ((.c (.str [40])), .id)]), zv 19 (.un .not (.t 18))]
def qbu9 : IC := .reg false [zv 20 (.bld [(.int .i64 0), (.int .i64 0), (.int .i64 0), (.str []), .nils] []), zm 21 0, zi 22 (.call (.c (.fn 43 [] [])) [((.t 21), .id), ((.c (.int .i64 5)), .id)]), zn (.st 5 (.agg [.id, .id, .id, .id, (.sl 5)]) (.t 2) (.t 20)), zm 3 22]
def qbej : IC := .reg false [zm 23 0, zi 24 (.call (.c (.fn 30 [] [])) [((.t 23), .id)]), zv 25 (.un .not (.t 24))]
def qbg3 : IC := .reg false [zv 26 (.bld [(.int .i64 0), (.int .i64 0), (.int .i64 0), (.str []), .nils] []), zn (.st 5 (.agg [.id, .id, .id, .id, (.sl 5)]) (.t 2) (.t 26)), zv 3 (.mov (.c (.bool false)))]
def qbsp : IC := .reg false [zm 27 0, zi 28 (.call (.c (.fn 44 [] [])) [((.t 27), .id)])]
def q8a : IC := .reg false [zm 30 0, zi 31 (.call (.c (.fn 91 [] [])) [((.t 30), .id)]), zm 29 31, zv 32 (.ext (.t 29) 0), zv 33 (.ext (.t 29) 1), zi 6 (.alo [(.int .i64 0), (.int .i64 0), (.int .i64 0), (.str []), .nils]), zn (.st 5 (.agg [.id, .id, .id, .id, (.sl 5)]) (.t 6) (.t 32)), zm 7 33]
def qbck : IC := .reg false [zm 34 7, zv 35 (.un .not (.t 34)), zm 36 35, zw 36 false 37 (.mov (.t 0)), ⟨some (36, false), some 38, .call (.c (.fn 49 [] [])) [((.t 37), .id), ((.c (.str [41])), .id)]⟩, zw 36 false 39 (.un .not (.t 38)), zv 40 (.pick (.t 36) (.c (.bool true)) (.t 39))]
def q7m : IC := .reg false [zv 41 (.bld [(.int .i64 0), (.int .i64 0), (.int .i64 0), (.str []), .nils] []), zn (.st 5 (.agg [.id, .id, .id, .id, (.sl 5)]) (.t 2) (.t 41)), zv 3 (.mov (.c (.bool false)))]
def qbcl : IC := .reg false [zm 42 0, zi 43 (.call (.c (.fn 32 [] [])) [((.t 42), .id)])]
def qbbh : IC := .reg false [zv 44 (.ld true 5 (.t 6)), zn (.st 5 (.agg [.id, .id, .id, .id, (.sl 5)]) (.t 2) (.t 44)), zv 3 (.mov (.c (.bool true)))]
def k0bh : IC := (.seq qbwg (.seq (.seq qbhk (.seq qbmh (.cond (.t 13) (.seq qbgg (.seq qbex .ret)) .skip))) (.seq (.seq qbkq (.cond (.t 19) (.seq qbu9 .ret) .skip)) (.seq (.seq qbej (.cond (.t 25) (.seq qbg3 .ret) .skip)) (.seq qbsp (.seq q8a (.seq (.seq qbck (.cond (.t 40) (.seq q7m .ret) .skip)) (.seq qbcl (.seq qbbh .ret)))))))))
@[go_sem] def s0bh : List (RV × Co) := [(.c true 5 2, (.agg [.id, .id, .id, .id, (.sl 5)])), (.t 3, .id)]
theorem c0bh : cFun Tryz.prog 118 = some (45, k0bh, s0bh) := by kernel_rfl

def qbrk : IC := .reg false [zv 2 (.mov (.c (.bool false)))]
def qbxl : IC := .reg false [zm 6 0, zi 7 (.call (.c (.fn 133 [] [])) [((.t 6), .id)]), zm 5 7, zv 8 (.ext (.t 5) 0), zv 9 (.ext (.t 5) 1), zi 3 (.alo [(.int .i64 0), (.int .i64 0), (.int .i64 0), (.str []), .nils]), zn (.st 5 (.agg [.id, .id, .id, .id, (.sl 5)]) (.t 3) (.t 8)), zm 4 9]
def qbrf : IC := .reg false [zm 10 4, zm 11 10, zw 11 false 12 (.mov (.t 0)), ⟨some (11, false), some 13, .call (.c (.fn 45 [] [])) [((.t 12), .id), ((.c (.str [40])), .id)]⟩, zv 14 (.pick (.t 11) (.c (.bool true)) (.t 13)), zm 2 14]
def k0bg : IC := (.seq qbrk (.seq qbxl (.seq qbrf .ret)))
@[go_sem] def s0bg : List (RV × Co) := [(.t 2, .id)]
theorem c0bg : cFun Tryz.prog 119 = some (15, k0bg, s0bg) := by kernel_rfl

def qbs1 : IC := .reg false [zi 1 (.box (.t 0)), zi 2 (.alo [.nils, (.int .i64 0), (.int .i64 0), (.int .i64 0), (.str []), (.int .i64 0), (.int .i64 0), (.int .i64 0)]), zi 3 (.alo [(.int .i64 0), (.int .i64 0), (.int .i64 0), (.str []), .nils])]
def qbic : IC := .reg false [zv 7 (.ld true 8 (.t 1)), zi 8 (.call (.c (.fn 16 [] [])) [((.t 7), (.agg [(.sl 4), .id, .id, .id, .id, .id, .id, .id]))]), zi 4 (.alo [(.int .i64 0), (.int .i64 0), (.int .i64 0), (.str [])]), zn (.st 4 .id (.t 4) (.t 8))]
def qbl1 : IC := .reg false [zv 9 (.ld true 8 (.t 1)), zi 10 (.call (.c (.fn 121 [] [])) [((.t 9), (.agg [(.sl 4), .id, .id, .id, .id, .id, .id, .id]))]), zv 11 (.un .not (.t 10))]
def qbs4 : IC := .reg false [zv 12 (.ld true 8 (.t 1)), zi 13 (.call (.c (.fn 50 [] [])) [((.t 12), (.agg [(.sl 4), .id, .id, .id, .id, .id, .id, .id])), ((.c (.int .i64 5)), .id)]), zv 14 (.bld [(.int .i64 0), (.int .i64 0), (.int .i64 0), (.str []), .nils] []), zn (.st 8 (.agg [(.sl 4), .id, .id, .id, .id, .id, .id, .id]) (.t 2) (.t 13)), zn (.st 5 (.agg [.id, .id, .id, .id, (.sl 5)]) (.t 3) (.t 14))]
def qbnl : IC := .reg false [zv 15 (.ld true 8 (.t 1)), zi 16 (.call (.c (.fn 52 [] [])) [((.t 15), (.agg [(.sl 4), .id, .id, .id, .id, .id, .id, .id])), ((.c (.str [40])), .id)])]
def qbei : IC := .reg false [zv 18 (.ld true 8 (.t 1)), zi 19 (.call (.c (.fn 33 [] [])) [((.t 18), (.agg [(.sl 4), .id, .id, .id, .id, .id, .id, .id]))]), zm 17 19, zv 20 (.ext (.t 17) 0), zv 21 (.ext (.t 17) 1), zn (.st 8 (.agg [(.sl 4), .id, .id, .id, .id, .id, .id, .id]) (.t 1) (.t 20))]
def qbv1 : IC := .reg false [zv 23 (.ld true 8 (.t 1)), zi 24 (.call (.c (.fn 28 [] [])) [((.t 23), (.agg [(.sl 4), .id, .id, .id, .id, .id, .id, .id])), ((.c (.str [40])), .id)]), zm 22 24, zv 25 (.ext (.t 22) 0), zv 26 (.ext (.t 22) 1), zn (.st 8 (.agg [(.sl 4), .id, .id, .id, .id, .id, .id, .id]) (.t 1) (.t 25))]
def qbfm : IC := .reg false [zv 28 (.ld true 8 (.t 1)), zi 29 (.call (.c (.fn 95 [] [])) [((.t 28), (.agg [(.sl 4), .id, .id, .id, .id, .id, .id, .id]))]), zm 27 29, zv 30 (.ext (.t 27) 0), zv 31 (.ext (.t 27) 1), zi 5 (.alo [.nils, (.int .i64 0), (.int .i64 0), (.int .i64 0), (.str []), (.int .i64 0), (.int .i64 0), (.int .i64 0)]), zi 6 (.alo [(.int .i64 0), (.int .i64 0), (.int .i64 0), (.str []), .nils]), zn (.st 8 (.agg [(.sl 4), .id, .id, .id, .id, .id, .id, .id]) (.t 5) (.t 30)), zn (.st 5 (.agg [.id, .id, .id, .id, (.sl 5)]) (.t 6) (.t 31))]
def qbfq : IC := .reg false [zv 33 (.ld true 8 (.t 5)), zi 34 (.call (.c (.fn 28 [] [])) [((.t 33), (.agg [(.sl 4), .id, .id, .id, .id, .id, .id, .id])), ((.c (.str [41])), .id)]), zm 32 34, zv 35 (.ext (.t 32) 0), zv 36 (.ext (.t 32) 1), zn (.st 8 (.agg [(.sl 4), .id, .id, .id, .id, .id, .id, .id]) (.t 5) (.t 35))]
def qbux : IC := .drw [zp (zv 37 (.ld true 8 (.t 5))), (zi 38 (.call (.c (.fn 35 [] [])) [((.t 37), (.agg [(.sl 4), .id, .id, .id, .id, .id, .id, .id]))]), []), (zv 39 (.ld true 5 (.t 6)), [1]), (zn (.st 8 (.agg [(.sl 4), .id, .id, .id, .id, .id, .id, .id]) (.t 2) (.t 38)), [2]), (zn (.st 5 (.agg [.id, .id, .id, .id, (.sl 5)]) (.t 3) (.t 39)), [])]
def q60 : IC := .reg false [zv 41 (.ld true 8 (.t 1)), zi 42 (.call (.c (.fn 51 [] [])) [((.t 41), (.agg [(.sl 4), .id, .id, .id, .id, .id, .id, .id]))]), zm 40 42, zv 43 (.ext (.t 40) 0), zv 44 (.ext (.t 40) 1), zn (.st 8 (.agg [(.sl 4), .id, .id, .id, .id, .id, .id, .id]) (.t 1) (.t 43))]
def q5x : IC := .reg false [zv 45 (.fad (.t 4) 0), zv 46 (.ld false 1 (.t 45))]
def q6b : IC := .reg false [zv 48 (.bin .eql .no (.t 46) (.c (.int .i64 1))), zm 47 48]
def q6l : IC := .drw [zp (zv 49 (.ld true 8 (.t 1))), zp (zv 50 (.fad (.t 4) 1)), zp (zv 51 (.ld false 1 (.t 50))), zp (zv 52 (.fad (.t 4) 3)), zp (zv 53 (.ld false 1 (.t 52))), (zv 54 (.bld [(.int .i64 0), (.int .i64 0), (.int .i64 0), (.str []), .nils] [(0, 1, (.c (.int .i64 11))), (1, 1, (.t 51)), (3, 1, (.t 53))]), []), (zn (.st 8 (.agg [(.sl 4), .id, .id, .id, .id, .id, .id, .id]) (.t 2) (.t 49)), [2, 4]), (zn (.st 5 (.agg [.id, .id, .id, .id, (.sl 5)]) (.t 3) (.t 54)), [])]
def q5w : IC := .reg false [zv 56 (.bin .eql .no (.t 46) (.c (.int .i64 2))), zm 55 56]
def q7r : IC := .drw [zp (zv 57 (.ld true 8 (.t 1))), zp (zv 58 (.fad (.t 4) 1)), zp (zv 59 (.ld false 1 (.t 58))), zp (zv 60 (.fad (.t 4) 3)), zp (zv 61 (.ld false 1 (.t 60))), (zv 62 (.bld [(.int .i64 0), (.int .i64 0), (.int .i64 0), (.str []), .nils] [(0, 1, (.c (.int .i64 14))), (1, 1, (.t 59)), (3, 1, (.t 61))]), []), (zn (.st 8 (.agg [(.sl 4), .id, .id, .id, .id, .id, .id, .id]) (.t 2) (.t 57)), [2, 4]), (zn (.st 5 (.agg [.id, .id, .id, .id, (.sl 5)]) (.t 3) (.t 62)), [])]
def q5z : IC := .reg false [zv 64 (.bin .eql .no (.t 46) (.c (.int .i64 3))), zm 63 64]
def q9g : IC := .drw [zp (zv 65 (.ld true 8 (.t 1))), zp (zv 66 (.fad (.t 4) 1)), zp (zv 67 (.ld false 1 (.t 66))), zp (zv 68 (.fad (.t 4) 2)), zp (zv 69 (.ld false 1 (.t 68))), (zv 70 (.bld [(.int .i64 0), (.int .i64 0), (.int .i64 0), (.str []), .nils] [(0, 1, (.c (.int .i64 13))), (1, 1, (.t 67)), (2, 1, (.t 69))]), []), (zn (.st 8 (.agg [(.sl 4), .id, .id, .id, .id, .id, .id, .id]) (.t 2) (.t 65)), [2, 4]), (zn (.st 5 (.agg [.id, .id, .id, .id, (.sl 5)]) (.t 3) (.t 70)), [])]
def q75 : IC := .drw [zp (zv 71 (.ld true 8 (.t 1))), zp (zv 72 (.fad (.t 4) 1)), zp (zv 73 (.ld false 1 (.t 72))), (zv 74 (.bld [(.int .i64 0), (.int .i64 0), (.int .i64 0), (.str []), .nils] [(0, 1, (.c (.int .i64 12))), (1, 1, (.t 73))]), []), (zn (.st 8 (.agg [(.sl 4), .id, .id, .id, .id, .id, .id, .id]) (.t 2) (.t 71)), [2]), (zn (.st 5 (.agg [.id, .id, .id, .id, (.sl 5)]) (.t 3) (.t 74)), [])]
def k0bd : IC := (.seq qbs1 (.seq qbic (.seq (.seq qbl1 (.cond (.t 11) (.seq qbs4 .ret) .skip)) (.seq (.seq qbnl (.cond (.t 16) (.seq qbei (.seq qbv1 (.seq qbfm (.seq qbfq (.seq qbux .ret))))) .skip)) (.seq q60 (.seq (.seq q5x (.block 0 (.seq q6b (.cond (.t 47) (.seq q6l .ret) (.seq q5w (.cond (.t 55) (.seq q7r .ret) (.seq q5z (.cond (.t 63) (.seq q9g .ret) .skip)))))))) (.seq q75 .ret)))))))
@[go_sem] def s0bd : List (RV × Co) := [(.c true 8 2, (.agg [(.sl 4), .id, .id, .id, .id, .id, .id, .id])), (.c true 5 3, (.agg [.id, .id, .id, .id, (.sl 5)]))]
theorem c0bd : cFun Tryz.prog 120 = some (75, k0bd, s0bd) := by kernel_rfl

def qbrh : IC := .reg false [zi 1 (.box (.t 0)), zv 2 (.mov (.c (.bool false)))]
def qbf9 : IC := .reg false [zv 4 (.ld true 8 (.t 1)), zi 5 (.call (.c (.fn 16 [] [])) [((.t 4), (.agg [(.sl 4), .id, .id, .id, .id, .id, .id, .id]))]), zv 6 (.fld false 1 0 (.t 5)), zm 3 6]
def qbwj : IC := .reg false [zv 7 (.fad (.t 1) 6), zv 8 (.ld false 1 (.t 7)), zv 9 (.bin .eql .no (.t 8) (.c (.int .i64 0))), zm 10 9, zw 10 true 11 (.mov (.t 3)), zw 10 true 12 (.bin .eql .no (.t 11) (.c (.int .i64 1))), zw 10 true 13 (.mov (.t 12)), zw 13 false 14 (.mov (.t 3)), zw 13 false 15 (.bin .eql .no (.t 14) (.c (.int .i64 2))), zw 10 true 16 (.pick (.t 13) (.c (.bool true)) (.t 15)), zw 10 true 17 (.mov (.t 16)), zw 17 false 18 (.mov (.t 3)), zw 17 false 19 (.bin .eql .no (.t 18) (.c (.int .i64 3))), zw 10 true 20 (.pick (.t 17) (.c (.bool true)) (.t 19)), zw 10 true 21 (.mov (.t 20)), zw 21 false 22 (.ld true 8 (.t 1)), ⟨some (21, false), some 23, .call (.c (.fn 52 [] [])) [((.t 22), (.agg [(.sl 4), .id, .id, .id, .id, .id, .id, .id])), ((.c (.str [95])), .id)]⟩, zw 10 true 24 (.pick (.t 21) (.c (.bool true)) (.t 23)), zw 10 true 25 (.mov (.t 24)), zw 25 false 26 (.ld true 8 (.t 1)), ⟨some (25, false), some 27, .call (.c (.fn 52 [] [])) [((.t 26), (.agg [(.sl 4), .id, .id, .id, .id, .id, .id, .id])), ((.c (.str [40])), .id)]⟩, zw 10 true 28 (.pick (.t 25) (.c (.bool true)) (.t 27)), zv 29 (.pick (.t 10) (.t 28) (.c (.bool false))), zm 2 29]
def k0bc : IC := (.seq qbrh (.seq qbf9 (.seq qbwj .ret)))
@[go_sem] def s0bc : List (RV × Co) := [(.t 2, .id)]
theorem c0bc : cFun Tryz.prog 121 = some (30, k0bc, s0bc) := by kernel_rfl

def qbtr : IC := .reg false [zv 4 (.mov (.c (.int .i64 0)))]
def qbjm : IC := .reg false [zm 6 0, zv 7 (.len true (.t 6)), zv 8 (.mov (.c (.int .i64 0)))]
def qbu1 : IC := .reg false [zv 9 (.bin .lss .no (.t 8) (.t 7))]
def qbth : IC := .reg false [zm 10 8, zm 5 10]
def qbwa : IC := .reg false [zm 11 1, zm 12 0, zm 13 5, zv 14 (.idx (.t 12) (.t 13)), zi 15 (.call (.t 11) [((.t 14), .id)]), zv 16 (.un .not (.t 15))]
def qbku : IC := .reg false [zm 17 5, zm 4 17]
def qbdv : IC := .reg false [zv 18 (.bin .add .no (.t 8) (.c (.int .i64 1))), zm 8 18]
def qbd2 : IC := (.seq qbu1 (.seq (.cond (.t 9) .skip (.exit 0)) (.seq (.block 1 (.seq qbth (.seq qbwa (.cond (.t 16) (.seq qbku .ret) .skip)))) qbdv)))
def qbmu : IC := .reg false [zm 19 0, zv 20 (.len true (.t 19)), zm 4 20]
def k0dk : IC := (.seq qbtr (.seq (.seq qbjm (.block 0 (.loop qbd2))) (.seq qbmu .ret)))
@[go_sem] def s0dk : List (RV × Co) := [(.t 4, .id)]
theorem c0dk : cFun Tryz.prog 122 = some (21, k0dk, s0dk) := by kernel_rfl

def qbp8 : IC := .reg false [zv 2 (.mov (.c (.bool false)))]
def qbol : IC := .reg false [zm 3 0, zv 4 (.bin .eql .no (.t 3) (.c (.int .u8 9))), zm 5 4, zw 5 false 6 (.mov (.t 0)), zw 5 false 7 (.bin .eql .no (.t 6) (.c (.int .u8 10))), zv 8 (.pick (.t 5) (.c (.bool true)) (.t 7)), zm 9 8, zw 9 false 10 (.mov (.t 0)), zw 9 false 11 (.bin .eql .no (.t 10) (.c (.int .u8 13))), zv 12 (.pick (.t 9) (.c (.bool true)) (.t 11)), zm 13 12, zw 13 false 14 (.mov (.t 0)), zw 13 false 15 (.bin .eql .no (.t 14) (.c (.int .u8 32))), zv 16 (.pick (.t 13) (.c (.bool true)) (.t 15)), zm 2 16]
def k0di : IC := (.seq qbp8 (.seq qbol .ret))
@[go_sem] def s0di : List (RV × Co) := [(.t 2, .id)]
theorem c0di : cFun Tryz.prog 123 = some (17, k0di, s0di) := by kernel_rfl

def qbdw : IC := .reg false [zv 4 (.mov (.c (.bool false)))]
def qbj4 : IC := .reg false [zm 5 0, zm 6 1, zi 7 (.call (.c (.fn 134 [] [])) [((.t 5), .id), ((.t 6), .id)]), zm 4 7]
def k0dm : IC := (.seq qbdw (.seq qbj4 .ret))
@[go_sem] def s0dm : List (RV × Co) := [(.t 4, .id)]
theorem c0dm : cFun Tryz.prog 124 = some (8, k0dm, s0dm) := by kernel_rfl

def qbmx : IC := .reg false [zv 2 (.mov (.c (.bool false)))]
def qbvq : IC := .reg false [zm 3 0, zv 4 (.bin .neq .no (.t 3) (.c (.int .u8 10))), zm 2 4]
def k0dj : IC := (.seq qbmx (.seq qbvq .ret))
@[go_sem] def s0dj : List (RV × Co) := [(.t 2, .id)]
theorem c0dj : cFun Tryz.prog 125 = some (5, k0dj, s0dj) := by kernel_rfl

def qbxb : IC := .reg false [zv 2 (.mov (.c (.bool false)))]
def qbxt : IC := .reg false [zm 3 0, zv 4 (.bin .geq .no (.t 3) (.c (.int .u8 48))), zm 5 4, zw 5 true 6 (.mov (.t 0)), zw 5 true 7 (.bin .leq .no (.t 6) (.c (.int .u8 57))), zv 8 (.pick (.t 5) (.t 7) (.c (.bool false))), zm 2 8]
def k0dg : IC := (.seq qbxb (.seq qbxt .ret))
@[go_sem] def s0dg : List (RV × Co) := [(.t 2, .id)]
theorem c0dg : cFun Tryz.prog 126 = some (9, k0dg, s0dg) := by kernel_rfl

def qbw8 : IC := .reg false [zv 2 (.mov (.c (.int .i64 0))), zv 3 (.mov (.c (.int .i64 0)))]
def qbkl : IC := .reg false [zm 8 0, zv 9 (.len true (.t 8)), zv 10 (.mov (.c (.int .i64 0)))]
def qbhu : IC := .reg false [zv 11 (.bin .lss .no (.t 10) (.t 9))]
def qbsn : IC := .reg false [zm 12 10, zm 4 12]
def qbqg : IC := .reg false [zm 13 0, zm 14 4, zv 15 (.idx (.t 13) (.t 14)), zv 16 (.bin .lss .no (.t 15) (.c (.int .u8 48))), zm 17 16, zw 17 false 18 (.mov (.t 0)), zw 17 false 19 (.mov (.t 4)), zw 17 false 20 (.idx (.t 18) (.t 19)), zw 17 false 21 (.bin .gtr .no (.t 20) (.c (.int .u8 57))), zv 22 (.pick (.t 17) (.c (.bool true)) (.t 21))]
def qbtm : IC := .reg false [zv 2 (.mov (.c (.int .i64 0))), zv 3 (.mov (.c (.int .i64 5)))]
def qboa : IC := .reg false [zv 23 (.bin .add .no (.t 10) (.c (.int .i64 1))), zm 10 23]
def qbxm : IC := (.seq qbhu (.seq (.cond (.t 11) .skip (.exit 0)) (.seq (.block 1 (.seq qbsn (.seq qbqg (.cond (.t 22) (.seq qbtm .ret) .skip)))) qboa)))
def qbla : IC := .reg false [zm 24 0, zv 25 (.bin .eql .no (.t 24) (.c (.str [])))]
def qbb0 : IC := .reg false [zv 2 (.mov (.c (.int .i64 0))), zv 3 (.mov (.c (.int .i64 5)))]
def q68 : IC := .reg false [zv 5 (.mov (.c (.int .i64 0))), zv 6 (.mov (.c (.int .i64 0)))]
def qbbg : IC := .reg false [zm 26 0, zm 27 6, zv 28 (.idx (.t 26) (.t 27)), zv 29 (.bin .sub .no (.t 28) (.c (.int .u8 48))), zv 30 (.cvi .i64 (.t 29)), zm 7 30]
def qbav : IC := .reg false [zm 31 5, zm 32 7, zv 33 (.bin .sub .no (.c (.int .i64 9223372036854775807)) (.t 32)), zv 34 (.bin .quo .no (.t 33) (.c (.int .i64 10))), zv 35 (.bin .gtr .no (.t 31) (.t 34))]
def qbao : IC := .reg false [zv 2 (.mov (.c (.int .i64 0))), zv 3 (.mov (.c (.int .i64 4)))]
def q9d : IC := .reg false [zm 36 5, zv 37 (.bin .mul .no (.c (.int .i64 10)) (.t 36)), zm 38 7, zv 39 (.bin .add .no (.t 37) (.t 38)), zm 5 39]
def qbby : IC := .reg false [zm 40 6, zv 41 (.bin .add .no (.t 40) (.c (.int .i64 1))), zm 6 41]
def q7j : IC := .reg false [zm 42 6, zm 43 0, zv 44 (.len true (.t 43)), zv 45 (.bin .lss .no (.t 42) (.t 44))]
def qbb1 : IC := .reg false [zm 46 5, zm 2 46, zv 3 (.mov (.c (.int .i64 0)))]
def k0dp : IC := (.seq qbw8 (.scope (.seq (.seq qbkl (.block 0 (.loop qbxm))) (.seq (.seq qbla (.cond (.t 25) (.seq qbb0 .ret) .skip)) (.seq q68 (.seq (.label 0) (.seq qbbg (.seq (.seq qbav (.cond (.t 35) (.seq qbao .ret) .skip)) (.seq q9d (.seq (.seq qbby (.seq q7j (.cond (.t 45) (.goto 0) .skip))) (.seq qbb1 .ret)))))))))))
@[go_sem] def s0dp : List (RV × Co) := [(.t 2, .id), (.t 3, .id)]
theorem c0dp : cFun Tryz.prog 127 = some (47, k0dp, s0dp) := by kernel_rfl

def qbt9 : IC := .reg false [zv 2 (.mov (.c (.bool false)))]
def qbeo : IC := .reg false [zm 3 0, zv 4 (.bin .geq .no (.t 3) (.c (.int .u8 97))), zm 5 4, zw 5 true 6 (.mov (.t 0)), zw 5 true 7 (.bin .leq .no (.t 6) (.c (.int .u8 122))), zv 8 (.pick (.t 5) (.t 7) (.c (.bool false))), zm 9 8, zw 9 false 10 (.mov (.t 0)), zw 9 false 11 (.bin .geq .no (.t 10) (.c (.int .u8 65))), zw 9 false 12 (.mov (.t 11)), zw 12 true 13 (.mov (.t 0)), zw 12 true 14 (.bin .leq .no (.t 13) (.c (.int .u8 90))), zw 9 false 15 (.pick (.t 12) (.t 14) (.c (.bool false))), zv 16 (.pick (.t 9) (.c (.bool true)) (.t 15)), zm 17 16, zw 17 false 18 (.mov (.t 0)), zw 17 false 19 (.bin .eql .no (.t 18) (.c (.int .u8 95))), zv 20 (.pick (.t 17) (.c (.bool true)) (.t 19)), zm 21 20, zw 21 false 22 (.mov (.t 0)), zw 21 false 23 (.bin .eql .no (.t 22) (.c (.int .u8 39))), zv 24 (.pick (.t 21) (.c (.bool true)) (.t 23)), zm 25 24, zw 25 false 26 (.mov (.t 0)), ⟨some (25, false), some 27, .call (.c (.fn 126 [] [])) [((.t 26), .id)]⟩, zv 28 (.pick (.t 25) (.c (.bool true)) (.t 27)), zm 2 28]
def k0dh : IC := (.seq qbt9 (.seq qbeo .ret))
@[go_sem] def s0dh : List (RV × Co) := [(.t 2, .id)]
theorem c0dh : cFun Tryz.prog 128 = some (29, k0dh, s0dh) := by kernel_rfl

def qbsg : IC := .reg false [zi 2 (.alo [(.int .i64 0), (.int .i64 0), (.int .i64 0), (.str [])])]
def qbr9 : IC := .reg false [zm 4 0, zv 5 (.bld [(.int .i64 0), (.int .i64 0), (.int .i64 0), (.str [])] [(0, 1, (.c (.int .i64 1))), (3, 1, (.t 4))]), zi 3 (.alo [(.int .i64 0), (.int .i64 0), (.int .i64 0), (.str [])]), zn (.st 4 .id (.t 3) (.t 5))]
def qbul : IC := .reg false [zm 7 0, zv 8 (.bin .eql .no (.t 7) (.c (.str [95]))), zm 6 8]
def qbvd : IC := .reg false [zv 9 (.fad (.t 3) 0), zn (.st 1 .id (.t 9) (.c (.int .i64 5)))]
def qbxc : IC := .reg false [zm 11 0, zi 12 (.call (.c (.fn 110 [] [])) [((.t 11), .id)]), zm 10 12]
def qbph : IC := .reg false [zv 13 (.fad (.t 3) 0), zn (.st 1 .id (.t 13) (.c (.int .i64 4)))]
def qblf : IC := .reg false [zm 15 0, zi 16 (.call (.c (.fn 72 [] [])) [((.t 15), .id)]), zm 14 16]
def qbr8 : IC := .reg false [zv 17 (.fad (.t 3) 0), zn (.st 1 .id (.t 17) (.c (.int .i64 2)))]
def qbx5 : IC := .reg false [zv 18 (.ld true 4 (.t 3)), zn (.st 4 .id (.t 2) (.t 18))]
def k0dc : IC := (.seq qbsg (.seq qbr9 (.seq (.block 0 (.seq qbul (.cond (.t 6) qbvd (.seq qbxc (.cond (.t 10) qbph (.seq qblf (.cond (.t 14) qbr8 .skip))))))) (.seq qbx5 .ret))))
@[go_sem] def s0dc : List (RV × Co) := [(.c true 4 2, .id)]
theorem c0dc : cFun Tryz.prog 129 = some (19, k0dc, s0dc) := by kernel_rfl

def qbg9 : IC := .reg false [zv 2 (.mov (.c (.int .i64 0)))]
def qbsv : IC := .reg false [zv 5 (.bld [(.str []), (.str []), (.str []), (.str []), (.str []), (.str []), (.str []), (.str []), (.str []), (.str []), (.str []), (.str [])] [(0, 1, (.c (.str [45, 62]))), (1, 1, (.c (.str [61, 62]))), (2, 1, (.c (.str [58, 58]))), (3, 1, (.c (.str [40]))), (4, 1, (.c (.str [41]))), (5, 1, (.c (.str [123]))), (6, 1, (.c (.str [125]))), (7, 1, (.c (.str [59]))), (8, 1, (.c (.str [44]))), (9, 1, (.c (.str [61]))), (10, 1, (.c (.str [124]))), (11, 1, (.c (.str [92])))]), zv 6 (.mov (.c (.int .i64 0)))]
def qbmb : IC := .reg false [zv 7 (.bin .lss .no (.t 6) (.c (.int .i64 12)))]
def qbfn : IC := .reg false [zv 8 (.ida false 1 12 (.t 5) (.t 6)), zm 4 8]
def qbhl : IC := .reg false [zm 9 0, zm 10 4, zi 11 (.call (.c (.fn 124 [] [])) [((.t 9), .id), ((.t 10), .id)])]
def qbdt : IC := .reg false [zm 12 4, zv 13 (.len true (.t 12)), zm 2 13]
def qbx0 : IC := .reg false [zv 14 (.bin .add .no (.t 6) (.c (.int .i64 1))), zm 6 14]
def qblh : IC := (.seq qbmb (.seq (.cond (.t 7) .skip (.exit 0)) (.seq (.block 1 (.seq qbfn (.seq qbhl (.cond (.t 11) (.seq qbdt .ret) .skip)))) qbx0)))
def qbu7 : IC := .reg false [zv 2 (.mov (.c (.int .i64 0)))]
def k0dd : IC := (.seq qbg9 (.seq (.seq qbsv (.block 0 (.loop qblh))) (.seq qbu7 .ret)))
@[go_sem] def s0dd : List (RV × Co) := [(.t 2, .id)]
theorem c0dd : cFun Tryz.prog 130 = some (15, k0dd, s0dd) := by kernel_rfl

def qbnx : IC := .reg false [zi 1 (.box (.t 0)), zv 2 (.mov (.c (.bool false)))]
def qbiz : IC := .reg false [zv 3 (.fad (.t 1) 0), zv 4 (.ld false 1 (.t 3)), zv 5 (.bin .eql .no (.t 4) (.c (.int .i64 3))), zm 6 5, zw 6 true 7 (.ld true 5 (.t 1)), ⟨some (6, true), some 8, .call (.c (.fn 70 [] [])) [((.t 7), (.agg [.id, .id, .id, .id, (.sl 5)])), ((.c (.fn 72 [] [])), .id)]⟩, zv 9 (.pick (.t 6) (.t 8) (.c (.bool false))), zm 10 9, zw 10 true 11 (.fad (.t 1) 4), zw 10 true 12 (.ld false 1 (.t 11)), zw 10 true 13 (.len false (.t 12)), zw 10 true 14 (.bin .eql .no (.t 13) (.c (.int .i64 1))), zv 15 (.pick (.t 10) (.t 14) (.c (.bool false))), zm 16 15, zw 16 true 17 (.fad (.t 1) 4), zw 16 true 18 (.ld false 1 (.t 17)), zw 16 true 19 (.iad 5 (.t 18) (.c (.int .i64 0))), zw 16 true 20 (.ld true 5 (.t 19)), ⟨some (16, true), some 21, .call (.c (.fn 132 [] [])) [((.t 20), (.agg [.id, .id, .id, .id, (.sl 5)]))]⟩, zv 22 (.pick (.t 16) (.t 21) (.c (.bool false))), zm 2 22]
def k0ei : IC := (.seq qbnx (.seq qbiz .ret))
@[go_sem] def s0ei : List (RV × Co) := [(.t 2, .id)]
theorem c0ei : cFun Tryz.prog 131 = some (23, k0ei, s0ei) := by kernel_rfl

def qbe4 : IC := .reg false [zi 1 (.box (.t 0)), zv 2 (.mov (.c (.bool false)))]
def qbqo : IC := .reg false [zv 4 (.fad (.t 1) 0), zv 5 (.ld false 1 (.t 4)), zv 6 (.bin .eql .no (.t 5) (.c (.int .i64 1))), zm 3 6]
def qbk9 : IC := .reg false [zv 7 (.ld true 5 (.t 1)), zi 8 (.call (.c (.fn 70 [] [])) [((.t 7), (.agg [.id, .id, .id, .id, (.sl 5)])), ((.c (.fn 71 [] [])), .id)]), zm 9 8, zw 9 true 10 (.fad (.t 1) 4), zw 9 true 11 (.ld false 1 (.t 10)), zw 9 true 12 (.len false (.t 11)), zw 9 true 13 (.bin .eql .no (.t 12) (.c (.int .i64 0))), zv 14 (.pick (.t 9) (.t 13) (.c (.bool false))), zm 2 14]
def qbkx : IC := .reg false [zv 16 (.fad (.t 1) 0), zv 17 (.ld false 1 (.t 16)), zv 18 (.bin .neq .no (.t 17) (.c (.int .i64 2))), zm 19 18, zw 19 false 20 (.fad (.t 1) 2), zw 19 false 21 (.ld false 1 (.t 20)), zw 19 false 22 (.bin .neq .no (.t 21) (.c (.int .i64 0))), zv 23 (.pick (.t 19) (.c (.bool true)) (.t 22)), zm 15 23]
def qbim : IC := .reg false [zv 2 (.mov (.c (.bool false)))]
def qbi8 : IC := .reg false [zv 25 (.fad (.t 1) 3), zv 26 (.ld false 1 (.t 25)), zv 27 (.bin .eql .no (.t 26) (.c (.str [45, 62]))), zm 24 27]
def qbee : IC := .reg false [zv 28 (.fad (.t 1) 4), zv 29 (.ld false 1 (.t 28)), zv 30 (.len false (.t 29)), zv 31 (.bin .eql .no (.t 30) (.c (.int .i64 2))), zm 32 31, zw 32 true 33 (.fad (.t 1) 4), zw 32 true 34 (.ld false 1 (.t 33)), ⟨some (32, true), some 35, .call (.c (.fn 74 [] [])) [((.t 34), (.sl 5)), ((.c (.fn 132 [] [])), .id)]⟩, zv 36 (.pick (.t 32) (.t 35) (.c (.bool false))), zm 2 36]
def qbed : IC := .reg false [zv 37 (.fad (.t 1) 3), zv 38 (.ld false 1 (.t 37)), zi 39 (.call (.c (.fn 72 [] [])) [((.t 38), .id)]), zm 40 39, zw 40 true 41 (.fad (.t 1) 4), zw 40 true 42 (.ld false 1 (.t 41)), ⟨some (40, true), some 43, .call (.c (.fn 74 [] [])) [((.t 42), (.sl 5)), ((.c (.fn 132 [] [])), .id)]⟩, zv 44 (.pick (.t 40) (.t 43) (.c (.bool false))), zm 2 44]
def k0eg : IC := (.seq qbe4 (.seq (.block 0 (.seq qbqo (.cond (.t 3) (.seq qbk9 .ret) (.seq qbkx (.cond (.t 15) (.seq qbim .ret) (.seq qbi8 (.cond (.t 24) (.seq qbee .ret) .skip))))))) (.seq qbed .ret)))
@[go_sem] def s0eg : List (RV × Co) := [(.t 2, .id)]
theorem c0eg : cFun Tryz.prog 132 = some (45, k0eg, s0eg) := by kernel_rfl

def qbek : IC := .reg false [zi 2 (.alo [(.int .i64 0), (.int .i64 0), (.int .i64 0), (.str []), .nils]), zv 3 (.mov (.c (.bool false)))]
def qbju : IC := .reg false [zm 6 0, zi 7 (.call (.c (.fn 15 [] [])) [((.t 6), .id)]), zi 4 (.alo [(.int .i64 0), (.int .i64 0), (.int .i64 0), (.str [])]), zn (.st 4 .id (.t 4) (.t 7))]
def qbew : IC := .reg false [zv 8 (.fad (.t 4) 1), zv 9 (.ld false 1 (.t 8)), zv 10 (.fad (.t 4) 3), zv 11 (.ld false 1 (.t 10)), zv 12 (.bld [(.int .i64 0), (.int .i64 0), (.int .i64 0), (.str []), .nils] [(1, 1, (.t 9)), (3, 1, (.t 11))]), zi 5 (.alo [(.int .i64 0), (.int .i64 0), (.int .i64 0), (.str []), .nils]), zn (.st 5 (.agg [.id, .id, .id, .id, (.sl 5)]) (.t 5) (.t 12))]
def qbt5 : IC := .reg false [zv 15 (.fad (.t 4) 0), zv 16 (.ld false 1 (.t 15)), zv 17 (.bin .eql .no (.t 16) (.c (.int .i64 1))), zm 14 17]
def qbyh : IC := .reg false [zv 18 (.fad (.t 5) 0), zn (.st 1 .id (.t 18) (.c (.int .i64 11)))]
def qbk8 : IC := .reg false [zv 20 (.fad (.t 4) 0), zv 21 (.ld false 1 (.t 20)), zv 22 (.bin .eql .no (.t 21) (.c (.int .i64 2))), zm 19 22]
def qbo4 : IC := .reg false [zv 23 (.fad (.t 5) 0), zn (.st 1 .id (.t 23) (.c (.int .i64 14)))]
def qbn8 : IC := .reg false [zv 25 (.fad (.t 4) 0), zv 26 (.ld false 1 (.t 25)), zv 27 (.bin .eql .no (.t 26) (.c (.int .i64 3))), zm 24 27]
def qbpp : IC := .drw [zp (zv 28 (.fad (.t 4) 2)), zp (zv 29 (.ld false 1 (.t 28))), zp (zv 30 (.fad (.t 5) 0)), (zn (.st 1 .id (.t 30) (.c (.int .i64 13))), [1]), zp (zv 31 (.fad (.t 5) 2)), (zn (.st 1 .id (.t 31) (.t 29)), []), zp (zv 32 (.fad (.t 5) 3)), (zn (.st 1 .id (.t 32) (.c (.str []))), [])]
def qbnw : IC := .reg false [zm 34 0, zi 35 (.call (.c (.fn 45 [] [])) [((.t 34), .id), ((.c (.str [95])), .id)]), zm 33 35]
def q8v : IC := .reg false [zv 36 (.fad (.t 5) 0), zn (.st 1 .id (.t 36) (.c (.int .i64 12))), zv 37 (.fad (.t 5) 3), zn (.st 1 .id (.t 37) (.c (.str [])))]
def qbb8 : IC := .reg false [zv 13 (.bld [(.int .i64 0), (.int .i64 0), (.int .i64 0), (.str []), .nils] []), zn (.st 5 (.agg [.id, .id, .id, .id, (.sl 5)]) (.t 2) (.t 13)), zv 3 (.mov (.c (.bool false)))]
def q5u : IC := .reg false [zv 38 (.ld true 5 (.t 5)), zn (.st 5 (.agg [.id, .id, .id, .id, (.sl 5)]) (.t 2) (.t 38)), zv 3 (.mov (.c (.bool true)))]
def k0bf : IC := (.seq qbek (.seq qbju (.seq qbew (.seq (.block 0 (.seq qbt5 (.cond (.t 14) qbyh (.seq qbk8 (.cond (.t 19) qbo4 (.seq qbn8 (.cond (.t 24) qbpp (.seq qbnw (.cond (.t 33) q8v (.seq qbb8 .ret)))))))))) (.seq q5u .ret)))))
@[go_sem] def s0bf : List (RV × Co) := [(.c true 5 2, (.agg [.id, .id, .id, .id, (.sl 5)])), (.t 3, .id)]
theorem c0bf : cFun Tryz.prog 133 = some (39, k0bf, s0bf) := by kernel_rfl

def qbny : IC := .reg false [zv 4 (.mov (.c (.bool false)))]
def qbvk : IC := .reg false [zm 5 0, zv 6 (.len true (.t 5)), zm 7 1, zv 8 (.len true (.t 7)), zv 9 (.bin .geq .no (.t 6) (.t 8)), zm 10 9, zw 10 true 11 (.mov (.t 0)), zw 10 true 12 (.mov (.t 1)), zw 10 true 13 (.len true (.t 12)), zw 10 true 14 (.sls (.t 11) none (some (.t 13))), zw 10 true 15 (.mov (.t 1)), zw 10 true 16 (.bin .eql .no (.t 14) (.t 15)), zv 17 (.pick (.t 10) (.t 16) (.c (.bool false))), zm 4 17]
def k0dl : IC := (.seq qbny (.seq qbvk .ret))
@[go_sem] def s0dl : List (RV × Co) := [(.t 4, .id)]
theorem c0dl : cFun Tryz.prog 134 = some (18, k0dl, s0dl) := by kernel_rfl

end Go.Proofs.YtmekebfgmjaenaaGreat
