/- A text of this proof. -/
import Derived.Test.YtmekebfgmjaenaaGreatAae
import Derived.Test.YtmekebfgmjaenaaGreatProg
/- The compiled code of the functions. -/
namespace Go.Proofs.YtmekebfgmjaenaaGreat
open Go Go.V
@[reducible] def zm (d s : Nat) : GI := ⟨none, some d, .v (.mov (.t s))⟩
@[reducible] def zv (d : Nat) (x : IV) : GI := ⟨none, some d, .v x⟩
@[reducible] def zi (d : Nat) (i : I) : GI := ⟨none, some d, i⟩
@[reducible] def zn (i : I) : GI := ⟨none, none, i⟩
@[reducible] def zw (j : Nat) (b : Bool) (d : Nat) (x : IV) : GI := ⟨some (j, b), some d, .v x⟩
@[reducible] def zp (g : GI) : GI × List Nat := (g, [])
def qbss : IC := .reg false [zv 4 (.mov (.c (.bool false)))]
def qbrq : IC := .reg false [zm 14 0, zv 15 (.len false (.t 14)), zv 16 (.bin .gtr .no (.t 15) (.c (.int .i64 500)))]
def qbu3 : IC := .reg false [zi 17 (.call (.c (.fn 5 [] [])) []), zm 4 17]
def qbul : IC := .reg false [zm 18 0, zi 19 (.call (.c (.fn 6 [] [])) [((.t 18), (.sl 4))]), zm 20 0, zi 21 (.call (.c (.fn 7 [] [])) [((.t 20), (.sl 4))]), zi 6 (.alo [.nils, (.int .i64 0), (.int .i64 0), (.int .i64 0), (.str []), (.int .i64 0), (.int .i64 0), (.int .i64 0)]), zm 5 19, zn (.st 8 (.agg [(.sl 4), .id, .id, .id, .id, .id, .id, .id]) (.t 6) (.t 21))]
def qbv1 : IC := .reg false [zv 7 (.mov (.c (.bool false)))]
def qbvd : IC := .reg false [zi 8 (.alo [(.int .i64 0), (.int .i64 0), (.int .i64 0), (.str []), .nils]), zi 9 (.alo [(.int .i64 0), (.int .i64 0), (.int .i64 0), (.str []), .nils])]
def qbxc : IC := .reg false [zm 22 1]
def qbuj : IC := .reg false [zm 24 5, zi 25 (.call (.c (.fn 8 [] [])) [((.t 24), .id)]), zm 23 25, zv 26 (.ext (.t 23) 0), zv 27 (.ext (.t 23) 1), zn (.st 5 (.agg [.id, .id, .id, .id, (.sl 5)]) (.t 8) (.t 26)), zm 7 27]
def qbu8 : IC := .reg false [zv 29 (.ld true 8 (.t 6)), zi 30 (.call (.c (.fn 9 [] [])) [((.t 29), (.agg [(.sl 4), .id, .id, .id, .id, .id, .id, .id]))]), zm 28 30, zv 31 (.ext (.t 28) 0), zv 32 (.ext (.t 28) 1), zn (.st 8 (.agg [(.sl 4), .id, .id, .id, .id, .id, .id, .id]) (.t 6) (.t 31)), zn (.st 5 (.agg [.id, .id, .id, .id, (.sl 5)]) (.t 9) (.t 32))]
def qbx1 : IC := .reg false [zm 34 5, zi 35 (.call (.c (.fn 10 [] [])) [((.t 34), .id)]), zm 33 35, zv 36 (.ext (.t 33) 0), zv 37 (.ext (.t 33) 1), zn (.st 5 (.agg [.id, .id, .id, .id, (.sl 5)]) (.t 8) (.t 36)), zm 7 37]
def qbf3 : IC := .reg false [zv 39 (.ld true 8 (.t 6)), zi 40 (.call (.c (.fn 11 [] [])) [((.t 39), (.agg [(.sl 4), .id, .id, .id, .id, .id, .id, .id]))]), zm 38 40, zv 41 (.ext (.t 38) 0), zv 42 (.ext (.t 38) 1), zn (.st 8 (.agg [(.sl 4), .id, .id, .id, .id, .id, .id, .id]) (.t 6) (.t 41)), zn (.st 5 (.agg [.id, .id, .id, .id, (.sl 5)]) (.t 9) (.t 42))]
def qbed : IC := .reg false [zm 44 5, zi 45 (.call (.c (.fn 12 [] [])) [((.t 44), .id)]), zm 43 45, zv 46 (.ext (.t 43) 0), zv 47 (.ext (.t 43) 1), zm 10 46, zm 11 47]
def qbja : IC := .reg false [zv 49 (.ld true 8 (.t 6)), zi 50 (.call (.c (.fn 13 [] [])) [((.t 49), (.agg [(.sl 4), .id, .id, .id, .id, .id, .id, .id]))]), zm 48 50, zv 51 (.ext (.t 48) 0), zv 52 (.ext (.t 48) 1), zm 12 51, zm 13 52]
def qblf : IC := .reg false [zm 53 7, zv 54 (.un .not (.t 53))]
def qbdl : IC := .reg false [zv 55 (.bld [(.int .i64 0), (.int .i64 0), (.int .i64 0), (.str []), .nils] []), zn (.st 5 (.agg [.id, .id, .id, .id, (.sl 5)]) (.t 9) (.t 55))]
def qbcb : IC := .drw [zp (zm 56 7), zp (zv 57 (.fad (.t 6) 6)), zp (zv 58 (.ld false 1 (.t 57))), zp (zv 59 (.bin .eql .no (.t 58) (.c (.int .i64 0)))), zp (zv 60 (.bin .eql .bool (.t 56) (.t 59))), zp (zm 61 60), zp (zw 61 true 62 (.ld true 5 (.t 8))), zp (zw 61 true 63 (.ld true 5 (.t 9))), (⟨some (61, true), some 64, .call (.c (.fn 14 [] [])) [((.t 62), (.agg [.id, .id, .id, .id, (.sl 5)])), ((.t 63), (.agg [.id, .id, .id, .id, (.sl 5)]))]⟩, []), zp (zv 65 (.pick (.t 61) (.t 64) (.c (.bool false)))), zp (zm 66 65), zp (zw 66 true 67 (.mov (.t 10))), zp (zw 66 true 68 (.mov (.t 12))), zp (zw 66 true 69 (.bin .eql .no (.t 67) (.t 68))), zp (zv 70 (.pick (.t 66) (.t 69) (.c (.bool false)))), zp (zm 71 70), zp (zw 71 true 72 (.mov (.t 11))), zp (zw 71 true 73 (.mov (.t 13))), zp (zw 71 true 74 (.bin .eql .no (.t 72) (.t 73))), zp (zv 75 (.pick (.t 71) (.t 74) (.c (.bool false)))), zp (zm 76 75), zp (zw 76 true 77 (.mov (.t 5))), (⟨some (76, true), some 78, .call (.c (.fn 15 [] [])) [((.t 77), .id)]⟩, []), (zw 76 true 79 (.ld true 8 (.t 6)), [22]), (⟨some (76, true), some 80, .call (.c (.fn 16 [] [])) [((.t 79), (.agg [(.sl 4), .id, .id, .id, .id, .id, .id, .id]))]⟩, []), (zw 76 true 81 (.bin .eql (.cells [(.int .i64), (.int .i64), (.int .i64), .str]) (.t 78) (.t 80)), []), zp (zv 82 (.pick (.t 76) (.t 81) (.c (.bool false)))), zp (zm 83 82), (⟨some (83, true), some 84, .call (.c (.fn 5 [] [])) []⟩, []), zp (zv 85 (.pick (.t 83) (.t 84) (.c (.bool false)))), zp (zm 4 85)]
def k0b : IC := (.seq qbss (.seq (.seq qbrq (.cond (.t 16) (.seq qbu3 .ret) .skip)) (.seq qbul (.seq qbv1 (.seq qbvd (.seq (.seq qbxc (.cond (.t 22) (.seq qbuj qbu8) (.seq qbx1 qbf3))) (.seq qbed (.seq qbja (.seq (.seq qblf (.cond (.t 54) qbdl .skip)) (.seq qbcb .ret))))))))))
@[go_sem] def s0b : List (RV × Co) := [(.t 4, .id)]
theorem c0b : cFun Tryz.prog 3 = some (86, k0b, s0b) := by kernel_rfl

def qbwh : IC := .reg false [zv 0 (.mov (.c (.bool false)))]
def qbw2 : IC := .reg false [zi 11 (.call (.c (.fn 17 [] [])) [((.c (.str [102, 32, 120, 32, 49])), .id)]), zm 10 11, zv 12 (.ext (.t 10) 0), zv 13 (.ext (.t 10) 1), zv 14 (.ext (.t 10) 2), zi 1 (.alo [(.int .i64 0), (.int .i64 0), (.int .i64 0), (.str []), .nils]), zn (.st 5 (.agg [.id, .id, .id, .id, (.sl 5)]) (.t 1) (.t 12)), zm 2 13, zm 3 14]
def qbyb : IC := .reg false [zi 16 (.call (.c (.fn 17 [] [])) [((.c (.str [92, 32, 120, 32, 121, 32, 45, 62, 32, 108, 101, 116, 32, 123, 32, 103, 32, 122, 32, 61, 32, 122, 59, 32, 125, 32, 105, 110, 32, 99, 97, 115, 101, 32, 120, 32, 111, 102, 32, 123, 32, 75, 32, 97, 32, 45, 62, 32, 105, 102, 32, 97, 32, 116, 104, 101, 110, 32, 121, 32, 101, 108, 115, 101, 32, 50, 32, 125])), .id)]), zm 15 16, zv 17 (.ext (.t 15) 0), zv 18 (.ext (.t 15) 1), zv 19 (.ext (.t 15) 2), zi 4 (.alo [(.int .i64 0), (.int .i64 0), (.int .i64 0), (.str []), .nils]), zn (.st 5 (.agg [.id, .id, .id, .id, (.sl 5)]) (.t 4) (.t 17)), zm 5 18, zm 6 19]
def qbw5 : IC := .reg false [zi 21 (.call (.c (.fn 17 [] [])) [((.c (.str [108, 101, 116, 32, 123, 32, 125, 32, 105, 110, 32, 120])), .id)]), zm 20 21, zv 22 (.ext (.t 20) 0), zv 23 (.ext (.t 20) 1), zv 24 (.ext (.t 20) 2), zi 7 (.alo [(.int .i64 0), (.int .i64 0), (.int .i64 0), (.str []), .nils]), zn (.st 5 (.agg [.id, .id, .id, .id, (.sl 5)]) (.t 7) (.t 22)), zm 8 23, zm 9 24]
def qby8 : IC := .reg false [zv 25 (.fad (.t 1) 4), zv 26 (.ld false 1 (.t 25)), zv 27 (.len false (.t 26)), zv 28 (.bin .neq .no (.t 27) (.c (.int .i64 2))), zm 29 28, zw 29 false 30 (.fad (.t 4) 4), zw 29 false 31 (.ld false 1 (.t 30)), zw 29 false 32 (.len false (.t 31)), zw 29 false 33 (.bin .neq .no (.t 32) (.c (.int .i64 1))), zv 34 (.pick (.t 29) (.c (.bool true)) (.t 33))]
def qbxg : IC := .reg false [zv 0 (.mov (.c (.bool false)))]
def qbv9 : IC := .reg false [zv 35 (.fad (.t 1) 0), zv 36 (.ld false 1 (.t 35)), zv 37 (.bin .eql .no (.t 36) (.c (.int .i64 24))), zm 38 37, zw 38 true 39 (.fad (.t 1) 4), zw 38 true 40 (.ld false 1 (.t 39)), zw 38 true 41 (.iad 5 (.t 40) (.c (.int .i64 1))), zw 38 true 42 (.fad (.t 41) 2), zw 38 true 43 (.ld false 1 (.t 42)), zw 38 true 44 (.bin .eql .no (.t 43) (.c (.int .i64 1))), zv 45 (.pick (.t 38) (.t 44) (.c (.bool false))), zm 46 45, zw 46 true 47 (.fad (.t 1) 4), zw 46 true 48 (.ld false 1 (.t 47)), zw 46 true 49 (.iad 5 (.t 48) (.c (.int .i64 0))), zw 46 true 50 (.fad (.t 49) 0), zw 46 true 51 (.ld false 1 (.t 50)), zw 46 true 52 (.bin .eql .no (.t 51) (.c (.int .i64 24))), zv 53 (.pick (.t 46) (.t 52) (.c (.bool false))), zm 54 53, zw 54 true 55 (.mov (.t 2)), zw 54 true 56 (.bin .eql .no (.t 55) (.c (.int .i64 0))), zv 57 (.pick (.t 54) (.t 56) (.c (.bool false))), zm 58 57, zw 58 true 59 (.mov (.t 3)), zw 58 true 60 (.bin .eql .no (.t 59) (.c (.int .i64 0))), zv 61 (.pick (.t 58) (.t 60) (.c (.bool false))), zm 62 61, zw 62 true 63 (.fad (.t 4) 0), zw 62 true 64 (.ld false 1 (.t 63)), zw 62 true 65 (.bin .eql .no (.t 64) (.c (.int .i64 25))), zv 66 (.pick (.t 62) (.t 65) (.c (.bool false))), zm 67 66, zw 67 true 68 (.fad (.t 4) 3), zw 67 true 69 (.ld false 1 (.t 68)), zw 67 true 70 (.bin .eql .no (.t 69) (.c (.str [120]))), zv 71 (.pick (.t 67) (.t 70) (.c (.bool false))), zm 72 71, zw 72 true 73 (.fad (.t 4) 4), zw 72 true 74 (.ld false 1 (.t 73)), zw 72 true 75 (.iad 5 (.t 74) (.c (.int .i64 0))), zw 72 true 76 (.fad (.t 75) 3), zw 72 true 77 (.ld false 1 (.t 76)), zw 72 true 78 (.bin .eql .no (.t 77) (.c (.str [121]))), zv 79 (.pick (.t 72) (.t 78) (.c (.bool false))), zm 80 79, zw 80 true 81 (.mov (.t 6)), zw 80 true 82 (.bin .eql .no (.t 81) (.c (.int .i64 0))), zv 83 (.pick (.t 80) (.t 82) (.c (.bool false))), zm 84 83, zw 84 true 85 (.mov (.t 8)), zw 84 true 86 (.bin .eql .no (.t 85) (.c (.int .i64 6))), zv 87 (.pick (.t 84) (.t 86) (.c (.bool false))), zm 88 87, zw 88 true 89 (.mov (.t 9)), zw 88 true 90 (.bin .eql .no (.t 89) (.c (.int .i64 5))), zv 91 (.pick (.t 88) (.t 90) (.c (.bool false))), zm 0 91]
def k0a : IC := (.seq qbwh (.seq qbw2 (.seq qbyb (.seq qbw5 (.seq (.seq qby8 (.cond (.t 34) (.seq qbxg .ret) .skip)) (.seq qbv9 .ret))))))
@[go_sem] def s0a : List (RV × Co) := [(.t 0, .id)]
theorem c0a : cFun Tryz.prog 5 = some (92, k0a, s0a) := by kernel_rfl

def qbj5 : IC := .reg false [zv 2 (.mov (.c .nilp))]
def qba7 : IC := .reg false [zv 6 (.bld [.nils, (.int .i64 0), (.int .i64 0), (.int .i64 0), (.str []), (.int .i64 0), (.int .i64 0), (.int .i64 0), (.int .i64 0)] []), zi 7 (.box (.t 6)), zm 3 7]
def qbn8 : IC := .reg false [zm 8 0, zv 9 (.len false (.t 8)), zv 10 (.mov (.c (.int .i64 0)))]
def qbct : IC := .reg false [zv 11 (.bin .lss .no (.t 10) (.t 9))]
def qbla : IC := .reg false [zv 12 (.iad 4 (.t 8) (.t 10)), zv 13 (.ld true 4 (.t 12)), zi 5 (.alo [(.int .i64 0), (.int .i64 0), (.int .i64 0), (.str [])]), zn (.st 4 .id (.t 5) (.t 13))]
def qbjm : IC := .reg false [zv 14 (.fad (.t 5) 0), zv 15 (.ld false 1 (.t 14)), zv 16 (.bin .eql .no (.t 15) (.c (.int .i64 0)))]
def qbo4 : IC := .reg false [zm 17 3, zv 18 (.fad (.t 5) 1), zv 19 (.ld false 1 (.t 18)), zv 20 (.nck (.t 17)), zv 21 (.fad (.t 20) 1), zv 22 (.fad (.t 21) 1), zn (.st 1 .id (.t 22) (.t 19))]
def qbp1 : IC := .drw [zp (zm 23 3), zp (zm 24 3), zp (zv 25 (.nck (.t 24))), zp (zv 26 (.fad (.t 25) 0)), zp (zv 27 (.ld false 1 (.t 26))), zp (zv 28 (.ld true 4 (.t 5))), (zv 29 (.bsl 4 [((.t 28), .id)]), []), (zi 30 (.app 4 (.agg [(.int .i64 0), (.int .i64 0), (.int .i64 0), (.str [])]) 40 (.sl 4) (.t 27) (.t 29)), []), zp (zv 31 (.nck (.t 23))), zp (zv 32 (.fad (.t 31) 0)), (zn (.st 1 (.sl 4) (.t 32) (.t 30)), [])]
def qbe4 : IC := .reg false [zv 33 (.bin .add .no (.t 10) (.c (.int .i64 1))), zm 10 33]
def qbq2 : IC := (.seq qbct (.seq (.cond (.t 11) .skip (.exit 0)) (.seq (.block 1 (.seq qbla (.seq (.seq qbjm (.cond (.t 16) (.seq qbo4 (.exit 0)) .skip)) qbp1))) qbe4)))
def q9l : IC := .reg false [zm 34 3, zm 2 34]
def k0ck : IC := (.seq qbj5 (.seq qba7 (.seq (.seq qbn8 (.block 0 (.loop qbq2))) (.seq q9l .ret))))
@[go_sem] def s0ck : List (RV × Co) := [(.t 2, .id)]
theorem c0ck : cFun Tryz.prog 6 = some (35, k0ck, s0ck) := by kernel_rfl

def qbkn : IC := .reg false [zi 2 (.alo [.nils, (.int .i64 0), (.int .i64 0), (.int .i64 0), (.str []), (.int .i64 0), (.int .i64 0), (.int .i64 0)])]
def qbnd : IC := .reg false [zv 3 (.mov (.c (.int .i64 0)))]
def qbls : IC := .reg false [zm 4 3, zm 5 0, zv 6 (.len false (.t 5)), zv 7 (.bin .lss .no (.t 4) (.t 6))]
def qbhr : IC := .reg false [zm 10 0, zm 11 3, zv 12 (.iad 4 (.t 10) (.t 11)), zv 13 (.fad (.t 12) 0), zv 14 (.ld false 1 (.t 13)), zv 15 (.bin .eql .no (.t 14) (.c (.int .i64 0)))]
def qbfy : IC := .drw [zp (zm 16 0), zp (zm 17 3), zp (zv 18 (.slv 4 (.t 16) none (some (.t 17)) none)), zp (zm 19 0), zp (zm 20 3), zp (zv 21 (.iad 4 (.t 19) (.t 20))), zp (zv 22 (.fad (.t 21) 1)), zp (zv 23 (.ld false 1 (.t 22))), (zv 24 (.bld [(.int .i64 0), (.int .i64 0), (.int .i64 0), (.str [])] [(0, 1, (.c (.int .i64 0))), (1, 1, (.t 23))]), []), (zv 25 (.bld [.nils, (.int .i64 0), (.int .i64 0), (.int .i64 0), (.str []), (.int .i64 0), (.int .i64 0), (.int .i64 0)] [(0, 1, (.t 18)), (1, 4, (.t 24))]), []), (zn (.st 8 (.agg [(.sl 4), .id, .id, .id, .id, .id, .id, .id]) (.t 2) (.t 25)), [])]
def qbmc : IC := .reg false [zm 8 3, zv 9 (.bin .add .no (.t 8) (.c (.int .i64 1))), zm 3 9]
def qbni : IC := (.seq (.seq qbls (.cond (.t 7) .skip (.exit 0))) (.seq (.block 1 (.seq qbhr (.cond (.t 15) (.seq qbfy .ret) .skip))) qbmc))
def qbcm : IC := .reg false [zm 26 0, zv 27 (.bld [.nils, (.int .i64 0), (.int .i64 0), (.int .i64 0), (.str []), (.int .i64 0), (.int .i64 0), (.int .i64 0)] [(0, 1, (.t 26))]), zn (.st 8 (.agg [(.sl 4), .id, .id, .id, .id, .id, .id, .id]) (.t 2) (.t 27))]
def k0cj : IC := (.seq qbkn (.seq (.seq qbnd (.block 0 (.loop qbni))) (.seq qbcm .ret)))
@[go_sem] def s0cj : List (RV × Co) := [(.c true 8 2, (.agg [(.sl 4), .id, .id, .id, .id, .id, .id, .id]))]
theorem c0cj : cFun Tryz.prog 7 = some (28, k0cj, s0cj) := by kernel_rfl

def qbvt : IC := .reg false [zi 2 (.alo [(.int .i64 0), (.int .i64 0), (.int .i64 0), (.str []), .nils]), zv 3 (.mov (.c (.bool false)))]
def qbru : IC := .reg false [zm 9 0, zi 10 (.call (.c (.fn 20 [] [])) [((.t 9), .id), ((.c (.int .i64 1)), .id)]), zm 8 10, zv 11 (.ext (.t 8) 0), zv 12 (.ext (.t 8) 1), zi 4 (.alo [(.int .i64 0), (.int .i64 0), (.int .i64 0), (.str [])]), zn (.st 4 .id (.t 4) (.t 11)), zm 5 12]
def qbrs : IC := .reg false [zm 13 5, zv 14 (.un .not (.t 13))]
def qbwy : IC := .reg false [zv 15 (.bld [(.int .i64 0), (.int .i64 0), (.int .i64 0), (.str []), .nils] []), zn (.st 5 (.agg [.id, .id, .id, .id, (.sl 5)]) (.t 2) (.t 15)), zv 3 (.mov (.c (.bool false)))]
def qbxs : IC := .reg false [zv 16 (.fad (.t 4) 1), zv 17 (.ld false 1 (.t 16)), zv 18 (.fad (.t 4) 3), zv 19 (.ld false 1 (.t 18)), zv 20 (.bld [(.int .i64 0), (.int .i64 0), (.int .i64 0), (.str []), .nils] [(0, 1, (.c (.int .i64 31))), (1, 1, (.t 17)), (3, 1, (.t 19))]), zi 6 (.alo [(.int .i64 0), (.int .i64 0), (.int .i64 0), (.str []), .nils]), zn (.st 5 (.agg [.id, .id, .id, .id, (.sl 5)]) (.t 6) (.t 20))]
def qbsz : IC := .reg false [zi 7 (.alo [(.int .i64 0), (.int .i64 0), (.int .i64 0), (.str []), .nils])]
def qbs8 : IC := .reg false [zm 21 0, zi 22 (.call (.c (.fn 21 [] [])) [((.t 21), .id), ((.c (.str [58, 58])), .id)])]
def qbwx : IC := .reg false [zv 23 (.fad (.t 6) 0), zn (.st 1 .id (.t 23) (.c (.int .i64 32)))]
def qbvg : IC := .reg false [zm 25 0, zi 26 (.call (.c (.fn 22 [] [])) [((.t 25), .id)]), zm 24 26, zv 27 (.ext (.t 24) 0), zv 28 (.ext (.t 24) 1), zn (.st 5 (.agg [.id, .id, .id, .id, (.sl 5)]) (.t 7) (.t 27)), zm 5 28]
def qbw8 : IC := .reg false [zm 30 0, zi 31 (.call (.c (.fn 23 [] [])) [((.t 30), .id), ((.c (.str [61])), .id)]), zm 29 31, zv 32 (.ext (.t 29) 0), zv 33 (.ext (.t 29) 1), zn (.st 5 (.agg [.id, .id, .id, .id, (.sl 5)]) (.t 7) (.t 32)), zm 5 33]
def qbar : IC := .reg false [zm 34 5, zv 35 (.un .not (.t 34))]
def qbfe : IC := .reg false [zv 36 (.bld [(.int .i64 0), (.int .i64 0), (.int .i64 0), (.str []), .nils] []), zn (.st 5 (.agg [.id, .id, .id, .id, (.sl 5)]) (.t 2) (.t 36)), zv 3 (.mov (.c (.bool false)))]
def qbpo : IC := .reg false [zv 37 (.ld true 5 (.t 7)), zv 38 (.bsl 5 [((.t 37), (.agg [.id, .id, .id, .id, (.sl 5)]))]), zv 39 (.fad (.t 6) 4), zn (.st 1 (.sl 5) (.t 39) (.t 38))]
def qbmf : IC := .reg false [zv 40 (.ld true 5 (.t 6)), zn (.st 5 (.agg [.id, .id, .id, .id, (.sl 5)]) (.t 2) (.t 40)), zv 3 (.mov (.c (.bool true)))]
def k0y : IC := (.seq qbvt (.seq qbru (.seq (.seq qbrs (.cond (.t 14) (.seq qbwy .ret) .skip)) (.seq qbxs (.seq qbsz (.seq (.seq qbs8 (.cond (.t 22) (.seq qbwx qbvg) qbw8)) (.seq (.seq qbar (.cond (.t 35) (.seq qbfe .ret) .skip)) (.seq qbpo (.seq qbmf .ret)))))))))
@[go_sem] def s0y : List (RV × Co) := [(.c true 5 2, (.agg [.id, .id, .id, .id, (.sl 5)])), (.t 3, .id)]
theorem c0y : cFun Tryz.prog 8 = some (41, k0y, s0y) := by kernel_rfl

def qbro : IC := .reg false [zi 1 (.box (.t 0)), zi 2 (.alo [.nils, (.int .i64 0), (.int .i64 0), (.int .i64 0), (.str []), (.int .i64 0), (.int .i64 0), (.int .i64 0)]), zi 3 (.alo [(.int .i64 0), (.int .i64 0), (.int .i64 0), (.str []), .nils])]
def qbvy : IC := .reg false [zv 13 (.ld true 8 (.t 1)), zi 14 (.call (.c (.fn 24 [] [])) [((.t 13), (.agg [(.sl 4), .id, .id, .id, .id, .id, .id, .id])), ((.c (.int .i64 1)), .id)]), zm 12 14, zv 15 (.ext (.t 12) 0), zv 16 (.ext (.t 12) 1), zv 17 (.ext (.t 12) 2), zi 4 (.alo [(.int .i64 0), (.int .i64 0), (.int .i64 0), (.str [])]), zn (.st 8 (.agg [(.sl 4), .id, .id, .id, .id, .id, .id, .id]) (.t 1) (.t 15)), zn (.st 4 .id (.t 4) (.t 16)), zm 5 17]
def qbvl : IC := .reg false [zv 19 (.ld true 8 (.t 1)), zi 20 (.call (.c (.fn 25 [] [])) [((.t 19), (.agg [(.sl 4), .id, .id, .id, .id, .id, .id, .id])), ((.c (.str [58, 58])), .id)]), zm 18 20, zv 21 (.ext (.t 18) 0), zv 22 (.ext (.t 18) 1), zi 6 (.alo [.nils, (.int .i64 0), (.int .i64 0), (.int .i64 0), (.str []), (.int .i64 0), (.int .i64 0), (.int .i64 0)]), zn (.st 8 (.agg [(.sl 4), .id, .id, .id, .id, .id, .id, .id]) (.t 6) (.t 21)), zm 7 22]
def qbsp : IC := .reg false [zm 23 7]
def qbxx : IC := .reg false [zv 25 (.ld true 8 (.t 6)), zi 26 (.call (.c (.fn 26 [] [])) [((.t 25), (.agg [(.sl 4), .id, .id, .id, .id, .id, .id, .id]))]), zm 24 26, zv 27 (.ext (.t 24) 0), zv 28 (.ext (.t 24) 1), zi 8 (.alo [.nils, (.int .i64 0), (.int .i64 0), (.int .i64 0), (.str []), (.int .i64 0), (.int .i64 0), (.int .i64 0)]), zi 9 (.alo [(.int .i64 0), (.int .i64 0), (.int .i64 0), (.str []), .nils]), zn (.st 8 (.agg [(.sl 4), .id, .id, .id, .id, .id, .id, .id]) (.t 8) (.t 27)), zn (.st 5 (.agg [.id, .id, .id, .id, (.sl 5)]) (.t 9) (.t 28))]
def qby3 : IC := .drw [zp (zv 29 (.ld true 8 (.t 8))), zp (zv 30 (.fad (.t 4) 1)), zp (zv 31 (.ld false 1 (.t 30))), zp (zv 32 (.fad (.t 4) 3)), zp (zv 33 (.ld false 1 (.t 32))), zp (zv 34 (.ld true 5 (.t 9))), (zv 35 (.bsl 5 [((.t 34), (.agg [.id, .id, .id, .id, (.sl 5)]))]), []), (zv 36 (.bld [(.int .i64 0), (.int .i64 0), (.int .i64 0), (.str []), .nils] [(0, 1, (.c (.int .i64 32))), (1, 1, (.t 31)), (3, 1, (.t 33)), (4, 1, (.t 35))]), []), (zn (.st 8 (.agg [(.sl 4), .id, .id, .id, .id, .id, .id, .id]) (.t 2) (.t 29)), [2, 4, 5, 6]), (zn (.st 5 (.agg [.id, .id, .id, .id, (.sl 5)]) (.t 3) (.t 36)), [])]
def qbsq : IC := .reg false [zv 38 (.ld true 8 (.t 1)), zi 39 (.call (.c (.fn 27 [] [])) [((.t 38), (.agg [(.sl 4), .id, .id, .id, .id, .id, .id, .id]))]), zm 37 39, zv 40 (.ext (.t 37) 0), zv 41 (.ext (.t 37) 1), zn (.st 8 (.agg [(.sl 4), .id, .id, .id, .id, .id, .id, .id]) (.t 1) (.t 40)), zm 10 41]
def qbzf : IC := .reg false [zv 43 (.ld true 8 (.t 1)), zi 44 (.call (.c (.fn 28 [] [])) [((.t 43), (.agg [(.sl 4), .id, .id, .id, .id, .id, .id, .id])), ((.c (.str [61])), .id)]), zm 42 44, zv 45 (.ext (.t 42) 0), zv 46 (.ext (.t 42) 1), zn (.st 8 (.agg [(.sl 4), .id, .id, .id, .id, .id, .id, .id]) (.t 1) (.t 45))]
def qbua : IC := .reg false [zv 48 (.ld true 8 (.t 1)), zi 49 (.call (.c (.fn 11 [] [])) [((.t 48), (.agg [(.sl 4), .id, .id, .id, .id, .id, .id, .id]))]), zm 47 49, zv 50 (.ext (.t 47) 0), zv 51 (.ext (.t 47) 1), zi 11 (.alo [(.int .i64 0), (.int .i64 0), (.int .i64 0), (.str []), .nils]), zn (.st 8 (.agg [(.sl 4), .id, .id, .id, .id, .id, .id, .id]) (.t 1) (.t 50)), zn (.st 5 (.agg [.id, .id, .id, .id, (.sl 5)]) (.t 11) (.t 51))]
def qbvn : IC := .drw [zp (zv 52 (.ld true 8 (.t 1))), zp (zv 53 (.fad (.t 4) 1)), zp (zv 54 (.ld false 1 (.t 53))), zp (zv 55 (.fad (.t 4) 3)), zp (zv 56 (.ld false 1 (.t 55))), zp (zm 57 10), zp (zv 58 (.ld true 5 (.t 11))), (zi 59 (.call (.c (.fn 29 [] [])) [((.t 57), (.sl 4)), ((.t 58), (.agg [.id, .id, .id, .id, (.sl 5)]))]), [0, 2, 4]), (zv 60 (.bsl 5 [((.t 59), (.agg [.id, .id, .id, .id, (.sl 5)]))]), []), (zv 61 (.bld [(.int .i64 0), (.int .i64 0), (.int .i64 0), (.str []), .nils] [(0, 1, (.c (.int .i64 31))), (1, 1, (.t 54)), (3, 1, (.t 56)), (4, 1, (.t 60))]), []), (zn (.st 8 (.agg [(.sl 4), .id, .id, .id, .id, .id, .id, .id]) (.t 2) (.t 52)), [2, 4, 8]), (zn (.st 5 (.agg [.id, .id, .id, .id, (.sl 5)]) (.t 3) (.t 61)), [])]
def k0k : IC := (.seq qbro (.seq qbvy (.seq (.seq qbvl (.seq qbsp (.cond (.t 23) (.seq qbxx (.seq qby3 .ret)) .skip))) (.seq qbsq (.seq qbzf (.seq qbua (.seq qbvn .ret)))))))
@[go_sem] def s0k : List (RV × Co) := [(.c true 8 2, (.agg [(.sl 4), .id, .id, .id, .id, .id, .id, .id])), (.c true 5 3, (.agg [.id, .id, .id, .id, (.sl 5)]))]
theorem c0k : cFun Tryz.prog 9 = some (62, k0k, s0k) := by kernel_rfl

def qbuk : IC := .reg false [zi 2 (.alo [(.int .i64 0), (.int .i64 0), (.int .i64 0), (.str []), .nils]), zv 3 (.mov (.c (.bool false)))]
def qbuo : IC := .reg false [zm 6 0, zi 7 (.call (.c (.fn 30 [] [])) [((.t 6), .id)]), zv 8 (.un .not (.t 7))]
def qbwz : IC := .reg false [zv 9 (.bld [(.int .i64 0), (.int .i64 0), (.int .i64 0), (.str []), .nils] []), zn (.st 5 (.agg [.id, .id, .id, .id, (.sl 5)]) (.t 2) (.t 9)), zv 3 (.mov (.c (.bool false)))]
def qbwp : IC := .reg false [zm 11 0, zi 12 (.call (.c (.fn 31 [] [])) [((.t 11), .id)]), zm 10 12, zv 13 (.ext (.t 10) 0), zv 14 (.ext (.t 10) 1), zi 4 (.alo [(.int .i64 0), (.int .i64 0), (.int .i64 0), (.str []), .nils]), zn (.st 5 (.agg [.id, .id, .id, .id, (.sl 5)]) (.t 4) (.t 13)), zm 5 14]
def qbrm : IC := .reg false [zm 15 0, zi 16 (.call (.c (.fn 32 [] [])) [((.t 15), .id)])]
def qbsl : IC := .reg false [zm 17 5, zv 18 (.un .not (.t 17))]
def qbsk : IC := .reg false [zv 19 (.bld [(.int .i64 0), (.int .i64 0), (.int .i64 0), (.str []), .nils] []), zn (.st 5 (.agg [.id, .id, .id, .id, (.sl 5)]) (.t 2) (.t 19)), zv 3 (.mov (.c (.bool false)))]
def qbub : IC := .reg false [zv 20 (.ld true 5 (.t 4)), zn (.st 5 (.agg [.id, .id, .id, .id, (.sl 5)]) (.t 2) (.t 20)), zv 3 (.mov (.c (.bool true)))]
def k0o : IC := (.seq qbuk (.seq (.seq qbuo (.cond (.t 8) (.seq qbwz .ret) .skip)) (.seq qbwp (.seq qbrm (.seq (.seq qbsl (.cond (.t 18) (.seq qbsk .ret) .skip)) (.seq qbub .ret))))))
@[go_sem] def s0o : List (RV × Co) := [(.c true 5 2, (.agg [.id, .id, .id, .id, (.sl 5)])), (.t 3, .id)]
theorem c0o : cFun Tryz.prog 10 = some (21, k0o, s0o) := by kernel_rfl

def qbx4 : IC := .reg false [zi 1 (.box (.t 0)), zi 2 (.alo [.nils, (.int .i64 0), (.int .i64 0), (.int .i64 0), (.str []), (.int .i64 0), (.int .i64 0), (.int .i64 0)]), zi 3 (.alo [(.int .i64 0), (.int .i64 0), (.int .i64 0), (.str []), .nils])]
def qbx7 : IC := .reg false [zv 6 (.ld true 8 (.t 1)), zi 7 (.call (.c (.fn 33 [] [])) [((.t 6), (.agg [(.sl 4), .id, .id, .id, .id, .id, .id, .id]))]), zm 5 7, zv 8 (.ext (.t 5) 0), zv 9 (.ext (.t 5) 1), zn (.st 8 (.agg [(.sl 4), .id, .id, .id, .id, .id, .id, .id]) (.t 1) (.t 8))]
def qbrt : IC := .reg false [zv 11 (.ld true 8 (.t 1)), zi 12 (.call (.c (.fn 34 [] [])) [((.t 11), (.agg [(.sl 4), .id, .id, .id, .id, .id, .id, .id]))]), zm 10 12, zv 13 (.ext (.t 10) 0), zv 14 (.ext (.t 10) 1), zi 4 (.alo [(.int .i64 0), (.int .i64 0), (.int .i64 0), (.str []), .nils]), zn (.st 8 (.agg [(.sl 4), .id, .id, .id, .id, .id, .id, .id]) (.t 1) (.t 13)), zn (.st 5 (.agg [.id, .id, .id, .id, (.sl 5)]) (.t 4) (.t 14))]
def qbt0 : IC := .drw [zp (zv 15 (.ld true 8 (.t 1))), (zi 16 (.call (.c (.fn 35 [] [])) [((.t 15), (.agg [(.sl 4), .id, .id, .id, .id, .id, .id, .id]))]), []), (zv 17 (.ld true 5 (.t 4)), [1]), (zn (.st 8 (.agg [(.sl 4), .id, .id, .id, .id, .id, .id, .id]) (.t 2) (.t 16)), [2]), (zn (.st 5 (.agg [.id, .id, .id, .id, (.sl 5)]) (.t 3) (.t 17)), [])]
def k0d : IC := (.seq qbx4 (.seq qbx7 (.seq qbrt (.seq qbt0 .ret))))
@[go_sem] def s0d : List (RV × Co) := [(.c true 8 2, (.agg [(.sl 4), .id, .id, .id, .id, .id, .id, .id])), (.c true 5 3, (.agg [.id, .id, .id, .id, (.sl 5)]))]
theorem c0d : cFun Tryz.prog 11 = some (18, k0d, s0d) := by kernel_rfl

def qbe0 : IC := .reg false [zv 2 (.mov (.c (.int .i64 0))), zv 3 (.mov (.c (.int .i64 0)))]
def qbmu : IC := .reg false [zm 5 0, zv 6 (.bin .eql .ptr (.t 5) (.c .nilp)), zm 4 6]
def qbf4 : IC := .reg false [zv 2 (.mov (.c (.int .i64 0))), zv 3 (.mov (.c (.int .i64 1)))]
def qbh4 : IC := .reg false [zm 8 0, zv 9 (.nck (.t 8)), zv 10 (.fad (.t 9) 7), zv 11 (.ld false 1 (.t 10)), zv 12 (.bin .neq .no (.t 11) (.c (.int .i64 0))), zm 7 12]
def qbo1 : IC := .drw [zp (zm 13 0), zp (zv 14 (.nck (.t 13))), zp (zv 15 (.fad (.t 14) 8)), zp (zv 16 (.ld false 1 (.t 15))), zp (zm 17 0), zp (zv 18 (.nck (.t 17))), zp (zv 19 (.fad (.t 18) 7)), zp (zv 20 (.ld false 1 (.t 19))), zp (zm 2 16), zp (zm 3 20)]
def qbmw : IC := .drw [zp (zm 22 0), zp (zv 23 (.nck (.t 22))), zp (zv 24 (.fad (.t 23) 5)), zp (zv 25 (.ld false 1 (.t 24))), zp (zm 26 0), zp (zv 27 (.nck (.t 26))), zp (zv 28 (.fad (.t 27) 0)), zp (zv 29 (.ld false 1 (.t 28))), zp (zv 30 (.len false (.t 29))), zp (zv 31 (.bin .lss .no (.t 25) (.t 30))), zp (zm 21 31)]
def qbd1 : IC := .drw [zp (zm 32 0), zp (zv 33 (.nck (.t 32))), zp (zv 34 (.fad (.t 33) 0)), zp (zv 35 (.ld false 1 (.t 34))), zp (zm 36 0), zp (zv 37 (.nck (.t 36))), zp (zv 38 (.fad (.t 37) 5)), zp (zv 39 (.ld false 1 (.t 38))), zp (zv 40 (.iad 4 (.t 35) (.t 39))), zp (zv 41 (.fad (.t 40) 1)), zp (zv 42 (.ld false 1 (.t 41))), zp (zm 2 42), zp (zv 3 (.mov (.c (.int .i64 5))))]
def qbhh : IC := .reg false [zm 43 0, zv 44 (.nck (.t 43)), zv 45 (.fad (.t 44) 1), zv 46 (.fad (.t 45) 1), zv 47 (.ld false 1 (.t 46)), zm 2 47, zv 3 (.mov (.c (.int .i64 0)))]
def k0cv : IC := (.seq qbe0 (.seq (.block 0 (.seq qbmu (.cond (.t 4) (.seq qbf4 .ret) (.seq qbh4 (.cond (.t 7) (.seq qbo1 .ret) (.seq qbmw (.cond (.t 21) (.seq qbd1 .ret) .skip))))))) (.seq qbhh .ret)))
@[go_sem] def s0cv : List (RV × Co) := [(.t 2, .id), (.t 3, .id)]
theorem c0cv : cFun Tryz.prog 12 = some (48, k0cv, s0cv) := by kernel_rfl

def qbpb : IC := .reg false [zi 1 (.box (.t 0)), zv 2 (.mov (.c (.int .i64 0))), zv 3 (.mov (.c (.int .i64 0)))]
def qbq4 : IC := .reg false [zv 5 (.fad (.t 1) 6), zv 6 (.ld false 1 (.t 5)), zv 7 (.bin .neq .no (.t 6) (.c (.int .i64 0))), zm 4 7]
def qbrb : IC := .drw [zp (zv 8 (.fad (.t 1) 7)), zp (zv 9 (.ld false 1 (.t 8))), zp (zv 10 (.fad (.t 1) 6)), zp (zv 11 (.ld false 1 (.t 10))), zp (zm 2 9), zp (zm 3 11)]
def qbnk : IC := .reg false [zv 13 (.fad (.t 1) 0), zv 14 (.ld false 1 (.t 13)), zv 15 (.len false (.t 14)), zv 16 (.bin .gtr .no (.t 15) (.c (.int .i64 0))), zm 12 16]
def qbpr : IC := .reg false [zv 17 (.fad (.t 1) 0), zv 18 (.ld false 1 (.t 17)), zv 19 (.iad 4 (.t 18) (.c (.int .i64 0))), zv 20 (.fad (.t 19) 1), zv 21 (.ld false 1 (.t 20)), zm 2 21, zv 3 (.mov (.c (.int .i64 5)))]
def qbly : IC := .reg false [zv 22 (.fad (.t 1) 1), zv 23 (.fad (.t 22) 1), zv 24 (.ld false 1 (.t 23)), zm 2 24, zv 3 (.mov (.c (.int .i64 0)))]
def k0ci : IC := (.seq qbpb (.seq (.block 0 (.seq qbq4 (.cond (.t 4) (.seq qbrb .ret) (.seq qbnk (.cond (.t 12) (.seq qbpr .ret) .skip))))) (.seq qbly .ret)))
@[go_sem] def s0ci : List (RV × Co) := [(.t 2, .id), (.t 3, .id)]
theorem c0ci : cFun Tryz.prog 13 = some (25, k0ci, s0ci) := by kernel_rfl

def qbli : IC := .reg false [zi 2 (.box (.t 0)), zi 3 (.box (.t 1)), zv 4 (.mov (.c (.bool false)))]
def qbak : IC := .reg false [zv 6 (.fad (.t 2) 1), zv 7 (.ld false 1 (.t 6)), zv 8 (.fad (.t 3) 1), zv 9 (.ld false 1 (.t 8)), zv 10 (.bin .neq .no (.t 7) (.t 9)), zm 11 10, zw 11 false 12 (.fad (.t 2) 0), zw 11 false 13 (.ld false 1 (.t 12)), zw 11 false 14 (.fad (.t 3) 0), zw 11 false 15 (.ld false 1 (.t 14)), zw 11 false 16 (.bin .neq .no (.t 13) (.t 15)), zv 17 (.pick (.t 11) (.c (.bool true)) (.t 16)), zm 18 17, zw 18 false 19 (.fad (.t 2) 3), zw 18 false 20 (.ld false 1 (.t 19)), zw 18 false 21 (.fad (.t 3) 3), zw 18 false 22 (.ld false 1 (.t 21)), zw 18 false 23 (.bin .neq .no (.t 20) (.t 22)), zv 24 (.pick (.t 18) (.c (.bool true)) (.t 23)), zm 25 24, zw 25 false 26 (.fad (.t 2) 2), zw 25 false 27 (.ld false 1 (.t 26)), zw 25 false 28 (.fad (.t 3) 2), zw 25 false 29 (.ld false 1 (.t 28)), zw 25 false 30 (.bin .neq .no (.t 27) (.t 29)), zv 31 (.pick (.t 25) (.c (.bool true)) (.t 30)), zm 32 31, zw 32 false 33 (.fad (.t 2) 4), zw 32 false 34 (.ld false 1 (.t 33)), zw 32 false 35 (.len false (.t 34)), zw 32 false 36 (.fad (.t 3) 4), zw 32 false 37 (.ld false 1 (.t 36)), zw 32 false 38 (.len false (.t 37)), zw 32 false 39 (.bin .neq .no (.t 35) (.t 38)), zv 40 (.pick (.t 32) (.c (.bool true)) (.t 39))]
def qbev : IC := .reg false [zv 4 (.mov (.c (.bool false)))]
def qbb1 : IC := .reg false [zv 5 (.mov (.c (.int .i64 0)))]
def qbc2 : IC := .reg false [zm 41 5, zv 42 (.fad (.t 2) 4), zv 43 (.ld false 1 (.t 42)), zv 44 (.len false (.t 43)), zv 45 (.bin .lss .no (.t 41) (.t 44))]
def qbnq : IC := .drw [zp (zv 48 (.fad (.t 2) 4)), zp (zv 49 (.ld false 1 (.t 48))), zp (zm 50 5), zp (zv 51 (.iad 5 (.t 49) (.t 50))), zp (zv 52 (.ld true 5 (.t 51))), zp (zv 53 (.fad (.t 3) 4)), zp (zv 54 (.ld false 1 (.t 53))), zp (zm 55 5), zp (zv 56 (.iad 5 (.t 54) (.t 55))), zp (zv 57 (.ld true 5 (.t 56))), (zi 58 (.call (.c (.fn 14 [] [])) [((.t 52), (.agg [.id, .id, .id, .id, (.sl 5)])), ((.t 57), (.agg [.id, .id, .id, .id, (.sl 5)]))]), []), zp (zv 59 (.un .not (.t 58)))]
def qbiz : IC := .reg false [zv 4 (.mov (.c (.bool false)))]
def qbox : IC := .reg false [zm 46 5, zv 47 (.bin .add .no (.t 46) (.c (.int .i64 1))), zm 5 47]
def qbna : IC := (.seq (.seq qbc2 (.cond (.t 45) .skip (.exit 0))) (.seq (.block 1 (.seq qbnq (.cond (.t 59) (.seq qbiz .ret) .skip))) qbox))
def q8s : IC := .reg false [zv 4 (.mov (.c (.bool true)))]
def k0ds : IC := (.seq qbli (.seq (.seq qbak (.cond (.t 40) (.seq qbev .ret) .skip)) (.seq (.seq qbb1 (.block 0 (.loop qbna))) (.seq q8s .ret))))
@[go_sem] def s0ds : List (RV × Co) := [(.t 4, .id)]
theorem c0ds : cFun Tryz.prog 14 = some (60, k0ds, s0ds) := by kernel_rfl

def qbjt : IC := .reg false [zi 2 (.alo [(.int .i64 0), (.int .i64 0), (.int .i64 0), (.str [])])]
def qbgm : IC := .reg false [zm 4 0, zi 5 (.call (.c (.fn 36 [] [])) [((.t 4), .id)]), zm 3 5]
def qba5 : IC := .reg false [zv 6 (.bld [(.int .i64 0), (.int .i64 0), (.int .i64 0), (.str [])] []), zn (.st 4 .id (.t 2) (.t 6))]
def qbqj : IC := .drw [zp (zm 8 0), zp (zv 9 (.nck (.t 8))), zp (zv 10 (.fad (.t 9) 5)), zp (zv 11 (.ld false 1 (.t 10))), zp (zm 12 0), zp (zv 13 (.nck (.t 12))), zp (zv 14 (.fad (.t 13) 0)), zp (zv 15 (.ld false 1 (.t 14))), zp (zv 16 (.len false (.t 15))), zp (zv 17 (.bin .lss .no (.t 11) (.t 16))), zp (zm 7 17)]
def qbiy : IC := .drw [zp (zm 18 0), zp (zv 19 (.nck (.t 18))), zp (zv 20 (.fad (.t 19) 0)), zp (zv 21 (.ld false 1 (.t 20))), zp (zm 22 0), zp (zv 23 (.nck (.t 22))), zp (zv 24 (.fad (.t 23) 5)), zp (zv 25 (.ld false 1 (.t 24))), zp (zv 26 (.iad 4 (.t 21) (.t 25))), zp (zv 27 (.ld true 4 (.t 26))), (zn (.st 4 .id (.t 2) (.t 27)), [])]
def qbpx : IC := .reg false [zm 28 0, zv 29 (.nck (.t 28)), zv 30 (.fad (.t 29) 1), zv 31 (.ld true 4 (.t 30)), zn (.st 4 .id (.t 2) (.t 31))]
def k0cm : IC := (.seq qbjt (.seq (.block 0 (.seq qbgm (.cond (.t 3) (.seq qba5 .ret) (.seq qbqj (.cond (.t 7) (.seq qbiy .ret) .skip))))) (.seq qbpx .ret)))
@[go_sem] def s0cm : List (RV × Co) := [(.c true 4 2, .id)]
theorem c0cm : cFun Tryz.prog 15 = some (32, k0cm, s0cm) := by kernel_rfl

def qbe8 : IC := .reg false [zi 1 (.box (.t 0)), zi 2 (.alo [(.int .i64 0), (.int .i64 0), (.int .i64 0), (.str [])])]
def qbpa : IC := .reg false [zv 4 (.fad (.t 1) 6), zv 5 (.ld false 1 (.t 4)), zv 6 (.bin .neq .no (.t 5) (.c (.int .i64 0))), zm 3 6]
def qbdb : IC := .reg false [zv 7 (.bld [(.int .i64 0), (.int .i64 0), (.int .i64 0), (.str [])] []), zn (.st 4 .id (.t 2) (.t 7))]
def qbew : IC := .reg false [zv 9 (.fad (.t 1) 0), zv 10 (.ld false 1 (.t 9)), zv 11 (.len false (.t 10)), zv 12 (.bin .eql .no (.t 11) (.c (.int .i64 0))), zm 8 12]
def qbb0 : IC := .reg false [zv 13 (.fad (.t 1) 1), zv 14 (.ld true 4 (.t 13)), zn (.st 4 .id (.t 2) (.t 14))]
def qbac : IC := .reg false [zv 15 (.fad (.t 1) 0), zv 16 (.ld false 1 (.t 15)), zv 17 (.iad 4 (.t 16) (.c (.int .i64 0))), zv 18 (.ld true 4 (.t 17)), zn (.st 4 .id (.t 2) (.t 18))]
def k0bz : IC := (.seq qbe8 (.seq (.block 0 (.seq qbpa (.cond (.t 3) (.seq qbdb .ret) (.seq qbew (.cond (.t 8) (.seq qbb0 .ret) .skip))))) (.seq qbac .ret)))
@[go_sem] def s0bz : List (RV × Co) := [(.c true 4 2, .id)]
theorem c0bz : cFun Tryz.prog 16 = some (19, k0bz, s0bz) := by kernel_rfl

def qbsm : IC := .reg false [zi 2 (.alo [(.int .i64 0), (.int .i64 0), (.int .i64 0), (.str []), .nils]), zv 3 (.mov (.c (.int .i64 0))), zv 4 (.mov (.c (.int .i64 0)))]
def qbwi : IC := .reg false [zm 14 0, zi 15 (.call (.c (.fn 37 [] [])) [((.t 14), .id)]), zm 13 15, zv 16 (.ext (.t 13) 0), zv 17 (.ext (.t 13) 1), zv 18 (.ext (.t 13) 2), zm 5 16, zm 6 17, zm 7 18]
def qbw3 : IC := .reg false [zm 19 7, zv 20 (.bin .neq .no (.t 19) (.c (.int .i64 0)))]
def qbvb : IC := .reg false [zv 21 (.bld [(.int .i64 0), (.int .i64 0), (.int .i64 0), (.str []), .nils] []), zm 22 6, zm 23 7, zn (.st 5 (.agg [.id, .id, .id, .id, (.sl 5)]) (.t 2) (.t 21)), zm 3 22, zm 4 23]
def qbvj : IC := .reg false [zm 24 5, zi 25 (.call (.c (.fn 6 [] [])) [((.t 24), (.sl 4))]), zm 8 25]
def qbzj : IC := .reg false [zm 27 8, zi 28 (.call (.c (.fn 10 [] [])) [((.t 27), .id)]), zm 26 28, zv 29 (.ext (.t 26) 0), zv 30 (.ext (.t 26) 1), zi 9 (.alo [(.int .i64 0), (.int .i64 0), (.int .i64 0), (.str []), .nils]), zn (.st 5 (.agg [.id, .id, .id, .id, (.sl 5)]) (.t 9) (.t 29)), zm 10 30]
def qbyr : IC := .reg false [zm 32 8, zi 33 (.call (.c (.fn 12 [] [])) [((.t 32), .id)]), zm 31 33, zv 34 (.ext (.t 31) 0), zv 35 (.ext (.t 31) 1), zm 11 34, zm 12 35]
def qbsr : IC := .reg false [zm 36 12, zv 37 (.bin .neq .no (.t 36) (.c (.int .i64 0)))]
def qbx3 : IC := .reg false [zv 38 (.bld [(.int .i64 0), (.int .i64 0), (.int .i64 0), (.str []), .nils] []), zm 39 11, zm 40 12, zn (.st 5 (.agg [.id, .id, .id, .id, (.sl 5)]) (.t 2) (.t 38)), zm 3 39, zm 4 40]
def qbwk : IC := .reg false [zv 41 (.ld true 5 (.t 9)), zi 42 (.call (.c (.fn 38 [] [])) [((.t 41), (.agg [.id, .id, .id, .id, (.sl 5)]))]), zv 43 (.bin .gtr .no (.t 42) (.c (.int .i64 100)))]
def qbah : IC := .drw [(zv 44 (.bld [(.int .i64 0), (.int .i64 0), (.int .i64 0), (.str []), .nils] []), []), zp (zv 45 (.fad (.t 9) 1)), zp (zv 46 (.ld false 1 (.t 45))), (zn (.st 5 (.agg [.id, .id, .id, .id, (.sl 5)]) (.t 2) (.t 44)), [2]), zp (zm 3 46), zp (zv 4 (.mov (.c (.int .i64 2))))]
def qbhy : IC := .reg false [zv 47 (.ld true 5 (.t 9)), zn (.st 5 (.agg [.id, .id, .id, .id, (.sl 5)]) (.t 2) (.t 47)), zv 3 (.mov (.c (.int .i64 0))), zv 4 (.mov (.c (.int .i64 0)))]
def k0p : IC := (.seq qbsm (.seq qbwi (.seq (.seq qbw3 (.cond (.t 20) (.seq qbvb .ret) .skip)) (.seq qbvj (.seq qbzj (.seq (.seq qbyr (.seq qbsr (.cond (.t 37) (.seq qbx3 .ret) .skip))) (.seq (.seq qbwk (.cond (.t 43) (.seq qbah .ret) .skip)) (.seq qbhy .ret))))))))
@[go_sem] def s0p : List (RV × Co) := [(.c true 5 2, (.agg [.id, .id, .id, .id, (.sl 5)])), (.t 3, .id), (.t 4, .id)]
theorem c0p : cFun Tryz.prog 17 = some (48, k0p, s0p) := by kernel_rfl

def qbb8 : IC := .reg false [zi 4 (.alo [(.int .i64 0), (.int .i64 0), (.int .i64 0), (.str [])]), zv 5 (.mov (.c (.bool false)))]
def qbca : IC := .reg false [zm 6 0, zi 7 (.call (.c (.fn 36 [] [])) [((.t 6), .id)]), zm 8 7, zw 8 false 9 (.mov (.t 0)), ⟨some (8, false), some 10, .call (.c (.fn 15 [] [])) [((.t 9), .id)]⟩, zw 8 false 11 (.fld false 1 0 (.t 10)), zw 8 false 12 (.mov (.t 1)), zw 8 false 13 (.bin .neq .no (.t 11) (.t 12)), zv 14 (.pick (.t 8) (.c (.bool true)) (.t 13))]
def qbg9 : IC := .reg false [zv 15 (.bld [(.int .i64 0), (.int .i64 0), (.int .i64 0), (.str [])] []), zm 16 0, zi 17 (.call (.c (.fn 43 [] [])) [((.t 16), .id), ((.c (.int .i64 5)), .id)]), zn (.st 4 .id (.t 4) (.t 15)), zm 5 17]
def qbji : IC := .reg false [zm 18 0, zi 19 (.call (.c (.fn 44 [] [])) [((.t 18), .id)]), zn (.st 4 .id (.t 4) (.t 19)), zv 5 (.mov (.c (.bool true)))]
def k0dx : IC := (.seq qbb8 (.seq (.seq qbca (.cond (.t 14) (.seq qbg9 .ret) .skip)) (.seq qbji .ret)))
@[go_sem] def s0dx : List (RV × Co) := [(.c true 4 4, .id), (.t 5, .id)]
theorem c0dx : cFun Tryz.prog 20 = some (20, k0dx, s0dx) := by kernel_rfl

def qbhe : IC := .reg false [zv 4 (.mov (.c (.bool false)))]
def qbno : IC := .reg false [zm 5 0, zm 6 1, zi 7 (.call (.c (.fn 45 [] [])) [((.t 5), .id), ((.t 6), .id)]), zv 8 (.un .not (.t 7))]
def qblg : IC := .reg false [zv 4 (.mov (.c (.bool false)))]
def qbpv : IC := .reg false [zm 9 0, zi 10 (.call (.c (.fn 44 [] [])) [((.t 9), .id)])]
def qbka : IC := .reg false [zv 4 (.mov (.c (.bool true)))]
def k0cr : IC := (.seq qbhe (.seq (.seq qbno (.cond (.t 8) (.seq qblg .ret) .skip)) (.seq qbpv (.seq qbka .ret))))
@[go_sem] def s0cr : List (RV × Co) := [(.t 4, .id)]
theorem c0cr : cFun Tryz.prog 21 = some (11, k0cr, s0cr) := by kernel_rfl

def qbnt : IC := .reg false [zi 2 (.alo [(.int .i64 0), (.int .i64 0), (.int .i64 0), (.str []), .nils]), zv 3 (.mov (.c (.bool false)))]
def qbht : IC := .reg false [zm 8 0, zi 9 (.call (.c (.fn 15 [] [])) [((.t 8), .id)]), zv 10 (.fld false 1 1 (.t 9)), zv 11 (.bld [(.int .i64 0), (.int .i64 0), (.int .i64 0), (.str []), .nils] [(0, 1, (.c (.int .i64 4))), (1, 1, (.t 10))]), zi 4 (.alo [(.int .i64 0), (.int .i64 0), (.int .i64 0), (.str []), .nils]), zn (.st 5 (.agg [.id, .id, .id, .id, (.sl 5)]) (.t 4) (.t 11))]
def qbdk : IC := .reg false [zm 13 0, zi 14 (.call (.c (.fn 46 [] [])) [((.t 13), .id)]), zm 12 14, zv 15 (.ext (.t 12) 0), zv 16 (.ext (.t 12) 1), zm 5 15, zm 6 16]
def qbmj : IC := .reg false [zm 17 6, zv 18 (.un .not (.t 17))]
def qbha : IC := .reg false [zv 19 (.bld [(.int .i64 0), (.int .i64 0), (.int .i64 0), (.str []), .nils] []), zn (.st 5 (.agg [.id, .id, .id, .id, (.sl 5)]) (.t 2) (.t 19)), zv 3 (.mov (.c (.bool false)))]
def qbjh : IC := .reg false [zm 21 0, zi 22 (.call (.c (.fn 47 [] [])) [((.t 21), .id)]), zm 20 22, zv 23 (.ext (.t 20) 0), zv 24 (.ext (.t 20) 1), zi 7 (.alo [(.int .i64 0), (.int .i64 0), (.int .i64 0), (.str []), .nils]), zn (.st 5 (.agg [.id, .id, .id, .id, (.sl 5)]) (.t 7) (.t 23)), zm 6 24]
def qbm3 : IC := .reg false [zm 25 5, zv 26 (.ld true 5 (.t 7)), zv 27 (.bsl 5 [((.t 26), (.agg [.id, .id, .id, .id, (.sl 5)]))]), zi 28 (.app 5 (.agg [(.int .i64 0), (.int .i64 0), (.int .i64 0), (.str []), .nils]) 64 (.sl 5) (.t 25) (.t 27)), zv 29 (.fad (.t 4) 4), zn (.st 1 (.sl 5) (.t 29) (.t 28))]
def qbn7 : IC := .reg false [zm 30 0, zv 31 (.ld true 5 (.t 4)), zm 32 6, zi 33 (.call (.c (.fn 48 [] [])) [((.t 30), .id), ((.t 31), (.agg [.id, .id, .id, .id, (.sl 5)])), ((.t 32), .id)]), zv 34 (.ext (.t 33) 0), zv 35 (.ext (.t 33) 1), zn (.st 5 (.agg [.id, .id, .id, .id, (.sl 5)]) (.t 2) (.t 34)), zm 3 35]
def k0bq : IC := (.seq qbnt (.seq qbht (.seq qbdk (.seq (.seq qbmj (.cond (.t 18) (.seq qbha .ret) .skip)) (.seq qbjh (.seq qbm3 (.seq qbn7 .ret)))))))
@[go_sem] def s0bq : List (RV × Co) := [(.c true 5 2, (.agg [.id, .id, .id, .id, (.sl 5)])), (.t 3, .id)]
theorem c0bq : cFun Tryz.prog 22 = some (36, k0bq, s0bq) := by kernel_rfl

def qbyn : IC := .reg false [zi 4 (.alo [(.int .i64 0), (.int .i64 0), (.int .i64 0), (.str []), .nils]), zv 5 (.mov (.c (.bool false)))]
def qbr1 : IC := .reg false [zm 9 0, zi 10 (.call (.c (.fn 15 [] [])) [((.t 9), .id)]), zv 11 (.fld false 1 0 (.t 10)), zv 12 (.bin .neq .no (.t 11) (.c (.int .i64 1)))]
def qbst : IC := .reg false [zm 13 0, zm 14 1, zi 15 (.call (.c (.fn 49 [] [])) [((.t 13), .id), ((.t 14), .id)]), zv 16 (.un .not (.t 15))]
def qby2 : IC := .reg false [zv 17 (.bld [(.int .i64 0), (.int .i64 0), (.int .i64 0), (.str []), .nils] []), zn (.st 5 (.agg [.id, .id, .id, .id, (.sl 5)]) (.t 4) (.t 17)), zv 5 (.mov (.c (.bool false)))]
def qbwd : IC := .reg false [zm 18 0, zi 19 (.call (.c (.fn 10 [] [])) [((.t 18), .id)]), zv 20 (.ext (.t 19) 0), zv 21 (.ext (.t 19) 1), zn (.st 5 (.agg [.id, .id, .id, .id, (.sl 5)]) (.t 4) (.t 20)), zm 5 21]
def qbv2 : IC := .reg false [zm 22 0, zi 23 (.call (.c (.fn 44 [] [])) [((.t 22), .id)]), zi 6 (.alo [(.int .i64 0), (.int .i64 0), (.int .i64 0), (.str [])]), zn (.st 4 .id (.t 6) (.t 23))]
def qbwl : IC := .reg false [zm 25 0, zm 26 1, zi 27 (.call (.c (.fn 23 [] [])) [((.t 25), .id), ((.t 26), .id)]), zm 24 27, zv 28 (.ext (.t 24) 0), zv 29 (.ext (.t 24) 1), zi 7 (.alo [(.int .i64 0), (.int .i64 0), (.int .i64 0), (.str []), .nils]), zn (.st 5 (.agg [.id, .id, .id, .id, (.sl 5)]) (.t 7) (.t 28)), zm 8 29]
def qbx0 : IC := .reg false [zv 30 (.fad (.t 6) 1), zv 31 (.ld false 1 (.t 30)), zv 32 (.fad (.t 6) 3), zv 33 (.ld false 1 (.t 32)), zv 34 (.ld true 5 (.t 7)), zv 35 (.bsl 5 [((.t 34), (.agg [.id, .id, .id, .id, (.sl 5)]))]), zv 36 (.bld [(.int .i64 0), (.int .i64 0), (.int .i64 0), (.str []), .nils] [(0, 1, (.c (.int .i64 25))), (1, 1, (.t 31)), (3, 1, (.t 33)), (4, 1, (.t 35))]), zm 37 8, zn (.st 5 (.agg [.id, .id, .id, .id, (.sl 5)]) (.t 4) (.t 36)), zm 5 37]
def k0x : IC := (.seq qbyn (.seq (.seq qbr1 (.cond (.t 12) (.seq (.seq qbst (.cond (.t 16) (.seq qby2 .ret) .skip)) (.seq qbwd .ret)) .skip)) (.seq qbv2 (.seq qbwl (.seq qbx0 .ret)))))
@[go_sem] def s0x : List (RV × Co) := [(.c true 5 4, (.agg [.id, .id, .id, .id, (.sl 5)])), (.t 5, .id)]
theorem c0x : cFun Tryz.prog 23 = some (38, k0x, s0x) := by kernel_rfl

def qbiw : IC := .reg false [zi 2 (.box (.t 0)), zi 4 (.alo [.nils, (.int .i64 0), (.int .i64 0), (.int .i64 0), (.str []), (.int .i64 0), (.int .i64 0), (.int .i64 0)]), zi 5 (.alo [(.int .i64 0), (.int .i64 0), (.int .i64 0), (.str [])]), zv 6 (.mov (.c (.bool false)))]
def qbo2 : IC := .reg false [zv 9 (.fad (.t 2) 6), zv 10 (.ld false 1 (.t 9)), zv 11 (.bin .neq .no (.t 10) (.c (.int .i64 0))), zm 12 11, zw 12 false 13 (.ld true 8 (.t 2)), ⟨some (12, false), some 14, .call (.c (.fn 16 [] [])) [((.t 13), (.agg [(.sl 4), .id, .id, .id, .id, .id, .id, .id]))]⟩, zw 12 false 15 (.fld false 1 0 (.t 14)), zw 12 false 16 (.mov (.t 1)), zw 12 false 17 (.bin .neq .no (.t 15) (.t 16)), zv 18 (.pick (.t 12) (.c (.bool true)) (.t 17))]
def qbez : IC := .reg false [zv 19 (.ld true 8 (.t 2)), zi 20 (.call (.c (.fn 50 [] [])) [((.t 19), (.agg [(.sl 4), .id, .id, .id, .id, .id, .id, .id])), ((.c (.int .i64 5)), .id)]), zv 21 (.bld [(.int .i64 0), (.int .i64 0), (.int .i64 0), (.str [])] []), zn (.st 8 (.agg [(.sl 4), .id, .id, .id, .id, .id, .id, .id]) (.t 4) (.t 20)), zn (.st 4 .id (.t 5) (.t 21)), zv 6 (.mov (.c (.bool false)))]
def qbqi : IC := .reg false [zv 23 (.ld true 8 (.t 2)), zi 24 (.call (.c (.fn 51 [] [])) [((.t 23), (.agg [(.sl 4), .id, .id, .id, .id, .id, .id, .id]))]), zm 22 24, zv 25 (.ext (.t 22) 0), zv 26 (.ext (.t 22) 1), zi 7 (.alo [.nils, (.int .i64 0), (.int .i64 0), (.int .i64 0), (.str []), (.int .i64 0), (.int .i64 0), (.int .i64 0)]), zi 8 (.alo [(.int .i64 0), (.int .i64 0), (.int .i64 0), (.str [])]), zn (.st 8 (.agg [(.sl 4), .id, .id, .id, .id, .id, .id, .id]) (.t 7) (.t 25)), zn (.st 4 .id (.t 8) (.t 26))]
def qbkp : IC := .drw [zp (zv 27 (.ld true 8 (.t 7))), zp (zv 28 (.ld true 4 (.t 8))), (zn (.st 8 (.agg [(.sl 4), .id, .id, .id, .id, .id, .id, .id]) (.t 4) (.t 27)), [1]), (zn (.st 4 .id (.t 5) (.t 28)), []), zp (zv 6 (.mov (.c (.bool true))))]
def k0dy : IC := (.seq qbiw (.seq (.seq qbo2 (.cond (.t 18) (.seq qbez .ret) .skip)) (.seq qbqi (.seq qbkp .ret))))
@[go_sem] def s0dy : List (RV × Co) := [(.c true 8 4, (.agg [(.sl 4), .id, .id, .id, .id, .id, .id, .id])), (.c true 4 5, .id), (.t 6, .id)]
theorem c0dy : cFun Tryz.prog 24 = some (29, k0dy, s0dy) := by kernel_rfl

def qbq8 : IC := .reg false [zi 2 (.box (.t 0)), zi 4 (.alo [.nils, (.int .i64 0), (.int .i64 0), (.int .i64 0), (.str []), (.int .i64 0), (.int .i64 0), (.int .i64 0)]), zv 5 (.mov (.c (.bool false)))]
def qbqv : IC := .reg false [zv 8 (.ld true 8 (.t 2)), zm 9 1, zi 10 (.call (.c (.fn 52 [] [])) [((.t 8), (.agg [(.sl 4), .id, .id, .id, .id, .id, .id, .id])), ((.t 9), .id)]), zv 11 (.un .not (.t 10))]
def qbae : IC := .reg false [zv 12 (.ld true 8 (.t 2)), zn (.st 8 (.agg [(.sl 4), .id, .id, .id, .id, .id, .id, .id]) (.t 4) (.t 12)), zv 5 (.mov (.c (.bool false)))]
def qbku : IC := .reg false [zv 14 (.ld true 8 (.t 2)), zi 15 (.call (.c (.fn 51 [] [])) [((.t 14), (.agg [(.sl 4), .id, .id, .id, .id, .id, .id, .id]))]), zm 13 15, zv 16 (.ext (.t 13) 0), zv 17 (.ext (.t 13) 1), zi 6 (.alo [.nils, (.int .i64 0), (.int .i64 0), (.int .i64 0), (.str []), (.int .i64 0), (.int .i64 0), (.int .i64 0)]), zi 7 (.alo [(.int .i64 0), (.int .i64 0), (.int .i64 0), (.str [])]), zn (.st 8 (.agg [(.sl 4), .id, .id, .id, .id, .id, .id, .id]) (.t 6) (.t 16)), zn (.st 4 .id (.t 7) (.t 17))]
def qbq3 : IC := .reg false [zv 18 (.ld true 8 (.t 6)), zn (.st 8 (.agg [(.sl 4), .id, .id, .id, .id, .id, .id, .id]) (.t 4) (.t 18)), zv 5 (.mov (.c (.bool true)))]
def k0cd : IC := (.seq qbq8 (.seq (.seq qbqv (.cond (.t 11) (.seq qbae .ret) .skip)) (.seq qbku (.seq qbq3 .ret))))
@[go_sem] def s0cd : List (RV × Co) := [(.c true 8 4, (.agg [(.sl 4), .id, .id, .id, .id, .id, .id, .id])), (.t 5, .id)]
theorem c0cd : cFun Tryz.prog 25 = some (19, k0cd, s0cd) := by kernel_rfl

def qbdp : IC := .reg false [zi 1 (.box (.t 0)), zi 2 (.alo [.nils, (.int .i64 0), (.int .i64 0), (.int .i64 0), (.str []), (.int .i64 0), (.int .i64 0), (.int .i64 0)]), zi 3 (.alo [(.int .i64 0), (.int .i64 0), (.int .i64 0), (.str []), .nils])]
def qbbv : IC := .reg false [zv 7 (.ld true 8 (.t 1)), zi 8 (.call (.c (.fn 16 [] [])) [((.t 7), (.agg [(.sl 4), .id, .id, .id, .id, .id, .id, .id]))]), zv 9 (.fld false 1 1 (.t 8)), zm 4 9]
def qbl9 : IC := .reg false [zv 11 (.ld true 8 (.t 1)), zi 12 (.call (.c (.fn 53 [] [])) [((.t 11), (.agg [(.sl 4), .id, .id, .id, .id, .id, .id, .id]))]), zm 10 12, zv 13 (.ext (.t 10) 0), zv 14 (.ext (.t 10) 1), zn (.st 8 (.agg [(.sl 4), .id, .id, .id, .id, .id, .id, .id]) (.t 1) (.t 13)), zm 5 14]
def qbij : IC := .reg false [zv 16 (.ld true 8 (.t 1)), zi 17 (.call (.c (.fn 54 [] [])) [((.t 16), (.agg [(.sl 4), .id, .id, .id, .id, .id, .id, .id]))]), zm 15 17, zv 18 (.ext (.t 15) 0), zv 19 (.ext (.t 15) 1), zi 6 (.alo [(.int .i64 0), (.int .i64 0), (.int .i64 0), (.str []), .nils]), zn (.st 8 (.agg [(.sl 4), .id, .id, .id, .id, .id, .id, .id]) (.t 1) (.t 18)), zn (.st 5 (.agg [.id, .id, .id, .id, (.sl 5)]) (.t 6) (.t 19))]
def qbh0 : IC := .drw [zp (zv 20 (.ld true 8 (.t 1))), zp (zm 21 4), zp (zm 22 5), (zi 23 (.app 5 (.agg [(.int .i64 0), (.int .i64 0), (.int .i64 0), (.str []), .nils]) 64 (.sl 5) (.c .nils) (.t 22)), [0]), (zv 24 (.ld true 5 (.t 6)), [3]), (zv 25 (.bsl 5 [((.t 24), (.agg [.id, .id, .id, .id, (.sl 5)]))]), [3]), (zi 26 (.app 5 (.agg [(.int .i64 0), (.int .i64 0), (.int .i64 0), (.str []), .nils]) 64 (.sl 5) (.t 23) (.t 25)), [0]), (zv 27 (.bld [(.int .i64 0), (.int .i64 0), (.int .i64 0), (.str []), .nils] [(0, 1, (.c (.int .i64 4))), (1, 1, (.t 21)), (4, 1, (.t 26))]), []), (zn (.st 8 (.agg [(.sl 4), .id, .id, .id, .id, .id, .id, .id]) (.t 2) (.t 20)), []), (zn (.st 5 (.agg [.id, .id, .id, .id, (.sl 5)]) (.t 3) (.t 27)), [])]
def k0bl : IC := (.seq qbdp (.seq qbbv (.seq qbl9 (.seq qbij (.seq qbh0 .ret)))))
@[go_sem] def s0bl : List (RV × Co) := [(.c true 8 2, (.agg [(.sl 4), .id, .id, .id, .id, .id, .id, .id])), (.c true 5 3, (.agg [.id, .id, .id, .id, (.sl 5)]))]
theorem c0bl : cFun Tryz.prog 26 = some (28, k0bl, s0bl) := by kernel_rfl

def qbwb : IC := .reg false [zi 1 (.box (.t 0)), zi 2 (.alo [.nils, (.int .i64 0), (.int .i64 0), (.int .i64 0), (.str []), (.int .i64 0), (.int .i64 0), (.int .i64 0)]), zv 3 (.mov (.c .nils))]
def qbvu : IC := .reg false [zv 4 (.mov (.c .nils))]
def qbvi : IC := .reg false [zv 7 (.fad (.t 1) 6), zv 8 (.ld false 1 (.t 7)), zv 9 (.bin .eql .no (.t 8) (.c (.int .i64 0))), zm 10 9, zw 10 true 11 (.ld true 8 (.t 1)), ⟨some (10, true), some 12, .call (.c (.fn 16 [] [])) [((.t 11), (.agg [(.sl 4), .id, .id, .id, .id, .id, .id, .id]))]⟩, zw 10 true 13 (.fld false 1 0 (.t 12)), zw 10 true 14 (.bin .eql .no (.t 13) (.c (.int .i64 1))), zv 15 (.pick (.t 10) (.t 14) (.c (.bool false)))]
def qbug : IC := .reg false [zv 17 (.ld true 8 (.t 1)), zi 18 (.call (.c (.fn 51 [] [])) [((.t 17), (.agg [(.sl 4), .id, .id, .id, .id, .id, .id, .id]))]), zm 16 18, zv 19 (.ext (.t 16) 0), zv 20 (.ext (.t 16) 1), zi 5 (.alo [.nils, (.int .i64 0), (.int .i64 0), (.int .i64 0), (.str []), (.int .i64 0), (.int .i64 0), (.int .i64 0)]), zi 6 (.alo [(.int .i64 0), (.int .i64 0), (.int .i64 0), (.str [])]), zn (.st 8 (.agg [(.sl 4), .id, .id, .id, .id, .id, .id, .id]) (.t 5) (.t 19)), zn (.st 4 .id (.t 6) (.t 20))]
def qbu5 : IC := .reg false [zv 21 (.ld true 8 (.t 5)), zn (.st 8 (.agg [(.sl 4), .id, .id, .id, .id, .id, .id, .id]) (.t 1) (.t 21))]
def qbxi : IC := .reg false [zm 22 4, zv 23 (.ld true 4 (.t 6)), zv 24 (.bsl 4 [((.t 23), .id)]), zi 25 (.app 4 (.agg [(.int .i64 0), (.int .i64 0), (.int .i64 0), (.str [])]) 40 (.sl 4) (.t 22) (.t 24)), zm 4 25]
def qbsc : IC := (.seq (.seq qbvi (.cond (.t 15) .skip (.exit 0))) (.block 1 (.seq qbug (.seq qbu5 qbxi))))
def qbsd : IC := .reg false [zv 26 (.ld true 8 (.t 1)), zm 27 4, zn (.st 8 (.agg [(.sl 4), .id, .id, .id, .id, .id, .id, .id]) (.t 2) (.t 26)), zm 3 27]
def k0n : IC := (.seq qbwb (.seq qbvu (.seq (.block 0 (.loop qbsc)) (.seq qbsd .ret))))
@[go_sem] def s0n : List (RV × Co) := [(.c true 8 2, (.agg [(.sl 4), .id, .id, .id, .id, .id, .id, .id])), (.t 3, (.sl 4))]
theorem c0n : cFun Tryz.prog 27 = some (28, k0n, s0n) := by kernel_rfl

def qblr : IC := .reg false [zi 2 (.box (.t 0)), zi 4 (.alo [.nils, (.int .i64 0), (.int .i64 0), (.int .i64 0), (.str []), (.int .i64 0), (.int .i64 0), (.int .i64 0)]), zv 5 (.mov (.c (.bool false)))]
def qbbx : IC := .reg false [zv 9 (.ld true 8 (.t 2)), zm 10 1, zi 11 (.call (.c (.fn 25 [] [])) [((.t 9), (.agg [(.sl 4), .id, .id, .id, .id, .id, .id, .id])), ((.t 10), .id)]), zm 8 11, zv 12 (.ext (.t 8) 0), zv 13 (.ext (.t 8) 1), zi 6 (.alo [.nils, (.int .i64 0), (.int .i64 0), (.int .i64 0), (.str []), (.int .i64 0), (.int .i64 0), (.int .i64 0)]), zn (.st 8 (.agg [(.sl 4), .id, .id, .id, .id, .id, .id, .id]) (.t 6) (.t 12)), zm 7 13]
def qbe3 : IC := .reg false [zm 14 7, zv 15 (.un .not (.t 14))]
def qbam : IC := .reg false [zv 16 (.ld true 8 (.t 2)), zi 17 (.call (.c (.fn 50 [] [])) [((.t 16), (.agg [(.sl 4), .id, .id, .id, .id, .id, .id, .id])), ((.c (.int .i64 5)), .id)]), zn (.st 8 (.agg [(.sl 4), .id, .id, .id, .id, .id, .id, .id]) (.t 4) (.t 17)), zv 5 (.mov (.c (.bool false)))]
def qbqn : IC := .reg false [zv 18 (.ld true 8 (.t 6)), zn (.st 8 (.agg [(.sl 4), .id, .id, .id, .id, .id, .id, .id]) (.t 4) (.t 18)), zv 5 (.mov (.c (.bool true)))]
def k0cf : IC := (.seq qblr (.seq qbbx (.seq (.seq qbe3 (.cond (.t 15) (.seq qbam .ret) .skip)) (.seq qbqn .ret))))
@[go_sem] def s0cf : List (RV × Co) := [(.c true 8 4, (.agg [(.sl 4), .id, .id, .id, .id, .id, .id, .id])), (.t 5, .id)]
theorem c0cf : cFun Tryz.prog 28 = some (19, k0cf, s0cf) := by kernel_rfl

def qbs5 : IC := .reg false [zi 3 (.box (.t 1)), zi 4 (.alo [(.int .i64 0), (.int .i64 0), (.int .i64 0), (.str []), .nils])]
def qbsi : IC := .reg false [zm 6 0, zv 7 (.len false (.t 6)), zv 8 (.bin .sub .no (.t 7) (.c (.int .i64 1))), zm 5 8]
def qbt8 : IC := .reg false [zm 9 5, zv 10 (.bin .geq .no (.t 9) (.c (.int .i64 0)))]
def qbth : IC := .drw [zp (zm 13 0), zp (zm 14 5), zp (zv 15 (.iad 4 (.t 13) (.t 14))), zp (zv 16 (.fad (.t 15) 1)), zp (zv 17 (.ld false 1 (.t 16))), zp (zm 18 0), zp (zm 19 5), zp (zv 20 (.iad 4 (.t 18) (.t 19))), zp (zv 21 (.fad (.t 20) 3)), zp (zv 22 (.ld false 1 (.t 21))), zp (zv 23 (.ld true 5 (.t 3))), (zv 24 (.bsl 5 [((.t 23), (.agg [.id, .id, .id, .id, (.sl 5)]))]), []), (zv 25 (.bld [(.int .i64 0), (.int .i64 0), (.int .i64 0), (.str []), .nils] [(0, 1, (.c (.int .i64 25))), (1, 1, (.t 17)), (3, 1, (.t 22)), (4, 1, (.t 24))]), []), (zn (.st 5 (.agg [.id, .id, .id, .id, (.sl 5)]) (.t 3) (.t 25)), [])]
def qbsb : IC := .reg false [zm 11 5, zv 12 (.bin .sub .no (.t 11) (.c (.int .i64 1))), zm 5 12]
def qby4 : IC := (.seq (.seq qbt8 (.cond (.t 10) .skip (.exit 0))) (.seq (.block 1 qbth) qbsb))
def qbwf : IC := .reg false [zv 26 (.ld true 5 (.t 3)), zn (.st 5 (.agg [.id, .id, .id, .id, (.sl 5)]) (.t 4) (.t 26))]
def k0h : IC := (.seq qbs5 (.seq (.seq qbsi (.block 0 (.loop qby4))) (.seq qbwf .ret)))
@[go_sem] def s0h : List (RV × Co) := [(.c true 5 4, (.agg [.id, .id, .id, .id, (.sl 5)]))]
theorem c0h : cFun Tryz.prog 29 = some (27, k0h, s0h) := by kernel_rfl

def qbdi : IC := .reg false [zv 2 (.mov (.c (.bool false)))]
def qbdg : IC := .reg false [zm 3 0, zi 4 (.call (.c (.fn 36 [] [])) [((.t 3), .id)]), zm 5 4, zw 5 false 6 (.mov (.t 0)), zw 5 false 7 (.nck (.t 6)), zw 5 false 8 (.fad (.t 7) 6), zw 5 false 9 (.ld false 1 (.t 8)), zw 5 false 10 (.bin .geq .no (.t 9) (.c (.int .i64 200))), zv 11 (.pick (.t 5) (.c (.bool true)) (.t 10))]
def qboc : IC := .reg false [zm 12 0, zi 13 (.call (.c (.fn 43 [] [])) [((.t 12), .id), ((.c (.int .i64 2)), .id)]), zm 2 13]
def qbm8 : IC := .reg false [zm 14 0, zv 15 (.nck (.t 14)), zv 16 (.fad (.t 15) 6), zv 17 (.ld false 1 (.t 16)), zv 18 (.bin .add .no (.t 17) (.c (.int .i64 1))), zv 19 (.nck (.t 14)), zv 20 (.fad (.t 19) 6), zn (.st 1 .id (.t 20) (.t 18))]
def qba0 : IC := .reg false [zv 2 (.mov (.c (.bool true)))]
def k0ct : IC := (.seq qbdi (.seq (.seq qbdg (.cond (.t 11) (.seq qboc .ret) .skip)) (.seq qbm8 (.seq qba0 .ret))))
@[go_sem] def s0ct : List (RV × Co) := [(.t 2, .id)]
theorem c0ct : cFun Tryz.prog 30 = some (21, k0ct, s0ct) := by kernel_rfl

def qbs7 : IC := .reg false [zi 2 (.alo [(.int .i64 0), (.int .i64 0), (.int .i64 0), (.str []), .nils]), zv 3 (.mov (.c (.bool false)))]
def qbr6 : IC := .reg false [zm 5 0, zi 6 (.call (.c (.fn 15 [] [])) [((.t 5), .id)]), zv 7 (.fld false 1 1 (.t 6)), zv 8 (.bld [(.int .i64 0), (.int .i64 0), (.int .i64 0), (.str []), .nils] [(1, 1, (.t 7))]), zi 4 (.alo [(.int .i64 0), (.int .i64 0), (.int .i64 0), (.str []), .nils]), zn (.st 5 (.agg [.id, .id, .id, .id, (.sl 5)]) (.t 4) (.t 8))]
def qbr7 : IC := .reg false [zm 10 0, zi 11 (.call (.c (.fn 21 [] [])) [((.t 10), .id), ((.c (.str [92])), .id)]), zm 9 11]
def qbyd : IC := .reg false [zm 12 0, zi 13 (.call (.c (.fn 15 [] [])) [((.t 12), .id)]), zv 14 (.fld false 1 0 (.t 13)), zv 15 (.bin .neq .no (.t 14) (.c (.int .i64 1)))]
def qbto : IC := .drw [zp (zv 16 (.ld true 5 (.t 4))), zp (zm 17 0), (zi 18 (.call (.c (.fn 43 [] [])) [((.t 17), .id), ((.c (.int .i64 5)), .id)]), [0]), (zn (.st 5 (.agg [.id, .id, .id, .id, (.sl 5)]) (.t 2) (.t 16)), []), zp (zm 3 18)]
def qbvv : IC := .reg false [zm 19 0, zi 20 (.call (.c (.fn 23 [] [])) [((.t 19), .id), ((.c (.str [45, 62])), .id)]), zv 21 (.ext (.t 20) 0), zv 22 (.ext (.t 20) 1), zn (.st 5 (.agg [.id, .id, .id, .id, (.sl 5)]) (.t 2) (.t 21)), zm 3 22]
def qbyo : IC := .reg false [zm 24 0, zi 25 (.call (.c (.fn 21 [] [])) [((.t 24), .id), ((.c (.str [108, 101, 116])), .id)]), zm 23 25]
def qbsf : IC := .reg false [zm 26 0, zv 27 (.ld true 5 (.t 4)), zi 28 (.call (.c (.fn 55 [] [])) [((.t 26), .id), ((.t 27), (.agg [.id, .id, .id, .id, (.sl 5)]))]), zv 29 (.ext (.t 28) 0), zv 30 (.ext (.t 28) 1), zn (.st 5 (.agg [.id, .id, .id, .id, (.sl 5)]) (.t 2) (.t 29)), zm 3 30]
def qbwt : IC := .reg false [zm 32 0, zi 33 (.call (.c (.fn 21 [] [])) [((.t 32), .id), ((.c (.str [99, 97, 115, 101])), .id)]), zm 31 33]
def qbyx : IC := .reg false [zm 34 0, zv 35 (.ld true 5 (.t 4)), zi 36 (.call (.c (.fn 56 [] [])) [((.t 34), .id), ((.t 35), (.agg [.id, .id, .id, .id, (.sl 5)]))]), zv 37 (.ext (.t 36) 0), zv 38 (.ext (.t 36) 1), zn (.st 5 (.agg [.id, .id, .id, .id, (.sl 5)]) (.t 2) (.t 37)), zm 3 38]
def qbgu : IC := .reg false [zm 40 0, zi 41 (.call (.c (.fn 21 [] [])) [((.t 40), .id), ((.c (.str [105, 102])), .id)]), zm 39 41]
def qbg8 : IC := .reg false [zm 42 0, zv 43 (.ld true 5 (.t 4)), zi 44 (.call (.c (.fn 57 [] [])) [((.t 42), .id), ((.t 43), (.agg [.id, .id, .id, .id, (.sl 5)]))]), zv 45 (.ext (.t 44) 0), zv 46 (.ext (.t 44) 1), zn (.st 5 (.agg [.id, .id, .id, .id, (.sl 5)]) (.t 2) (.t 45)), zm 3 46]
def qbjb : IC := .reg false [zm 47 0, zi 48 (.call (.c (.fn 58 [] [])) [((.t 47), .id)]), zv 49 (.ext (.t 48) 0), zv 50 (.ext (.t 48) 1), zn (.st 5 (.agg [.id, .id, .id, .id, (.sl 5)]) (.t 2) (.t 49)), zm 3 50]
def k0t : IC := (.seq qbs7 (.seq qbr6 (.seq (.block 0 (.seq qbr7 (.cond (.t 9) (.seq (.seq qbyd (.cond (.t 15) (.seq qbto .ret) .skip)) (.seq qbvv .ret)) (.seq qbyo (.cond (.t 23) (.seq qbsf .ret) (.seq qbwt (.cond (.t 31) (.seq qbyx .ret) (.seq qbgu (.cond (.t 39) (.seq qbg8 .ret) .skip))))))))) (.seq qbjb .ret))))
@[go_sem] def s0t : List (RV × Co) := [(.c true 5 2, (.agg [.id, .id, .id, .id, (.sl 5)])), (.t 3, .id)]
theorem c0t : cFun Tryz.prog 31 = some (51, k0t, s0t) := by kernel_rfl

def qbce : IC := .reg false [zm 2 0, zi 3 (.call (.c (.fn 36 [] [])) [((.t 2), .id)]), zv 4 (.un .not (.t 3)), zm 5 4, zw 5 true 6 (.mov (.t 0)), zw 5 true 7 (.nck (.t 6)), zw 5 true 8 (.fad (.t 7) 6), zw 5 true 9 (.ld false 1 (.t 8)), zw 5 true 10 (.bin .gtr .no (.t 9) (.c (.int .i64 0))), zv 11 (.pick (.t 5) (.t 10) (.c (.bool false)))]
def qbea : IC := .reg false [zm 12 0, zv 13 (.nck (.t 12)), zv 14 (.fad (.t 13) 6), zv 15 (.ld false 1 (.t 14)), zv 16 (.bin .sub .no (.t 15) (.c (.int .i64 1))), zv 17 (.nck (.t 12)), zv 18 (.fad (.t 17) 6), zn (.st 1 .id (.t 18) (.t 16))]
def k0cu : IC := (.seq qbce (.cond (.t 11) qbea .skip))
@[go_sem] def s0cu : List (RV × Co) := []
theorem c0cu : cFun Tryz.prog 32 = some (19, k0cu, s0cu) := by kernel_rfl

def qbii : IC := .reg false [zi 1 (.box (.t 0)), zi 2 (.alo [.nils, (.int .i64 0), (.int .i64 0), (.int .i64 0), (.str []), (.int .i64 0), (.int .i64 0), (.int .i64 0)]), zv 3 (.mov (.c (.bool false)))]
def qbm2 : IC := .reg false [zv 4 (.fad (.t 1) 6), zv 5 (.ld false 1 (.t 4)), zv 6 (.bin .neq .no (.t 5) (.c (.int .i64 0)))]
def qbd7 : IC := .reg false [zv 7 (.ld true 8 (.t 1)), zn (.st 8 (.agg [(.sl 4), .id, .id, .id, .id, .id, .id, .id]) (.t 2) (.t 7)), zv 3 (.mov (.c (.bool false)))]
def qbdm : IC := .reg false [zv 8 (.fad (.t 1) 5), zv 9 (.ld false 1 (.t 8)), zv 10 (.bin .geq .no (.t 9) (.c (.int .i64 200)))]
def qbch : IC := .reg false [zv 11 (.ld true 8 (.t 1)), zi 12 (.call (.c (.fn 50 [] [])) [((.t 11), (.agg [(.sl 4), .id, .id, .id, .id, .id, .id, .id])), ((.c (.int .i64 2)), .id)]), zn (.st 8 (.agg [(.sl 4), .id, .id, .id, .id, .id, .id, .id]) (.t 2) (.t 12)), zv 3 (.mov (.c (.bool false)))]
def qbkw : IC := .reg false [zv 13 (.fad (.t 1) 5), zv 14 (.ld false 1 (.t 13)), zv 15 (.bin .add .no (.t 14) (.c (.int .i64 1))), zv 16 (.fad (.t 1) 5), zn (.st 1 .id (.t 16) (.t 15))]
def qbc1 : IC := .reg false [zv 17 (.ld true 8 (.t 1)), zn (.st 8 (.agg [(.sl 4), .id, .id, .id, .id, .id, .id, .id]) (.t 2) (.t 17)), zv 3 (.mov (.c (.bool true)))]
def k0cg : IC := (.seq qbii (.seq (.seq qbm2 (.cond (.t 6) (.seq qbd7 .ret) .skip)) (.seq (.seq qbdm (.cond (.t 10) (.seq qbch .ret) .skip)) (.seq qbkw (.seq qbc1 .ret)))))
@[go_sem] def s0cg : List (RV × Co) := [(.c true 8 2, (.agg [(.sl 4), .id, .id, .id, .id, .id, .id, .id])), (.t 3, .id)]
theorem c0cg : cFun Tryz.prog 33 = some (18, k0cg, s0cg) := by kernel_rfl

def qbxv : IC := .reg false [zi 1 (.box (.t 0)), zi 2 (.alo [.nils, (.int .i64 0), (.int .i64 0), (.int .i64 0), (.str []), (.int .i64 0), (.int .i64 0), (.int .i64 0)]), zi 3 (.alo [(.int .i64 0), (.int .i64 0), (.int .i64 0), (.str []), .nils])]
def qbxz : IC := .reg false [zv 16 (.ld true 8 (.t 1)), zi 17 (.call (.c (.fn 16 [] [])) [((.t 16), (.agg [(.sl 4), .id, .id, .id, .id, .id, .id, .id]))]), zv 18 (.fld false 1 1 (.t 17)), zm 4 18]
def qbyu : IC := .reg false [zv 20 (.ld true 8 (.t 1)), zv 21 (.bsl 1 [((.c (.int .u8 92)), .id)]), zv 22 (.cbs (.t 21)), zi 23 (.call (.c (.fn 25 [] [])) [((.t 20), (.agg [(.sl 4), .id, .id, .id, .id, .id, .id, .id])), ((.t 22), .id)]), zm 19 23, zv 24 (.ext (.t 19) 0), zv 25 (.ext (.t 19) 1), zi 5 (.alo [.nils, (.int .i64 0), (.int .i64 0), (.int .i64 0), (.str []), (.int .i64 0), (.int .i64 0), (.int .i64 0)]), zn (.st 8 (.agg [(.sl 4), .id, .id, .id, .id, .id, .id, .id]) (.t 5) (.t 24)), zm 6 25]
def qbs1 : IC := .reg false [zm 26 6]
def qbtl : IC := .reg false [zv 27 (.ld true 8 (.t 5)), zi 28 (.call (.c (.fn 59 [] [])) [((.t 27), (.agg [(.sl 4), .id, .id, .id, .id, .id, .id, .id]))]), zv 29 (.ext (.t 28) 0), zv 30 (.ext (.t 28) 1), zn (.st 8 (.agg [(.sl 4), .id, .id, .id, .id, .id, .id, .id]) (.t 2) (.t 29)), zn (.st 5 (.agg [.id, .id, .id, .id, (.sl 5)]) (.t 3) (.t 30))]
def qbs0 : IC := .reg false [zv 32 (.ld true 8 (.t 1)), zi 33 (.call (.c (.fn 25 [] [])) [((.t 32), (.agg [(.sl 4), .id, .id, .id, .id, .id, .id, .id])), ((.c (.str [108, 101, 116])), .id)]), zm 31 33, zv 34 (.ext (.t 31) 0), zv 35 (.ext (.t 31) 1), zi 7 (.alo [.nils, (.int .i64 0), (.int .i64 0), (.int .i64 0), (.str []), (.int .i64 0), (.int .i64 0), (.int .i64 0)]), zn (.st 8 (.agg [(.sl 4), .id, .id, .id, .id, .id, .id, .id]) (.t 7) (.t 34)), zm 8 35]
def qbte : IC := .reg false [zm 36 8]
def qbxo : IC := .reg false [zv 37 (.ld true 8 (.t 7)), zm 38 4, zi 39 (.call (.c (.fn 60 [] [])) [((.t 37), (.agg [(.sl 4), .id, .id, .id, .id, .id, .id, .id])), ((.t 38), .id)]), zv 40 (.ext (.t 39) 0), zv 41 (.ext (.t 39) 1), zn (.st 8 (.agg [(.sl 4), .id, .id, .id, .id, .id, .id, .id]) (.t 2) (.t 40)), zn (.st 5 (.agg [.id, .id, .id, .id, (.sl 5)]) (.t 3) (.t 41))]
def qbvm : IC := .reg false [zv 43 (.ld true 8 (.t 1)), zi 44 (.call (.c (.fn 25 [] [])) [((.t 43), (.agg [(.sl 4), .id, .id, .id, .id, .id, .id, .id])), ((.c (.str [99, 97, 115, 101])), .id)]), zm 42 44, zv 45 (.ext (.t 42) 0), zv 46 (.ext (.t 42) 1), zi 9 (.alo [.nils, (.int .i64 0), (.int .i64 0), (.int .i64 0), (.str []), (.int .i64 0), (.int .i64 0), (.int .i64 0)]), zn (.st 8 (.agg [(.sl 4), .id, .id, .id, .id, .id, .id, .id]) (.t 9) (.t 45)), zm 10 46]
def qbys : IC := .reg false [zm 47 10]
def qbcc : IC := .reg false [zv 48 (.ld true 8 (.t 9)), zm 49 4, zi 50 (.call (.c (.fn 61 [] [])) [((.t 48), (.agg [(.sl 4), .id, .id, .id, .id, .id, .id, .id])), ((.t 49), .id)]), zv 51 (.ext (.t 50) 0), zv 52 (.ext (.t 50) 1), zn (.st 8 (.agg [(.sl 4), .id, .id, .id, .id, .id, .id, .id]) (.t 2) (.t 51)), zn (.st 5 (.agg [.id, .id, .id, .id, (.sl 5)]) (.t 3) (.t 52))]
def qbh3 : IC := .reg false [zv 54 (.ld true 8 (.t 1)), zi 55 (.call (.c (.fn 25 [] [])) [((.t 54), (.agg [(.sl 4), .id, .id, .id, .id, .id, .id, .id])), ((.c (.str [105, 102])), .id)]), zm 53 55, zv 56 (.ext (.t 53) 0), zv 57 (.ext (.t 53) 1), zi 11 (.alo [.nils, (.int .i64 0), (.int .i64 0), (.int .i64 0), (.str []), (.int .i64 0), (.int .i64 0), (.int .i64 0)]), zn (.st 8 (.agg [(.sl 4), .id, .id, .id, .id, .id, .id, .id]) (.t 11) (.t 56)), zm 12 57]
def qbfm : IC := .reg false [zm 58 12]
def qbp5 : IC := .reg false [zv 59 (.ld true 8 (.t 11)), zm 60 4, zi 61 (.call (.c (.fn 62 [] [])) [((.t 59), (.agg [(.sl 4), .id, .id, .id, .id, .id, .id, .id])), ((.t 60), .id)]), zv 62 (.ext (.t 61) 0), zv 63 (.ext (.t 61) 1), zn (.st 8 (.agg [(.sl 4), .id, .id, .id, .id, .id, .id, .id]) (.t 2) (.t 62)), zn (.st 5 (.agg [.id, .id, .id, .id, (.sl 5)]) (.t 3) (.t 63))]
def qboe : IC := .reg false [zv 65 (.ld true 8 (.t 1)), zi 66 (.call (.c (.fn 63 [] [])) [((.t 65), (.agg [(.sl 4), .id, .id, .id, .id, .id, .id, .id]))]), zm 64 66, zv 67 (.ext (.t 64) 0), zv 68 (.ext (.t 64) 1), zi 13 (.alo [(.int .i64 0), (.int .i64 0), (.int .i64 0), (.str []), .nils]), zn (.st 8 (.agg [(.sl 4), .id, .id, .id, .id, .id, .id, .id]) (.t 1) (.t 67)), zn (.st 5 (.agg [.id, .id, .id, .id, (.sl 5)]) (.t 13) (.t 68))]
def qbmz : IC := .reg false [zv 69 (.ld true 8 (.t 1)), zi 70 (.call (.c (.fn 64 [] [])) [((.t 69), (.agg [(.sl 4), .id, .id, .id, .id, .id, .id, .id]))])]
def qbhg : IC := .reg false [zv 72 (.ld true 8 (.t 1)), zi 73 (.call (.c (.fn 63 [] [])) [((.t 72), (.agg [(.sl 4), .id, .id, .id, .id, .id, .id, .id]))]), zm 71 73, zv 74 (.ext (.t 71) 0), zv 75 (.ext (.t 71) 1), zi 14 (.alo [.nils, (.int .i64 0), (.int .i64 0), (.int .i64 0), (.str []), (.int .i64 0), (.int .i64 0), (.int .i64 0)]), zi 15 (.alo [(.int .i64 0), (.int .i64 0), (.int .i64 0), (.str []), .nils]), zn (.st 8 (.agg [(.sl 4), .id, .id, .id, .id, .id, .id, .id]) (.t 14) (.t 74)), zn (.st 5 (.agg [.id, .id, .id, .id, (.sl 5)]) (.t 15) (.t 75))]
def qbcl : IC := .reg false [zv 76 (.ld true 8 (.t 14)), zn (.st 8 (.agg [(.sl 4), .id, .id, .id, .id, .id, .id, .id]) (.t 1) (.t 76))]
def qbhd : IC := .reg false [zv 77 (.fad (.t 13) 1), zv 78 (.ld false 1 (.t 77)), zv 79 (.ld true 5 (.t 13)), zv 80 (.ld true 5 (.t 15)), zv 81 (.bsl 5 [((.t 79), (.agg [.id, .id, .id, .id, (.sl 5)])), ((.t 80), (.agg [.id, .id, .id, .id, (.sl 5)]))]), zv 82 (.bld [(.int .i64 0), (.int .i64 0), (.int .i64 0), (.str []), .nils] [(0, 1, (.c (.int .i64 24))), (1, 1, (.t 78)), (4, 1, (.t 81))]), zn (.st 5 (.agg [.id, .id, .id, .id, (.sl 5)]) (.t 13) (.t 82))]
def qbcw : IC := (.seq (.seq qbmz (.cond (.t 70) .skip (.exit 0))) (.block 1 (.seq qbhg (.seq qbcl qbhd))))
def qbeu : IC := .drw [zp (zv 83 (.ld true 8 (.t 1))), zp (zv 84 (.ld true 5 (.t 13))), (zn (.st 8 (.agg [(.sl 4), .id, .id, .id, .id, .id, .id, .id]) (.t 2) (.t 83)), [1]), (zn (.st 5 (.agg [.id, .id, .id, .id, (.sl 5)]) (.t 3) (.t 84)), [])]
def k0c : IC := (.seq qbxv (.seq qbxz (.seq (.seq qbyu (.seq qbs1 (.cond (.t 26) (.seq qbtl .ret) .skip))) (.seq (.seq qbs0 (.seq qbte (.cond (.t 36) (.seq qbxo .ret) .skip))) (.seq (.seq qbvm (.seq qbys (.cond (.t 47) (.seq qbcc .ret) .skip))) (.seq (.seq qbh3 (.seq qbfm (.cond (.t 58) (.seq qbp5 .ret) .skip))) (.seq qboe (.seq (.block 0 (.loop qbcw)) (.seq qbeu .ret)))))))))
@[go_sem] def s0c : List (RV × Co) := [(.c true 8 2, (.agg [(.sl 4), .id, .id, .id, .id, .id, .id, .id])), (.c true 5 3, (.agg [.id, .id, .id, .id, (.sl 5)]))]
theorem c0c : cFun Tryz.prog 34 = some (85, k0c, s0c) := by kernel_rfl

def qbax : IC := .reg false [zi 1 (.box (.t 0)), zi 2 (.alo [.nils, (.int .i64 0), (.int .i64 0), (.int .i64 0), (.str []), (.int .i64 0), (.int .i64 0), (.int .i64 0)])]
def qbfa : IC := .reg false [zv 3 (.fad (.t 1) 6), zv 4 (.ld false 1 (.t 3)), zv 5 (.bin .eql .no (.t 4) (.c (.int .i64 0))), zm 6 5, zw 6 true 7 (.fad (.t 1) 5), zw 6 true 8 (.ld false 1 (.t 7)), zw 6 true 9 (.bin .gtr .no (.t 8) (.c (.int .i64 0))), zv 10 (.pick (.t 6) (.t 9) (.c (.bool false)))]
def qbmh : IC := .reg false [zv 11 (.fad (.t 1) 5), zv 12 (.ld false 1 (.t 11)), zv 13 (.bin .sub .no (.t 12) (.c (.int .i64 1))), zv 14 (.fad (.t 1) 5), zn (.st 1 .id (.t 14) (.t 13))]
def qbo7 : IC := .reg false [zv 15 (.ld true 8 (.t 1)), zn (.st 8 (.agg [(.sl 4), .id, .id, .id, .id, .id, .id, .id]) (.t 2) (.t 15))]
def k0ch : IC := (.seq qbax (.seq (.seq qbfa (.cond (.t 10) qbmh .skip)) (.seq qbo7 .ret)))
@[go_sem] def s0ch : List (RV × Co) := [(.c true 8 2, (.agg [(.sl 4), .id, .id, .id, .id, .id, .id, .id]))]
theorem c0ch : cFun Tryz.prog 35 = some (16, k0ch, s0ch) := by kernel_rfl

def qbon : IC := .reg false [zv 2 (.mov (.c (.bool false)))]
def qbeg : IC := .reg false [zm 3 0, zv 4 (.bin .eql .ptr (.t 3) (.c .nilp)), zm 5 4, zw 5 false 6 (.mov (.t 0)), zw 5 false 7 (.nck (.t 6)), zw 5 false 8 (.fad (.t 7) 7), zw 5 false 9 (.ld false 1 (.t 8)), zw 5 false 10 (.bin .neq .no (.t 9) (.c (.int .i64 0))), zv 11 (.pick (.t 5) (.c (.bool true)) (.t 10)), zm 2 11]
def k0cl : IC := (.seq qbon (.seq qbeg .ret))
@[go_sem] def s0cl : List (RV × Co) := [(.t 2, .id)]
theorem c0cl : cFun Tryz.prog 36 = some (12, k0cl, s0cl) := by kernel_rfl

def qbdq : IC := .reg false [zi 2 (.alo [.nils]), zi 3 (.alo [(.int .i64 0)]), zi 4 (.alo [(.int .i64 0)])]
def qblv : IC := .reg false [zm 8 0, zv 9 (.len true (.t 8)), zv 10 (.bin .gtr .no (.t 9) (.c (.int .i64 1048576)))]
def qbgv : IC := .reg false [zn (.st 1 (.sl 4) (.t 2) (.c .nils)), zn (.st 1 .id (.t 3) (.c (.int .i64 0))), zn (.st 1 .id (.t 4) (.c (.int .i64 2)))]
def qbgr : IC := .reg false [zi 5 (.alo [.nils])]
def qbc8 : IC := .reg false [zm 11 0, zi 12 (.call (.c (.fn 65 [] [])) [((.t 11), .id)])]
def qbai : IC := .reg false [zm 15 7, zv 16 (.bin .neq .no (.t 15) (.c (.int .i64 0)))]
def qbc0 : IC := .drw [zp (zv 17 (.fad (.t 6) 1)), zp (zv 18 (.ld false 1 (.t 17))), zp (zm 19 7), (zn (.st 1 (.sl 4) (.t 2) (.c .nils)), [1]), (zn (.st 1 .id (.t 3) (.t 18)), []), (zn (.st 1 .id (.t 4) (.t 19)), [])]
def qbbl : IC := .reg false [zv 20 (.ld false 1 (.t 5)), zv 21 (.ld true 4 (.t 6)), zv 22 (.bsl 4 [((.t 21), .id)]), zi 23 (.app 4 (.agg [(.int .i64 0), (.int .i64 0), (.int .i64 0), (.str [])]) 40 (.sl 4) (.t 20) (.t 22)), zn (.st 1 (.sl 4) (.t 5) (.t 23))]
def qtu : IC := (.block 1 (.seq (.seq qbai (.cond (.t 16) (.seq qbc0 .ret) .skip)) qbbl))
def qp7 : IC := .reg false [zi 6 (.alo [(.int .i64 0), (.int .i64 0), (.int .i64 0), (.str [])]), zn (.st 4 .id (.t 6) (.t 13))]
def qqn : IC := .reg false [zm 7 14]
def q6p : IC := .reg false [zv 24 (.ld false 1 (.t 5)), zm 25 0, zv 26 (.len true (.t 25)), zv 27 (.bld [(.int .i64 0), (.int .i64 0), (.int .i64 0), (.str [])] [(0, 1, (.c (.int .i64 0))), (1, 1, (.t 26))]), zv 28 (.bsl 4 [((.t 27), .id)]), zi 29 (.app 4 (.agg [(.int .i64 0), (.int .i64 0), (.int .i64 0), (.str [])]) 40 (.sl 4) (.t 24) (.t 28)), zn (.st 1 (.sl 4) (.t 2) (.t 29)), zn (.st 1 .id (.t 3) (.c (.int .i64 0))), zn (.st 1 .id (.t 4) (.c (.int .i64 0)))]
def k0cx : IC := (.seq qbdq (.seq (.seq qblv (.cond (.t 10) (.seq qbgv .ret) .skip)) (.seq qbgr (.seq (.seq qbc8 (.block 0 (.rng (.t 12) [13, 14] (.seq qp7 qqn) qtu))) (.seq q6p .ret)))))
@[go_sem] def s0cx : List (RV × Co) := [(.c false 1 2, (.sl 4)), (.c false 1 3, .id), (.c false 1 4, .id)]
theorem c0cx : cFun Tryz.prog 37 = some (30, k0cx, s0cx) := by kernel_rfl

def qbhc : IC := .reg false [zi 1 (.box (.t 0)), zv 2 (.mov (.c (.int .i64 0)))]
def qbki : IC := .reg false [zi 3 (.alo [(.int .i64 0)]), zn (.st 1 .id (.t 3) (.c (.int .i64 0)))]
def qbcs : IC := .reg false [zv 5 (.ld true 5 (.t 1)), zi 6 (.call (.c (.fn 66 [] [])) [((.t 5), (.agg [.id, .id, .id, .id, (.sl 5)])), ((.c (.int .i64 1)), .id)])]
def qbdr : IC := .reg false [zv 9 (.ld false 1 (.t 3)), zm 10 4, zv 11 (.mm true (.t 9) (.t 10)), zn (.st 1 .id (.t 3) (.t 11))]
def q1t : IC := (.block 1 qbdr)
def qz5 : IC := .reg false [zm 4 7]
def qbau : IC := .reg false [zv 12 (.ld false 1 (.t 3)), zm 2 12]
def k0dw : IC := (.seq qbhc (.seq qbki (.seq (.seq qbcs (.block 0 (.rng (.t 6) [7, 8] qz5 q1t))) (.seq qbau .ret))))
@[go_sem] def s0dw : List (RV × Co) := [(.t 2, .id)]
theorem c0dw : cFun Tryz.prog 38 = some (13, k0dw, s0dw) := by kernel_rfl

def qbdy : IC := .reg false [zv 4 (.mov (.c (.bool false)))]
def qbh6 : IC := .reg false [zm 5 0, zi 6 (.call (.c (.fn 36 [] [])) [((.t 5), .id)]), zv 7 (.un .not (.t 6))]
def qbo6 : IC := .reg false [zm 8 1, zv 9 (.bin .eql .no (.t 8) (.c (.int .i64 0)))]
def qbj7 : IC := .reg false [zv 1 (.mov (.c (.int .i64 1)))]
def qbp3 : IC := .reg false [zm 10 0, zm 11 0, zi 12 (.call (.c (.fn 15 [] [])) [((.t 11), .id)]), zv 13 (.fld false 1 1 (.t 12)), zv 14 (.nck (.t 10)), zv 15 (.fad (.t 14) 8), zn (.st 1 .id (.t 15) (.t 13))]
def qbj2 : IC := .reg false [zm 16 0, zm 17 1, zv 18 (.nck (.t 16)), zv 19 (.fad (.t 18) 7), zn (.st 1 .id (.t 19) (.t 17))]
def qbd3 : IC := .reg false [zv 4 (.mov (.c (.bool false)))]
def k0cq : IC := (.seq qbdy (.seq (.seq qbh6 (.cond (.t 7) (.seq (.seq qbo6 (.cond (.t 9) qbj7 .skip)) (.seq qbp3 qbj2)) .skip)) (.seq qbd3 .ret)))
@[go_sem] def s0cq : List (RV × Co) := [(.t 4, .id)]
theorem c0cq : cFun Tryz.prog 43 = some (20, k0cq, s0cq) := by kernel_rfl

def qbg5 : IC := .reg false [zi 2 (.alo [(.int .i64 0), (.int .i64 0), (.int .i64 0), (.str [])])]
def qbpw : IC := .reg false [zm 4 0, zi 5 (.call (.c (.fn 15 [] [])) [((.t 4), .id)]), zi 3 (.alo [(.int .i64 0), (.int .i64 0), (.int .i64 0), (.str [])]), zn (.st 4 .id (.t 3) (.t 5))]
def qbhm : IC := .drw [zp (zm 6 0), (zi 7 (.call (.c (.fn 36 [] [])) [((.t 6), .id)]), []), zp (zv 8 (.un .not (.t 7))), zp (zm 9 8), zp (zw 9 true 10 (.mov (.t 0))), zp (zw 9 true 11 (.nck (.t 10))), zp (zw 9 true 12 (.fad (.t 11) 5)), zp (zw 9 true 13 (.ld false 1 (.t 12))), zp (zw 9 true 14 (.mov (.t 0))), zp (zw 9 true 15 (.nck (.t 14))), zp (zw 9 true 16 (.fad (.t 15) 0)), zp (zw 9 true 17 (.ld false 1 (.t 16))), zp (zw 9 true 18 (.len false (.t 17))), zp (zw 9 true 19 (.bin .lss .no (.t 13) (.t 18))), zp (zv 20 (.pick (.t 9) (.t 19) (.c (.bool false))))]
def qbrc : IC := .reg false [zm 21 0, zv 22 (.nck (.t 21)), zv 23 (.fad (.t 22) 5), zv 24 (.ld false 1 (.t 23)), zv 25 (.bin .add .no (.t 24) (.c (.int .i64 1))), zv 26 (.nck (.t 21)), zv 27 (.fad (.t 26) 5), zn (.st 1 .id (.t 27) (.t 25))]
def qbkc : IC := .reg false [zv 28 (.ld true 4 (.t 3)), zn (.st 4 .id (.t 2) (.t 28))]
def k0co : IC := (.seq qbg5 (.seq qbpw (.seq (.seq qbhm (.cond (.t 20) qbrc .skip)) (.seq qbkc .ret))))
@[go_sem] def s0co : List (RV × Co) := [(.c true 4 2, .id)]
theorem c0co : cFun Tryz.prog 44 = some (29, k0co, s0co) := by kernel_rfl

def qbaq : IC := .reg false [zv 4 (.mov (.c (.bool false)))]
def qbg7 : IC := .reg false [zm 5 0, zi 6 (.call (.c (.fn 36 [] [])) [((.t 5), .id)]), zv 7 (.un .not (.t 6)), zm 8 7, zw 8 true 9 (.mov (.t 0)), ⟨some (8, true), some 10, .call (.c (.fn 15 [] [])) [((.t 9), .id)]⟩, zw 8 true 11 (.mov (.t 1)), zw 8 true 12 (.bsl 1 [((.t 11), .id)]), ⟨some (8, true), some 13, .call (.c (.fn 79 [] [])) [((.t 10), .id), ((.t 12), (.sl 1))]⟩, zv 14 (.pick (.t 8) (.t 13) (.c (.bool false))), zm 4 14]
def k0cp : IC := (.seq qbaq (.seq qbg7 .ret))
@[go_sem] def s0cp : List (RV × Co) := [(.t 4, .id)]
theorem c0cp : cFun Tryz.prog 45 = some (15, k0cp, s0cp) := by kernel_rfl

def qbe5 : IC := .reg false [zv 2 (.mov (.c .nils)), zv 3 (.mov (.c (.bool false)))]
def qbcj : IC := .reg false [zm 9 0, zi 10 (.call (.c (.fn 80 [] [])) [((.t 9), .id), ((.c (.str [61, 62])), .id)]), zv 11 (.un .not (.t 10))]
def qbf7 : IC := .reg false [zm 12 0, zi 13 (.call (.c (.fn 81 [] [])) [((.t 12), .id)]), zv 14 (.un .not (.t 13)), zv 2 (.mov (.c .nils)), zm 3 14]
def qbmo : IC := .reg false [zv 4 (.mov (.c .nils))]
def qbms : IC := .reg false [zm 15 0, zi 16 (.call (.c (.fn 21 [] [])) [((.t 15), .id), ((.c (.str [40])), .id)]), zm 5 16]
def qbq1 : IC := .reg false [zm 17 5, zv 18 (.un .not (.t 17)), zm 19 18, zw 19 false 20 (.mov (.t 0)), ⟨some (19, false), some 21, .call (.c (.fn 45 [] [])) [((.t 20), .id), ((.c (.str [41])), .id)]⟩, zw 19 false 22 (.un .not (.t 21)), zv 23 (.pick (.t 19) (.c (.bool true)) (.t 22)), zm 6 23]
def qblw : IC := .reg false [zm 24 6]
def qbc7 : IC := .reg false [zm 26 0, zi 27 (.call (.c (.fn 82 [] [])) [((.t 26), .id)]), zm 25 27, zv 28 (.ext (.t 25) 0), zv 29 (.ext (.t 25) 1), zi 7 (.alo [(.int .i64 0), (.int .i64 0), (.int .i64 0), (.str []), .nils]), zn (.st 5 (.agg [.id, .id, .id, .id, (.sl 5)]) (.t 7) (.t 28)), zm 8 29]
def qbgj : IC := .reg false [zm 30 8, zv 31 (.un .not (.t 30))]
def q9d : IC := .reg false [zv 2 (.mov (.c .nils)), zv 3 (.mov (.c (.bool false)))]
def q7v : IC := .reg false [zm 32 4, zv 33 (.ld true 5 (.t 7)), zv 34 (.bsl 5 [((.t 33), (.agg [.id, .id, .id, .id, (.sl 5)]))]), zi 35 (.app 5 (.agg [(.int .i64 0), (.int .i64 0), (.int .i64 0), (.str []), .nils]) 64 (.sl 5) (.t 32) (.t 34)), zm 4 35]
def q7o : IC := .reg false [zm 36 5, zm 37 36, zw 37 true 38 (.mov (.t 0)), ⟨some (37, true), some 39, .call (.c (.fn 21 [] [])) [((.t 38), .id), ((.c (.str [44])), .id)]⟩, zv 40 (.pick (.t 37) (.t 39) (.c (.bool false))), zm 6 40]
def qbaa : IC := (.seq (.seq qblw (.cond (.t 24) .skip (.exit 0))) (.block 1 (.seq qbc7 (.seq (.seq qbgj (.cond (.t 31) (.seq q9d .ret) .skip)) (.seq q7v q7o)))))
def q54 : IC := .reg false [zm 41 5, zm 42 41, zw 42 true 43 (.mov (.t 0)), ⟨some (42, true), some 44, .call (.c (.fn 49 [] [])) [((.t 43), .id), ((.c (.str [41])), .id)]⟩, zw 42 true 45 (.un .not (.t 44)), zv 46 (.pick (.t 42) (.t 45) (.c (.bool false))), zm 47 46, zw 47 false 48 (.mov (.t 0)), ⟨some (47, false), some 49, .call (.c (.fn 49 [] [])) [((.t 48), .id), ((.c (.str [61, 62])), .id)]⟩, zw 47 false 50 (.un .not (.t 49)), zv 51 (.pick (.t 47) (.c (.bool true)) (.t 50))]
def q82 : IC := .reg false [zv 2 (.mov (.c .nils)), zv 3 (.mov (.c (.bool false)))]
def q4n : IC := .reg false [zm 52 4, zm 2 52, zv 3 (.mov (.c (.bool true)))]
def k0br : IC := (.seq qbe5 (.seq (.seq qbcj (.cond (.t 11) (.seq qbf7 .ret) .skip)) (.seq qbmo (.seq qbms (.seq (.seq qbq1 (.block 0 (.loop qbaa))) (.seq (.seq q54 (.cond (.t 51) (.seq q82 .ret) .skip)) (.seq q4n .ret)))))))
@[go_sem] def s0br : List (RV × Co) := [(.t 2, (.sl 5)), (.t 3, .id)]
theorem c0br : cFun Tryz.prog 46 = some (53, k0br, s0br) := by kernel_rfl

def qbkt : IC := .reg false [zi 2 (.alo [(.int .i64 0), (.int .i64 0), (.int .i64 0), (.str []), .nils]), zv 3 (.mov (.c (.bool false)))]
def qblt : IC := .reg false [zm 8 0, zi 9 (.call (.c (.fn 30 [] [])) [((.t 8), .id)]), zv 10 (.un .not (.t 9))]
def qbdu : IC := .reg false [zv 11 (.bld [(.int .i64 0), (.int .i64 0), (.int .i64 0), (.str []), .nils] []), zn (.st 5 (.agg [.id, .id, .id, .id, (.sl 5)]) (.t 2) (.t 11)), zv 3 (.mov (.c (.bool false)))]
def qbf5 : IC := .reg false [zm 13 0, zi 14 (.call (.c (.fn 83 [] [])) [((.t 13), .id)]), zm 12 14, zv 15 (.ext (.t 12) 0), zv 16 (.ext (.t 12) 1), zi 4 (.alo [(.int .i64 0), (.int .i64 0), (.int .i64 0), (.str []), .nils]), zn (.st 5 (.agg [.id, .id, .id, .id, (.sl 5)]) (.t 4) (.t 15)), zm 5 16]
def qbn2 : IC := .reg false [zm 17 5, zm 18 17, zw 18 true 19 (.mov (.t 0)), ⟨some (18, true), some 20, .call (.c (.fn 21 [] [])) [((.t 19), .id), ((.c (.str [45, 62])), .id)]⟩, zv 21 (.pick (.t 18) (.t 20) (.c (.bool false)))]
def qbbn : IC := .reg false [zm 23 0, zi 24 (.call (.c (.fn 47 [] [])) [((.t 23), .id)]), zm 22 24, zv 25 (.ext (.t 22) 0), zv 26 (.ext (.t 22) 1), zi 6 (.alo [(.int .i64 0), (.int .i64 0), (.int .i64 0), (.str []), .nils]), zn (.st 5 (.agg [.id, .id, .id, .id, (.sl 5)]) (.t 6) (.t 25)), zm 7 26]
def qbpz : IC := .reg false [zv 27 (.fad (.t 4) 1), zv 28 (.ld false 1 (.t 27)), zv 29 (.ld true 5 (.t 4)), zv 30 (.ld true 5 (.t 6)), zv 31 (.bsl 5 [((.t 29), (.agg [.id, .id, .id, .id, (.sl 5)])), ((.t 30), (.agg [.id, .id, .id, .id, (.sl 5)]))]), zv 32 (.bld [(.int .i64 0), (.int .i64 0), (.int .i64 0), (.str []), .nils] [(0, 1, (.c (.int .i64 2))), (1, 1, (.t 28)), (3, 1, (.c (.str [45, 62]))), (4, 1, (.t 31))]), zm 33 7, zn (.st 5 (.agg [.id, .id, .id, .id, (.sl 5)]) (.t 4) (.t 32)), zm 5 33]
def qbbp : IC := .reg false [zm 34 0, zi 35 (.call (.c (.fn 32 [] [])) [((.t 34), .id)])]
def qbey : IC := .reg false [zm 36 0, zv 37 (.ld true 5 (.t 4)), zm 38 5, zi 39 (.call (.c (.fn 48 [] [])) [((.t 36), .id), ((.t 37), (.agg [.id, .id, .id, .id, (.sl 5)])), ((.t 38), .id)]), zv 40 (.ext (.t 39) 0), zv 41 (.ext (.t 39) 1), zn (.st 5 (.agg [.id, .id, .id, .id, (.sl 5)]) (.t 2) (.t 40)), zm 3 41]
def k0by : IC := (.seq qbkt (.seq (.seq qblt (.cond (.t 10) (.seq qbdu .ret) .skip)) (.seq qbf5 (.seq (.seq qbn2 (.cond (.t 21) (.seq qbbn qbpz) .skip)) (.seq qbbp (.seq qbey .ret))))))
@[go_sem] def s0by : List (RV × Co) := [(.c true 5 2, (.agg [.id, .id, .id, .id, (.sl 5)])), (.t 3, .id)]
theorem c0by : cFun Tryz.prog 47 = some (42, k0by, s0by) := by kernel_rfl

def qbqo : IC := .reg false [zi 4 (.box (.t 1)), zi 6 (.alo [(.int .i64 0), (.int .i64 0), (.int .i64 0), (.str []), .nils]), zv 7 (.mov (.c (.bool false)))]
def qbg0 : IC := .reg false [zm 8 2, zv 9 (.un .not (.t 8))]
def qbad : IC := .reg false [zv 10 (.bld [(.int .i64 0), (.int .i64 0), (.int .i64 0), (.str []), .nils] []), zn (.st 5 (.agg [.id, .id, .id, .id, (.sl 5)]) (.t 6) (.t 10)), zv 7 (.mov (.c (.bool false)))]
def qbm6 : IC := .reg false [zv 11 (.ld true 5 (.t 4)), zn (.st 5 (.agg [.id, .id, .id, .id, (.sl 5)]) (.t 6) (.t 11)), zv 7 (.mov (.c (.bool true)))]
def k0bu : IC := (.seq qbqo (.seq (.seq qbg0 (.cond (.t 9) (.seq qbad .ret) .skip)) (.seq qbm6 .ret)))
@[go_sem] def s0bu : List (RV × Co) := [(.c true 5 6, (.agg [.id, .id, .id, .id, (.sl 5)])), (.t 7, .id)]
theorem c0bu : cFun Tryz.prog 48 = some (12, k0bu, s0bu) := by kernel_rfl

def qbnz : IC := .reg false [zv 4 (.mov (.c (.bool false)))]
def qbbd : IC := .reg false [zm 5 0, zm 6 1, zi 7 (.call (.c (.fn 21 [] [])) [((.t 5), .id), ((.t 6), .id)]), zm 8 7, zw 8 false 9 (.mov (.t 0)), ⟨some (8, false), some 10, .call (.c (.fn 43 [] [])) [((.t 9), .id), ((.c (.int .i64 5)), .id)]⟩, zv 11 (.pick (.t 8) (.c (.bool true)) (.t 10)), zm 4 11]
def k0cs : IC := (.seq qbnz (.seq qbbd .ret))
@[go_sem] def s0cs : List (RV × Co) := [(.t 4, .id)]
theorem c0cs : cFun Tryz.prog 49 = some (12, k0cs, s0cs) := by kernel_rfl

def qbp8 : IC := .reg false [zi 2 (.box (.t 0)), zi 4 (.alo [.nils, (.int .i64 0), (.int .i64 0), (.int .i64 0), (.str []), (.int .i64 0), (.int .i64 0), (.int .i64 0)])]
def qbj0 : IC := .reg false [zv 6 (.fad (.t 2) 6), zv 7 (.ld false 1 (.t 6)), zv 8 (.bin .neq .no (.t 7) (.c (.int .i64 0)))]
def qbmp : IC := .reg false [zv 9 (.ld true 8 (.t 2)), zn (.st 8 (.agg [(.sl 4), .id, .id, .id, .id, .id, .id, .id]) (.t 4) (.t 9))]
def qbgt : IC := .reg false [zv 10 (.ld true 8 (.t 2)), zi 11 (.call (.c (.fn 16 [] [])) [((.t 10), (.agg [(.sl 4), .id, .id, .id, .id, .id, .id, .id]))]), zv 12 (.fld false 1 1 (.t 11)), zm 5 12]
def qbkv : IC := .reg false [zm 13 1, zv 14 (.bin .eql .no (.t 13) (.c (.int .i64 0)))]
def qbq9 : IC := .reg false [zv 1 (.mov (.c (.int .i64 1)))]
def qbkk : IC := .reg false [zm 15 1, zv 16 (.fad (.t 2) 6), zn (.st 1 .id (.t 16) (.t 15))]
def qbp9 : IC := .reg false [zm 17 5, zv 18 (.fad (.t 2) 7), zn (.st 1 .id (.t 18) (.t 17))]
def qbeb : IC := .reg false [zv 19 (.ld true 8 (.t 2)), zn (.st 8 (.agg [(.sl 4), .id, .id, .id, .id, .id, .id, .id]) (.t 4) (.t 19))]
def k0ce : IC := (.seq qbp8 (.seq (.seq qbj0 (.cond (.t 8) (.seq qbmp .ret) .skip)) (.seq qbgt (.seq (.seq qbkv (.cond (.t 14) qbq9 .skip)) (.seq qbkk (.seq qbp9 (.seq qbeb .ret)))))))
@[go_sem] def s0ce : List (RV × Co) := [(.c true 8 4, (.agg [(.sl 4), .id, .id, .id, .id, .id, .id, .id]))]
theorem c0ce : cFun Tryz.prog 50 = some (20, k0ce, s0ce) := by kernel_rfl

def qbm9 : IC := .reg false [zi 1 (.box (.t 0)), zi 2 (.alo [.nils, (.int .i64 0), (.int .i64 0), (.int .i64 0), (.str []), (.int .i64 0), (.int .i64 0), (.int .i64 0)]), zi 3 (.alo [(.int .i64 0), (.int .i64 0), (.int .i64 0), (.str [])])]
def qbfl : IC := .reg false [zv 5 (.ld true 8 (.t 1)), zi 6 (.call (.c (.fn 16 [] [])) [((.t 5), (.agg [(.sl 4), .id, .id, .id, .id, .id, .id, .id]))]), zi 4 (.alo [(.int .i64 0), (.int .i64 0), (.int .i64 0), (.str [])]), zn (.st 4 .id (.t 4) (.t 6))]
def qbcr : IC := .reg false [zv 7 (.fad (.t 1) 6), zv 8 (.ld false 1 (.t 7)), zv 9 (.bin .eql .no (.t 8) (.c (.int .i64 0))), zm 10 9, zw 10 true 11 (.fad (.t 1) 0), zw 10 true 12 (.ld false 1 (.t 11)), zw 10 true 13 (.len false (.t 12)), zw 10 true 14 (.bin .gtr .no (.t 13) (.c (.int .i64 0))), zv 15 (.pick (.t 10) (.t 14) (.c (.bool false)))]
def qbp6 : IC := .reg false [zv 16 (.fad (.t 1) 0), zv 17 (.ld false 1 (.t 16)), zv 18 (.slv 4 (.t 17) (some (.c (.int .i64 1))) none none), zv 19 (.fad (.t 1) 0), zn (.st 1 (.sl 4) (.t 19) (.t 18))]
def qbfr : IC := .drw [zp (zv 20 (.ld true 8 (.t 1))), zp (zv 21 (.ld true 4 (.t 4))), (zn (.st 8 (.agg [(.sl 4), .id, .id, .id, .id, .id, .id, .id]) (.t 2) (.t 20)), [1]), (zn (.st 4 .id (.t 3) (.t 21)), [])]
def k0ca : IC := (.seq qbm9 (.seq qbfl (.seq (.seq qbcr (.cond (.t 15) qbp6 .skip)) (.seq qbfr .ret))))
@[go_sem] def s0ca : List (RV × Co) := [(.c true 8 2, (.agg [(.sl 4), .id, .id, .id, .id, .id, .id, .id])), (.c true 4 3, .id)]
theorem c0ca : cFun Tryz.prog 51 = some (22, k0ca, s0ca) := by kernel_rfl

def qbcv : IC := .reg false [zi 2 (.box (.t 0)), zv 4 (.mov (.c (.bool false)))]
def qbnc : IC := .reg false [zv 5 (.fad (.t 2) 6), zv 6 (.ld false 1 (.t 5)), zv 7 (.bin .eql .no (.t 6) (.c (.int .i64 0))), zm 8 7, zw 8 true 9 (.ld true 8 (.t 2)), ⟨some (8, true), some 10, .call (.c (.fn 16 [] [])) [((.t 9), (.agg [(.sl 4), .id, .id, .id, .id, .id, .id, .id]))]⟩, zw 8 true 11 (.mov (.t 1)), ⟨some (8, true), some 12, .call (.c (.fn 84 [] [])) [((.t 10), .id), ((.t 11), .id)]⟩, zv 13 (.pick (.t 8) (.t 12) (.c (.bool false))), zm 4 13]
def k0cc : IC := (.seq qbcv (.seq qbnc .ret))
@[go_sem] def s0cc : List (RV × Co) := [(.t 4, .id)]
theorem c0cc : cFun Tryz.prog 52 = some (14, k0cc, s0cc) := by kernel_rfl

def qbfo : IC := .reg false [zi 1 (.box (.t 0)), zi 2 (.alo [.nils, (.int .i64 0), (.int .i64 0), (.int .i64 0), (.str []), (.int .i64 0), (.int .i64 0), (.int .i64 0)]), zv 3 (.mov (.c .nils))]
def qbks : IC := .reg false [zv 12 (.ld true 8 (.t 1)), zi 13 (.call (.c (.fn 85 [] [])) [((.t 12), (.agg [(.sl 4), .id, .id, .id, .id, .id, .id, .id])), ((.c (.str [61, 62])), .id)]), zv 14 (.un .not (.t 13))]
def qbns : IC := .reg false [zv 15 (.ld true 8 (.t 1)), zn (.st 8 (.agg [(.sl 4), .id, .id, .id, .id, .id, .id, .id]) (.t 2) (.t 15)), zv 3 (.mov (.c .nils))]
def qbkq : IC := .reg false [zv 4 (.mov (.c .nils))]
def qbml : IC := .reg false [zv 17 (.ld true 8 (.t 1)), zi 18 (.call (.c (.fn 25 [] [])) [((.t 17), (.agg [(.sl 4), .id, .id, .id, .id, .id, .id, .id])), ((.c (.str [40])), .id)]), zm 16 18, zv 19 (.ext (.t 16) 0), zv 20 (.ext (.t 16) 1), zi 5 (.alo [.nils, (.int .i64 0), (.int .i64 0), (.int .i64 0), (.str []), (.int .i64 0), (.int .i64 0), (.int .i64 0)]), zn (.st 8 (.agg [(.sl 4), .id, .id, .id, .id, .id, .id, .id]) (.t 5) (.t 19)), zm 6 20]
def qbkj : IC := .reg false [zm 21 6, zv 22 (.un .not (.t 21))]
def qbhq : IC := .reg false [zv 24 (.ld true 8 (.t 1)), zi 25 (.call (.c (.fn 86 [] [])) [((.t 24), (.agg [(.sl 4), .id, .id, .id, .id, .id, .id, .id]))]), zm 23 25, zv 26 (.ext (.t 23) 0), zv 27 (.ext (.t 23) 1), zi 7 (.alo [.nils, (.int .i64 0), (.int .i64 0), (.int .i64 0), (.str []), (.int .i64 0), (.int .i64 0), (.int .i64 0)]), zi 8 (.alo [(.int .i64 0), (.int .i64 0), (.int .i64 0), (.str []), .nils]), zn (.st 8 (.agg [(.sl 4), .id, .id, .id, .id, .id, .id, .id]) (.t 7) (.t 26)), zn (.st 5 (.agg [.id, .id, .id, .id, (.sl 5)]) (.t 8) (.t 27))]
def qbef : IC := .reg false [zv 29 (.ld true 8 (.t 7)), zi 30 (.call (.c (.fn 28 [] [])) [((.t 29), (.agg [(.sl 4), .id, .id, .id, .id, .id, .id, .id])), ((.c (.str [61, 62])), .id)]), zm 28 30, zv 31 (.ext (.t 28) 0), zv 32 (.ext (.t 28) 1), zn (.st 8 (.agg [(.sl 4), .id, .id, .id, .id, .id, .id, .id]) (.t 7) (.t 31))]
def qbga : IC := .drw [zp (zv 33 (.ld true 8 (.t 7))), zp (zv 34 (.ld true 5 (.t 8))), (zv 35 (.bsl 5 [((.t 34), (.agg [.id, .id, .id, .id, (.sl 5)]))]), []), (zn (.st 8 (.agg [(.sl 4), .id, .id, .id, .id, .id, .id, .id]) (.t 2) (.t 33)), [1, 2]), zp (zm 3 35)]
def qbix : IC := .reg false [zv 36 (.ld true 8 (.t 5)), zi 37 (.call (.c (.fn 52 [] [])) [((.t 36), (.agg [(.sl 4), .id, .id, .id, .id, .id, .id, .id])), ((.c (.str [41])), .id)]), zv 38 (.un .not (.t 37))]
def q5m : IC := .reg false [zv 9 (.mov (.c (.bool true)))]
def q7s : IC := .reg false [zm 39 9]
def q5u : IC := .reg false [zv 41 (.ld true 8 (.t 5)), zi 42 (.call (.c (.fn 86 [] [])) [((.t 41), (.agg [(.sl 4), .id, .id, .id, .id, .id, .id, .id]))]), zm 40 42, zv 43 (.ext (.t 40) 0), zv 44 (.ext (.t 40) 1), zi 10 (.alo [.nils, (.int .i64 0), (.int .i64 0), (.int .i64 0), (.str []), (.int .i64 0), (.int .i64 0), (.int .i64 0)]), zi 11 (.alo [(.int .i64 0), (.int .i64 0), (.int .i64 0), (.str []), .nils]), zn (.st 8 (.agg [(.sl 4), .id, .id, .id, .id, .id, .id, .id]) (.t 10) (.t 43)), zn (.st 5 (.agg [.id, .id, .id, .id, (.sl 5)]) (.t 11) (.t 44))]
def q61 : IC := .reg false [zm 45 4, zv 46 (.ld true 5 (.t 11)), zv 47 (.bsl 5 [((.t 46), (.agg [.id, .id, .id, .id, (.sl 5)]))]), zi 48 (.app 5 (.agg [(.int .i64 0), (.int .i64 0), (.int .i64 0), (.str []), .nils]) 64 (.sl 5) (.t 45) (.t 47)), zm 4 48]
def q68 : IC := .reg false [zv 50 (.ld true 8 (.t 10)), zi 51 (.call (.c (.fn 25 [] [])) [((.t 50), (.agg [(.sl 4), .id, .id, .id, .id, .id, .id, .id])), ((.c (.str [44])), .id)]), zm 49 51, zv 52 (.ext (.t 49) 0), zv 53 (.ext (.t 49) 1), zn (.st 8 (.agg [(.sl 4), .id, .id, .id, .id, .id, .id, .id]) (.t 5) (.t 52)), zm 9 53]
def q6j : IC := (.seq (.seq q7s (.cond (.t 39) .skip (.exit 0))) (.block 1 (.seq q5u (.seq q61 q68))))
def q4r : IC := .reg false [zv 55 (.ld true 8 (.t 5)), zi 56 (.call (.c (.fn 28 [] [])) [((.t 55), (.agg [(.sl 4), .id, .id, .id, .id, .id, .id, .id])), ((.c (.str [41])), .id)]), zm 54 56, zv 57 (.ext (.t 54) 0), zv 58 (.ext (.t 54) 1), zn (.st 8 (.agg [(.sl 4), .id, .id, .id, .id, .id, .id, .id]) (.t 5) (.t 57))]
def q8y : IC := .reg false [zv 60 (.ld true 8 (.t 5)), zi 61 (.call (.c (.fn 28 [] [])) [((.t 60), (.agg [(.sl 4), .id, .id, .id, .id, .id, .id, .id])), ((.c (.str [61, 62])), .id)]), zm 59 61, zv 62 (.ext (.t 59) 0), zv 63 (.ext (.t 59) 1), zn (.st 8 (.agg [(.sl 4), .id, .id, .id, .id, .id, .id, .id]) (.t 5) (.t 62))]
def q4o : IC := .reg false [zv 64 (.ld true 8 (.t 5)), zm 65 4, zn (.st 8 (.agg [(.sl 4), .id, .id, .id, .id, .id, .id, .id]) (.t 2) (.t 64)), zm 3 65]
def k0bk : IC := (.seq qbfo (.seq (.seq qbks (.cond (.t 14) (.seq qbns .ret) .skip)) (.seq qbkq (.seq qbml (.seq (.seq qbkj (.cond (.t 22) (.seq qbhq (.seq qbef (.seq qbga .ret))) .skip)) (.seq (.seq qbix (.cond (.t 38) (.seq q5m (.block 0 (.loop q6j))) .skip)) (.seq q4r (.seq q8y (.seq q4o .ret)))))))))
@[go_sem] def s0bk : List (RV × Co) := [(.c true 8 2, (.agg [(.sl 4), .id, .id, .id, .id, .id, .id, .id])), (.t 3, (.sl 5))]
theorem c0bk : cFun Tryz.prog 53 = some (66, k0bk, s0bk) := by kernel_rfl

def qbaf : IC := .reg false [zi 1 (.box (.t 0)), zi 2 (.alo [.nils, (.int .i64 0), (.int .i64 0), (.int .i64 0), (.str []), (.int .i64 0), (.int .i64 0), (.int .i64 0)]), zi 3 (.alo [(.int .i64 0), (.int .i64 0), (.int .i64 0), (.str []), .nils])]
def qbqx : IC := .reg false [zv 10 (.ld true 8 (.t 1)), zi 11 (.call (.c (.fn 33 [] [])) [((.t 10), (.agg [(.sl 4), .id, .id, .id, .id, .id, .id, .id]))]), zm 9 11, zv 12 (.ext (.t 9) 0), zv 13 (.ext (.t 9) 1), zn (.st 8 (.agg [(.sl 4), .id, .id, .id, .id, .id, .id, .id]) (.t 1) (.t 12))]
def qbfb : IC := .reg false [zv 15 (.ld true 8 (.t 1)), zi 16 (.call (.c (.fn 87 [] [])) [((.t 15), (.agg [(.sl 4), .id, .id, .id, .id, .id, .id, .id]))]), zm 14 16, zv 17 (.ext (.t 14) 0), zv 18 (.ext (.t 14) 1), zi 4 (.alo [(.int .i64 0), (.int .i64 0), (.int .i64 0), (.str []), .nils]), zn (.st 8 (.agg [(.sl 4), .id, .id, .id, .id, .id, .id, .id]) (.t 1) (.t 17)), zn (.st 5 (.agg [.id, .id, .id, .id, (.sl 5)]) (.t 4) (.t 18))]
def qbol : IC := .reg false [zv 20 (.ld true 8 (.t 1)), zi 21 (.call (.c (.fn 25 [] [])) [((.t 20), (.agg [(.sl 4), .id, .id, .id, .id, .id, .id, .id])), ((.c (.str [45, 62])), .id)]), zm 19 21, zv 22 (.ext (.t 19) 0), zv 23 (.ext (.t 19) 1), zi 5 (.alo [.nils, (.int .i64 0), (.int .i64 0), (.int .i64 0), (.str []), (.int .i64 0), (.int .i64 0), (.int .i64 0)]), zn (.st 8 (.agg [(.sl 4), .id, .id, .id, .id, .id, .id, .id]) (.t 5) (.t 22)), zm 6 23]
def qbhj : IC := .reg false [zm 24 6]
def qbp0 : IC := .reg false [zv 26 (.ld true 8 (.t 5)), zi 27 (.call (.c (.fn 54 [] [])) [((.t 26), (.agg [(.sl 4), .id, .id, .id, .id, .id, .id, .id]))]), zm 25 27, zv 28 (.ext (.t 25) 0), zv 29 (.ext (.t 25) 1), zi 7 (.alo [.nils, (.int .i64 0), (.int .i64 0), (.int .i64 0), (.str []), (.int .i64 0), (.int .i64 0), (.int .i64 0)]), zi 8 (.alo [(.int .i64 0), (.int .i64 0), (.int .i64 0), (.str []), .nils]), zn (.st 8 (.agg [(.sl 4), .id, .id, .id, .id, .id, .id, .id]) (.t 7) (.t 28)), zn (.st 5 (.agg [.id, .id, .id, .id, (.sl 5)]) (.t 8) (.t 29))]
def qbjf : IC := .reg false [zv 30 (.ld true 8 (.t 7)), zn (.st 8 (.agg [(.sl 4), .id, .id, .id, .id, .id, .id, .id]) (.t 5) (.t 30))]
def qbbs : IC := .reg false [zv 31 (.fad (.t 4) 1), zv 32 (.ld false 1 (.t 31)), zv 33 (.ld true 5 (.t 4)), zv 34 (.ld true 5 (.t 8)), zv 35 (.bsl 5 [((.t 33), (.agg [.id, .id, .id, .id, (.sl 5)])), ((.t 34), (.agg [.id, .id, .id, .id, (.sl 5)]))]), zv 36 (.bld [(.int .i64 0), (.int .i64 0), (.int .i64 0), (.str []), .nils] [(0, 1, (.c (.int .i64 2))), (1, 1, (.t 32)), (3, 1, (.c (.str [45, 62]))), (4, 1, (.t 35))]), zn (.st 5 (.agg [.id, .id, .id, .id, (.sl 5)]) (.t 4) (.t 36))]
def qbqd : IC := .drw [zp (zv 37 (.ld true 8 (.t 5))), (zi 38 (.call (.c (.fn 35 [] [])) [((.t 37), (.agg [(.sl 4), .id, .id, .id, .id, .id, .id, .id]))]), []), (zv 39 (.ld true 5 (.t 4)), [1]), (zn (.st 8 (.agg [(.sl 4), .id, .id, .id, .id, .id, .id, .id]) (.t 2) (.t 38)), [2]), (zn (.st 5 (.agg [.id, .id, .id, .id, (.sl 5)]) (.t 3) (.t 39)), [])]
def k0bp : IC := (.seq qbaf (.seq qbqx (.seq qbfb (.seq qbol (.seq (.seq qbhj (.cond (.t 24) (.seq qbp0 (.seq qbjf qbbs)) .skip)) (.seq qbqd .ret))))))
@[go_sem] def s0bp : List (RV × Co) := [(.c true 8 2, (.agg [(.sl 4), .id, .id, .id, .id, .id, .id, .id])), (.c true 5 3, (.agg [.id, .id, .id, .id, (.sl 5)]))]
theorem c0bp : cFun Tryz.prog 54 = some (40, k0bp, s0bp) := by kernel_rfl

def qbsv : IC := .reg false [zi 2 (.box (.t 0)), zi 3 (.box (.t 1)), zi 4 (.alo [(.int .i64 0), (.int .i64 0), (.int .i64 0), (.str []), .nils]), zv 5 (.mov (.c (.bool false)))]
def qbwa : IC := .reg false [zv 10 (.ld false 1 (.t 2)), zv 11 (.mfn 89 [] [(.t 2)]), zi 12 (.call (.c (.fn 88 [] [])) [((.t 10), .id), ((.t 11), .id)]), zm 9 12, zv 13 (.ext (.t 9) 0), zv 14 (.ext (.t 9) 1), zm 6 13, zm 7 14]
def qbzd : IC := .reg false [zm 15 7, zv 16 (.un .not (.t 15)), zm 17 16, zw 17 false 18 (.ld false 1 (.t 2)), ⟨some (17, false), some 19, .call (.c (.fn 49 [] [])) [((.t 18), .id), ((.c (.str [105, 110])), .id)]⟩, zw 17 false 20 (.un .not (.t 19)), zv 21 (.pick (.t 17) (.c (.bool true)) (.t 20))]
def qbvs : IC := .reg false [zv 22 (.ld true 5 (.t 3)), zn (.st 5 (.agg [.id, .id, .id, .id, (.sl 5)]) (.t 4) (.t 22)), zv 5 (.mov (.c (.bool false)))]
def qbsw : IC := .reg false [zv 24 (.ld false 1 (.t 2)), zi 25 (.call (.c (.fn 10 [] [])) [((.t 24), .id)]), zm 23 25, zv 26 (.ext (.t 23) 0), zv 27 (.ext (.t 23) 1), zi 8 (.alo [(.int .i64 0), (.int .i64 0), (.int .i64 0), (.str []), .nils]), zn (.st 5 (.agg [.id, .id, .id, .id, (.sl 5)]) (.t 8) (.t 26)), zm 7 27]
def qbxp : IC := .reg false [zm 28 6, zv 29 (.ld true 5 (.t 8)), zv 30 (.bsl 5 [((.t 29), (.agg [.id, .id, .id, .id, (.sl 5)]))]), zi 31 (.app 5 (.agg [(.int .i64 0), (.int .i64 0), (.int .i64 0), (.str []), .nils]) 64 (.sl 5) (.t 28) (.t 30)), zv 32 (.fad (.t 3) 0), zn (.st 1 .id (.t 32) (.c (.int .i64 26))), zv 33 (.fad (.t 3) 4), zn (.st 1 (.sl 5) (.t 33) (.t 31))]
def qbv3 : IC := .reg false [zv 34 (.ld true 5 (.t 3)), zm 35 7, zn (.st 5 (.agg [.id, .id, .id, .id, (.sl 5)]) (.t 4) (.t 34)), zm 5 35]
def k0q : IC := (.seq qbsv (.seq qbwa (.seq (.seq qbzd (.cond (.t 21) (.seq qbvs .ret) .skip)) (.seq qbsw (.seq qbxp (.seq qbv3 .ret))))))
@[go_sem] def s0q : List (RV × Co) := [(.c true 5 4, (.agg [.id, .id, .id, .id, (.sl 5)])), (.t 5, .id)]
theorem c0q : cFun Tryz.prog 55 = some (36, k0q, s0q) := by kernel_rfl

def qbri : IC := .reg false [zi 2 (.box (.t 0)), zi 3 (.box (.t 1)), zi 4 (.alo [(.int .i64 0), (.int .i64 0), (.int .i64 0), (.str []), .nils]), zv 5 (.mov (.c (.bool false)))]
def qbuf : IC := .reg false [zv 10 (.ld false 1 (.t 2)), zi 11 (.call (.c (.fn 10 [] [])) [((.t 10), .id)]), zm 9 11, zv 12 (.ext (.t 9) 0), zv 13 (.ext (.t 9) 1), zi 6 (.alo [(.int .i64 0), (.int .i64 0), (.int .i64 0), (.str []), .nils]), zn (.st 5 (.agg [.id, .id, .id, .id, (.sl 5)]) (.t 6) (.t 12)), zm 7 13]
def qbus : IC := .reg false [zm 14 7, zv 15 (.un .not (.t 14)), zm 16 15, zw 16 false 17 (.ld false 1 (.t 2)), ⟨some (16, false), some 18, .call (.c (.fn 49 [] [])) [((.t 17), .id), ((.c (.str [111, 102])), .id)]⟩, zw 16 false 19 (.un .not (.t 18)), zv 20 (.pick (.t 16) (.c (.bool true)) (.t 19))]
def qbr8 : IC := .reg false [zv 21 (.ld true 5 (.t 3)), zn (.st 5 (.agg [.id, .id, .id, .id, (.sl 5)]) (.t 4) (.t 21)), zv 5 (.mov (.c (.bool false)))]
def qbyc : IC := .reg false [zv 23 (.ld false 1 (.t 2)), zv 24 (.mfn 90 [] [(.t 2)]), zi 25 (.call (.c (.fn 88 [] [])) [((.t 23), .id), ((.t 24), .id)]), zm 22 25, zv 26 (.ext (.t 22) 0), zv 27 (.ext (.t 22) 1), zm 8 26, zm 7 27]
def qbyk : IC := .reg false [zv 28 (.ld true 5 (.t 6)), zv 29 (.bsl 5 [((.t 28), (.agg [.id, .id, .id, .id, (.sl 5)]))]), zm 30 8, zi 31 (.app 5 (.agg [(.int .i64 0), (.int .i64 0), (.int .i64 0), (.str []), .nils]) 64 (.sl 5) (.t 29) (.t 30)), zv 32 (.fad (.t 3) 0), zn (.st 1 .id (.t 32) (.c (.int .i64 27))), zv 33 (.fad (.t 3) 4), zn (.st 1 (.sl 5) (.t 33) (.t 31))]
def qbxe : IC := .reg false [zv 34 (.ld true 5 (.t 3)), zm 35 7, zn (.st 5 (.agg [.id, .id, .id, .id, (.sl 5)]) (.t 4) (.t 34)), zm 5 35]
def k0r : IC := (.seq qbri (.seq qbuf (.seq (.seq qbus (.cond (.t 20) (.seq qbr8 .ret) .skip)) (.seq qbyc (.seq qbyk (.seq qbxe .ret))))))
@[go_sem] def s0r : List (RV × Co) := [(.c true 5 4, (.agg [.id, .id, .id, .id, (.sl 5)])), (.t 5, .id)]
theorem c0r : cFun Tryz.prog 56 = some (36, k0r, s0r) := by kernel_rfl

def qbr9 : IC := .reg false [zi 3 (.box (.t 1)), zi 4 (.alo [(.int .i64 0), (.int .i64 0), (.int .i64 0), (.str []), .nils]), zv 5 (.mov (.c (.bool false)))]
def qbtz : IC := .reg false [zv 10 (.fad (.t 3) 0), zn (.st 1 .id (.t 10) (.c (.int .i64 28)))]
def qbzl : IC := .reg false [zv 11 (.bld [(.str []), (.str []), (.str [])] [(0, 1, (.c (.str []))), (1, 1, (.c (.str [116, 104, 101, 110]))), (2, 1, (.c (.str [101, 108, 115, 101])))]), zv 12 (.mov (.c (.int .i64 0)))]
def qbyq : IC := .reg false [zv 13 (.bin .lss .no (.t 12) (.c (.int .i64 3)))]
def qbuw : IC := .reg false [zv 14 (.ida false 1 3 (.t 11) (.t 12)), zm 7 14]
def qbyh : IC := .reg false [zm 15 7, zv 16 (.bin .neq .no (.t 15) (.c (.str []))), zm 17 16, zw 17 true 18 (.mov (.t 0)), zw 17 true 19 (.mov (.t 7)), ⟨some (17, true), some 20, .call (.c (.fn 49 [] [])) [((.t 18), .id), ((.t 19), .id)]⟩, zw 17 true 21 (.un .not (.t 20)), zv 22 (.pick (.t 17) (.t 21) (.c (.bool false)))]
def qbxd : IC := .reg false [zv 23 (.ld true 5 (.t 3)), zn (.st 5 (.agg [.id, .id, .id, .id, (.sl 5)]) (.t 4) (.t 23)), zv 5 (.mov (.c (.bool false)))]
def qbsa : IC := .reg false [zm 25 0, zi 26 (.call (.c (.fn 10 [] [])) [((.t 25), .id)]), zm 24 26, zv 27 (.ext (.t 24) 0), zv 28 (.ext (.t 24) 1), zi 8 (.alo [(.int .i64 0), (.int .i64 0), (.int .i64 0), (.str []), .nils]), zn (.st 5 (.agg [.id, .id, .id, .id, (.sl 5)]) (.t 8) (.t 27)), zm 9 28]
def qbrw : IC := .reg false [zm 29 9, zv 30 (.un .not (.t 29))]
def qbke : IC := .reg false [zv 31 (.ld true 5 (.t 3)), zn (.st 5 (.agg [.id, .id, .id, .id, (.sl 5)]) (.t 4) (.t 31)), zv 5 (.mov (.c (.bool false)))]
def qbf0 : IC := .reg false [zv 32 (.fad (.t 3) 4), zv 33 (.ld false 1 (.t 32)), zv 34 (.ld true 5 (.t 8)), zv 35 (.bsl 5 [((.t 34), (.agg [.id, .id, .id, .id, (.sl 5)]))]), zi 36 (.app 5 (.agg [(.int .i64 0), (.int .i64 0), (.int .i64 0), (.str []), .nils]) 64 (.sl 5) (.t 33) (.t 35)), zv 37 (.fad (.t 3) 4), zn (.st 1 (.sl 5) (.t 37) (.t 36))]
def qbfg : IC := .reg false [zv 38 (.bin .add .no (.t 12) (.c (.int .i64 1))), zm 12 38]
def qbty : IC := (.seq qbyq (.seq (.cond (.t 13) .skip (.exit 0)) (.seq (.block 1 (.seq qbuw (.seq (.seq qbyh (.cond (.t 22) (.seq qbxd .ret) .skip)) (.seq qbsa (.seq (.seq qbrw (.cond (.t 30) (.seq qbke .ret) .skip)) qbf0))))) qbfg)))
def qbi4 : IC := .reg false [zv 39 (.ld true 5 (.t 3)), zn (.st 5 (.agg [.id, .id, .id, .id, (.sl 5)]) (.t 4) (.t 39)), zv 5 (.mov (.c (.bool true)))]
def k0s : IC := (.seq qbr9 (.seq qbtz (.seq (.seq qbzl (.block 0 (.loop qbty))) (.seq qbi4 .ret))))
@[go_sem] def s0s : List (RV × Co) := [(.c true 5 4, (.agg [.id, .id, .id, .id, (.sl 5)])), (.t 5, .id)]
theorem c0s : cFun Tryz.prog 57 = some (40, k0s, s0s) := by kernel_rfl

def qbgf : IC := .reg false [zi 2 (.alo [(.int .i64 0), (.int .i64 0), (.int .i64 0), (.str []), .nils]), zv 3 (.mov (.c (.bool false)))]
def qbbw : IC := .reg false [zm 10 0, zi 11 (.call (.c (.fn 92 [] [])) [((.t 10), .id)]), zm 9 11, zv 12 (.ext (.t 9) 0), zv 13 (.ext (.t 9) 1), zi 4 (.alo [(.int .i64 0), (.int .i64 0), (.int .i64 0), (.str []), .nils]), zn (.st 5 (.agg [.id, .id, .id, .id, (.sl 5)]) (.t 4) (.t 12)), zm 5 13]
def qbo3 : IC := .reg false [zm 14 5]
def qbfn : IC := .reg false [zm 16 0, zi 17 (.call (.c (.fn 93 [] [])) [((.t 16), .id)]), zm 15 17, zv 18 (.ext (.t 15) 0), zv 19 (.ext (.t 15) 1), zi 6 (.alo [(.int .i64 0), (.int .i64 0), (.int .i64 0), (.str []), .nils]), zn (.st 5 (.agg [.id, .id, .id, .id, (.sl 5)]) (.t 6) (.t 18)), zm 7 19]
def qbhz : IC := .reg false [zm 20 7, zv 21 (.un .not (.t 20)), zm 22 21, zw 22 true 23 (.mov (.t 0)), ⟨some (22, true), some 24, .call (.c (.fn 45 [] [])) [((.t 23), .id), ((.c (.str [40])), .id)]⟩, zw 22 true 25 (.un .not (.t 24)), zv 26 (.pick (.t 22) (.t 25) (.c (.bool false)))]
def qbjo : IC := .reg false [zi 8 (.alo [(.int .i64 0), (.int .i64 0), (.int .i64 0), (.str []), .nils])]
def qbnh : IC := .reg false [zm 28 0, zi 29 (.call (.c (.fn 92 [] [])) [((.t 28), .id)]), zm 27 29, zv 30 (.ext (.t 27) 0), zv 31 (.ext (.t 27) 1), zn (.st 5 (.agg [.id, .id, .id, .id, (.sl 5)]) (.t 8) (.t 30)), zm 5 31]
def qbgb : IC := .reg false [zv 32 (.fad (.t 4) 1), zv 33 (.ld false 1 (.t 32)), zv 34 (.ld true 5 (.t 4)), zv 35 (.ld true 5 (.t 8)), zv 36 (.bsl 5 [((.t 34), (.agg [.id, .id, .id, .id, (.sl 5)])), ((.t 35), (.agg [.id, .id, .id, .id, (.sl 5)]))]), zv 37 (.bld [(.int .i64 0), (.int .i64 0), (.int .i64 0), (.str []), .nils] [(0, 1, (.c (.int .i64 24))), (1, 1, (.t 33)), (4, 1, (.t 36))]), zn (.st 5 (.agg [.id, .id, .id, .id, (.sl 5)]) (.t 4) (.t 37))]
def qbmq : IC := (.seq (.seq qbo3 (.cond (.t 14) .skip (.exit 0))) (.block 1 (.seq (.seq qbfn (.seq qbhz (.cond (.t 26) (.exit 0) .skip))) (.seq qbjo (.seq qbnh qbgb)))))
def q7d : IC := .reg false [zv 38 (.ld true 5 (.t 4)), zm 39 5, zn (.st 5 (.agg [.id, .id, .id, .id, (.sl 5)]) (.t 2) (.t 38)), zm 3 39]
def k0bb : IC := (.seq qbgf (.seq qbbw (.seq (.block 0 (.loop qbmq)) (.seq q7d .ret))))
@[go_sem] def s0bb : List (RV × Co) := [(.c true 5 2, (.agg [.id, .id, .id, .id, (.sl 5)])), (.t 3, .id)]
theorem c0bb : cFun Tryz.prog 58 = some (40, k0bb, s0bb) := by kernel_rfl

def qbsg : IC := .reg false [zi 1 (.box (.t 0)), zi 2 (.alo [.nils, (.int .i64 0), (.int .i64 0), (.int .i64 0), (.str []), (.int .i64 0), (.int .i64 0), (.int .i64 0)]), zi 3 (.alo [(.int .i64 0), (.int .i64 0), (.int .i64 0), (.str []), .nils])]
def qby5 : IC := .reg false [zv 6 (.ld true 8 (.t 1)), zi 7 (.call (.c (.fn 16 [] [])) [((.t 6), (.agg [(.sl 4), .id, .id, .id, .id, .id, .id, .id]))]), zv 8 (.fld false 1 0 (.t 7)), zv 9 (.bin .neq .no (.t 8) (.c (.int .i64 1)))]
def qbrk : IC := .reg false [zv 10 (.ld true 8 (.t 1)), zi 11 (.call (.c (.fn 50 [] [])) [((.t 10), (.agg [(.sl 4), .id, .id, .id, .id, .id, .id, .id])), ((.c (.int .i64 5)), .id)]), zv 12 (.bld [(.int .i64 0), (.int .i64 0), (.int .i64 0), (.str []), .nils] []), zn (.st 8 (.agg [(.sl 4), .id, .id, .id, .id, .id, .id, .id]) (.t 2) (.t 11)), zn (.st 5 (.agg [.id, .id, .id, .id, (.sl 5)]) (.t 3) (.t 12))]
def qbtp : IC := .reg false [zv 14 (.ld true 8 (.t 1)), zi 15 (.call (.c (.fn 27 [] [])) [((.t 14), (.agg [(.sl 4), .id, .id, .id, .id, .id, .id, .id]))]), zm 13 15, zv 16 (.ext (.t 13) 0), zv 17 (.ext (.t 13) 1), zn (.st 8 (.agg [(.sl 4), .id, .id, .id, .id, .id, .id, .id]) (.t 1) (.t 16)), zm 4 17]
def qbxf : IC := .reg false [zv 19 (.ld true 8 (.t 1)), zi 20 (.call (.c (.fn 28 [] [])) [((.t 19), (.agg [(.sl 4), .id, .id, .id, .id, .id, .id, .id])), ((.c (.str [45, 62])), .id)]), zm 18 20, zv 21 (.ext (.t 18) 0), zv 22 (.ext (.t 18) 1), zn (.st 8 (.agg [(.sl 4), .id, .id, .id, .id, .id, .id, .id]) (.t 1) (.t 21))]
def qbxr : IC := .reg false [zv 24 (.ld true 8 (.t 1)), zi 25 (.call (.c (.fn 11 [] [])) [((.t 24), (.agg [(.sl 4), .id, .id, .id, .id, .id, .id, .id]))]), zm 23 25, zv 26 (.ext (.t 23) 0), zv 27 (.ext (.t 23) 1), zi 5 (.alo [(.int .i64 0), (.int .i64 0), (.int .i64 0), (.str []), .nils]), zn (.st 8 (.agg [(.sl 4), .id, .id, .id, .id, .id, .id, .id]) (.t 1) (.t 26)), zn (.st 5 (.agg [.id, .id, .id, .id, (.sl 5)]) (.t 5) (.t 27))]
def qbtu : IC := .drw [zp (zv 28 (.ld true 8 (.t 1))), zp (zm 29 4), zp (zv 30 (.ld true 5 (.t 5))), (zi 31 (.call (.c (.fn 29 [] [])) [((.t 29), (.sl 4)), ((.t 30), (.agg [.id, .id, .id, .id, (.sl 5)]))]), [0]), (zn (.st 8 (.agg [(.sl 4), .id, .id, .id, .id, .id, .id, .id]) (.t 2) (.t 28)), []), (zn (.st 5 (.agg [.id, .id, .id, .id, (.sl 5)]) (.t 3) (.t 31)), [])]
def k0j : IC := (.seq qbsg (.seq (.seq qby5 (.cond (.t 9) (.seq qbrk .ret) .skip)) (.seq qbtp (.seq qbxf (.seq qbxr (.seq qbtu .ret))))))
@[go_sem] def s0j : List (RV × Co) := [(.c true 8 2, (.agg [(.sl 4), .id, .id, .id, .id, .id, .id, .id])), (.c true 5 3, (.agg [.id, .id, .id, .id, (.sl 5)]))]
theorem c0j : cFun Tryz.prog 59 = some (32, k0j, s0j) := by kernel_rfl

def qbyj : IC := .reg false [zi 2 (.box (.t 0)), zi 4 (.alo [.nils, (.int .i64 0), (.int .i64 0), (.int .i64 0), (.str []), (.int .i64 0), (.int .i64 0), (.int .i64 0)]), zi 5 (.alo [(.int .i64 0), (.int .i64 0), (.int .i64 0), (.str []), .nils])]
def qbvz : IC := .reg false [zm 11 1, zv 12 (.bld [(.int .i64 0), (.int .i64 0), (.int .i64 0), (.str []), .nils] [(0, 1, (.c (.int .i64 26))), (1, 1, (.t 11))]), zi 6 (.alo [(.int .i64 0), (.int .i64 0), (.int .i64 0), (.str []), .nils]), zn (.st 5 (.agg [.id, .id, .id, .id, (.sl 5)]) (.t 6) (.t 12))]
def qbwn : IC := .reg false [zv 14 (.ld true 8 (.t 2)), zi 15 (.call (.c (.fn 28 [] [])) [((.t 14), (.agg [(.sl 4), .id, .id, .id, .id, .id, .id, .id])), ((.c (.str [123])), .id)]), zm 13 15, zv 16 (.ext (.t 13) 0), zv 17 (.ext (.t 13) 1), zn (.st 8 (.agg [(.sl 4), .id, .id, .id, .id, .id, .id, .id]) (.t 2) (.t 16))]
def qbti : IC := .reg false [zv 7 (.mov (.c (.bool true)))]
def qbtb : IC := .reg false [zm 18 7]
def qbux : IC := .reg false [zv 20 (.ld true 8 (.t 2)), zi 21 (.call (.c (.fn 9 [] [])) [((.t 20), (.agg [(.sl 4), .id, .id, .id, .id, .id, .id, .id]))]), zm 19 21, zv 22 (.ext (.t 19) 0), zv 23 (.ext (.t 19) 1), zi 8 (.alo [.nils, (.int .i64 0), (.int .i64 0), (.int .i64 0), (.str []), (.int .i64 0), (.int .i64 0), (.int .i64 0)]), zi 9 (.alo [(.int .i64 0), (.int .i64 0), (.int .i64 0), (.str []), .nils]), zn (.st 8 (.agg [(.sl 4), .id, .id, .id, .id, .id, .id, .id]) (.t 8) (.t 22)), zn (.st 5 (.agg [.id, .id, .id, .id, (.sl 5)]) (.t 9) (.t 23))]
def qbui : IC := .reg false [zv 24 (.fad (.t 6) 4), zv 25 (.ld false 1 (.t 24)), zv 26 (.ld true 5 (.t 9)), zv 27 (.bsl 5 [((.t 26), (.agg [.id, .id, .id, .id, (.sl 5)]))]), zi 28 (.app 5 (.agg [(.int .i64 0), (.int .i64 0), (.int .i64 0), (.str []), .nils]) 64 (.sl 5) (.t 25) (.t 27)), zv 29 (.fad (.t 6) 4), zn (.st 1 (.sl 5) (.t 29) (.t 28))]
def qbun : IC := .reg false [zv 31 (.ld true 8 (.t 8)), zi 32 (.call (.c (.fn 94 [] [])) [((.t 31), (.agg [(.sl 4), .id, .id, .id, .id, .id, .id, .id]))]), zm 30 32, zv 33 (.ext (.t 30) 0), zv 34 (.ext (.t 30) 1), zn (.st 8 (.agg [(.sl 4), .id, .id, .id, .id, .id, .id, .id]) (.t 2) (.t 33)), zm 7 34]
def qbzg : IC := (.seq (.seq qbtb (.cond (.t 18) .skip (.exit 0))) (.block 1 (.seq qbux (.seq qbui qbun))))
def qbpc : IC := .reg false [zv 36 (.ld true 8 (.t 2)), zi 37 (.call (.c (.fn 28 [] [])) [((.t 36), (.agg [(.sl 4), .id, .id, .id, .id, .id, .id, .id])), ((.c (.str [125])), .id)]), zm 35 37, zv 38 (.ext (.t 35) 0), zv 39 (.ext (.t 35) 1), zn (.st 8 (.agg [(.sl 4), .id, .id, .id, .id, .id, .id, .id]) (.t 2) (.t 38))]
def qbe6 : IC := .reg false [zv 41 (.ld true 8 (.t 2)), zi 42 (.call (.c (.fn 28 [] [])) [((.t 41), (.agg [(.sl 4), .id, .id, .id, .id, .id, .id, .id])), ((.c (.str [105, 110])), .id)]), zm 40 42, zv 43 (.ext (.t 40) 0), zv 44 (.ext (.t 40) 1), zn (.st 8 (.agg [(.sl 4), .id, .id, .id, .id, .id, .id, .id]) (.t 2) (.t 43))]
def qbdw : IC := .reg false [zv 46 (.ld true 8 (.t 2)), zi 47 (.call (.c (.fn 11 [] [])) [((.t 46), (.agg [(.sl 4), .id, .id, .id, .id, .id, .id, .id]))]), zm 45 47, zv 48 (.ext (.t 45) 0), zv 49 (.ext (.t 45) 1), zi 10 (.alo [(.int .i64 0), (.int .i64 0), (.int .i64 0), (.str []), .nils]), zn (.st 8 (.agg [(.sl 4), .id, .id, .id, .id, .id, .id, .id]) (.t 2) (.t 48)), zn (.st 5 (.agg [.id, .id, .id, .id, (.sl 5)]) (.t 10) (.t 49))]
def qbn0 : IC := .reg false [zv 50 (.fad (.t 6) 4), zv 51 (.ld false 1 (.t 50)), zv 52 (.ld true 5 (.t 10)), zv 53 (.bsl 5 [((.t 52), (.agg [.id, .id, .id, .id, (.sl 5)]))]), zi 54 (.app 5 (.agg [(.int .i64 0), (.int .i64 0), (.int .i64 0), (.str []), .nils]) 64 (.sl 5) (.t 51) (.t 53)), zv 55 (.fad (.t 6) 4), zn (.st 1 (.sl 5) (.t 55) (.t 54))]
def qblx : IC := .drw [zp (zv 56 (.ld true 8 (.t 2))), zp (zv 57 (.ld true 5 (.t 6))), (zn (.st 8 (.agg [(.sl 4), .id, .id, .id, .id, .id, .id, .id]) (.t 4) (.t 56)), [1]), (zn (.st 5 (.agg [.id, .id, .id, .id, (.sl 5)]) (.t 5) (.t 57)), [])]
def k0g : IC := (.seq qbyj (.seq qbvz (.seq qbwn (.seq qbti (.seq (.block 0 (.loop qbzg)) (.seq qbpc (.seq qbe6 (.seq qbdw (.seq qbn0 (.seq qblx .ret))))))))))
@[go_sem] def s0g : List (RV × Co) := [(.c true 8 4, (.agg [(.sl 4), .id, .id, .id, .id, .id, .id, .id])), (.c true 5 5, (.agg [.id, .id, .id, .id, (.sl 5)]))]
theorem c0g : cFun Tryz.prog 60 = some (58, k0g, s0g) := by kernel_rfl

def qbww : IC := .reg false [zi 2 (.box (.t 0)), zi 4 (.alo [.nils, (.int .i64 0), (.int .i64 0), (.int .i64 0), (.str []), (.int .i64 0), (.int .i64 0), (.int .i64 0)]), zi 5 (.alo [(.int .i64 0), (.int .i64 0), (.int .i64 0), (.str []), .nils])]
def qbzb : IC := .reg false [zv 13 (.ld true 8 (.t 2)), zi 14 (.call (.c (.fn 11 [] [])) [((.t 13), (.agg [(.sl 4), .id, .id, .id, .id, .id, .id, .id]))]), zm 12 14, zv 15 (.ext (.t 12) 0), zv 16 (.ext (.t 12) 1), zi 6 (.alo [(.int .i64 0), (.int .i64 0), (.int .i64 0), (.str []), .nils]), zn (.st 8 (.agg [(.sl 4), .id, .id, .id, .id, .id, .id, .id]) (.t 2) (.t 15)), zn (.st 5 (.agg [.id, .id, .id, .id, (.sl 5)]) (.t 6) (.t 16))]
def qbs2 : IC := .reg false [zm 17 1, zv 18 (.ld true 5 (.t 6)), zv 19 (.bsl 5 [((.t 18), (.agg [.id, .id, .id, .id, (.sl 5)]))]), zv 20 (.bld [(.int .i64 0), (.int .i64 0), (.int .i64 0), (.str []), .nils] [(0, 1, (.c (.int .i64 27))), (1, 1, (.t 17)), (4, 1, (.t 19))]), zi 7 (.alo [(.int .i64 0), (.int .i64 0), (.int .i64 0), (.str []), .nils]), zn (.st 5 (.agg [.id, .id, .id, .id, (.sl 5)]) (.t 7) (.t 20))]
def qbs4 : IC := .reg false [zv 22 (.ld true 8 (.t 2)), zi 23 (.call (.c (.fn 28 [] [])) [((.t 22), (.agg [(.sl 4), .id, .id, .id, .id, .id, .id, .id])), ((.c (.str [111, 102])), .id)]), zm 21 23, zv 24 (.ext (.t 21) 0), zv 25 (.ext (.t 21) 1), zn (.st 8 (.agg [(.sl 4), .id, .id, .id, .id, .id, .id, .id]) (.t 2) (.t 24))]
def qbyi : IC := .reg false [zv 27 (.ld true 8 (.t 2)), zi 28 (.call (.c (.fn 28 [] [])) [((.t 27), (.agg [(.sl 4), .id, .id, .id, .id, .id, .id, .id])), ((.c (.str [123])), .id)]), zm 26 28, zv 29 (.ext (.t 26) 0), zv 30 (.ext (.t 26) 1), zn (.st 8 (.agg [(.sl 4), .id, .id, .id, .id, .id, .id, .id]) (.t 2) (.t 29))]
def qbym : IC := .reg false [zv 8 (.mov (.c (.bool true)))]
def qbxk : IC := .reg false [zm 31 8]
def qbue : IC := .reg false [zv 33 (.ld true 8 (.t 2)), zi 34 (.call (.c (.fn 95 [] [])) [((.t 33), (.agg [(.sl 4), .id, .id, .id, .id, .id, .id, .id]))]), zm 32 34, zv 35 (.ext (.t 32) 0), zv 36 (.ext (.t 32) 1), zi 9 (.alo [.nils, (.int .i64 0), (.int .i64 0), (.int .i64 0), (.str []), (.int .i64 0), (.int .i64 0), (.int .i64 0)]), zi 10 (.alo [(.int .i64 0), (.int .i64 0), (.int .i64 0), (.str []), .nils]), zn (.st 8 (.agg [(.sl 4), .id, .id, .id, .id, .id, .id, .id]) (.t 9) (.t 35)), zn (.st 5 (.agg [.id, .id, .id, .id, (.sl 5)]) (.t 10) (.t 36))]
def qbwc : IC := .reg false [zv 38 (.ld true 8 (.t 9)), zi 39 (.call (.c (.fn 28 [] [])) [((.t 38), (.agg [(.sl 4), .id, .id, .id, .id, .id, .id, .id])), ((.c (.str [45, 62])), .id)]), zm 37 39, zv 40 (.ext (.t 37) 0), zv 41 (.ext (.t 37) 1), zn (.st 8 (.agg [(.sl 4), .id, .id, .id, .id, .id, .id, .id]) (.t 9) (.t 40))]
def qbqp : IC := .reg false [zv 43 (.ld true 8 (.t 9)), zi 44 (.call (.c (.fn 11 [] [])) [((.t 43), (.agg [(.sl 4), .id, .id, .id, .id, .id, .id, .id]))]), zm 42 44, zv 45 (.ext (.t 42) 0), zv 46 (.ext (.t 42) 1), zi 11 (.alo [(.int .i64 0), (.int .i64 0), (.int .i64 0), (.str []), .nils]), zn (.st 8 (.agg [(.sl 4), .id, .id, .id, .id, .id, .id, .id]) (.t 9) (.t 45)), zn (.st 5 (.agg [.id, .id, .id, .id, (.sl 5)]) (.t 11) (.t 46))]
def qbm0 : IC := .reg false [zv 47 (.fad (.t 7) 4), zv 48 (.ld false 1 (.t 47)), zv 49 (.fad (.t 10) 1), zv 50 (.ld false 1 (.t 49)), zv 51 (.ld true 5 (.t 10)), zv 52 (.ld true 5 (.t 11)), zv 53 (.bsl 5 [((.t 51), (.agg [.id, .id, .id, .id, (.sl 5)])), ((.t 52), (.agg [.id, .id, .id, .id, (.sl 5)]))]), zv 54 (.bld [(.int .i64 0), (.int .i64 0), (.int .i64 0), (.str []), .nils] [(0, 1, (.c (.int .i64 15))), (1, 1, (.t 50)), (4, 1, (.t 53))]), zv 55 (.bsl 5 [((.t 54), (.agg [.id, .id, .id, .id, (.sl 5)]))]), zi 56 (.app 5 (.agg [(.int .i64 0), (.int .i64 0), (.int .i64 0), (.str []), .nils]) 64 (.sl 5) (.t 48) (.t 55)), zv 57 (.fad (.t 7) 4), zn (.st 1 (.sl 5) (.t 57) (.t 56))]
def qbnp : IC := .reg false [zv 59 (.ld true 8 (.t 9)), zi 60 (.call (.c (.fn 94 [] [])) [((.t 59), (.agg [(.sl 4), .id, .id, .id, .id, .id, .id, .id]))]), zm 58 60, zv 61 (.ext (.t 58) 0), zv 62 (.ext (.t 58) 1), zn (.st 8 (.agg [(.sl 4), .id, .id, .id, .id, .id, .id, .id]) (.t 2) (.t 61)), zm 8 62]
def qbva : IC := (.seq (.seq qbxk (.cond (.t 31) .skip (.exit 0))) (.block 1 (.seq qbue (.seq qbwc (.seq qbqp (.seq qbm0 qbnp))))))
def qbdc : IC := .reg false [zv 64 (.ld true 8 (.t 2)), zi 65 (.call (.c (.fn 28 [] [])) [((.t 64), (.agg [(.sl 4), .id, .id, .id, .id, .id, .id, .id])), ((.c (.str [125])), .id)]), zm 63 65, zv 66 (.ext (.t 63) 0), zv 67 (.ext (.t 63) 1), zn (.st 8 (.agg [(.sl 4), .id, .id, .id, .id, .id, .id, .id]) (.t 2) (.t 66))]
def qboj : IC := .drw [zp (zv 68 (.ld true 8 (.t 2))), zp (zv 69 (.ld true 5 (.t 7))), (zn (.st 8 (.agg [(.sl 4), .id, .id, .id, .id, .id, .id, .id]) (.t 4) (.t 68)), [1]), (zn (.st 5 (.agg [.id, .id, .id, .id, (.sl 5)]) (.t 5) (.t 69)), [])]
def k0e : IC := (.seq qbww (.seq qbzb (.seq qbs2 (.seq qbs4 (.seq qbyi (.seq qbym (.seq (.block 0 (.loop qbva)) (.seq qbdc (.seq qboj .ret)))))))))
@[go_sem] def s0e : List (RV × Co) := [(.c true 8 4, (.agg [(.sl 4), .id, .id, .id, .id, .id, .id, .id])), (.c true 5 5, (.agg [.id, .id, .id, .id, (.sl 5)]))]
theorem c0e : cFun Tryz.prog 61 = some (70, k0e, s0e) := by kernel_rfl

def qbx2 : IC := .reg false [zi 2 (.box (.t 0)), zi 4 (.alo [.nils, (.int .i64 0), (.int .i64 0), (.int .i64 0), (.str []), (.int .i64 0), (.int .i64 0), (.int .i64 0)]), zi 5 (.alo [(.int .i64 0), (.int .i64 0), (.int .i64 0), (.str []), .nils])]
def qbxw : IC := .reg false [zv 10 (.ld true 8 (.t 2)), zi 11 (.call (.c (.fn 11 [] [])) [((.t 10), (.agg [(.sl 4), .id, .id, .id, .id, .id, .id, .id]))]), zm 9 11, zv 12 (.ext (.t 9) 0), zv 13 (.ext (.t 9) 1), zi 6 (.alo [(.int .i64 0), (.int .i64 0), (.int .i64 0), (.str []), .nils]), zn (.st 8 (.agg [(.sl 4), .id, .id, .id, .id, .id, .id, .id]) (.t 2) (.t 12)), zn (.st 5 (.agg [.id, .id, .id, .id, (.sl 5)]) (.t 6) (.t 13))]
def qbrp : IC := .reg false [zv 15 (.ld true 8 (.t 2)), zi 16 (.call (.c (.fn 28 [] [])) [((.t 15), (.agg [(.sl 4), .id, .id, .id, .id, .id, .id, .id])), ((.c (.str [116, 104, 101, 110])), .id)]), zm 14 16, zv 17 (.ext (.t 14) 0), zv 18 (.ext (.t 14) 1), zn (.st 8 (.agg [(.sl 4), .id, .id, .id, .id, .id, .id, .id]) (.t 2) (.t 17))]
def qbr0 : IC := .reg false [zv 20 (.ld true 8 (.t 2)), zi 21 (.call (.c (.fn 11 [] [])) [((.t 20), (.agg [(.sl 4), .id, .id, .id, .id, .id, .id, .id]))]), zm 19 21, zv 22 (.ext (.t 19) 0), zv 23 (.ext (.t 19) 1), zi 7 (.alo [(.int .i64 0), (.int .i64 0), (.int .i64 0), (.str []), .nils]), zn (.st 8 (.agg [(.sl 4), .id, .id, .id, .id, .id, .id, .id]) (.t 2) (.t 22)), zn (.st 5 (.agg [.id, .id, .id, .id, (.sl 5)]) (.t 7) (.t 23))]
def qbvh : IC := .reg false [zv 25 (.ld true 8 (.t 2)), zi 26 (.call (.c (.fn 28 [] [])) [((.t 25), (.agg [(.sl 4), .id, .id, .id, .id, .id, .id, .id])), ((.c (.str [101, 108, 115, 101])), .id)]), zm 24 26, zv 27 (.ext (.t 24) 0), zv 28 (.ext (.t 24) 1), zn (.st 8 (.agg [(.sl 4), .id, .id, .id, .id, .id, .id, .id]) (.t 2) (.t 27))]
def qbx6 : IC := .reg false [zv 30 (.ld true 8 (.t 2)), zi 31 (.call (.c (.fn 11 [] [])) [((.t 30), (.agg [(.sl 4), .id, .id, .id, .id, .id, .id, .id]))]), zm 29 31, zv 32 (.ext (.t 29) 0), zv 33 (.ext (.t 29) 1), zi 8 (.alo [(.int .i64 0), (.int .i64 0), (.int .i64 0), (.str []), .nils]), zn (.st 8 (.agg [(.sl 4), .id, .id, .id, .id, .id, .id, .id]) (.t 2) (.t 32)), zn (.st 5 (.agg [.id, .id, .id, .id, (.sl 5)]) (.t 8) (.t 33))]
def qbzh : IC := .drw [zp (zv 34 (.ld true 8 (.t 2))), zp (zm 35 1), zp (zv 36 (.ld true 5 (.t 6))), zp (zv 37 (.ld true 5 (.t 7))), zp (zv 38 (.ld true 5 (.t 8))), (zv 39 (.bsl 5 [((.t 36), (.agg [.id, .id, .id, .id, (.sl 5)])), ((.t 37), (.agg [.id, .id, .id, .id, (.sl 5)])), ((.t 38), (.agg [.id, .id, .id, .id, (.sl 5)]))]), []), (zv 40 (.bld [(.int .i64 0), (.int .i64 0), (.int .i64 0), (.str []), .nils] [(0, 1, (.c (.int .i64 28))), (1, 1, (.t 35)), (4, 1, (.t 39))]), []), (zn (.st 8 (.agg [(.sl 4), .id, .id, .id, .id, .id, .id, .id]) (.t 4) (.t 34)), [2, 3, 4, 5]), (zn (.st 5 (.agg [.id, .id, .id, .id, (.sl 5)]) (.t 5) (.t 40)), [])]
def k0f : IC := (.seq qbx2 (.seq qbxw (.seq qbrp (.seq qbr0 (.seq qbvh (.seq qbx6 (.seq qbzh .ret)))))))
@[go_sem] def s0f : List (RV × Co) := [(.c true 8 4, (.agg [(.sl 4), .id, .id, .id, .id, .id, .id, .id])), (.c true 5 5, (.agg [.id, .id, .id, .id, (.sl 5)]))]
theorem c0f : cFun Tryz.prog 62 = some (41, k0f, s0f) := by kernel_rfl

def qbwj : IC := .reg false [zi 1 (.box (.t 0)), zi 2 (.alo [.nils, (.int .i64 0), (.int .i64 0), (.int .i64 0), (.str []), (.int .i64 0), (.int .i64 0), (.int .i64 0)]), zi 3 (.alo [(.int .i64 0), (.int .i64 0), (.int .i64 0), (.str []), .nils])]
def qbw9 : IC := .reg false [zv 7 (.ld true 8 (.t 1)), zi 8 (.call (.c (.fn 16 [] [])) [((.t 7), (.agg [(.sl 4), .id, .id, .id, .id, .id, .id, .id]))]), zi 4 (.alo [(.int .i64 0), (.int .i64 0), (.int .i64 0), (.str [])]), zn (.st 4 .id (.t 4) (.t 8))]
def qbr2 : IC := .reg false [zv 9 (.ld true 8 (.t 1)), zi 10 (.call (.c (.fn 64 [] [])) [((.t 9), (.agg [(.sl 4), .id, .id, .id, .id, .id, .id, .id]))]), zv 11 (.un .not (.t 10))]
def qbw6 : IC := .reg false [zv 12 (.ld true 8 (.t 1)), zi 13 (.call (.c (.fn 50 [] [])) [((.t 12), (.agg [(.sl 4), .id, .id, .id, .id, .id, .id, .id])), ((.c (.int .i64 5)), .id)]), zv 14 (.bld [(.int .i64 0), (.int .i64 0), (.int .i64 0), (.str []), .nils] []), zn (.st 8 (.agg [(.sl 4), .id, .id, .id, .id, .id, .id, .id]) (.t 2) (.t 13)), zn (.st 5 (.agg [.id, .id, .id, .id, (.sl 5)]) (.t 3) (.t 14))]
def qbt2 : IC := .reg false [zv 15 (.ld true 8 (.t 1)), zi 16 (.call (.c (.fn 52 [] [])) [((.t 15), (.agg [(.sl 4), .id, .id, .id, .id, .id, .id, .id])), ((.c (.str [40])), .id)])]
def qbsh : IC := .reg false [zv 18 (.ld true 8 (.t 1)), zi 19 (.call (.c (.fn 33 [] [])) [((.t 18), (.agg [(.sl 4), .id, .id, .id, .id, .id, .id, .id]))]), zm 17 19, zv 20 (.ext (.t 17) 0), zv 21 (.ext (.t 17) 1), zn (.st 8 (.agg [(.sl 4), .id, .id, .id, .id, .id, .id, .id]) (.t 1) (.t 20))]
def qbze : IC := .reg false [zv 23 (.ld true 8 (.t 1)), zi 24 (.call (.c (.fn 28 [] [])) [((.t 23), (.agg [(.sl 4), .id, .id, .id, .id, .id, .id, .id])), ((.c (.str [40])), .id)]), zm 22 24, zv 25 (.ext (.t 22) 0), zv 26 (.ext (.t 22) 1), zn (.st 8 (.agg [(.sl 4), .id, .id, .id, .id, .id, .id, .id]) (.t 1) (.t 25))]
def qbtm : IC := .reg false [zv 28 (.ld true 8 (.t 1)), zi 29 (.call (.c (.fn 11 [] [])) [((.t 28), (.agg [(.sl 4), .id, .id, .id, .id, .id, .id, .id]))]), zm 27 29, zv 30 (.ext (.t 27) 0), zv 31 (.ext (.t 27) 1), zi 5 (.alo [.nils, (.int .i64 0), (.int .i64 0), (.int .i64 0), (.str []), (.int .i64 0), (.int .i64 0), (.int .i64 0)]), zi 6 (.alo [(.int .i64 0), (.int .i64 0), (.int .i64 0), (.str []), .nils]), zn (.st 8 (.agg [(.sl 4), .id, .id, .id, .id, .id, .id, .id]) (.t 5) (.t 30)), zn (.st 5 (.agg [.id, .id, .id, .id, (.sl 5)]) (.t 6) (.t 31))]
def qbtg : IC := .reg false [zv 33 (.ld true 8 (.t 5)), zi 34 (.call (.c (.fn 28 [] [])) [((.t 33), (.agg [(.sl 4), .id, .id, .id, .id, .id, .id, .id])), ((.c (.str [41])), .id)]), zm 32 34, zv 35 (.ext (.t 32) 0), zv 36 (.ext (.t 32) 1), zn (.st 8 (.agg [(.sl 4), .id, .id, .id, .id, .id, .id, .id]) (.t 5) (.t 35))]
def qbwu : IC := .drw [zp (zv 37 (.ld true 8 (.t 5))), (zi 38 (.call (.c (.fn 35 [] [])) [((.t 37), (.agg [(.sl 4), .id, .id, .id, .id, .id, .id, .id]))]), []), (zv 39 (.ld true 5 (.t 6)), [1]), (zn (.st 8 (.agg [(.sl 4), .id, .id, .id, .id, .id, .id, .id]) (.t 2) (.t 38)), [2]), (zn (.st 5 (.agg [.id, .id, .id, .id, (.sl 5)]) (.t 3) (.t 39)), [])]
def qbdo : IC := .reg false [zv 41 (.ld true 8 (.t 1)), zi 42 (.call (.c (.fn 51 [] [])) [((.t 41), (.agg [(.sl 4), .id, .id, .id, .id, .id, .id, .id]))]), zm 40 42, zv 43 (.ext (.t 40) 0), zv 44 (.ext (.t 40) 1), zn (.st 8 (.agg [(.sl 4), .id, .id, .id, .id, .id, .id, .id]) (.t 1) (.t 43))]
def qbco : IC := .reg false [zv 45 (.fad (.t 4) 0), zv 46 (.ld false 1 (.t 45))]
def qbhp : IC := .reg false [zv 48 (.bin .eql .no (.t 46) (.c (.int .i64 1))), zm 47 48]
def qbgp : IC := .drw [zp (zv 49 (.ld true 8 (.t 1))), zp (zv 50 (.fad (.t 4) 1)), zp (zv 51 (.ld false 1 (.t 50))), zp (zv 52 (.fad (.t 4) 3)), zp (zv 53 (.ld false 1 (.t 52))), (zv 54 (.bld [(.int .i64 0), (.int .i64 0), (.int .i64 0), (.str []), .nils] [(0, 1, (.c (.int .i64 21))), (1, 1, (.t 51)), (3, 1, (.t 53))]), []), (zn (.st 8 (.agg [(.sl 4), .id, .id, .id, .id, .id, .id, .id]) (.t 2) (.t 49)), [2, 4]), (zn (.st 5 (.agg [.id, .id, .id, .id, (.sl 5)]) (.t 3) (.t 54)), [])]
def qbop : IC := .reg false [zv 56 (.bin .eql .no (.t 46) (.c (.int .i64 2))), zm 55 56]
def qblk : IC := .drw [zp (zv 57 (.ld true 8 (.t 1))), zp (zv 58 (.fad (.t 4) 1)), zp (zv 59 (.ld false 1 (.t 58))), zp (zv 60 (.fad (.t 4) 3)), zp (zv 61 (.ld false 1 (.t 60))), (zv 62 (.bld [(.int .i64 0), (.int .i64 0), (.int .i64 0), (.str []), .nils] [(0, 1, (.c (.int .i64 22))), (1, 1, (.t 59)), (3, 1, (.t 61))]), []), (zn (.st 8 (.agg [(.sl 4), .id, .id, .id, .id, .id, .id, .id]) (.t 2) (.t 57)), [2, 4]), (zn (.st 5 (.agg [.id, .id, .id, .id, (.sl 5)]) (.t 3) (.t 62)), [])]
def qbq7 : IC := .drw [zp (zv 63 (.ld true 8 (.t 1))), zp (zv 64 (.fad (.t 4) 1)), zp (zv 65 (.ld false 1 (.t 64))), zp (zv 66 (.fad (.t 4) 2)), zp (zv 67 (.ld false 1 (.t 66))), (zv 68 (.bld [(.int .i64 0), (.int .i64 0), (.int .i64 0), (.str []), .nils] [(0, 1, (.c (.int .i64 23))), (1, 1, (.t 65)), (2, 1, (.t 67))]), []), (zn (.st 8 (.agg [(.sl 4), .id, .id, .id, .id, .id, .id, .id]) (.t 2) (.t 63)), [2, 4]), (zn (.st 5 (.agg [.id, .id, .id, .id, (.sl 5)]) (.t 3) (.t 68)), [])]
def k0i : IC := (.seq qbwj (.seq qbw9 (.seq (.seq qbr2 (.cond (.t 11) (.seq qbw6 .ret) .skip)) (.seq (.seq qbt2 (.cond (.t 16) (.seq qbsh (.seq qbze (.seq qbtm (.seq qbtg (.seq qbwu .ret))))) .skip)) (.seq qbdo (.seq (.seq qbco (.block 0 (.seq qbhp (.cond (.t 47) (.seq qbgp .ret) (.seq qbop (.cond (.t 55) (.seq qblk .ret) .skip)))))) (.seq qbq7 .ret)))))))
@[go_sem] def s0i : List (RV × Co) := [(.c true 8 2, (.agg [(.sl 4), .id, .id, .id, .id, .id, .id, .id])), (.c true 5 3, (.agg [.id, .id, .id, .id, (.sl 5)]))]
theorem c0i : cFun Tryz.prog 63 = some (69, k0i, s0i) := by kernel_rfl

def qbw7 : IC := .reg false [zi 1 (.box (.t 0)), zv 2 (.mov (.c (.bool false)))]
def qbtk : IC := .reg false [zv 4 (.ld true 8 (.t 1)), zi 5 (.call (.c (.fn 16 [] [])) [((.t 4), (.agg [(.sl 4), .id, .id, .id, .id, .id, .id, .id]))]), zv 6 (.fld false 1 0 (.t 5)), zm 3 6]
def qbs9 : IC := .reg false [zv 7 (.fad (.t 1) 6), zv 8 (.ld false 1 (.t 7)), zv 9 (.bin .eql .no (.t 8) (.c (.int .i64 0))), zm 10 9, zw 10 true 11 (.mov (.t 3)), zw 10 true 12 (.bin .eql .no (.t 11) (.c (.int .i64 1))), zw 10 true 13 (.mov (.t 12)), zw 13 false 14 (.mov (.t 3)), zw 13 false 15 (.bin .eql .no (.t 14) (.c (.int .i64 2))), zw 10 true 16 (.pick (.t 13) (.c (.bool true)) (.t 15)), zw 10 true 17 (.mov (.t 16)), zw 17 false 18 (.mov (.t 3)), zw 17 false 19 (.bin .eql .no (.t 18) (.c (.int .i64 3))), zw 10 true 20 (.pick (.t 17) (.c (.bool true)) (.t 19)), zw 10 true 21 (.mov (.t 20)), zw 21 false 22 (.ld true 8 (.t 1)), ⟨some (21, false), some 23, .call (.c (.fn 52 [] [])) [((.t 22), (.agg [(.sl 4), .id, .id, .id, .id, .id, .id, .id])), ((.c (.str [40])), .id)]⟩, zw 10 true 24 (.pick (.t 21) (.c (.bool true)) (.t 23)), zv 25 (.pick (.t 10) (.t 24) (.c (.bool false))), zm 2 25]
def k0l : IC := (.seq qbw7 (.seq qbtk (.seq qbs9 .ret)))
@[go_sem] def s0l : List (RV × Co) := [(.t 2, .id)]
theorem c0l : cFun Tryz.prog 64 = some (26, k0l, s0l) := by kernel_rfl

def qbjv : IC := .reg false [zi 1 (.box (.t 0)), zv 2 (.mov (.c .nilf))]
def qbky : IC := .reg false [zv 3 (.mfn 96 [] [(.t 1)]), zm 2 3]
def k0cw : IC := (.seq qbjv (.seq qbky .ret))
@[go_sem] def s0cw : List (RV × Co) := [(.t 2, .id)]
theorem c0cw : cFun Tryz.prog 65 = some (4, k0cw, s0cw) := by kernel_rfl

def qbee : IC := .reg false [zi 2 (.box (.t 0)), zi 3 (.box (.t 1)), zv 4 (.mov (.c .nilf))]
def qbbo : IC := .reg false [zv 5 (.mfn 99 [] [(.t 2), (.t 3)]), zm 4 5]
def k0dv : IC := (.seq qbee (.seq qbbo .ret))
@[go_sem] def s0dv : List (RV × Co) := [(.t 4, .id)]
theorem c0dv : cFun Tryz.prog 66 = some (6, k0dv, s0dv) := by kernel_rfl

def qbog : IC := .reg false [zv 4 (.mov (.c (.int .i64 0)))]
def qbk9 : IC := .reg false [zm 5 1, zm 6 0, zv 7 (.len true (.t 6)), zv 8 (.bin .lss .no (.t 5) (.t 7))]
def qbkh : IC := .reg false [zm 11 0, zm 12 1, zv 13 (.idx (.t 11) (.t 12)), zv 14 (.bin .eql .no (.t 13) (.c (.int .u8 9))), zm 15 14, zw 15 false 16 (.mov (.t 0)), zw 15 false 17 (.mov (.t 1)), zw 15 false 18 (.idx (.t 16) (.t 17)), zw 15 false 19 (.bin .eql .no (.t 18) (.c (.int .u8 10))), zv 20 (.pick (.t 15) (.c (.bool true)) (.t 19)), zm 21 20, zw 21 false 22 (.mov (.t 0)), zw 21 false 23 (.mov (.t 1)), zw 21 false 24 (.idx (.t 22) (.t 23)), zw 21 false 25 (.bin .eql .no (.t 24) (.c (.int .u8 13))), zv 26 (.pick (.t 21) (.c (.bool true)) (.t 25)), zm 27 26, zw 27 false 28 (.mov (.t 0)), zw 27 false 29 (.mov (.t 1)), zw 27 false 30 (.idx (.t 28) (.t 29)), zw 27 false 31 (.bin .eql .no (.t 30) (.c (.int .u8 32))), zv 32 (.pick (.t 27) (.c (.bool true)) (.t 31)), zm 10 32]
def qbjk : IC := .reg false [zm 33 1, zv 34 (.bin .add .no (.t 33) (.c (.int .i64 1))), zm 1 34]
def qbkb : IC := .reg false [zm 36 0, zm 37 1, zv 38 (.idx (.t 36) (.t 37)), zv 39 (.bin .eql .no (.t 38) (.c (.int .u8 45))), zm 40 39, zw 40 true 41 (.mov (.t 1)), zw 40 true 42 (.bin .add .no (.t 41) (.c (.int .i64 1))), zw 40 true 43 (.mov (.t 0)), zw 40 true 44 (.len true (.t 43)), zw 40 true 45 (.bin .lss .no (.t 42) (.t 44)), zv 46 (.pick (.t 40) (.t 45) (.c (.bool false))), zm 47 46, zw 47 true 48 (.mov (.t 0)), zw 47 true 49 (.mov (.t 1)), zw 47 true 50 (.bin .add .no (.t 49) (.c (.int .i64 1))), zw 47 true 51 (.idx (.t 48) (.t 50)), zw 47 true 52 (.bin .eql .no (.t 51) (.c (.int .u8 45))), zv 53 (.pick (.t 47) (.t 52) (.c (.bool false))), zm 35 53]
def qbj3 : IC := .reg false [zm 54 1, zm 55 0, zv 56 (.len true (.t 55)), zv 57 (.bin .lss .no (.t 54) (.t 56)), zm 58 57, zw 58 true 59 (.mov (.t 0)), zw 58 true 60 (.mov (.t 1)), zw 58 true 61 (.idx (.t 59) (.t 60)), zw 58 true 62 (.bin .neq .no (.t 61) (.c (.int .u8 10))), zv 63 (.pick (.t 58) (.t 62) (.c (.bool false)))]
def qblp : IC := .reg false [zm 64 1, zv 65 (.bin .add .no (.t 64) (.c (.int .i64 1))), zm 1 65]
def qbkr : IC := (.seq (.seq qbj3 (.cond (.t 63) .skip (.exit 3))) (.block 4 qblp))
def q89 : IC := .reg false [zm 9 1, zm 4 9]
def qbio : IC := (.seq (.seq qbk9 (.cond (.t 8) .skip (.exit 0))) (.block 1 (.block 2 (.seq qbkh (.cond (.t 10) qbjk (.seq qbkb (.cond (.t 35) (.block 3 (.loop qbkr)) (.seq q89 .ret))))))))
def q84 : IC := .reg false [zm 66 1, zm 4 66]
def k0cz : IC := (.seq qbog (.seq (.block 0 (.loop qbio)) (.seq q84 .ret)))
@[go_sem] def s0cz : List (RV × Co) := [(.t 4, .id)]
theorem c0cz : cFun Tryz.prog 67 = some (67, k0cz, s0cz) := by kernel_rfl

def qbc4 : IC := .reg false [zv 2 (.mov (.c (.bool false)))]
def qbp4 : IC := .reg false [zm 3 0, zv 4 (.bin .neq .no (.t 3) (.c (.str []))), zm 5 4, zw 5 true 6 (.mov (.t 0)), zw 5 true 7 (.idx (.t 6) (.c (.int .i64 0))), ⟨some (5, true), some 8, .call (.c (.fn 111 [] [])) [((.t 7), .id)]⟩, zv 9 (.pick (.t 5) (.t 8) (.c (.bool false))), zm 10 9, zw 10 true 11 (.mov (.t 0)), ⟨some (10, true), some 12, .call (.c (.fn 109 [] [])) [((.t 11), .id)]⟩, zv 13 (.pick (.t 10) (.t 12) (.c (.bool false))), zm 2 13]
def k0dr : IC := (.seq qbc4 (.seq qbp4 .ret))
@[go_sem] def s0dr : List (RV × Co) := [(.t 2, .id)]
theorem c0dr : cFun Tryz.prog 72 = some (14, k0dr, s0dr) := by kernel_rfl

def qbbi : IC := .reg false [zi 2 (.box (.t 0)), zv 4 (.mov (.c (.bool false)))]
def qbfq : IC := .reg false [zv 7 (.fad (.t 2) 0), zv 8 (.ld false 1 (.t 7)), zv 9 (.bin .neq .no (.t 8) (.c (.int .i64 4))), zm 10 9, zw 10 true 11 (.fad (.t 2) 0), zw 10 true 12 (.ld false 1 (.t 11)), zw 10 true 13 (.bin .neq .no (.t 12) (.c (.int .i64 5))), zv 14 (.pick (.t 10) (.t 13) (.c (.bool false)))]
def qbfk : IC := .reg false [zv 4 (.mov (.c (.bool false)))]
def qbgz : IC := .reg false [zm 15 1, zv 16 (.len false (.t 15)), zv 17 (.mov (.c (.int .i64 0)))]
def qbgy : IC := .reg false [zv 18 (.bin .lss .no (.t 17) (.t 16))]
def qbe7 : IC := .reg false [zv 19 (.iad 1 (.t 15) (.t 17)), zv 20 (.ld false 1 (.t 19)), zm 6 20]
def qbpy : IC := .reg false [zv 21 (.fad (.t 2) 3), zv 22 (.ld false 1 (.t 21)), zm 23 6, zv 24 (.bin .eql .no (.t 22) (.t 23))]
def qbmt : IC := .reg false [zv 4 (.mov (.c (.bool true)))]
def qbn4 : IC := .reg false [zv 25 (.bin .add .no (.t 17) (.c (.int .i64 1))), zm 17 25]
def k0cn_l4 : IC := (.seq qbgy (.seq (.cond (.t 18) .skip (.exit 0)) (.seq (.block 1 (.seq qbe7 (.seq qbpy (.cond (.t 24) (.seq qbmt .ret) .skip)))) qbn4)))
def k0cn_r11 : IC := .reg false [zv 4 (.mov (.c (.bool false)))]
def k0cn : IC := (.seq qbbi (.seq (.seq qbfq (.cond (.t 14) (.seq qbfk .ret) .skip)) (.seq (.seq qbgz (.block 0 (.loop k0cn_l4))) (.seq k0cn_r11 .ret))))
@[go_sem] def s0cn : List (RV × Co) := [(.t 4, .id)]
theorem c0cn : cFun Tryz.prog 79 = some (26, k0cn, s0cn) := by kernel_rfl

def qbpq : IC := .reg false [zv 4 (.mov (.c (.bool false)))]
def qbje : IC := .reg false [zm 8 0, zi 9 (.call (.c (.fn 36 [] [])) [((.t 8), .id)])]
def qbmn : IC := .reg false [zv 4 (.mov (.c (.bool false)))]
def qbql : IC := .reg false [zv 5 (.mov (.c (.int .i64 0)))]
def qbkx : IC := .drw [zp (zm 10 0), zp (zv 11 (.nck (.t 10))), zp (zv 12 (.fad (.t 11) 0)), zp (zv 13 (.ld false 1 (.t 12))), zp (zm 14 0), zp (zv 15 (.nck (.t 14))), zp (zv 16 (.fad (.t 15) 5)), zp (zv 17 (.ld false 1 (.t 16))), zp (zv 18 (.slv 4 (.t 13) (some (.t 17)) none none)), zp (zv 19 (.len false (.t 18))), zp (zv 20 (.mov (.c (.int .i64 0))))]
def qbc3 : IC := .reg false [zv 21 (.bin .lss .no (.t 20) (.t 19))]
def qbcq : IC := .reg false [zv 22 (.iad 4 (.t 18) (.t 20)), zv 23 (.ld true 4 (.t 22)), zi 7 (.alo [(.int .i64 0), (.int .i64 0), (.int .i64 0), (.str [])]), zn (.st 4 .id (.t 7) (.t 23))]
def qbes : IC := .reg false [zv 25 (.ld true 4 (.t 7)), zv 26 (.bsl 1 [((.c (.str [40])), .id), ((.c (.str [123])), .id)]), zi 27 (.call (.c (.fn 79 [] [])) [((.t 25), .id), ((.t 26), (.sl 1))]), zm 24 27]
def qbfp : IC := .reg false [zm 28 5, zv 29 (.bin .add .no (.t 28) (.c (.int .i64 1))), zm 5 29]
def q4a : IC := .reg false [zv 31 (.ld true 4 (.t 7)), zv 32 (.bsl 1 [((.c (.str [41])), .id), ((.c (.str [125])), .id)]), zi 33 (.call (.c (.fn 79 [] [])) [((.t 31), .id), ((.t 32), (.sl 1))]), zm 30 33]
def q4v : IC := .reg false [zm 34 5, zv 35 (.bin .sub .no (.t 34) (.c (.int .i64 1))), zm 5 35]
def q38 : IC := .reg false [zm 36 5, zv 37 (.bin .lss .no (.t 36) (.c (.int .i64 0)))]
def q7i : IC := .reg false [zv 4 (.mov (.c (.bool false)))]
def q7z : IC := .reg false [zm 39 5, zv 40 (.bin .gtr .no (.t 39) (.c (.int .i64 0))), zm 38 40]
def q65 : IC := .reg false [zv 42 (.ld true 4 (.t 7)), zv 43 (.bsl 1 [((.c (.str [59])), .id)]), zi 44 (.call (.c (.fn 79 [] [])) [((.t 42), .id), ((.t 43), (.sl 1))]), zm 41 44]
def q5o : IC := .reg false [zv 4 (.mov (.c (.bool false)))]
def q6g : IC := .reg false [zv 46 (.ld true 4 (.t 7)), zm 47 1, zv 48 (.bsl 1 [((.t 47), .id)]), zi 49 (.call (.c (.fn 79 [] [])) [((.t 46), .id), ((.t 48), (.sl 1))]), zm 45 49]
def q8p : IC := .reg false [zv 4 (.mov (.c (.bool true)))]
def q7u : IC := .reg false [zv 50 (.bin .add .no (.t 20) (.c (.int .i64 1))), zm 20 50]
def qbpk : IC := (.seq qbc3 (.seq (.cond (.t 21) .skip (.exit 0)) (.seq (.block 1 (.seq qbcq (.block 2 (.seq qbes (.cond (.t 24) qbfp (.seq q4a (.cond (.t 30) (.seq q4v (.seq q38 (.cond (.t 37) (.seq q7i .ret) .skip))) (.seq q7z (.cond (.t 38) .skip (.seq q65 (.cond (.t 41) (.seq q5o .ret) (.seq q6g (.cond (.t 45) (.seq q8p .ret) .skip))))))))))))) q7u)))
def q80 : IC := .reg false [zv 4 (.mov (.c (.bool false)))]
def k0dz : IC := (.seq qbpq (.seq (.seq qbje (.cond (.t 9) (.seq qbmn .ret) .skip)) (.seq qbql (.seq (.seq qbkx (.block 0 (.loop qbpk))) (.seq q80 .ret)))))
@[go_sem] def s0dz : List (RV × Co) := [(.t 4, .id)]
theorem c0dz : cFun Tryz.prog 80 = some (51, k0dz, s0dz) := by kernel_rfl

def qbne : IC := .reg false [zv 2 (.mov (.c (.bool false)))]
def qbqs : IC := .reg false [zm 6 0, zi 7 (.call (.c (.fn 12 [] [])) [((.t 6), .id)]), zm 5 7, zv 8 (.ext (.t 5) 0), zv 9 (.ext (.t 5) 1), zm 3 8, zm 4 9]
def qbk2 : IC := .reg false [zm 10 4, zv 11 (.bin .neq .no (.t 10) (.c (.int .i64 0))), zm 12 11, zw 12 true 13 (.mov (.t 4)), zw 12 true 14 (.bin .neq .no (.t 13) (.c (.int .i64 5))), zw 12 true 15 (.mov (.t 14)), zw 15 false 16 (.mov (.t 0)), ⟨some (15, false), some 17, .call (.c (.fn 15 [] [])) [((.t 16), .id)]⟩, zw 15 false 18 (.fld false 1 0 (.t 17)), zw 15 false 19 (.bin .eql .no (.t 18) (.c (.int .i64 0))), zw 12 true 20 (.pick (.t 15) (.c (.bool true)) (.t 19)), zv 21 (.pick (.t 12) (.t 20) (.c (.bool false))), zm 2 21]
def k0bs : IC := (.seq qbne (.seq qbqs (.seq qbk2 .ret)))
@[go_sem] def s0bs : List (RV × Co) := [(.t 2, .id)]
theorem c0bs : cFun Tryz.prog 81 = some (22, k0bs, s0bs) := by kernel_rfl

def qbdj : IC := .reg false [zi 2 (.alo [(.int .i64 0), (.int .i64 0), (.int .i64 0), (.str []), .nils]), zv 3 (.mov (.c (.bool false)))]
def qbqe : IC := .reg false [zm 8 0, zi 9 (.call (.c (.fn 20 [] [])) [((.t 8), .id), ((.c (.int .i64 2)), .id)]), zm 7 9, zv 10 (.ext (.t 7) 0), zv 11 (.ext (.t 7) 1), zi 4 (.alo [(.int .i64 0), (.int .i64 0), (.int .i64 0), (.str [])]), zn (.st 4 .id (.t 4) (.t 10)), zm 5 11]
def qbdx : IC := .reg false [zm 12 5, zv 13 (.un .not (.t 12))]
def qbhu : IC := .reg false [zv 14 (.bld [(.int .i64 0), (.int .i64 0), (.int .i64 0), (.str []), .nils] []), zn (.st 5 (.agg [.id, .id, .id, .id, (.sl 5)]) (.t 2) (.t 14)), zv 3 (.mov (.c (.bool false)))]
def qbqk : IC := .reg false [zm 16 0, zi 17 (.call (.c (.fn 114 [] [])) [((.t 16), .id)]), zm 15 17, zv 18 (.ext (.t 15) 0), zv 19 (.ext (.t 15) 1), zi 6 (.alo [(.int .i64 0), (.int .i64 0), (.int .i64 0), (.str []), .nils]), zn (.st 5 (.agg [.id, .id, .id, .id, (.sl 5)]) (.t 6) (.t 18)), zm 5 19]
def qbgl : IC := .reg false [zm 20 0, zv 21 (.fad (.t 4) 1), zv 22 (.ld false 1 (.t 21)), zv 23 (.fad (.t 4) 3), zv 24 (.ld false 1 (.t 23)), zv 25 (.ld true 5 (.t 6)), zv 26 (.bsl 5 [((.t 25), (.agg [.id, .id, .id, .id, (.sl 5)]))]), zv 27 (.bld [(.int .i64 0), (.int .i64 0), (.int .i64 0), (.str []), .nils] [(0, 1, (.c (.int .i64 3))), (1, 1, (.t 22)), (3, 1, (.t 24)), (4, 1, (.t 26))]), zm 28 5, zi 29 (.call (.c (.fn 48 [] [])) [((.t 20), .id), ((.t 27), (.agg [.id, .id, .id, .id, (.sl 5)])), ((.t 28), .id)]), zv 30 (.ext (.t 29) 0), zv 31 (.ext (.t 29) 1), zn (.st 5 (.agg [.id, .id, .id, .id, (.sl 5)]) (.t 2) (.t 30)), zm 3 31]
def k0bt : IC := (.seq qbdj (.seq qbqe (.seq (.seq qbdx (.cond (.t 13) (.seq qbhu .ret) .skip)) (.seq qbqk (.seq qbgl .ret)))))
@[go_sem] def s0bt : List (RV × Co) := [(.c true 5 2, (.agg [.id, .id, .id, .id, (.sl 5)])), (.t 3, .id)]
theorem c0bt : cFun Tryz.prog 82 = some (32, k0bt, s0bt) := by kernel_rfl

def qbnv : IC := .reg false [zi 2 (.alo [(.int .i64 0), (.int .i64 0), (.int .i64 0), (.str []), .nils]), zv 3 (.mov (.c (.bool false)))]
def qbby : IC := .reg false [zm 8 0, zi 9 (.call (.c (.fn 15 [] [])) [((.t 8), .id)]), zv 10 (.fld false 1 0 (.t 9)), zv 11 (.bin .neq .no (.t 10) (.c (.int .i64 2)))]
def qbi9 : IC := .reg false [zm 12 0, zi 13 (.call (.c (.fn 114 [] [])) [((.t 12), .id)]), zv 14 (.ext (.t 13) 0), zv 15 (.ext (.t 13) 1), zn (.st 5 (.agg [.id, .id, .id, .id, (.sl 5)]) (.t 2) (.t 14)), zm 3 15]
def qbo5 : IC := .reg false [zm 16 0, zi 17 (.call (.c (.fn 44 [] [])) [((.t 16), .id)]), zi 4 (.alo [(.int .i64 0), (.int .i64 0), (.int .i64 0), (.str [])]), zn (.st 4 .id (.t 4) (.t 17))]
def qbjs : IC := .reg false [zv 18 (.fad (.t 4) 1), zv 19 (.ld false 1 (.t 18)), zv 20 (.fad (.t 4) 3), zv 21 (.ld false 1 (.t 20)), zv 22 (.bld [(.int .i64 0), (.int .i64 0), (.int .i64 0), (.str []), .nils] [(0, 1, (.c (.int .i64 2))), (1, 1, (.t 19)), (3, 1, (.t 21))]), zi 5 (.alo [(.int .i64 0), (.int .i64 0), (.int .i64 0), (.str []), .nils]), zn (.st 5 (.agg [.id, .id, .id, .id, (.sl 5)]) (.t 5) (.t 22))]
def qbdt : IC := .reg false [zm 23 0, zi 24 (.call (.c (.fn 115 [] [])) [((.t 23), .id)])]
def qbkl : IC := .reg false [zm 26 0, zi 27 (.call (.c (.fn 114 [] [])) [((.t 26), .id)]), zm 25 27, zv 28 (.ext (.t 25) 0), zv 29 (.ext (.t 25) 1), zi 6 (.alo [(.int .i64 0), (.int .i64 0), (.int .i64 0), (.str []), .nils]), zn (.st 5 (.agg [.id, .id, .id, .id, (.sl 5)]) (.t 6) (.t 28)), zm 7 29]
def qbqg : IC := .reg false [zm 30 7, zv 31 (.un .not (.t 30))]
def qbda : IC := .reg false [zv 32 (.bld [(.int .i64 0), (.int .i64 0), (.int .i64 0), (.str []), .nils] []), zn (.st 5 (.agg [.id, .id, .id, .id, (.sl 5)]) (.t 2) (.t 32)), zv 3 (.mov (.c (.bool false)))]
def q3n : IC := .reg false [zv 33 (.fad (.t 5) 4), zv 34 (.ld false 1 (.t 33)), zv 35 (.ld true 5 (.t 6)), zv 36 (.bsl 5 [((.t 35), (.agg [.id, .id, .id, .id, (.sl 5)]))]), zi 37 (.app 5 (.agg [(.int .i64 0), (.int .i64 0), (.int .i64 0), (.str []), .nils]) 64 (.sl 5) (.t 34) (.t 36)), zv 38 (.fad (.t 5) 4), zn (.st 1 (.sl 5) (.t 38) (.t 37))]
def qbd6 : IC := (.seq (.seq qbdt (.cond (.t 24) .skip (.exit 0))) (.block 1 (.seq qbkl (.seq (.seq qbqg (.cond (.t 31) (.seq qbda .ret) .skip)) q3n))))
def q75 : IC := .reg false [zv 39 (.ld true 5 (.t 5)), zn (.st 5 (.agg [.id, .id, .id, .id, (.sl 5)]) (.t 2) (.t 39)), zv 3 (.mov (.c (.bool true)))]
def k0bx : IC := (.seq qbnv (.seq (.seq qbby (.cond (.t 11) (.seq qbi9 .ret) .skip)) (.seq qbo5 (.seq qbjs (.seq (.block 0 (.loop qbd6)) (.seq q75 .ret))))))
@[go_sem] def s0bx : List (RV × Co) := [(.c true 5 2, (.agg [.id, .id, .id, .id, (.sl 5)])), (.t 3, .id)]
theorem c0bx : cFun Tryz.prog 83 = some (40, k0bx, s0bx) := by kernel_rfl

def qbgn : IC := .reg false [zi 2 (.box (.t 0)), zv 4 (.mov (.c (.bool false)))]
def qbdv : IC := .reg false [zv 5 (.fad (.t 2) 0), zv 6 (.ld false 1 (.t 5)), zv 7 (.bin .eql .no (.t 6) (.c (.int .i64 4))), zm 8 7, zw 8 false 9 (.fad (.t 2) 0), zw 8 false 10 (.ld false 1 (.t 9)), zw 8 false 11 (.bin .eql .no (.t 10) (.c (.int .i64 5))), zv 12 (.pick (.t 8) (.c (.bool true)) (.t 11)), zm 13 12, zw 13 true 14 (.fad (.t 2) 3), zw 13 true 15 (.ld false 1 (.t 14)), zw 13 true 16 (.mov (.t 1)), zw 13 true 17 (.bin .eql .no (.t 15) (.t 16)), zv 18 (.pick (.t 13) (.t 17) (.c (.bool false))), zm 4 18]
def k0cb : IC := (.seq qbgn (.seq qbdv .ret))
@[go_sem] def s0cb : List (RV × Co) := [(.t 4, .id)]
theorem c0cb : cFun Tryz.prog 84 = some (19, k0cb, s0cb) := by kernel_rfl

def qbpf : IC := .reg false [zi 2 (.box (.t 0)), zv 4 (.mov (.c (.bool false)))]
def qbpe : IC := .reg false [zv 8 (.fad (.t 2) 6), zv 9 (.ld false 1 (.t 8)), zv 10 (.bin .neq .no (.t 9) (.c (.int .i64 0)))]
def qbfw : IC := .reg false [zv 4 (.mov (.c (.bool false)))]
def qbhb : IC := .reg false [zv 5 (.mov (.c (.int .i64 0)))]
def qbik : IC := .reg false [zv 6 (.mov (.c (.int .i64 0)))]
def qbbg : IC := .reg false [zm 11 6, zv 12 (.fad (.t 2) 0), zv 13 (.ld false 1 (.t 12)), zv 14 (.len false (.t 13)), zv 15 (.bin .lss .no (.t 11) (.t 14))]
def qbok : IC := .reg false [zv 18 (.fad (.t 2) 0), zv 19 (.ld false 1 (.t 18)), zm 20 6, zv 21 (.iad 4 (.t 19) (.t 20)), zv 22 (.ld true 4 (.t 21)), zi 7 (.alo [(.int .i64 0), (.int .i64 0), (.int .i64 0), (.str [])]), zn (.st 4 .id (.t 7) (.t 22))]
def qblm : IC := .reg false [zv 24 (.ld true 4 (.t 7)), zi 25 (.call (.c (.fn 84 [] [])) [((.t 24), .id), ((.c (.str [40])), .id)]), zm 26 25, zw 26 false 27 (.ld true 4 (.t 7)), ⟨some (26, false), some 28, .call (.c (.fn 84 [] [])) [((.t 27), .id), ((.c (.str [123])), .id)]⟩, zv 29 (.pick (.t 26) (.c (.bool true)) (.t 28)), zm 23 29]
def qbif : IC := .reg false [zm 30 5, zv 31 (.bin .add .no (.t 30) (.c (.int .i64 1))), zm 5 31]
def q9g : IC := .reg false [zv 33 (.ld true 4 (.t 7)), zi 34 (.call (.c (.fn 84 [] [])) [((.t 33), .id), ((.c (.str [41])), .id)]), zm 35 34, zw 35 false 36 (.ld true 4 (.t 7)), ⟨some (35, false), some 37, .call (.c (.fn 84 [] [])) [((.t 36), .id), ((.c (.str [125])), .id)]⟩, zv 38 (.pick (.t 35) (.c (.bool true)) (.t 37)), zm 32 38]
def q3i : IC := .reg false [zm 39 5, zv 40 (.bin .sub .no (.t 39) (.c (.int .i64 1))), zm 5 40]
def q3p : IC := .reg false [zm 42 5, zv 43 (.bin .eql .no (.t 42) (.c (.int .i64 0))), zm 44 43, zw 44 true 45 (.ld true 4 (.t 7)), ⟨some (44, true), some 46, .call (.c (.fn 84 [] [])) [((.t 45), .id), ((.c (.str [59])), .id)]⟩, zv 47 (.pick (.t 44) (.t 46) (.c (.bool false))), zm 41 47]
def q6x : IC := .reg false [zv 4 (.mov (.c (.bool false)))]
def q7l : IC := .reg false [zm 49 5, zv 50 (.bin .eql .no (.t 49) (.c (.int .i64 0))), zm 51 50, zw 51 true 52 (.ld true 4 (.t 7)), zw 51 true 53 (.mov (.t 1)), ⟨some (51, true), some 54, .call (.c (.fn 84 [] [])) [((.t 52), .id), ((.t 53), .id)]⟩, zv 55 (.pick (.t 51) (.t 54) (.c (.bool false))), zm 48 55]
def q5c : IC := .reg false [zv 4 (.mov (.c (.bool true)))]
def q4h : IC := .reg false [zm 56 5, zv 57 (.bin .lss .no (.t 56) (.c (.int .i64 0)))]
def q45 : IC := .reg false [zv 4 (.mov (.c (.bool false)))]
def q7f : IC := .reg false [zm 16 6, zv 17 (.bin .add .no (.t 16) (.c (.int .i64 1))), zm 6 17]
def qbfx : IC := (.seq (.seq qbbg (.cond (.t 15) .skip (.exit 0))) (.seq (.block 1 (.seq qbok (.seq (.block 2 (.seq qblm (.cond (.t 23) qbif (.seq q9g (.cond (.t 32) q3i (.seq q3p (.cond (.t 41) (.seq q6x .ret) (.seq q7l (.cond (.t 48) (.seq q5c .ret) .skip))))))))) (.seq q4h (.cond (.t 57) (.seq q45 .ret) .skip))))) q7f))
def q4w : IC := .reg false [zv 4 (.mov (.c (.bool false)))]
def k0ea : IC := (.seq qbpf (.seq (.seq qbpe (.cond (.t 10) (.seq qbfw .ret) .skip)) (.seq qbhb (.seq (.seq qbik (.block 0 (.loop qbfx))) (.seq q4w .ret)))))
@[go_sem] def s0ea : List (RV × Co) := [(.t 4, .id)]
theorem c0ea : cFun Tryz.prog 85 = some (58, k0ea, s0ea) := by kernel_rfl

def qbkf : IC := .reg false [zi 1 (.box (.t 0)), zi 2 (.alo [.nils, (.int .i64 0), (.int .i64 0), (.int .i64 0), (.str []), (.int .i64 0), (.int .i64 0), (.int .i64 0)]), zi 3 (.alo [(.int .i64 0), (.int .i64 0), (.int .i64 0), (.str []), .nils])]
def qbnn : IC := .reg false [zv 8 (.ld true 8 (.t 1)), zi 9 (.call (.c (.fn 24 [] [])) [((.t 8), (.agg [(.sl 4), .id, .id, .id, .id, .id, .id, .id])), ((.c (.int .i64 2)), .id)]), zm 7 9, zv 10 (.ext (.t 7) 0), zv 11 (.ext (.t 7) 1), zv 12 (.ext (.t 7) 2), zi 4 (.alo [(.int .i64 0), (.int .i64 0), (.int .i64 0), (.str [])]), zn (.st 8 (.agg [(.sl 4), .id, .id, .id, .id, .id, .id, .id]) (.t 1) (.t 10)), zn (.st 4 .id (.t 4) (.t 11)), zm 5 12]
def qbis : IC := .reg false [zv 14 (.ld true 8 (.t 1)), zi 15 (.call (.c (.fn 116 [] [])) [((.t 14), (.agg [(.sl 4), .id, .id, .id, .id, .id, .id, .id]))]), zm 13 15, zv 16 (.ext (.t 13) 0), zv 17 (.ext (.t 13) 1), zi 6 (.alo [(.int .i64 0), (.int .i64 0), (.int .i64 0), (.str []), .nils]), zn (.st 8 (.agg [(.sl 4), .id, .id, .id, .id, .id, .id, .id]) (.t 1) (.t 16)), zn (.st 5 (.agg [.id, .id, .id, .id, (.sl 5)]) (.t 6) (.t 17))]
def qbqt : IC := .drw [zp (zv 18 (.ld true 8 (.t 1))), zp (zv 19 (.fad (.t 4) 1)), zp (zv 20 (.ld false 1 (.t 19))), zp (zv 21 (.fad (.t 4) 3)), zp (zv 22 (.ld false 1 (.t 21))), zp (zv 23 (.ld true 5 (.t 6))), (zv 24 (.bsl 5 [((.t 23), (.agg [.id, .id, .id, .id, (.sl 5)]))]), []), (zv 25 (.bld [(.int .i64 0), (.int .i64 0), (.int .i64 0), (.str []), .nils] [(0, 1, (.c (.int .i64 3))), (1, 1, (.t 20)), (3, 1, (.t 22)), (4, 1, (.t 24))]), []), (zn (.st 8 (.agg [(.sl 4), .id, .id, .id, .id, .id, .id, .id]) (.t 2) (.t 18)), [2, 4, 5, 6]), (zn (.st 5 (.agg [.id, .id, .id, .id, (.sl 5)]) (.t 3) (.t 25)), [])]
def k0bj : IC := (.seq qbkf (.seq qbnn (.seq qbis (.seq qbqt .ret))))
@[go_sem] def s0bj : List (RV × Co) := [(.c true 8 2, (.agg [(.sl 4), .id, .id, .id, .id, .id, .id, .id])), (.c true 5 3, (.agg [.id, .id, .id, .id, (.sl 5)]))]
theorem c0bj : cFun Tryz.prog 86 = some (26, k0bj, s0bj) := by kernel_rfl

def qbfi : IC := .reg false [zi 1 (.box (.t 0)), zi 2 (.alo [.nils, (.int .i64 0), (.int .i64 0), (.int .i64 0), (.str []), (.int .i64 0), (.int .i64 0), (.int .i64 0)]), zi 3 (.alo [(.int .i64 0), (.int .i64 0), (.int .i64 0), (.str []), .nils])]
def qbdz : IC := .reg false [zv 8 (.ld true 8 (.t 1)), zi 9 (.call (.c (.fn 16 [] [])) [((.t 8), (.agg [(.sl 4), .id, .id, .id, .id, .id, .id, .id]))]), zi 4 (.alo [(.int .i64 0), (.int .i64 0), (.int .i64 0), (.str [])]), zn (.st 4 .id (.t 4) (.t 9))]
def qbgq : IC := .reg false [zv 10 (.fad (.t 4) 0), zv 11 (.ld false 1 (.t 10)), zv 12 (.bin .neq .no (.t 11) (.c (.int .i64 2)))]
def qbl6 : IC := .reg false [zv 13 (.ld true 8 (.t 1)), zi 14 (.call (.c (.fn 116 [] [])) [((.t 13), (.agg [(.sl 4), .id, .id, .id, .id, .id, .id, .id]))]), zv 15 (.ext (.t 14) 0), zv 16 (.ext (.t 14) 1), zn (.st 8 (.agg [(.sl 4), .id, .id, .id, .id, .id, .id, .id]) (.t 2) (.t 15)), zn (.st 5 (.agg [.id, .id, .id, .id, (.sl 5)]) (.t 3) (.t 16))]
def qbei : IC := .reg false [zv 18 (.ld true 8 (.t 1)), zi 19 (.call (.c (.fn 51 [] [])) [((.t 18), (.agg [(.sl 4), .id, .id, .id, .id, .id, .id, .id]))]), zm 17 19, zv 20 (.ext (.t 17) 0), zv 21 (.ext (.t 17) 1), zn (.st 8 (.agg [(.sl 4), .id, .id, .id, .id, .id, .id, .id]) (.t 1) (.t 20))]
def qbao : IC := .reg false [zv 22 (.fad (.t 4) 1), zv 23 (.ld false 1 (.t 22)), zv 24 (.fad (.t 4) 3), zv 25 (.ld false 1 (.t 24)), zv 26 (.bld [(.int .i64 0), (.int .i64 0), (.int .i64 0), (.str []), .nils] [(0, 1, (.c (.int .i64 2))), (1, 1, (.t 23)), (3, 1, (.t 25))]), zi 5 (.alo [(.int .i64 0), (.int .i64 0), (.int .i64 0), (.str []), .nils]), zn (.st 5 (.agg [.id, .id, .id, .id, (.sl 5)]) (.t 5) (.t 26))]
def qblo : IC := .reg false [zv 27 (.ld true 8 (.t 1)), zi 28 (.call (.c (.fn 117 [] [])) [((.t 27), (.agg [(.sl 4), .id, .id, .id, .id, .id, .id, .id]))])]
def qbe9 : IC := .reg false [zv 30 (.ld true 8 (.t 1)), zi 31 (.call (.c (.fn 116 [] [])) [((.t 30), (.agg [(.sl 4), .id, .id, .id, .id, .id, .id, .id]))]), zm 29 31, zv 32 (.ext (.t 29) 0), zv 33 (.ext (.t 29) 1), zi 6 (.alo [.nils, (.int .i64 0), (.int .i64 0), (.int .i64 0), (.str []), (.int .i64 0), (.int .i64 0), (.int .i64 0)]), zi 7 (.alo [(.int .i64 0), (.int .i64 0), (.int .i64 0), (.str []), .nils]), zn (.st 8 (.agg [(.sl 4), .id, .id, .id, .id, .id, .id, .id]) (.t 6) (.t 32)), zn (.st 5 (.agg [.id, .id, .id, .id, (.sl 5)]) (.t 7) (.t 33))]
def qbqm : IC := .reg false [zv 34 (.ld true 8 (.t 6)), zn (.st 8 (.agg [(.sl 4), .id, .id, .id, .id, .id, .id, .id]) (.t 1) (.t 34))]
def q3r : IC := .reg false [zv 35 (.fad (.t 5) 4), zv 36 (.ld false 1 (.t 35)), zv 37 (.ld true 5 (.t 7)), zv 38 (.bsl 5 [((.t 37), (.agg [.id, .id, .id, .id, (.sl 5)]))]), zi 39 (.app 5 (.agg [(.int .i64 0), (.int .i64 0), (.int .i64 0), (.str []), .nils]) 64 (.sl 5) (.t 36) (.t 38)), zv 40 (.fad (.t 5) 4), zn (.st 1 (.sl 5) (.t 40) (.t 39))]
def qbn6 : IC := (.seq (.seq qblo (.cond (.t 28) .skip (.exit 0))) (.block 1 (.seq qbe9 (.seq qbqm q3r))))
def q9b : IC := .drw [zp (zv 41 (.ld true 8 (.t 1))), zp (zv 42 (.ld true 5 (.t 5))), (zn (.st 8 (.agg [(.sl 4), .id, .id, .id, .id, .id, .id, .id]) (.t 2) (.t 41)), [1]), (zn (.st 5 (.agg [.id, .id, .id, .id, (.sl 5)]) (.t 3) (.t 42)), [])]
def k0bo : IC := (.seq qbfi (.seq qbdz (.seq (.seq qbgq (.cond (.t 12) (.seq qbl6 .ret) .skip)) (.seq qbei (.seq qbao (.seq (.block 0 (.loop qbn6)) (.seq q9b .ret)))))))
@[go_sem] def s0bo : List (RV × Co) := [(.c true 8 2, (.agg [(.sl 4), .id, .id, .id, .id, .id, .id, .id])), (.c true 5 3, (.agg [.id, .id, .id, .id, (.sl 5)]))]
theorem c0bo : cFun Tryz.prog 87 = some (43, k0bo, s0bo) := by kernel_rfl

def qbxt : IC := .reg false [zv 4 (.mov (.c .nils)), zv 5 (.mov (.c (.bool false)))]
def qbxj : IC := .reg false [zm 9 0, zi 10 (.call (.c (.fn 49 [] [])) [((.t 9), .id), ((.c (.str [123])), .id)]), zv 11 (.un .not (.t 10))]
def qbvf : IC := .reg false [zv 4 (.mov (.c .nils)), zv 5 (.mov (.c (.bool false)))]
def qbtv : IC := .reg false [zv 6 (.mov (.c .nils))]
def qbyp : IC := .reg false [zm 13 1, zi 14 (.call (.t 13) []), zm 12 14, zv 15 (.ext (.t 12) 0), zv 16 (.ext (.t 12) 1), zi 7 (.alo [(.int .i64 0), (.int .i64 0), (.int .i64 0), (.str []), .nils]), zn (.st 5 (.agg [.id, .id, .id, .id, (.sl 5)]) (.t 7) (.t 15)), zm 8 16]
def qbvw : IC := .reg false [zm 17 8, zv 18 (.un .not (.t 17))]
def qbt5 : IC := .reg false [zv 4 (.mov (.c .nils)), zv 5 (.mov (.c (.bool false)))]
def qbuv : IC := .reg false [zm 19 6, zv 20 (.ld true 5 (.t 7)), zv 21 (.bsl 5 [((.t 20), (.agg [.id, .id, .id, .id, (.sl 5)]))]), zi 22 (.app 5 (.agg [(.int .i64 0), (.int .i64 0), (.int .i64 0), (.str []), .nils]) 64 (.sl 5) (.t 19) (.t 21)), zm 6 22]
def q99 : IC := .reg false [zm 23 0, zi 24 (.call (.c (.fn 21 [] [])) [((.t 23), .id), ((.c (.str [59])), .id)]), zv 25 (.un .not (.t 24)), zm 26 25, zw 26 false 27 (.mov (.t 0)), ⟨some (26, false), some 28, .call (.c (.fn 45 [] [])) [((.t 27), .id), ((.c (.str [125])), .id)]⟩, zv 29 (.pick (.t 26) (.c (.bool true)) (.t 28))]
def qbfd : IC := .reg false [zm 30 6, zm 31 0, zi 32 (.call (.c (.fn 49 [] [])) [((.t 31), .id), ((.c (.str [125])), .id)]), zm 4 30, zm 5 32]
def q9r : IC := (.block 1 (.seq qbyp (.seq (.seq qbvw (.cond (.t 18) (.seq qbt5 .ret) .skip)) (.seq qbuv (.seq q99 (.cond (.t 29) (.seq qbfd .ret) .skip))))))
def k0w : IC := (.seq qbxt (.seq (.seq qbxj (.cond (.t 11) (.seq qbvf .ret) .skip)) (.seq qbtv (.block 0 (.loop q9r)))))
@[go_sem] def s0w : List (RV × Co) := [(.t 4, (.sl 5)), (.t 5, .id)]
theorem c0w : cFun Tryz.prog 88 = some (33, k0w, s0w) := by kernel_rfl

def qbxu : IC := .reg false [zi 1 (.alo [(.int .i64 0), (.int .i64 0), (.int .i64 0), (.str []), .nils]), zv 2 (.mov (.c (.bool false)))]
def qbzk : IC := .reg false [zv 3 (.ld false 1 (.t 0)), zi 4 (.call (.c (.fn 8 [] [])) [((.t 3), .id)]), zv 5 (.ext (.t 4) 0), zv 6 (.ext (.t 4) 1), zn (.st 5 (.agg [.id, .id, .id, .id, (.sl 5)]) (.t 1) (.t 5)), zm 2 6]
def k0u : IC := (.seq qbxu (.seq qbzk .ret))
@[go_sem] def s0u : List (RV × Co) := [(.c true 5 1, (.agg [.id, .id, .id, .id, (.sl 5)])), (.t 2, .id)]
theorem c0u : cFun Tryz.prog 89 = some (7, k0u, s0u) := by kernel_rfl

def qbuc : IC := .reg false [zi 1 (.alo [(.int .i64 0), (.int .i64 0), (.int .i64 0), (.str []), .nils]), zv 2 (.mov (.c (.bool false)))]
def qbt4 : IC := .reg false [zv 7 (.ld false 1 (.t 0)), zi 8 (.call (.c (.fn 91 [] [])) [((.t 7), .id)]), zm 6 8, zv 9 (.ext (.t 6) 0), zv 10 (.ext (.t 6) 1), zi 3 (.alo [(.int .i64 0), (.int .i64 0), (.int .i64 0), (.str []), .nils]), zn (.st 5 (.agg [.id, .id, .id, .id, (.sl 5)]) (.t 3) (.t 9)), zm 4 10]
def qbur : IC := .reg false [zm 11 4, zv 12 (.un .not (.t 11)), zm 13 12, zw 13 false 14 (.ld false 1 (.t 0)), ⟨some (13, false), some 15, .call (.c (.fn 49 [] [])) [((.t 14), .id), ((.c (.str [45, 62])), .id)]⟩, zw 13 false 16 (.un .not (.t 15)), zv 17 (.pick (.t 13) (.c (.bool true)) (.t 16))]
def qbrx : IC := .reg false [zv 18 (.ld true 5 (.t 3)), zn (.st 5 (.agg [.id, .id, .id, .id, (.sl 5)]) (.t 1) (.t 18)), zv 2 (.mov (.c (.bool false)))]
def qby1 : IC := .reg false [zv 20 (.ld false 1 (.t 0)), zi 21 (.call (.c (.fn 10 [] [])) [((.t 20), .id)]), zm 19 21, zv 22 (.ext (.t 19) 0), zv 23 (.ext (.t 19) 1), zi 5 (.alo [(.int .i64 0), (.int .i64 0), (.int .i64 0), (.str []), .nils]), zn (.st 5 (.agg [.id, .id, .id, .id, (.sl 5)]) (.t 5) (.t 22)), zm 4 23]
def qbt9 : IC := .reg false [zv 24 (.fad (.t 3) 1), zv 25 (.ld false 1 (.t 24)), zv 26 (.ld true 5 (.t 3)), zv 27 (.ld true 5 (.t 5)), zv 28 (.bsl 5 [((.t 26), (.agg [.id, .id, .id, .id, (.sl 5)])), ((.t 27), (.agg [.id, .id, .id, .id, (.sl 5)]))]), zv 29 (.bld [(.int .i64 0), (.int .i64 0), (.int .i64 0), (.str []), .nils] [(0, 1, (.c (.int .i64 15))), (1, 1, (.t 25)), (4, 1, (.t 28))]), zm 30 4, zn (.st 5 (.agg [.id, .id, .id, .id, (.sl 5)]) (.t 1) (.t 29)), zm 2 30]
def k0v : IC := (.seq qbuc (.seq qbt4 (.seq (.seq qbur (.cond (.t 17) (.seq qbrx .ret) .skip)) (.seq qby1 (.seq qbt9 .ret)))))
@[go_sem] def s0v : List (RV × Co) := [(.c true 5 1, (.agg [.id, .id, .id, .id, (.sl 5)])), (.t 2, .id)]
theorem c0v : cFun Tryz.prog 90 = some (31, k0v, s0v) := by kernel_rfl

def qbm7 : IC := .reg false [zi 2 (.alo [(.int .i64 0), (.int .i64 0), (.int .i64 0), (.str []), .nils]), zv 3 (.mov (.c (.bool false)))]
def qbi7 : IC := .reg false [zm 8 0, zi 9 (.call (.c (.fn 30 [] [])) [((.t 8), .id)]), zv 10 (.un .not (.t 9))]
def qbnw : IC := .reg false [zv 11 (.bld [(.int .i64 0), (.int .i64 0), (.int .i64 0), (.str []), .nils] []), zn (.st 5 (.agg [.id, .id, .id, .id, (.sl 5)]) (.t 2) (.t 11)), zv 3 (.mov (.c (.bool false)))]
def qbgs : IC := .reg false [zm 12 0, zi 13 (.call (.c (.fn 15 [] [])) [((.t 12), .id)]), zv 14 (.fld false 1 0 (.t 13)), zv 15 (.bin .eql .no (.t 14) (.c (.int .i64 2))), zm 4 15]
def qbb3 : IC := .reg false [zm 17 0, zi 18 (.call (.c (.fn 118 [] [])) [((.t 17), .id)]), zm 16 18, zv 19 (.ext (.t 16) 0), zv 20 (.ext (.t 16) 1), zi 5 (.alo [(.int .i64 0), (.int .i64 0), (.int .i64 0), (.str []), .nils]), zn (.st 5 (.agg [.id, .id, .id, .id, (.sl 5)]) (.t 5) (.t 19)), zm 6 20]
def qbju : IC := .reg false [zm 21 6, zm 22 21, zw 22 true 23 (.mov (.t 4)), zv 24 (.pick (.t 22) (.t 23) (.c (.bool false))), zm 25 24, zw 25 true 26 (.mov (.t 0)), ⟨some (25, true), some 27, .call (.c (.fn 119 [] [])) [((.t 26), .id)]⟩, zv 28 (.pick (.t 25) (.t 27) (.c (.bool false)))]
def qbg3 : IC := .reg false [zi 7 (.alo [(.int .i64 0), (.int .i64 0), (.int .i64 0), (.str []), .nils])]
def qbir : IC := .reg false [zm 30 0, zi 31 (.call (.c (.fn 118 [] [])) [((.t 30), .id)]), zm 29 31, zv 32 (.ext (.t 29) 0), zv 33 (.ext (.t 29) 1), zn (.st 5 (.agg [.id, .id, .id, .id, (.sl 5)]) (.t 7) (.t 32)), zm 6 33]
def qbbe : IC := .reg false [zm 34 6]
def q4d : IC := .reg false [zv 35 (.fad (.t 5) 4), zv 36 (.ld false 1 (.t 35)), zv 37 (.ld true 5 (.t 7)), zv 38 (.bsl 5 [((.t 37), (.agg [.id, .id, .id, .id, (.sl 5)]))]), zi 39 (.app 5 (.agg [(.int .i64 0), (.int .i64 0), (.int .i64 0), (.str []), .nils]) 64 (.sl 5) (.t 36) (.t 38)), zv 40 (.fad (.t 5) 4), zn (.st 1 (.sl 5) (.t 40) (.t 39))]
def qbl0 : IC := (.seq (.seq qbju (.cond (.t 28) .skip (.exit 0))) (.block 1 (.seq qbg3 (.seq qbir (.seq qbbe (.cond (.t 34) q4d .skip))))))
def q4l : IC := .reg false [zm 41 0, zi 42 (.call (.c (.fn 32 [] [])) [((.t 41), .id)])]
def q5g : IC := .reg false [zm 43 6, zv 44 (.un .not (.t 43))]
def q7g : IC := .reg false [zv 45 (.bld [(.int .i64 0), (.int .i64 0), (.int .i64 0), (.str []), .nils] []), zn (.st 5 (.agg [.id, .id, .id, .id, (.sl 5)]) (.t 2) (.t 45)), zv 3 (.mov (.c (.bool false)))]
def q7t : IC := .reg false [zv 46 (.ld true 5 (.t 5)), zn (.st 5 (.agg [.id, .id, .id, .id, (.sl 5)]) (.t 2) (.t 46)), zv 3 (.mov (.c (.bool true)))]
def k0bi : IC := (.seq qbm7 (.seq (.seq qbi7 (.cond (.t 10) (.seq qbnw .ret) .skip)) (.seq qbgs (.seq qbb3 (.seq (.block 0 (.loop qbl0)) (.seq q4l (.seq (.seq q5g (.cond (.t 44) (.seq q7g .ret) .skip)) (.seq q7t .ret))))))))
@[go_sem] def s0bi : List (RV × Co) := [(.c true 5 2, (.agg [.id, .id, .id, .id, (.sl 5)])), (.t 3, .id)]
theorem c0bi : cFun Tryz.prog 91 = some (47, k0bi, s0bi) := by kernel_rfl

def qbqf : IC := .reg false [zi 2 (.alo [(.int .i64 0), (.int .i64 0), (.int .i64 0), (.str []), .nils]), zv 3 (.mov (.c (.bool false)))]
def qbbz : IC := .reg false [zm 9 0, zi 10 (.call (.c (.fn 93 [] [])) [((.t 9), .id)]), zm 8 10, zv 11 (.ext (.t 8) 0), zv 12 (.ext (.t 8) 1), zi 4 (.alo [(.int .i64 0), (.int .i64 0), (.int .i64 0), (.str []), .nils]), zn (.st 5 (.agg [.id, .id, .id, .id, (.sl 5)]) (.t 4) (.t 11)), zm 5 12]
def qbh5 : IC := .reg false [zm 13 5]
def qboo : IC := .reg false [zm 14 0, zi 15 (.call (.c (.fn 44 [] [])) [((.t 14), .id)])]
def qbow : IC := .reg false [zv 16 (.ld true 5 (.t 4)), zn (.st 5 (.agg [.id, .id, .id, .id, (.sl 5)]) (.t 2) (.t 16)), zv 3 (.mov (.c (.bool true)))]
def qbig : IC := .reg false [zm 17 0, zi 18 (.call (.c (.fn 45 [] [])) [((.t 17), .id), ((.c (.str [40])), .id)]), zv 19 (.un .not (.t 18))]
def qba9 : IC := .reg false [zv 20 (.bld [(.int .i64 0), (.int .i64 0), (.int .i64 0), (.str []), .nils] []), zm 21 0, zi 22 (.call (.c (.fn 43 [] [])) [((.t 21), .id), ((.c (.int .i64 5)), .id)]), zn (.st 5 (.agg [.id, .id, .id, .id, (.sl 5)]) (.t 2) (.t 20)), zm 3 22]
def qbjq : IC := .reg false [zm 23 0, zi 24 (.call (.c (.fn 30 [] [])) [((.t 23), .id)]), zv 25 (.un .not (.t 24))]
def qbhi : IC := .reg false [zv 26 (.bld [(.int .i64 0), (.int .i64 0), (.int .i64 0), (.str []), .nils] []), zn (.st 5 (.agg [.id, .id, .id, .id, (.sl 5)]) (.t 2) (.t 26)), zv 3 (.mov (.c (.bool false)))]
def qbqw : IC := .reg false [zm 27 0, zi 28 (.call (.c (.fn 44 [] [])) [((.t 27), .id)])]
def q4z : IC := .reg false [zm 30 0, zi 31 (.call (.c (.fn 10 [] [])) [((.t 30), .id)]), zm 29 31, zv 32 (.ext (.t 29) 0), zv 33 (.ext (.t 29) 1), zi 6 (.alo [(.int .i64 0), (.int .i64 0), (.int .i64 0), (.str []), .nils]), zn (.st 5 (.agg [.id, .id, .id, .id, (.sl 5)]) (.t 6) (.t 32)), zm 7 33]
def q5e : IC := .reg false [zm 34 7, zv 35 (.un .not (.t 34)), zm 36 35, zw 36 false 37 (.mov (.t 0)), ⟨some (36, false), some 38, .call (.c (.fn 49 [] [])) [((.t 37), .id), ((.c (.str [41])), .id)]⟩, zw 36 false 39 (.un .not (.t 38)), zv 40 (.pick (.t 36) (.c (.bool true)) (.t 39))]
def q7n : IC := .reg false [zv 41 (.bld [(.int .i64 0), (.int .i64 0), (.int .i64 0), (.str []), .nils] []), zn (.st 5 (.agg [.id, .id, .id, .id, (.sl 5)]) (.t 2) (.t 41)), zv 3 (.mov (.c (.bool false)))]
def q9o : IC := .reg false [zm 42 0, zi 43 (.call (.c (.fn 32 [] [])) [((.t 42), .id)])]
def q73 : IC := .reg false [zv 44 (.ld true 5 (.t 6)), zn (.st 5 (.agg [.id, .id, .id, .id, (.sl 5)]) (.t 2) (.t 44)), zv 3 (.mov (.c (.bool true)))]
def k0ba : IC := (.seq qbqf (.seq (.seq qbbz (.seq qbh5 (.cond (.t 13) (.seq qboo (.seq qbow .ret)) .skip))) (.seq (.seq qbig (.cond (.t 19) (.seq qba9 .ret) .skip)) (.seq (.seq qbjq (.cond (.t 25) (.seq qbhi .ret) .skip)) (.seq qbqw (.seq q4z (.seq (.seq q5e (.cond (.t 40) (.seq q7n .ret) .skip)) (.seq q9o (.seq q73 .ret)))))))))
@[go_sem] def s0ba : List (RV × Co) := [(.c true 5 2, (.agg [.id, .id, .id, .id, (.sl 5)])), (.t 3, .id)]
theorem c0ba : cFun Tryz.prog 92 = some (45, k0ba, s0ba) := by kernel_rfl

def qbt7 : IC := .reg false [zi 2 (.alo [(.int .i64 0), (.int .i64 0), (.int .i64 0), (.str []), .nils]), zv 3 (.mov (.c (.bool false)))]
def qbwm : IC := .reg false [zm 5 0, zi 6 (.call (.c (.fn 15 [] [])) [((.t 5), .id)]), zi 4 (.alo [(.int .i64 0), (.int .i64 0), (.int .i64 0), (.str [])]), zn (.st 4 .id (.t 4) (.t 6))]
def qbxm : IC := .reg false [zv 7 (.fad (.t 4) 0), zv 8 (.ld false 1 (.t 7))]
def qbxn : IC := .reg false [zv 10 (.bin .eql .no (.t 8) (.c (.int .i64 1))), zm 9 10]
def qbyz : IC := .reg false [zv 11 (.fad (.t 4) 1), zv 12 (.ld false 1 (.t 11)), zv 13 (.fad (.t 4) 3), zv 14 (.ld false 1 (.t 13)), zv 15 (.bld [(.int .i64 0), (.int .i64 0), (.int .i64 0), (.str []), .nils] [(0, 1, (.c (.int .i64 21))), (1, 1, (.t 12)), (3, 1, (.t 14))]), zn (.st 5 (.agg [.id, .id, .id, .id, (.sl 5)]) (.t 2) (.t 15)), zv 3 (.mov (.c (.bool true)))]
def qbrl : IC := .reg false [zv 17 (.bin .eql .no (.t 8) (.c (.int .i64 2))), zm 16 17]
def qbtn : IC := .reg false [zv 18 (.fad (.t 4) 1), zv 19 (.ld false 1 (.t 18)), zv 20 (.fad (.t 4) 3), zv 21 (.ld false 1 (.t 20)), zv 22 (.bld [(.int .i64 0), (.int .i64 0), (.int .i64 0), (.str []), .nils] [(0, 1, (.c (.int .i64 22))), (1, 1, (.t 19)), (3, 1, (.t 21))]), zn (.st 5 (.agg [.id, .id, .id, .id, (.sl 5)]) (.t 2) (.t 22)), zv 3 (.mov (.c (.bool true)))]
def qbws : IC := .reg false [zv 24 (.bin .eql .no (.t 8) (.c (.int .i64 3))), zm 23 24]
def qbuz : IC := .reg false [zv 25 (.fad (.t 4) 1), zv 26 (.ld false 1 (.t 25)), zv 27 (.fad (.t 4) 2), zv 28 (.ld false 1 (.t 27)), zv 29 (.bld [(.int .i64 0), (.int .i64 0), (.int .i64 0), (.str []), .nils] [(0, 1, (.c (.int .i64 23))), (1, 1, (.t 26)), (2, 1, (.t 28))]), zn (.st 5 (.agg [.id, .id, .id, .id, (.sl 5)]) (.t 2) (.t 29)), zv 3 (.mov (.c (.bool true)))]
def qbyy : IC := .reg false [zv 30 (.bld [(.int .i64 0), (.int .i64 0), (.int .i64 0), (.str []), .nils] []), zn (.st 5 (.agg [.id, .id, .id, .id, (.sl 5)]) (.t 2) (.t 30)), zv 3 (.mov (.c (.bool false)))]
def k0z : IC := (.seq qbt7 (.seq qbwm (.seq (.seq qbxm (.block 0 (.seq qbxn (.cond (.t 9) (.seq qbyz .ret) (.seq qbrl (.cond (.t 16) (.seq qbtn .ret) (.seq qbws (.cond (.t 23) (.seq qbuz .ret) .skip)))))))) (.seq qbyy .ret))))
@[go_sem] def s0z : List (RV × Co) := [(.c true 5 2, (.agg [.id, .id, .id, .id, (.sl 5)])), (.t 3, .id)]
theorem c0z : cFun Tryz.prog 93 = some (31, k0z, s0z) := by kernel_rfl

def qbu2 : IC := .reg false [zi 1 (.box (.t 0)), zi 2 (.alo [.nils, (.int .i64 0), (.int .i64 0), (.int .i64 0), (.str []), (.int .i64 0), (.int .i64 0), (.int .i64 0)]), zv 3 (.mov (.c (.bool false)))]
def qbsu : IC := .reg false [zv 6 (.ld true 8 (.t 1)), zi 7 (.call (.c (.fn 25 [] [])) [((.t 6), (.agg [(.sl 4), .id, .id, .id, .id, .id, .id, .id])), ((.c (.str [59])), .id)]), zm 5 7, zv 8 (.ext (.t 5) 0), zv 9 (.ext (.t 5) 1), zn (.st 8 (.agg [(.sl 4), .id, .id, .id, .id, .id, .id, .id]) (.t 1) (.t 8)), zm 4 9]
def qbxq : IC := .drw [zp (zv 10 (.ld true 8 (.t 1))), zp (zm 11 4), zp (zm 12 11), zp (zw 12 true 13 (.ld true 8 (.t 1))), (⟨some (12, true), some 14, .call (.c (.fn 52 [] [])) [((.t 13), (.agg [(.sl 4), .id, .id, .id, .id, .id, .id, .id])), ((.c (.str [125])), .id)]⟩, [0]), zp (zw 12 true 15 (.un .not (.t 14))), zp (zv 16 (.pick (.t 12) (.t 15) (.c (.bool false)))), (zn (.st 8 (.agg [(.sl 4), .id, .id, .id, .id, .id, .id, .id]) (.t 2) (.t 10)), []), zp (zm 3 16)]
def k0m : IC := (.seq qbu2 (.seq qbsu (.seq qbxq .ret)))
@[go_sem] def s0m : List (RV × Co) := [(.c true 8 2, (.agg [(.sl 4), .id, .id, .id, .id, .id, .id, .id])), (.t 3, .id)]
theorem c0m : cFun Tryz.prog 94 = some (17, k0m, s0m) := by kernel_rfl

def qbep : IC := .reg false [zi 1 (.box (.t 0)), zi 2 (.alo [.nils, (.int .i64 0), (.int .i64 0), (.int .i64 0), (.str []), (.int .i64 0), (.int .i64 0), (.int .i64 0)]), zi 3 (.alo [(.int .i64 0), (.int .i64 0), (.int .i64 0), (.str []), .nils])]
def qblu : IC := .reg false [zv 11 (.ld true 8 (.t 1)), zi 12 (.call (.c (.fn 33 [] [])) [((.t 11), (.agg [(.sl 4), .id, .id, .id, .id, .id, .id, .id]))]), zm 10 12, zv 13 (.ext (.t 10) 0), zv 14 (.ext (.t 10) 1), zn (.st 8 (.agg [(.sl 4), .id, .id, .id, .id, .id, .id, .id]) (.t 1) (.t 13))]
def qbip : IC := .reg false [zv 15 (.ld true 8 (.t 1)), zi 16 (.call (.c (.fn 16 [] [])) [((.t 15), (.agg [(.sl 4), .id, .id, .id, .id, .id, .id, .id]))]), zv 17 (.fld false 1 0 (.t 16)), zv 18 (.bin .neq .no (.t 17) (.c (.int .i64 2)))]
def qblq : IC := .reg false [zv 20 (.ld true 8 (.t 1)), zi 21 (.call (.c (.fn 120 [] [])) [((.t 20), (.agg [(.sl 4), .id, .id, .id, .id, .id, .id, .id]))]), zm 19 21, zv 22 (.ext (.t 19) 0), zv 23 (.ext (.t 19) 1), zi 4 (.alo [.nils, (.int .i64 0), (.int .i64 0), (.int .i64 0), (.str []), (.int .i64 0), (.int .i64 0), (.int .i64 0)]), zi 5 (.alo [(.int .i64 0), (.int .i64 0), (.int .i64 0), (.str []), .nils]), zn (.st 8 (.agg [(.sl 4), .id, .id, .id, .id, .id, .id, .id]) (.t 4) (.t 22)), zn (.st 5 (.agg [.id, .id, .id, .id, (.sl 5)]) (.t 5) (.t 23))]
def qbjg : IC := .drw [zp (zv 24 (.ld true 8 (.t 4))), (zi 25 (.call (.c (.fn 35 [] [])) [((.t 24), (.agg [(.sl 4), .id, .id, .id, .id, .id, .id, .id]))]), []), (zv 26 (.ld true 5 (.t 5)), [1]), (zn (.st 8 (.agg [(.sl 4), .id, .id, .id, .id, .id, .id, .id]) (.t 2) (.t 25)), [2]), (zn (.st 5 (.agg [.id, .id, .id, .id, (.sl 5)]) (.t 3) (.t 26)), [])]
def qbgd : IC := .reg false [zv 28 (.ld true 8 (.t 1)), zi 29 (.call (.c (.fn 51 [] [])) [((.t 28), (.agg [(.sl 4), .id, .id, .id, .id, .id, .id, .id]))]), zm 27 29, zv 30 (.ext (.t 27) 0), zv 31 (.ext (.t 27) 1), zi 6 (.alo [(.int .i64 0), (.int .i64 0), (.int .i64 0), (.str [])]), zn (.st 8 (.agg [(.sl 4), .id, .id, .id, .id, .id, .id, .id]) (.t 1) (.t 30)), zn (.st 4 .id (.t 6) (.t 31))]
def qbl3 : IC := .reg false [zv 32 (.fad (.t 6) 1), zv 33 (.ld false 1 (.t 32)), zv 34 (.fad (.t 6) 3), zv 35 (.ld false 1 (.t 34)), zv 36 (.bld [(.int .i64 0), (.int .i64 0), (.int .i64 0), (.str []), .nils] [(0, 1, (.c (.int .i64 14))), (1, 1, (.t 33)), (3, 1, (.t 35))]), zi 7 (.alo [(.int .i64 0), (.int .i64 0), (.int .i64 0), (.str []), .nils]), zn (.st 5 (.agg [.id, .id, .id, .id, (.sl 5)]) (.t 7) (.t 36))]
def qbkg : IC := .reg false [zv 37 (.ld true 8 (.t 1)), zi 38 (.call (.c (.fn 121 [] [])) [((.t 37), (.agg [(.sl 4), .id, .id, .id, .id, .id, .id, .id]))])]
def qbny : IC := .reg false [zv 40 (.ld true 8 (.t 1)), zi 41 (.call (.c (.fn 120 [] [])) [((.t 40), (.agg [(.sl 4), .id, .id, .id, .id, .id, .id, .id]))]), zm 39 41, zv 42 (.ext (.t 39) 0), zv 43 (.ext (.t 39) 1), zi 8 (.alo [.nils, (.int .i64 0), (.int .i64 0), (.int .i64 0), (.str []), (.int .i64 0), (.int .i64 0), (.int .i64 0)]), zi 9 (.alo [(.int .i64 0), (.int .i64 0), (.int .i64 0), (.str []), .nils]), zn (.st 8 (.agg [(.sl 4), .id, .id, .id, .id, .id, .id, .id]) (.t 8) (.t 42)), zn (.st 5 (.agg [.id, .id, .id, .id, (.sl 5)]) (.t 9) (.t 43))]
def q72 : IC := .reg false [zv 44 (.ld true 8 (.t 8)), zn (.st 8 (.agg [(.sl 4), .id, .id, .id, .id, .id, .id, .id]) (.t 1) (.t 44))]
def q62 : IC := .reg false [zv 45 (.fad (.t 7) 4), zv 46 (.ld false 1 (.t 45)), zv 47 (.ld true 5 (.t 9)), zv 48 (.bsl 5 [((.t 47), (.agg [.id, .id, .id, .id, (.sl 5)]))]), zi 49 (.app 5 (.agg [(.int .i64 0), (.int .i64 0), (.int .i64 0), (.str []), .nils]) 64 (.sl 5) (.t 46) (.t 48)), zv 50 (.fad (.t 7) 4), zn (.st 1 (.sl 5) (.t 50) (.t 49))]
def qbjj : IC := (.seq (.seq qbkg (.cond (.t 38) .skip (.exit 0))) (.block 1 (.seq qbny (.seq q72 q62))))
def q8e : IC := .drw [zp (zv 51 (.ld true 8 (.t 1))), (zi 52 (.call (.c (.fn 35 [] [])) [((.t 51), (.agg [(.sl 4), .id, .id, .id, .id, .id, .id, .id]))]), []), (zv 53 (.ld true 5 (.t 7)), [1]), (zn (.st 8 (.agg [(.sl 4), .id, .id, .id, .id, .id, .id, .id]) (.t 2) (.t 52)), [2]), (zn (.st 5 (.agg [.id, .id, .id, .id, (.sl 5)]) (.t 3) (.t 53)), [])]
def k0be : IC := (.seq qbep (.seq qblu (.seq (.seq qbip (.cond (.t 18) (.seq qblq (.seq qbjg .ret)) .skip)) (.seq qbgd (.seq qbl3 (.seq (.block 0 (.loop qbjj)) (.seq q8e .ret)))))))
@[go_sem] def s0be : List (RV × Co) := [(.c true 8 2, (.agg [(.sl 4), .id, .id, .id, .id, .id, .id, .id])), (.c true 5 3, (.agg [.id, .id, .id, .id, (.sl 5)]))]
theorem c0be : cFun Tryz.prog 95 = some (54, k0be, s0be) := by kernel_rfl

def qbn5 : IC := .reg false [zv 6 (.ld false 1 (.t 1)), zi 7 (.call (.c (.fn 97 [] [])) [((.t 6), .id)]), zm 3 7]
def qbib : IC := .reg false [zm 8 3, zv 9 (.ld false 1 (.t 1)), zv 10 (.len true (.t 9)), zv 11 (.bin .lss .no (.t 8) (.t 10))]
def qbge : IC := .reg false [zv 13 (.ld false 1 (.t 1)), zm 14 3, zv 15 (.sls (.t 13) (some (.t 14)) none), zi 16 (.call (.c (.fn 98 [] [])) [((.t 15), .id)]), zm 12 16, zv 17 (.ext (.t 12) 0), zv 18 (.ext (.t 12) 1), zi 4 (.alo [(.int .i64 0), (.int .i64 0), (.int .i64 0), (.str [])]), zn (.st 4 .id (.t 4) (.t 17)), zm 5 18]
def qbma : IC := .reg false [zm 19 3, zv 20 (.fad (.t 4) 1), zn (.st 1 .id (.t 20) (.t 19))]
def qbqu : IC := .reg false [zm 21 0, zv 22 (.ld true 4 (.t 4)), zm 23 5, zi 24 (.call (.t 21) [((.t 22), .id), ((.t 23), .id)]), zv 25 (.un .not (.t 24))]
def qbcx : IC := .reg false [zm 26 3, zv 27 (.fad (.t 4) 3), zv 28 (.ld false 1 (.t 27)), zv 29 (.len true (.t 28)), zv 30 (.bin .add .no (.t 26) (.t 29)), zm 3 30]
def qbh8 : IC := .reg false [zm 31 3, zv 32 (.ld false 1 (.t 1)), zm 33 3, zv 34 (.sls (.t 32) (some (.t 33)) none), zi 35 (.call (.c (.fn 97 [] [])) [((.t 34), .id)]), zv 36 (.bin .add .no (.t 31) (.t 35)), zm 3 36]
def qbff : IC := (.seq (.seq qbib (.cond (.t 11) .skip (.exit 0))) (.block 1 (.seq qbge (.seq qbma (.seq (.seq qbqu (.cond (.t 25) .ret .skip)) (.seq qbcx qbh8))))))
def k0cy : IC := (.seq qbn5 (.block 0 (.loop qbff)))
@[go_sem] def s0cy : List (RV × Co) := []
theorem c0cy : cFun Tryz.prog 96 = some (37, k0cy, s0cy) := by kernel_rfl

def qbjn : IC := .reg false [zv 2 (.mov (.c (.int .i64 0)))]
def qblc : IC := .reg false [zv 3 (.mov (.c (.int .i64 0)))]
def qbfz : IC := .reg false [zm 5 0, zm 6 3, zv 7 (.sls (.t 5) (some (.t 6)) none), zi 8 (.call (.c (.fn 122 [] [])) [((.t 7), .id), ((.c (.fn 123 [] [])), .id)]), zm 4 8]
def qbh1 : IC := .reg false [zm 9 0, zm 10 3, zm 11 4, zv 12 (.bin .add .no (.t 10) (.t 11)), zv 13 (.sls (.t 9) (some (.t 12)) none), zi 14 (.call (.c (.fn 124 [] [])) [((.t 13), .id), ((.c (.str [45, 45])), .id)])]
def qbcy : IC := .reg false [zm 15 4, zm 16 0, zm 17 3, zm 18 4, zv 19 (.bin .add .no (.t 17) (.t 18)), zv 20 (.sls (.t 16) (some (.t 19)) none), zi 21 (.call (.c (.fn 122 [] [])) [((.t 20), .id), ((.c (.fn 125 [] [])), .id)]), zv 22 (.bin .add .no (.t 15) (.t 21)), zm 4 22]
def qbc9 : IC := .reg false [zm 23 4, zv 24 (.bin .eql .no (.t 23) (.c (.int .i64 0)))]
def qbk7 : IC := .reg false [zm 25 3, zm 2 25]
def qbps : IC := .reg false [zm 26 3, zm 27 4, zv 28 (.bin .add .no (.t 26) (.t 27)), zm 3 28]
def qbb6 : IC := (.block 1 (.seq qbfz (.seq (.seq qbh1 (.cond (.t 14) qbcy .skip)) (.seq (.seq qbc9 (.cond (.t 24) (.seq qbk7 .ret) .skip)) qbps))))
def k0dk : IC := (.seq qbjn (.seq qblc (.block 0 (.loop qbb6))))
@[go_sem] def s0dk : List (RV × Co) := [(.t 2, .id)]
theorem c0dk : cFun Tryz.prog 97 = some (29, k0dk, s0dk) := by kernel_rfl

def qbba : IC := .reg false [zi 2 (.alo [(.int .i64 0), (.int .i64 0), (.int .i64 0), (.str [])]), zv 3 (.mov (.c (.int .i64 0)))]
def qbd2 : IC := .reg false [zm 9 0, zv 10 (.idx (.t 9) (.c (.int .i64 0))), zm 4 10]
def qbl4 : IC := .reg false [zm 12 4, zi 13 (.call (.c (.fn 126 [] [])) [((.t 12), .id)]), zm 11 13]
def qbmb : IC := .reg false [zm 14 0, zm 15 0, zi 16 (.call (.c (.fn 122 [] [])) [((.t 15), .id), ((.c (.fn 126 [] [])), .id)]), zv 17 (.sls (.t 14) none (some (.t 16))), zm 5 17]
def qbm1 : IC := .reg false [zm 19 5, zi 20 (.call (.c (.fn 127 [] [])) [((.t 19), .id)]), zm 18 20, zv 21 (.ext (.t 18) 0), zv 22 (.ext (.t 18) 1), zm 6 21, zm 7 22]
def qbcg : IC := .reg false [zm 23 6, zm 24 5, zv 25 (.bld [(.int .i64 0), (.int .i64 0), (.int .i64 0), (.str [])] [(0, 1, (.c (.int .i64 3))), (2, 1, (.t 23)), (3, 1, (.t 24))]), zm 26 7, zn (.st 4 .id (.t 2) (.t 25)), zm 3 26]
def qbf1 : IC := .reg false [zm 28 4, zi 29 (.call (.c (.fn 128 [] [])) [((.t 28), .id)]), zm 30 29, zw 30 true 31 (.mov (.t 4)), zw 30 true 32 (.bin .neq .no (.t 31) (.c (.int .u8 39))), zv 33 (.pick (.t 30) (.t 32) (.c (.bool false))), zm 27 33]
def qbbr : IC := .reg false [zm 34 0, zm 35 0, zi 36 (.call (.c (.fn 122 [] [])) [((.t 35), .id), ((.c (.fn 128 [] [])), .id)]), zv 37 (.sls (.t 34) none (some (.t 36))), zi 38 (.call (.c (.fn 129 [] [])) [((.t 37), .id)]), zn (.st 4 .id (.t 2) (.t 38)), zv 3 (.mov (.c (.int .i64 0)))]
def qboh : IC := .reg false [zm 39 0, zi 40 (.call (.c (.fn 130 [] [])) [((.t 39), .id)]), zm 8 40]
def qbcf : IC := .reg false [zm 41 8, zv 42 (.bin .eql .no (.t 41) (.c (.int .i64 0)))]
def q3h : IC := .reg false [zv 43 (.bld [(.int .i64 0), (.int .i64 0), (.int .i64 0), (.str [])] []), zn (.st 4 .id (.t 2) (.t 43)), zv 3 (.mov (.c (.int .i64 3)))]
def q64 : IC := .reg false [zm 44 0, zm 45 8, zv 46 (.sls (.t 44) none (some (.t 45))), zv 47 (.bld [(.int .i64 0), (.int .i64 0), (.int .i64 0), (.str [])] [(0, 1, (.c (.int .i64 5))), (3, 1, (.t 46))]), zn (.st 4 .id (.t 2) (.t 47)), zv 3 (.mov (.c (.int .i64 0)))]
def k0dc : IC := (.seq qbba (.seq (.seq qbd2 (.block 0 (.seq qbl4 (.cond (.t 11) (.seq qbmb (.seq qbm1 (.seq qbcg .ret))) (.seq qbf1 (.cond (.t 27) (.seq qbbr .ret) .skip)))))) (.seq qboh (.seq (.seq qbcf (.cond (.t 42) (.seq q3h .ret) .skip)) (.seq q64 .ret)))))
@[go_sem] def s0dc : List (RV × Co) := [(.c true 4 2, .id), (.t 3, .id)]
theorem c0dc : cFun Tryz.prog 98 = some (48, k0dc, s0dc) := by kernel_rfl

def qbk4 : IC := .reg false [zv 4 (.ld true 5 (.t 1)), zv 5 (.ld false 1 (.t 2)), zm 6 0, zi 7 (.call (.c (.fn 100 [] [])) [((.t 4), (.agg [.id, .id, .id, .id, (.sl 5)])), ((.t 5), .id), ((.t 6), .id)])]
def k0du : IC := qbk4
@[go_sem] def s0du : List (RV × Co) := []
theorem c0du : cFun Tryz.prog 99 = some (8, k0du, s0du) := by kernel_rfl

def qbnu : IC := .reg false [zi 3 (.box (.t 0)), zv 6 (.mov (.c (.bool false)))]
def qbp2 : IC := .reg false [zm 9 2, zm 10 1, zv 11 (.ld true 5 (.t 3)), zi 12 (.call (.t 9) [((.t 10), .id), ((.t 11), (.agg [.id, .id, .id, .id, (.sl 5)]))]), zv 13 (.un .not (.t 12))]
def qbn9 : IC := .reg false [zv 6 (.mov (.c (.bool false)))]
def qbb9 : IC := .reg false [zv 14 (.fad (.t 3) 4), zv 15 (.ld false 1 (.t 14)), zv 16 (.len false (.t 15)), zv 17 (.mov (.c (.int .i64 0)))]
def qbnl : IC := .reg false [zv 18 (.bin .lss .no (.t 17) (.t 16))]
def qbav : IC := .reg false [zv 19 (.iad 5 (.t 15) (.t 17)), zv 20 (.ld true 5 (.t 19)), zi 8 (.alo [(.int .i64 0), (.int .i64 0), (.int .i64 0), (.str []), .nils]), zn (.st 5 (.agg [.id, .id, .id, .id, (.sl 5)]) (.t 8) (.t 20))]
def qbou : IC := .reg false [zv 21 (.ld true 5 (.t 8)), zm 22 1, zv 23 (.bin .add .no (.t 22) (.c (.int .i64 1))), zm 24 2, zi 25 (.call (.c (.fn 100 [] [])) [((.t 21), (.agg [.id, .id, .id, .id, (.sl 5)])), ((.t 23), .id), ((.t 24), .id)]), zv 26 (.un .not (.t 25))]
def qbmi : IC := .reg false [zv 6 (.mov (.c (.bool false)))]
def qbj8 : IC := .reg false [zv 27 (.bin .add .no (.t 17) (.c (.int .i64 1))), zm 17 27]
def qblb : IC := (.seq qbnl (.seq (.cond (.t 18) .skip (.exit 0)) (.seq (.block 1 (.seq qbav (.seq qbou (.cond (.t 26) (.seq qbmi .ret) .skip)))) qbj8)))
def q6k : IC := .reg false [zv 6 (.mov (.c (.bool true)))]
def k0dt : IC := (.seq qbnu (.seq (.seq qbp2 (.cond (.t 13) (.seq qbn9 .ret) .skip)) (.seq (.seq qbb9 (.block 0 (.loop qblb))) (.seq q6k .ret))))
@[go_sem] def s0dt : List (RV × Co) := [(.t 6, .id)]
theorem c0dt : cFun Tryz.prog 100 = some (28, k0dt, s0dt) := by kernel_rfl

def qbb4 : IC := .reg false [zv 2 (.mov (.c (.int .i64 0))), zv 3 (.mov (.c (.int .i64 0)))]
def qbas : IC := .reg false [zm 8 0, zv 9 (.bin .eql .no (.t 8) (.c (.str [])))]
def qbgc : IC := .reg false [zv 2 (.mov (.c (.int .i64 0))), zv 3 (.mov (.c (.int .i64 5)))]
def qbl5 : IC := .reg false [zv 4 (.mov (.c (.int .i64 0)))]
def qbi3 : IC := .reg false [zm 10 4, zm 11 0, zv 12 (.len true (.t 11)), zv 13 (.bin .lss .no (.t 10) (.t 12))]
def qbk1 : IC := .reg false [zm 16 0, zm 17 4, zv 18 (.idx (.t 16) (.t 17)), zv 19 (.bin .lss .no (.t 18) (.c (.int .u8 48))), zm 20 19, zw 20 false 21 (.mov (.t 0)), zw 20 false 22 (.mov (.t 4)), zw 20 false 23 (.idx (.t 21) (.t 22)), zw 20 false 24 (.bin .gtr .no (.t 23) (.c (.int .u8 57))), zv 25 (.pick (.t 20) (.c (.bool true)) (.t 24))]
def qbap : IC := .reg false [zv 2 (.mov (.c (.int .i64 0))), zv 3 (.mov (.c (.int .i64 5)))]
def qbab : IC := .reg false [zm 14 4, zv 15 (.bin .add .no (.t 14) (.c (.int .i64 1))), zm 4 15]
def qbjw : IC := (.seq (.seq qbi3 (.cond (.t 13) .skip (.exit 0))) (.seq (.block 1 (.seq qbk1 (.cond (.t 25) (.seq qbap .ret) .skip))) qbab))
def q7j : IC := .reg false [zv 5 (.mov (.c (.int .i64 0)))]
def q6h : IC := .reg false [zv 6 (.mov (.c (.int .i64 0)))]
def q7w : IC := .reg false [zm 26 6, zm 27 0, zv 28 (.len true (.t 27)), zv 29 (.bin .lss .no (.t 26) (.t 28))]
def q86 : IC := .reg false [zm 32 0, zm 33 6, zv 34 (.idx (.t 32) (.t 33)), zv 35 (.bin .sub .no (.t 34) (.c (.int .u8 48))), zv 36 (.cvi .i64 (.t 35)), zm 7 36]
def q4x : IC := .reg false [zm 37 5, zm 38 7, zv 39 (.bin .sub .no (.c (.int .i64 9223372036854775807)) (.t 38)), zv 40 (.bin .quo .no (.t 39) (.c (.int .i64 10))), zv 41 (.bin .gtr .no (.t 37) (.t 40))]
def q4f : IC := .reg false [zv 2 (.mov (.c (.int .i64 0))), zv 3 (.mov (.c (.int .i64 4)))]
def q4i : IC := .reg false [zm 42 5, zv 43 (.bin .mul .no (.c (.int .i64 10)) (.t 42)), zm 44 7, zv 45 (.bin .add .no (.t 43) (.t 44)), zm 5 45]
def q5s : IC := .reg false [zm 30 6, zv 31 (.bin .add .no (.t 30) (.c (.int .i64 1))), zm 6 31]
def q4m : IC := (.seq (.seq q7w (.cond (.t 29) .skip (.exit 2))) (.seq (.block 3 (.seq q86 (.seq (.seq q4x (.cond (.t 41) (.seq q4f .ret) .skip)) q4i))) q5s))
def q5n : IC := .reg false [zm 46 5, zm 2 46, zv 3 (.mov (.c (.int .i64 0)))]
def k0dl : IC := (.seq qbb4 (.seq (.seq qbas (.cond (.t 9) (.seq qbgc .ret) .skip)) (.seq (.seq qbl5 (.block 0 (.loop qbjw))) (.seq q7j (.seq (.seq q6h (.block 2 (.loop q4m))) (.seq q5n .ret))))))
@[go_sem] def s0dl : List (RV × Co) := [(.t 2, .id), (.t 3, .id)]
theorem c0dl : cFun Tryz.prog 102 = some (47, k0dl, s0dl) := by kernel_rfl

def qbo9 : IC := .reg false [zv 2 (.mov (.c (.bool false)))]
def qbgg : IC := .reg false [zm 3 0, zv 4 (.bin .geq .no (.t 3) (.c (.int .u8 97))), zm 5 4, zw 5 true 6 (.mov (.t 0)), zw 5 true 7 (.bin .leq .no (.t 6) (.c (.int .u8 122))), zv 8 (.pick (.t 5) (.t 7) (.c (.bool false))), zm 9 8, zw 9 false 10 (.mov (.t 0)), zw 9 false 11 (.bin .eql .no (.t 10) (.c (.int .u8 95))), zv 12 (.pick (.t 9) (.c (.bool true)) (.t 11)), zm 2 12]
def k0dn : IC := (.seq qbo9 (.seq qbgg .ret))
@[go_sem] def s0dn : List (RV × Co) := [(.t 2, .id)]
theorem c0dn : cFun Tryz.prog 108 = some (13, k0dn, s0dn) := by kernel_rfl

def qbaw : IC := .reg false [zv 2 (.mov (.c (.bool false)))]
def qboz : IC := .reg false [zm 5 0, zv 6 (.len true (.t 5)), zv 7 (.mov (.c (.int .i64 0)))]
def qbft : IC := .reg false [zv 8 (.bin .lss .no (.t 7) (.t 6))]
def qbqb : IC := .reg false [zm 9 7, zm 3 9]
def qbg6 : IC := .reg false [zm 10 0, zm 11 3, zv 12 (.idx (.t 10) (.t 11)), zm 4 12]
def qbd5 : IC := .reg false [zm 13 4, zi 14 (.call (.c (.fn 108 [] [])) [((.t 13), .id)]), zv 15 (.un .not (.t 14)), zm 16 15, zw 16 true 17 (.mov (.t 4)), ⟨some (16, true), some 18, .call (.c (.fn 111 [] [])) [((.t 17), .id)]⟩, zw 16 true 19 (.un .not (.t 18)), zv 20 (.pick (.t 16) (.t 19) (.c (.bool false))), zm 21 20, zw 21 true 22 (.mov (.t 4)), zw 21 true 23 (.bin .lss .no (.t 22) (.c (.int .u8 48))), zw 21 true 24 (.mov (.t 23)), zw 24 false 25 (.mov (.t 4)), zw 24 false 26 (.bin .gtr .no (.t 25) (.c (.int .u8 57))), zw 21 true 27 (.pick (.t 24) (.c (.bool true)) (.t 26)), zv 28 (.pick (.t 21) (.t 27) (.c (.bool false))), zm 29 28, zw 29 true 30 (.mov (.t 4)), zw 29 true 31 (.bin .neq .no (.t 30) (.c (.int .u8 39))), zv 32 (.pick (.t 29) (.t 31) (.c (.bool false)))]
def qbm4 : IC := .reg false [zv 2 (.mov (.c (.bool false)))]
def qbqc : IC := .reg false [zv 33 (.bin .add .no (.t 7) (.c (.int .i64 1))), zm 7 33]
def qbgk : IC := (.seq qbft (.seq (.cond (.t 8) .skip (.exit 0)) (.seq (.block 1 (.seq qbqb (.seq qbg6 (.seq qbd5 (.cond (.t 32) (.seq qbm4 .ret) .skip))))) qbqc)))
def q9h : IC := .reg false [zv 2 (.mov (.c (.bool true)))]
def k0dp : IC := (.seq qbaw (.seq (.seq qboz (.block 0 (.loop qbgk))) (.seq q9h .ret)))
@[go_sem] def s0dp : List (RV × Co) := [(.t 2, .id)]
theorem c0dp : cFun Tryz.prog 109 = some (34, k0dp, s0dp) := by kernel_rfl

def qbme : IC := .reg false [zv 2 (.mov (.c (.bool false)))]
def qbmk : IC := .reg false [zv 3 (.mov (.c (.bool false)))]
def qbrf : IC := .reg false [zv 6 (.bld [(.str []), (.str []), (.str []), (.str []), (.str []), (.str []), (.str []), (.str []), (.str []), (.str []), (.str [])] [(0, 1, (.c (.str [100, 97, 116, 97]))), (1, 1, (.c (.str [99, 108, 97, 115, 115]))), (2, 1, (.c (.str [105, 110, 115, 116, 97, 110, 99, 101]))), (3, 1, (.c (.str [119, 104, 101, 114, 101]))), (4, 1, (.c (.str [108, 101, 116]))), (5, 1, (.c (.str [105, 110]))), (6, 1, (.c (.str [99, 97, 115, 101]))), (7, 1, (.c (.str [111, 102]))), (8, 1, (.c (.str [105, 102]))), (9, 1, (.c (.str [116, 104, 101, 110]))), (10, 1, (.c (.str [101, 108, 115, 101])))]), zv 7 (.mov (.c (.int .i64 0)))]
def qbng : IC := .reg false [zv 8 (.bin .lss .no (.t 7) (.c (.int .i64 11)))]
def qbnm : IC := .reg false [zv 9 (.ida false 1 11 (.t 6) (.t 7)), zm 5 9]
def qbob : IC := .reg false [zm 10 5, zm 11 0, zv 12 (.bin .neq .no (.t 10) (.t 11))]
def qbd0 : IC := .reg false [zv 3 (.mov (.c (.bool true)))]
def qbh9 : IC := .reg false [zv 13 (.bin .add .no (.t 7) (.c (.int .i64 1))), zm 7 13]
def qbm5 : IC := (.seq qbng (.seq (.cond (.t 8) .skip (.exit 0)) (.seq (.block 1 (.seq qbnm (.seq (.seq qbob (.cond (.t 12) (.exit 1) .skip)) (.seq qbd0 (.exit 0))))) qbh9)))
def q59 : IC := .reg false [zm 14 3, zm 2 14]
def k0dq : IC := (.seq qbme (.scope (.seq qbmk (.seq (.label 0) (.seq (.seq qbrf (.block 0 (.loop qbm5))) (.seq q59 .ret))))))
@[go_sem] def s0dq : List (RV × Co) := [(.t 2, .id)]
theorem c0dq : cFun Tryz.prog 110 = some (15, k0dq, s0dq) := by kernel_rfl

def qbbq : IC := .reg false [zv 2 (.mov (.c (.bool false)))]
def qbpj : IC := .reg false [zm 3 0, zv 4 (.bin .geq .no (.t 3) (.c (.int .u8 65))), zm 5 4, zw 5 true 6 (.mov (.t 0)), zw 5 true 7 (.bin .leq .no (.t 6) (.c (.int .u8 90))), zv 8 (.pick (.t 5) (.t 7) (.c (.bool false))), zm 2 8]
def k0do : IC := (.seq qbbq (.seq qbpj .ret))
@[go_sem] def s0do : List (RV × Co) := [(.t 2, .id)]
theorem c0do : cFun Tryz.prog 111 = some (9, k0do, s0do) := by kernel_rfl

def qbor : IC := .reg false [zi 2 (.alo [(.int .i64 0), (.int .i64 0), (.int .i64 0), (.str []), .nils]), zv 3 (.mov (.c (.bool false)))]
def qbpm : IC := .reg false [zm 7 0, zi 8 (.call (.c (.fn 15 [] [])) [((.t 7), .id)]), zi 4 (.alo [(.int .i64 0), (.int .i64 0), (.int .i64 0), (.str [])]), zn (.st 4 .id (.t 4) (.t 8))]
def qbkm : IC := .reg false [zv 10 (.fad (.t 4) 0), zv 11 (.ld false 1 (.t 10)), zv 12 (.bin .eql .no (.t 11) (.c (.int .i64 1))), zm 9 12]
def qbel : IC := .reg false [zm 13 0, zi 14 (.call (.c (.fn 44 [] [])) [((.t 13), .id)])]
def qbi8 : IC := .reg false [zv 15 (.fad (.t 4) 1), zv 16 (.ld false 1 (.t 15)), zv 17 (.fad (.t 4) 3), zv 18 (.ld false 1 (.t 17)), zv 19 (.bld [(.int .i64 0), (.int .i64 0), (.int .i64 0), (.str []), .nils] [(0, 1, (.c (.int .i64 1))), (1, 1, (.t 16)), (3, 1, (.t 18))]), zn (.st 5 (.agg [.id, .id, .id, .id, (.sl 5)]) (.t 2) (.t 19)), zv 3 (.mov (.c (.bool true)))]
def qbiu : IC := .reg false [zv 21 (.fad (.t 4) 0), zv 22 (.ld false 1 (.t 21)), zv 23 (.bin .eql .no (.t 22) (.c (.int .i64 2))), zm 20 23]
def qbpn : IC := .reg false [zm 24 0, zi 25 (.call (.c (.fn 44 [] [])) [((.t 24), .id)])]
def qbih : IC := .reg false [zv 26 (.fad (.t 4) 1), zv 27 (.ld false 1 (.t 26)), zv 28 (.fad (.t 4) 3), zv 29 (.ld false 1 (.t 28)), zv 30 (.bld [(.int .i64 0), (.int .i64 0), (.int .i64 0), (.str []), .nils] [(0, 1, (.c (.int .i64 2))), (1, 1, (.t 27)), (3, 1, (.t 29))]), zn (.st 5 (.agg [.id, .id, .id, .id, (.sl 5)]) (.t 2) (.t 30)), zv 3 (.mov (.c (.bool true)))]
def qbag : IC := .reg false [zm 32 0, zi 33 (.call (.c (.fn 45 [] [])) [((.t 32), .id), ((.c (.str [40])), .id)]), zv 34 (.un .not (.t 33)), zm 31 34]
def qbdn : IC := .reg false [zv 35 (.bld [(.int .i64 0), (.int .i64 0), (.int .i64 0), (.str []), .nils] []), zm 36 0, zi 37 (.call (.c (.fn 43 [] [])) [((.t 36), .id), ((.c (.int .i64 5)), .id)]), zn (.st 5 (.agg [.id, .id, .id, .id, (.sl 5)]) (.t 2) (.t 35)), zm 3 37]
def q3z : IC := .reg false [zm 38 0, zi 39 (.call (.c (.fn 30 [] [])) [((.t 38), .id)]), zv 40 (.un .not (.t 39))]
def q8h : IC := .reg false [zv 41 (.bld [(.int .i64 0), (.int .i64 0), (.int .i64 0), (.str []), .nils] []), zn (.st 5 (.agg [.id, .id, .id, .id, (.sl 5)]) (.t 2) (.t 41)), zv 3 (.mov (.c (.bool false)))]
def q8d : IC := .reg false [zm 42 0, zi 43 (.call (.c (.fn 44 [] [])) [((.t 42), .id)])]
def q8u : IC := .reg false [zm 45 0, zi 46 (.call (.c (.fn 47 [] [])) [((.t 45), .id)]), zm 44 46, zv 47 (.ext (.t 44) 0), zv 48 (.ext (.t 44) 1), zi 5 (.alo [(.int .i64 0), (.int .i64 0), (.int .i64 0), (.str []), .nils]), zn (.st 5 (.agg [.id, .id, .id, .id, (.sl 5)]) (.t 5) (.t 47)), zm 6 48]
def q3t : IC := .reg false [zm 49 6, zm 50 49, zw 50 true 51 (.mov (.t 0)), ⟨some (50, true), some 52, .call (.c (.fn 49 [] [])) [((.t 51), .id), ((.c (.str [41])), .id)]⟩, zv 53 (.pick (.t 50) (.t 52) (.c (.bool false))), zm 6 53]
def q44 : IC := .reg false [zm 54 0, zi 55 (.call (.c (.fn 32 [] [])) [((.t 54), .id)])]
def q5i : IC := .reg false [zm 56 0, zv 57 (.ld true 5 (.t 5)), zm 58 6, zi 59 (.call (.c (.fn 48 [] [])) [((.t 56), .id), ((.t 57), (.agg [.id, .id, .id, .id, (.sl 5)])), ((.t 58), .id)]), zv 60 (.ext (.t 59) 0), zv 61 (.ext (.t 59) 1), zn (.st 5 (.agg [.id, .id, .id, .id, (.sl 5)]) (.t 2) (.t 60)), zm 3 61]
def k0bw : IC := (.seq qbor (.seq (.seq qbpm (.block 0 (.seq qbkm (.cond (.t 9) (.seq qbel (.seq qbi8 .ret)) (.seq qbiu (.cond (.t 20) (.seq qbpn (.seq qbih .ret)) (.seq qbag (.cond (.t 31) (.seq qbdn .ret) .skip)))))))) (.seq (.seq q3z (.cond (.t 40) (.seq q8h .ret) .skip)) (.seq q8d (.seq q8u (.seq q3t (.seq q44 (.seq q5i .ret))))))))
@[go_sem] def s0bw : List (RV × Co) := [(.c true 5 2, (.agg [.id, .id, .id, .id, (.sl 5)])), (.t 3, .id)]
theorem c0bw : cFun Tryz.prog 114 = some (62, k0bw, s0bw) := by kernel_rfl

def qba6 : IC := .reg false [zv 2 (.mov (.c (.bool false)))]
def qbfs : IC := .reg false [zm 4 0, zi 5 (.call (.c (.fn 15 [] [])) [((.t 4), .id)]), zv 6 (.fld false 1 0 (.t 5)), zm 3 6]
def qbi2 : IC := .reg false [zm 7 3, zv 8 (.bin .eql .no (.t 7) (.c (.int .i64 1))), zm 9 8, zw 9 false 10 (.mov (.t 3)), zw 9 false 11 (.bin .eql .no (.t 10) (.c (.int .i64 2))), zv 12 (.pick (.t 9) (.c (.bool true)) (.t 11)), zm 13 12, zw 13 false 14 (.mov (.t 0)), ⟨some (13, false), some 15, .call (.c (.fn 45 [] [])) [((.t 14), .id), ((.c (.str [40])), .id)]⟩, zv 16 (.pick (.t 13) (.c (.bool true)) (.t 15)), zm 2 16]
def k0bv : IC := (.seq qba6 (.seq qbfs (.seq qbi2 .ret)))
@[go_sem] def s0bv : List (RV × Co) := [(.t 2, .id)]
theorem c0bv : cFun Tryz.prog 115 = some (17, k0bv, s0bv) := by kernel_rfl

def qbj1 : IC := .reg false [zi 1 (.box (.t 0)), zi 2 (.alo [.nils, (.int .i64 0), (.int .i64 0), (.int .i64 0), (.str []), (.int .i64 0), (.int .i64 0), (.int .i64 0)]), zi 3 (.alo [(.int .i64 0), (.int .i64 0), (.int .i64 0), (.str []), .nils])]
def qbqy : IC := .reg false [zv 6 (.ld true 8 (.t 1)), zi 7 (.call (.c (.fn 16 [] [])) [((.t 6), (.agg [(.sl 4), .id, .id, .id, .id, .id, .id, .id]))]), zi 4 (.alo [(.int .i64 0), (.int .i64 0), (.int .i64 0), (.str [])]), zn (.st 4 .id (.t 4) (.t 7))]
def qbk5 : IC := .reg false [zv 9 (.fad (.t 1) 6), zv 10 (.ld false 1 (.t 9)), zv 11 (.bin .neq .no (.t 10) (.c (.int .i64 0))), zm 8 11]
def qbqa : IC := .reg false [zv 12 (.ld true 8 (.t 1)), zv 13 (.bld [(.int .i64 0), (.int .i64 0), (.int .i64 0), (.str []), .nils] []), zn (.st 8 (.agg [(.sl 4), .id, .id, .id, .id, .id, .id, .id]) (.t 2) (.t 12)), zn (.st 5 (.agg [.id, .id, .id, .id, (.sl 5)]) (.t 3) (.t 13))]
def qbnx : IC := .reg false [zv 15 (.fad (.t 4) 0), zv 16 (.ld false 1 (.t 15)), zv 17 (.bin .eql .no (.t 16) (.c (.int .i64 1))), zm 14 17]
def qbhf : IC := .reg false [zv 19 (.ld true 8 (.t 1)), zi 20 (.call (.c (.fn 51 [] [])) [((.t 19), (.agg [(.sl 4), .id, .id, .id, .id, .id, .id, .id]))]), zm 18 20, zv 21 (.ext (.t 18) 0), zv 22 (.ext (.t 18) 1), zn (.st 8 (.agg [(.sl 4), .id, .id, .id, .id, .id, .id, .id]) (.t 1) (.t 21))]
def qbq6 : IC := .drw [zp (zv 23 (.ld true 8 (.t 1))), zp (zv 24 (.fad (.t 4) 1)), zp (zv 25 (.ld false 1 (.t 24))), zp (zv 26 (.fad (.t 4) 3)), zp (zv 27 (.ld false 1 (.t 26))), (zv 28 (.bld [(.int .i64 0), (.int .i64 0), (.int .i64 0), (.str []), .nils] [(0, 1, (.c (.int .i64 1))), (1, 1, (.t 25)), (3, 1, (.t 27))]), []), (zn (.st 8 (.agg [(.sl 4), .id, .id, .id, .id, .id, .id, .id]) (.t 2) (.t 23)), [2, 4]), (zn (.st 5 (.agg [.id, .id, .id, .id, (.sl 5)]) (.t 3) (.t 28)), [])]
def qbgh : IC := .reg false [zv 30 (.fad (.t 4) 0), zv 31 (.ld false 1 (.t 30)), zv 32 (.bin .eql .no (.t 31) (.c (.int .i64 2))), zm 29 32]
def qbpu : IC := .reg false [zv 34 (.ld true 8 (.t 1)), zi 35 (.call (.c (.fn 51 [] [])) [((.t 34), (.agg [(.sl 4), .id, .id, .id, .id, .id, .id, .id]))]), zm 33 35, zv 36 (.ext (.t 33) 0), zv 37 (.ext (.t 33) 1), zn (.st 8 (.agg [(.sl 4), .id, .id, .id, .id, .id, .id, .id]) (.t 1) (.t 36))]
def qbcz : IC := .drw [zp (zv 38 (.ld true 8 (.t 1))), zp (zv 39 (.fad (.t 4) 1)), zp (zv 40 (.ld false 1 (.t 39))), zp (zv 41 (.fad (.t 4) 3)), zp (zv 42 (.ld false 1 (.t 41))), (zv 43 (.bld [(.int .i64 0), (.int .i64 0), (.int .i64 0), (.str []), .nils] [(0, 1, (.c (.int .i64 2))), (1, 1, (.t 40)), (3, 1, (.t 42))]), []), (zn (.st 8 (.agg [(.sl 4), .id, .id, .id, .id, .id, .id, .id]) (.t 2) (.t 38)), [2, 4]), (zn (.st 5 (.agg [.id, .id, .id, .id, (.sl 5)]) (.t 3) (.t 43)), [])]
def q48 : IC := .reg false [zv 45 (.ld true 8 (.t 1)), zi 46 (.call (.c (.fn 52 [] [])) [((.t 45), (.agg [(.sl 4), .id, .id, .id, .id, .id, .id, .id])), ((.c (.str [40])), .id)]), zv 47 (.un .not (.t 46)), zm 44 47]
def q5l : IC := .reg false [zv 48 (.ld true 8 (.t 1)), zi 49 (.call (.c (.fn 50 [] [])) [((.t 48), (.agg [(.sl 4), .id, .id, .id, .id, .id, .id, .id])), ((.c (.int .i64 5)), .id)]), zv 50 (.bld [(.int .i64 0), (.int .i64 0), (.int .i64 0), (.str []), .nils] []), zn (.st 8 (.agg [(.sl 4), .id, .id, .id, .id, .id, .id, .id]) (.t 2) (.t 49)), zn (.st 5 (.agg [.id, .id, .id, .id, (.sl 5)]) (.t 3) (.t 50))]
def q6i : IC := .reg false [zv 52 (.ld true 8 (.t 1)), zi 53 (.call (.c (.fn 33 [] [])) [((.t 52), (.agg [(.sl 4), .id, .id, .id, .id, .id, .id, .id]))]), zm 51 53, zv 54 (.ext (.t 51) 0), zv 55 (.ext (.t 51) 1), zn (.st 8 (.agg [(.sl 4), .id, .id, .id, .id, .id, .id, .id]) (.t 1) (.t 54))]
def q3l : IC := .reg false [zv 57 (.ld true 8 (.t 1)), zi 58 (.call (.c (.fn 28 [] [])) [((.t 57), (.agg [(.sl 4), .id, .id, .id, .id, .id, .id, .id])), ((.c (.str [40])), .id)]), zm 56 58, zv 59 (.ext (.t 56) 0), zv 60 (.ext (.t 56) 1), zn (.st 8 (.agg [(.sl 4), .id, .id, .id, .id, .id, .id, .id]) (.t 1) (.t 59))]
def q7y : IC := .reg false [zv 62 (.ld true 8 (.t 1)), zi 63 (.call (.c (.fn 54 [] [])) [((.t 62), (.agg [(.sl 4), .id, .id, .id, .id, .id, .id, .id]))]), zm 61 63, zv 64 (.ext (.t 61) 0), zv 65 (.ext (.t 61) 1), zi 5 (.alo [(.int .i64 0), (.int .i64 0), (.int .i64 0), (.str []), .nils]), zn (.st 8 (.agg [(.sl 4), .id, .id, .id, .id, .id, .id, .id]) (.t 1) (.t 64)), zn (.st 5 (.agg [.id, .id, .id, .id, (.sl 5)]) (.t 5) (.t 65))]
def q7c : IC := .reg false [zv 67 (.ld true 8 (.t 1)), zi 68 (.call (.c (.fn 28 [] [])) [((.t 67), (.agg [(.sl 4), .id, .id, .id, .id, .id, .id, .id])), ((.c (.str [41])), .id)]), zm 66 68, zv 69 (.ext (.t 66) 0), zv 70 (.ext (.t 66) 1), zn (.st 8 (.agg [(.sl 4), .id, .id, .id, .id, .id, .id, .id]) (.t 1) (.t 69))]
def q7k : IC := .drw [zp (zv 71 (.ld true 8 (.t 1))), (zi 72 (.call (.c (.fn 35 [] [])) [((.t 71), (.agg [(.sl 4), .id, .id, .id, .id, .id, .id, .id]))]), []), (zv 73 (.ld true 5 (.t 5)), [1]), (zn (.st 8 (.agg [(.sl 4), .id, .id, .id, .id, .id, .id, .id]) (.t 2) (.t 72)), [2]), (zn (.st 5 (.agg [.id, .id, .id, .id, (.sl 5)]) (.t 3) (.t 73)), [])]
def k0bn : IC := (.seq qbj1 (.seq qbqy (.seq (.block 0 (.seq qbk5 (.cond (.t 8) (.seq qbqa .ret) (.seq qbnx (.cond (.t 14) (.seq qbhf (.seq qbq6 .ret)) (.seq qbgh (.cond (.t 29) (.seq qbpu (.seq qbcz .ret)) (.seq q48 (.cond (.t 44) (.seq q5l .ret) .skip))))))))) (.seq q6i (.seq q3l (.seq q7y (.seq q7c (.seq q7k .ret))))))))
@[go_sem] def s0bn : List (RV × Co) := [(.c true 8 2, (.agg [(.sl 4), .id, .id, .id, .id, .id, .id, .id])), (.c true 5 3, (.agg [.id, .id, .id, .id, (.sl 5)]))]
theorem c0bn : cFun Tryz.prog 116 = some (74, k0bn, s0bn) := by kernel_rfl

def qbhs : IC := .reg false [zi 1 (.box (.t 0)), zv 2 (.mov (.c (.bool false)))]
def qbid : IC := .reg false [zv 4 (.ld true 8 (.t 1)), zi 5 (.call (.c (.fn 16 [] [])) [((.t 4), (.agg [(.sl 4), .id, .id, .id, .id, .id, .id, .id]))]), zv 6 (.fld false 1 0 (.t 5)), zm 3 6]
def qba2 : IC := .reg false [zv 7 (.fad (.t 1) 6), zv 8 (.ld false 1 (.t 7)), zv 9 (.bin .eql .no (.t 8) (.c (.int .i64 0))), zm 10 9, zw 10 true 11 (.mov (.t 3)), zw 10 true 12 (.bin .eql .no (.t 11) (.c (.int .i64 1))), zw 10 true 13 (.mov (.t 12)), zw 13 false 14 (.mov (.t 3)), zw 13 false 15 (.bin .eql .no (.t 14) (.c (.int .i64 2))), zw 10 true 16 (.pick (.t 13) (.c (.bool true)) (.t 15)), zw 10 true 17 (.mov (.t 16)), zw 17 false 18 (.ld true 8 (.t 1)), ⟨some (17, false), some 19, .call (.c (.fn 52 [] [])) [((.t 18), (.agg [(.sl 4), .id, .id, .id, .id, .id, .id, .id])), ((.c (.str [40])), .id)]⟩, zw 10 true 20 (.pick (.t 17) (.c (.bool true)) (.t 19)), zv 21 (.pick (.t 10) (.t 20) (.c (.bool false))), zm 2 21]
def k0bm : IC := (.seq qbhs (.seq qbid (.seq qba2 .ret)))
@[go_sem] def s0bm : List (RV × Co) := [(.t 2, .id)]
theorem c0bm : cFun Tryz.prog 117 = some (22, k0bm, s0bm) := by kernel_rfl

def qbej : IC := .reg false [zi 2 (.alo [(.int .i64 0), (.int .i64 0), (.int .i64 0), (.str []), .nils]), zv 3 (.mov (.c (.bool false)))]
def qbg2 : IC := .reg false [zm 9 0, zi 10 (.call (.c (.fn 133 [] [])) [((.t 9), .id)]), zm 8 10, zv 11 (.ext (.t 8) 0), zv 12 (.ext (.t 8) 1), zi 4 (.alo [(.int .i64 0), (.int .i64 0), (.int .i64 0), (.str []), .nils]), zn (.st 5 (.agg [.id, .id, .id, .id, (.sl 5)]) (.t 4) (.t 11)), zm 5 12]
def qbaz : IC := .reg false [zm 13 5]
def qbgx : IC := .reg false [zm 14 0, zi 15 (.call (.c (.fn 44 [] [])) [((.t 14), .id)])]
def qbjd : IC := .reg false [zv 16 (.ld true 5 (.t 4)), zn (.st 5 (.agg [.id, .id, .id, .id, (.sl 5)]) (.t 2) (.t 16)), zv 3 (.mov (.c (.bool true)))]
def qbjr : IC := .reg false [zm 17 0, zi 18 (.call (.c (.fn 45 [] [])) [((.t 17), .id), ((.c (.str [40])), .id)]), zv 19 (.un .not (.t 18))]
def qbhn : IC := .reg false [zv 20 (.bld [(.int .i64 0), (.int .i64 0), (.int .i64 0), (.str []), .nils] []), zm 21 0, zi 22 (.call (.c (.fn 43 [] [])) [((.t 21), .id), ((.c (.int .i64 5)), .id)]), zn (.st 5 (.agg [.id, .id, .id, .id, (.sl 5)]) (.t 2) (.t 20)), zm 3 22]
def qbdd : IC := .reg false [zm 23 0, zi 24 (.call (.c (.fn 30 [] [])) [((.t 23), .id)]), zv 25 (.un .not (.t 24))]
def qbp7 : IC := .reg false [zv 26 (.bld [(.int .i64 0), (.int .i64 0), (.int .i64 0), (.str []), .nils] []), zn (.st 5 (.agg [.id, .id, .id, .id, (.sl 5)]) (.t 2) (.t 26)), zv 3 (.mov (.c (.bool false)))]
def qbic : IC := .reg false [zm 27 0, zi 28 (.call (.c (.fn 44 [] [])) [((.t 27), .id)])]
def q8l : IC := .reg false [zm 30 0, zi 31 (.call (.c (.fn 91 [] [])) [((.t 30), .id)]), zm 29 31, zv 32 (.ext (.t 29) 0), zv 33 (.ext (.t 29) 1), zi 6 (.alo [(.int .i64 0), (.int .i64 0), (.int .i64 0), (.str []), .nils]), zn (.st 5 (.agg [.id, .id, .id, .id, (.sl 5)]) (.t 6) (.t 32)), zm 7 33]
def q5k : IC := .reg false [zm 34 7, zv 35 (.un .not (.t 34)), zm 36 35, zw 36 false 37 (.mov (.t 0)), ⟨some (36, false), some 38, .call (.c (.fn 49 [] [])) [((.t 37), .id), ((.c (.str [41])), .id)]⟩, zw 36 false 39 (.un .not (.t 38)), zv 40 (.pick (.t 36) (.c (.bool true)) (.t 39))]
def q60 : IC := .reg false [zv 41 (.bld [(.int .i64 0), (.int .i64 0), (.int .i64 0), (.str []), .nils] []), zn (.st 5 (.agg [.id, .id, .id, .id, (.sl 5)]) (.t 2) (.t 41)), zv 3 (.mov (.c (.bool false)))]
def q71 : IC := .reg false [zm 42 0, zi 43 (.call (.c (.fn 32 [] [])) [((.t 42), .id)])]
def q5p : IC := .reg false [zv 44 (.ld true 5 (.t 6)), zn (.st 5 (.agg [.id, .id, .id, .id, (.sl 5)]) (.t 2) (.t 44)), zv 3 (.mov (.c (.bool true)))]
def k0bh : IC := (.seq qbej (.seq (.seq qbg2 (.seq qbaz (.cond (.t 13) (.seq qbgx (.seq qbjd .ret)) .skip))) (.seq (.seq qbjr (.cond (.t 19) (.seq qbhn .ret) .skip)) (.seq (.seq qbdd (.cond (.t 25) (.seq qbp7 .ret) .skip)) (.seq qbic (.seq q8l (.seq (.seq q5k (.cond (.t 40) (.seq q60 .ret) .skip)) (.seq q71 (.seq q5p .ret)))))))))
@[go_sem] def s0bh : List (RV × Co) := [(.c true 5 2, (.agg [.id, .id, .id, .id, (.sl 5)])), (.t 3, .id)]
theorem c0bh : cFun Tryz.prog 118 = some (45, k0bh, s0bh) := by kernel_rfl

def qbn1 : IC := .reg false [zv 2 (.mov (.c (.bool false)))]
def qbet : IC := .reg false [zm 6 0, zi 7 (.call (.c (.fn 133 [] [])) [((.t 6), .id)]), zm 5 7, zv 8 (.ext (.t 5) 0), zv 9 (.ext (.t 5) 1), zi 3 (.alo [(.int .i64 0), (.int .i64 0), (.int .i64 0), (.str []), .nils]), zn (.st 5 (.agg [.id, .id, .id, .id, (.sl 5)]) (.t 3) (.t 8)), zm 4 9]
def qbcu : IC := .reg false [zm 10 4, zm 11 10, zw 11 false 12 (.mov (.t 0)), ⟨some (11, false), some 13, .call (.c (.fn 45 [] [])) [((.t 12), .id), ((.c (.str [40])), .id)]⟩, zv 14 (.pick (.t 11) (.c (.bool true)) (.t 13)), zm 2 14]
def k0bg : IC := (.seq qbn1 (.seq qbet (.seq qbcu .ret)))
@[go_sem] def s0bg : List (RV × Co) := [(.t 2, .id)]
theorem c0bg : cFun Tryz.prog 119 = some (15, k0bg, s0bg) := by kernel_rfl

def qba4 : IC := .reg false [zi 1 (.box (.t 0)), zi 2 (.alo [.nils, (.int .i64 0), (.int .i64 0), (.int .i64 0), (.str []), (.int .i64 0), (.int .i64 0), (.int .i64 0)]), zi 3 (.alo [(.int .i64 0), (.int .i64 0), (.int .i64 0), (.str []), .nils])]
def qbod : IC := .reg false [zv 7 (.ld true 8 (.t 1)), zi 8 (.call (.c (.fn 16 [] [])) [((.t 7), (.agg [(.sl 4), .id, .id, .id, .id, .id, .id, .id]))]), zi 4 (.alo [(.int .i64 0), (.int .i64 0), (.int .i64 0), (.str [])]), zn (.st 4 .id (.t 4) (.t 8))]
def qbf6 : IC := .reg false [zv 9 (.ld true 8 (.t 1)), zi 10 (.call (.c (.fn 121 [] [])) [((.t 9), (.agg [(.sl 4), .id, .id, .id, .id, .id, .id, .id]))]), zv 11 (.un .not (.t 10))]
def qbh2 : IC := .reg false [zv 12 (.ld true 8 (.t 1)), zi 13 (.call (.c (.fn 50 [] [])) [((.t 12), (.agg [(.sl 4), .id, .id, .id, .id, .id, .id, .id])), ((.c (.int .i64 5)), .id)]), zv 14 (.bld [(.int .i64 0), (.int .i64 0), (.int .i64 0), (.str []), .nils] []), zn (.st 8 (.agg [(.sl 4), .id, .id, .id, .id, .id, .id, .id]) (.t 2) (.t 13)), zn (.st 5 (.agg [.id, .id, .id, .id, (.sl 5)]) (.t 3) (.t 14))]
def qboy : IC := .reg false [zv 15 (.ld true 8 (.t 1)), zi 16 (.call (.c (.fn 52 [] [])) [((.t 15), (.agg [(.sl 4), .id, .id, .id, .id, .id, .id, .id])), ((.c (.str [40])), .id)])]
def qbln : IC := .reg false [zv 18 (.ld true 8 (.t 1)), zi 19 (.call (.c (.fn 33 [] [])) [((.t 18), (.agg [(.sl 4), .id, .id, .id, .id, .id, .id, .id]))]), zm 17 19, zv 20 (.ext (.t 17) 0), zv 21 (.ext (.t 17) 1), zn (.st 8 (.agg [(.sl 4), .id, .id, .id, .id, .id, .id, .id]) (.t 1) (.t 20))]
def qbh7 : IC := .reg false [zv 23 (.ld true 8 (.t 1)), zi 24 (.call (.c (.fn 28 [] [])) [((.t 23), (.agg [(.sl 4), .id, .id, .id, .id, .id, .id, .id])), ((.c (.str [40])), .id)]), zm 22 24, zv 25 (.ext (.t 22) 0), zv 26 (.ext (.t 22) 1), zn (.st 8 (.agg [(.sl 4), .id, .id, .id, .id, .id, .id, .id]) (.t 1) (.t 25))]
def qbg1 : IC := .reg false [zv 28 (.ld true 8 (.t 1)), zi 29 (.call (.c (.fn 95 [] [])) [((.t 28), (.agg [(.sl 4), .id, .id, .id, .id, .id, .id, .id]))]), zm 27 29, zv 30 (.ext (.t 27) 0), zv 31 (.ext (.t 27) 1), zi 5 (.alo [.nils, (.int .i64 0), (.int .i64 0), (.int .i64 0), (.str []), (.int .i64 0), (.int .i64 0), (.int .i64 0)]), zi 6 (.alo [(.int .i64 0), (.int .i64 0), (.int .i64 0), (.str []), .nils]), zn (.st 8 (.agg [(.sl 4), .id, .id, .id, .id, .id, .id, .id]) (.t 5) (.t 30)), zn (.st 5 (.agg [.id, .id, .id, .id, (.sl 5)]) (.t 6) (.t 31))]
def qbck : IC := .reg false [zv 33 (.ld true 8 (.t 5)), zi 34 (.call (.c (.fn 28 [] [])) [((.t 33), (.agg [(.sl 4), .id, .id, .id, .id, .id, .id, .id])), ((.c (.str [41])), .id)]), zm 32 34, zv 35 (.ext (.t 32) 0), zv 36 (.ext (.t 32) 1), zn (.st 8 (.agg [(.sl 4), .id, .id, .id, .id, .id, .id, .id]) (.t 5) (.t 35))]
def qbn3 : IC := .drw [zp (zv 37 (.ld true 8 (.t 5))), (zi 38 (.call (.c (.fn 35 [] [])) [((.t 37), (.agg [(.sl 4), .id, .id, .id, .id, .id, .id, .id]))]), []), (zv 39 (.ld true 5 (.t 6)), [1]), (zn (.st 8 (.agg [(.sl 4), .id, .id, .id, .id, .id, .id, .id]) (.t 2) (.t 38)), [2]), (zn (.st 5 (.agg [.id, .id, .id, .id, (.sl 5)]) (.t 3) (.t 39)), [])]
def q8n : IC := .reg false [zv 41 (.ld true 8 (.t 1)), zi 42 (.call (.c (.fn 51 [] [])) [((.t 41), (.agg [(.sl 4), .id, .id, .id, .id, .id, .id, .id]))]), zm 40 42, zv 43 (.ext (.t 40) 0), zv 44 (.ext (.t 40) 1), zn (.st 8 (.agg [(.sl 4), .id, .id, .id, .id, .id, .id, .id]) (.t 1) (.t 43))]
def q7x : IC := .reg false [zv 45 (.fad (.t 4) 0), zv 46 (.ld false 1 (.t 45))]
def q63 : IC := .reg false [zv 48 (.bin .eql .no (.t 46) (.c (.int .i64 1))), zm 47 48]
def q53 : IC := .drw [zp (zv 49 (.ld true 8 (.t 1))), zp (zv 50 (.fad (.t 4) 1)), zp (zv 51 (.ld false 1 (.t 50))), zp (zv 52 (.fad (.t 4) 3)), zp (zv 53 (.ld false 1 (.t 52))), (zv 54 (.bld [(.int .i64 0), (.int .i64 0), (.int .i64 0), (.str []), .nils] [(0, 1, (.c (.int .i64 11))), (1, 1, (.t 51)), (3, 1, (.t 53))]), []), (zn (.st 8 (.agg [(.sl 4), .id, .id, .id, .id, .id, .id, .id]) (.t 2) (.t 49)), [2, 4]), (zn (.st 5 (.agg [.id, .id, .id, .id, (.sl 5)]) (.t 3) (.t 54)), [])]
def q4p : IC := .reg false [zv 56 (.bin .eql .no (.t 46) (.c (.int .i64 2))), zm 55 56]
def q3u : IC := .drw [zp (zv 57 (.ld true 8 (.t 1))), zp (zv 58 (.fad (.t 4) 1)), zp (zv 59 (.ld false 1 (.t 58))), zp (zv 60 (.fad (.t 4) 3)), zp (zv 61 (.ld false 1 (.t 60))), (zv 62 (.bld [(.int .i64 0), (.int .i64 0), (.int .i64 0), (.str []), .nils] [(0, 1, (.c (.int .i64 14))), (1, 1, (.t 59)), (3, 1, (.t 61))]), []), (zn (.st 8 (.agg [(.sl 4), .id, .id, .id, .id, .id, .id, .id]) (.t 2) (.t 57)), [2, 4]), (zn (.st 5 (.agg [.id, .id, .id, .id, (.sl 5)]) (.t 3) (.t 62)), [])]
def q6m : IC := .reg false [zv 64 (.bin .eql .no (.t 46) (.c (.int .i64 3))), zm 63 64]
def q9c : IC := .drw [zp (zv 65 (.ld true 8 (.t 1))), zp (zv 66 (.fad (.t 4) 1)), zp (zv 67 (.ld false 1 (.t 66))), zp (zv 68 (.fad (.t 4) 2)), zp (zv 69 (.ld false 1 (.t 68))), (zv 70 (.bld [(.int .i64 0), (.int .i64 0), (.int .i64 0), (.str []), .nils] [(0, 1, (.c (.int .i64 13))), (1, 1, (.t 67)), (2, 1, (.t 69))]), []), (zn (.st 8 (.agg [(.sl 4), .id, .id, .id, .id, .id, .id, .id]) (.t 2) (.t 65)), [2, 4]), (zn (.st 5 (.agg [.id, .id, .id, .id, (.sl 5)]) (.t 3) (.t 70)), [])]
def q5h : IC := .drw [zp (zv 71 (.ld true 8 (.t 1))), zp (zv 72 (.fad (.t 4) 1)), zp (zv 73 (.ld false 1 (.t 72))), (zv 74 (.bld [(.int .i64 0), (.int .i64 0), (.int .i64 0), (.str []), .nils] [(0, 1, (.c (.int .i64 12))), (1, 1, (.t 73))]), []), (zn (.st 8 (.agg [(.sl 4), .id, .id, .id, .id, .id, .id, .id]) (.t 2) (.t 71)), [2]), (zn (.st 5 (.agg [.id, .id, .id, .id, (.sl 5)]) (.t 3) (.t 74)), [])]
def k0bd : IC := (.seq qba4 (.seq qbod (.seq (.seq qbf6 (.cond (.t 11) (.seq qbh2 .ret) .skip)) (.seq (.seq qboy (.cond (.t 16) (.seq qbln (.seq qbh7 (.seq qbg1 (.seq qbck (.seq qbn3 .ret))))) .skip)) (.seq q8n (.seq (.seq q7x (.block 0 (.seq q63 (.cond (.t 47) (.seq q53 .ret) (.seq q4p (.cond (.t 55) (.seq q3u .ret) (.seq q6m (.cond (.t 63) (.seq q9c .ret) .skip)))))))) (.seq q5h .ret)))))))
@[go_sem] def s0bd : List (RV × Co) := [(.c true 8 2, (.agg [(.sl 4), .id, .id, .id, .id, .id, .id, .id])), (.c true 5 3, (.agg [.id, .id, .id, .id, (.sl 5)]))]
theorem c0bd : cFun Tryz.prog 120 = some (75, k0bd, s0bd) := by kernel_rfl

def qbl2 : IC := .reg false [zi 1 (.box (.t 0)), zv 2 (.mov (.c (.bool false)))]
def qbbh : IC := .reg false [zv 4 (.ld true 8 (.t 1)), zi 5 (.call (.c (.fn 16 [] [])) [((.t 4), (.agg [(.sl 4), .id, .id, .id, .id, .id, .id, .id]))]), zv 6 (.fld false 1 0 (.t 5)), zm 3 6]
def qbko : IC := .reg false [zv 7 (.fad (.t 1) 6), zv 8 (.ld false 1 (.t 7)), zv 9 (.bin .eql .no (.t 8) (.c (.int .i64 0))), zm 10 9, zw 10 true 11 (.mov (.t 3)), zw 10 true 12 (.bin .eql .no (.t 11) (.c (.int .i64 1))), zw 10 true 13 (.mov (.t 12)), zw 13 false 14 (.mov (.t 3)), zw 13 false 15 (.bin .eql .no (.t 14) (.c (.int .i64 2))), zw 10 true 16 (.pick (.t 13) (.c (.bool true)) (.t 15)), zw 10 true 17 (.mov (.t 16)), zw 17 false 18 (.mov (.t 3)), zw 17 false 19 (.bin .eql .no (.t 18) (.c (.int .i64 3))), zw 10 true 20 (.pick (.t 17) (.c (.bool true)) (.t 19)), zw 10 true 21 (.mov (.t 20)), zw 21 false 22 (.ld true 8 (.t 1)), ⟨some (21, false), some 23, .call (.c (.fn 52 [] [])) [((.t 22), (.agg [(.sl 4), .id, .id, .id, .id, .id, .id, .id])), ((.c (.str [95])), .id)]⟩, zw 10 true 24 (.pick (.t 21) (.c (.bool true)) (.t 23)), zw 10 true 25 (.mov (.t 24)), zw 25 false 26 (.ld true 8 (.t 1)), ⟨some (25, false), some 27, .call (.c (.fn 52 [] [])) [((.t 26), (.agg [(.sl 4), .id, .id, .id, .id, .id, .id, .id])), ((.c (.str [40])), .id)]⟩, zw 10 true 28 (.pick (.t 25) (.c (.bool true)) (.t 27)), zv 29 (.pick (.t 10) (.t 28) (.c (.bool false))), zm 2 29]
def k0bc : IC := (.seq qbl2 (.seq qbbh (.seq qbko .ret)))
@[go_sem] def s0bc : List (RV × Co) := [(.t 2, .id)]
theorem c0bc : cFun Tryz.prog 121 = some (30, k0bc, s0bc) := by kernel_rfl

def qbmd : IC := .reg false [zv 4 (.mov (.c (.int .i64 0)))]
def qba3 : IC := .reg false [zm 6 0, zv 7 (.len true (.t 6)), zv 8 (.mov (.c (.int .i64 0)))]
def qbbm : IC := .reg false [zv 9 (.bin .lss .no (.t 8) (.t 7))]
def qbqq : IC := .reg false [zm 10 8, zm 5 10]
def qbeq : IC := .reg false [zm 11 1, zm 12 0, zm 13 5, zv 14 (.idx (.t 12) (.t 13)), zi 15 (.call (.t 11) [((.t 14), .id)]), zv 16 (.un .not (.t 15))]
def qbbu : IC := .reg false [zm 17 5, zm 4 17]
def qbjx : IC := .reg false [zv 18 (.bin .add .no (.t 8) (.c (.int .i64 1))), zm 8 18]
def qbbk : IC := (.seq qbbm (.seq (.cond (.t 9) .skip (.exit 0)) (.seq (.block 1 (.seq qbqq (.seq qbeq (.cond (.t 16) (.seq qbbu .ret) .skip)))) qbjx)))
def qbmg : IC := .reg false [zm 19 0, zv 20 (.len true (.t 19)), zm 4 20]
def k0dh : IC := (.seq qbmd (.seq (.seq qba3 (.block 0 (.loop qbbk))) (.seq qbmg .ret)))
@[go_sem] def s0dh : List (RV × Co) := [(.t 4, .id)]
theorem c0dh : cFun Tryz.prog 122 = some (21, k0dh, s0dh) := by kernel_rfl

def qbf8 : IC := .reg false [zv 2 (.mov (.c (.bool false)))]
def qbho : IC := .reg false [zm 3 0, zv 4 (.bin .eql .no (.t 3) (.c (.int .u8 9))), zm 5 4, zw 5 false 6 (.mov (.t 0)), zw 5 false 7 (.bin .eql .no (.t 6) (.c (.int .u8 10))), zv 8 (.pick (.t 5) (.c (.bool true)) (.t 7)), zm 9 8, zw 9 false 10 (.mov (.t 0)), zw 9 false 11 (.bin .eql .no (.t 10) (.c (.int .u8 13))), zv 12 (.pick (.t 9) (.c (.bool true)) (.t 11)), zm 13 12, zw 13 false 14 (.mov (.t 0)), zw 13 false 15 (.bin .eql .no (.t 14) (.c (.int .u8 32))), zv 16 (.pick (.t 13) (.c (.bool true)) (.t 15)), zm 2 16]
def k0df : IC := (.seq qbf8 (.seq qbho .ret))
@[go_sem] def s0df : List (RV × Co) := [(.t 2, .id)]
theorem c0df : cFun Tryz.prog 123 = some (17, k0df, s0df) := by kernel_rfl

def qbnb : IC := .reg false [zv 4 (.mov (.c (.bool false)))]
def qbre : IC := .reg false [zm 5 0, zm 6 1, zi 7 (.call (.c (.fn 134 [] [])) [((.t 5), .id), ((.t 6), .id)]), zm 4 7]
def k0dj : IC := (.seq qbnb (.seq qbre .ret))
@[go_sem] def s0dj : List (RV × Co) := [(.t 4, .id)]
theorem c0dj : cFun Tryz.prog 124 = some (8, k0dj, s0dj) := by kernel_rfl

def qbpg : IC := .reg false [zv 2 (.mov (.c (.bool false)))]
def qbrd : IC := .reg false [zm 3 0, zv 4 (.bin .neq .no (.t 3) (.c (.int .u8 10))), zm 2 4]
def k0dg : IC := (.seq qbpg (.seq qbrd .ret))
@[go_sem] def s0dg : List (RV × Co) := [(.t 2, .id)]
theorem c0dg : cFun Tryz.prog 125 = some (5, k0dg, s0dg) := by kernel_rfl

def qbom : IC := .reg false [zv 2 (.mov (.c (.bool false)))]
def qblh : IC := .reg false [zm 3 0, zv 4 (.bin .geq .no (.t 3) (.c (.int .u8 48))), zm 5 4, zw 5 true 6 (.mov (.t 0)), zw 5 true 7 (.bin .leq .no (.t 6) (.c (.int .u8 57))), zv 8 (.pick (.t 5) (.t 7) (.c (.bool false))), zm 2 8]
def k0dd : IC := (.seq qbom (.seq qblh .ret))
@[go_sem] def s0dd : List (RV × Co) := [(.t 2, .id)]
theorem c0dd : cFun Tryz.prog 126 = some (9, k0dd, s0dd) := by kernel_rfl

def qbpl : IC := .reg false [zv 2 (.mov (.c (.int .i64 0))), zv 3 (.mov (.c (.int .i64 0)))]
def qbj9 : IC := .reg false [zm 8 0, zv 9 (.len true (.t 8)), zv 10 (.mov (.c (.int .i64 0)))]
def qbiq : IC := .reg false [zv 11 (.bin .lss .no (.t 10) (.t 9))]
def qbjy : IC := .reg false [zm 12 10, zm 4 12]
def qba1 : IC := .reg false [zm 13 0, zm 14 4, zv 15 (.idx (.t 13) (.t 14)), zv 16 (.bin .lss .no (.t 15) (.c (.int .u8 48))), zm 17 16, zw 17 false 18 (.mov (.t 0)), zw 17 false 19 (.mov (.t 4)), zw 17 false 20 (.idx (.t 18) (.t 19)), zw 17 false 21 (.bin .gtr .no (.t 20) (.c (.int .u8 57))), zv 22 (.pick (.t 17) (.c (.bool true)) (.t 21))]
def qbhx : IC := .reg false [zv 2 (.mov (.c (.int .i64 0))), zv 3 (.mov (.c (.int .i64 5)))]
def qbbt : IC := .reg false [zv 23 (.bin .add .no (.t 10) (.c (.int .i64 1))), zm 10 23]
def qbgw : IC := (.seq qbiq (.seq (.cond (.t 11) .skip (.exit 0)) (.seq (.block 1 (.seq qbjy (.seq qba1 (.cond (.t 22) (.seq qbhx .ret) .skip)))) qbbt)))
def qbll : IC := .reg false [zm 24 0, zv 25 (.bin .eql .no (.t 24) (.c (.str [])))]
def q3s : IC := .reg false [zv 2 (.mov (.c (.int .i64 0))), zv 3 (.mov (.c (.int .i64 5)))]
def q5r : IC := .reg false [zv 5 (.mov (.c (.int .i64 0))), zv 6 (.mov (.c (.int .i64 0)))]
def q33 : IC := .reg false [zm 26 0, zm 27 6, zv 28 (.idx (.t 26) (.t 27)), zv 29 (.bin .sub .no (.t 28) (.c (.int .u8 48))), zv 30 (.cvi .i64 (.t 29)), zm 7 30]
def q76 : IC := .reg false [zm 31 5, zm 32 7, zv 33 (.bin .sub .no (.c (.int .i64 9223372036854775807)) (.t 32)), zv 34 (.bin .quo .no (.t 33) (.c (.int .i64 10))), zv 35 (.bin .gtr .no (.t 31) (.t 34))]
def q7a : IC := .reg false [zv 2 (.mov (.c (.int .i64 0))), zv 3 (.mov (.c (.int .i64 4)))]
def q57 : IC := .reg false [zm 36 5, zv 37 (.bin .mul .no (.c (.int .i64 10)) (.t 36)), zm 38 7, zv 39 (.bin .add .no (.t 37) (.t 38)), zm 5 39]
def q9i : IC := .reg false [zm 40 6, zv 41 (.bin .add .no (.t 40) (.c (.int .i64 1))), zm 6 41]
def q37 : IC := .reg false [zm 42 6, zm 43 0, zv 44 (.len true (.t 43)), zv 45 (.bin .lss .no (.t 42) (.t 44))]
def q8c : IC := .reg false [zm 46 5, zm 2 46, zv 3 (.mov (.c (.int .i64 0)))]
def k0dm : IC := (.seq qbpl (.scope (.seq (.seq qbj9 (.block 0 (.loop qbgw))) (.seq (.seq qbll (.cond (.t 25) (.seq q3s .ret) .skip)) (.seq q5r (.seq (.label 0) (.seq q33 (.seq (.seq q76 (.cond (.t 35) (.seq q7a .ret) .skip)) (.seq q57 (.seq (.seq q9i (.seq q37 (.cond (.t 45) (.goto 0) .skip))) (.seq q8c .ret)))))))))))
@[go_sem] def s0dm : List (RV × Co) := [(.t 2, .id), (.t 3, .id)]
theorem c0dm : cFun Tryz.prog 127 = some (47, k0dm, s0dm) := by kernel_rfl

def qbpt : IC := .reg false [zv 2 (.mov (.c (.bool false)))]
def qbgi : IC := .reg false [zm 3 0, zv 4 (.bin .geq .no (.t 3) (.c (.int .u8 97))), zm 5 4, zw 5 true 6 (.mov (.t 0)), zw 5 true 7 (.bin .leq .no (.t 6) (.c (.int .u8 122))), zv 8 (.pick (.t 5) (.t 7) (.c (.bool false))), zm 9 8, zw 9 false 10 (.mov (.t 0)), zw 9 false 11 (.bin .geq .no (.t 10) (.c (.int .u8 65))), zw 9 false 12 (.mov (.t 11)), zw 12 true 13 (.mov (.t 0)), zw 12 true 14 (.bin .leq .no (.t 13) (.c (.int .u8 90))), zw 9 false 15 (.pick (.t 12) (.t 14) (.c (.bool false))), zv 16 (.pick (.t 9) (.c (.bool true)) (.t 15)), zm 17 16, zw 17 false 18 (.mov (.t 0)), zw 17 false 19 (.bin .eql .no (.t 18) (.c (.int .u8 95))), zv 20 (.pick (.t 17) (.c (.bool true)) (.t 19)), zm 21 20, zw 21 false 22 (.mov (.t 0)), zw 21 false 23 (.bin .eql .no (.t 22) (.c (.int .u8 39))), zv 24 (.pick (.t 21) (.c (.bool true)) (.t 23)), zm 25 24, zw 25 false 26 (.mov (.t 0)), ⟨some (25, false), some 27, .call (.c (.fn 126 [] [])) [((.t 26), .id)]⟩, zv 28 (.pick (.t 25) (.c (.bool true)) (.t 27)), zm 2 28]
def k0de : IC := (.seq qbpt (.seq qbgi .ret))
@[go_sem] def s0de : List (RV × Co) := [(.t 2, .id)]
theorem c0de : cFun Tryz.prog 128 = some (29, k0de, s0de) := by kernel_rfl

def qbfj : IC := .reg false [zi 2 (.alo [(.int .i64 0), (.int .i64 0), (.int .i64 0), (.str [])])]
def qbde : IC := .reg false [zm 4 0, zv 5 (.bld [(.int .i64 0), (.int .i64 0), (.int .i64 0), (.str [])] [(0, 1, (.c (.int .i64 1))), (3, 1, (.t 4))]), zi 3 (.alo [(.int .i64 0), (.int .i64 0), (.int .i64 0), (.str [])]), zn (.st 4 .id (.t 3) (.t 5))]
def qbmy : IC := .reg false [zm 7 0, zv 8 (.bin .eql .no (.t 7) (.c (.str [95]))), zm 6 8]
def qbk3 : IC := .reg false [zv 9 (.fad (.t 3) 0), zn (.st 1 .id (.t 9) (.c (.int .i64 5)))]
def qbl8 : IC := .reg false [zm 11 0, zi 12 (.call (.c (.fn 110 [] [])) [((.t 11), .id)]), zm 10 12]
def qbd4 : IC := .reg false [zv 13 (.fad (.t 3) 0), zn (.st 1 .id (.t 13) (.c (.int .i64 4)))]
def qbem : IC := .reg false [zm 15 0, zi 16 (.call (.c (.fn 72 [] [])) [((.t 15), .id)]), zm 14 16]
def qbj4 : IC := .reg false [zv 17 (.fad (.t 3) 0), zn (.st 1 .id (.t 17) (.c (.int .i64 2)))]
def qbi1 : IC := .reg false [zv 18 (.ld true 4 (.t 3)), zn (.st 4 .id (.t 2) (.t 18))]
def k0da : IC := (.seq qbfj (.seq qbde (.seq (.block 0 (.seq qbmy (.cond (.t 6) qbk3 (.seq qbl8 (.cond (.t 10) qbd4 (.seq qbem (.cond (.t 14) qbj4 .skip))))))) (.seq qbi1 .ret))))
@[go_sem] def s0da : List (RV × Co) := [(.c true 4 2, .id)]
theorem c0da : cFun Tryz.prog 129 = some (19, k0da, s0da) := by kernel_rfl

def qbpp : IC := .reg false [zv 2 (.mov (.c (.int .i64 0)))]
def qbc5 : IC := .reg false [zv 5 (.bld [(.str []), (.str []), (.str []), (.str []), (.str []), (.str []), (.str []), (.str []), (.str []), (.str []), (.str []), (.str [])] [(0, 1, (.c (.str [45, 62]))), (1, 1, (.c (.str [61, 62]))), (2, 1, (.c (.str [58, 58]))), (3, 1, (.c (.str [40]))), (4, 1, (.c (.str [41]))), (5, 1, (.c (.str [123]))), (6, 1, (.c (.str [125]))), (7, 1, (.c (.str [59]))), (8, 1, (.c (.str [44]))), (9, 1, (.c (.str [61]))), (10, 1, (.c (.str [124]))), (11, 1, (.c (.str [92])))]), zv 6 (.mov (.c (.int .i64 0)))]
def qbdh : IC := .reg false [zv 7 (.bin .lss .no (.t 6) (.c (.int .i64 12)))]
def qbld : IC := .reg false [zv 8 (.ida false 1 12 (.t 5) (.t 6)), zm 4 8]
def qbq0 : IC := .reg false [zm 9 0, zm 10 4, zi 11 (.call (.c (.fn 124 [] [])) [((.t 9), .id), ((.t 10), .id)])]
def qbq5 : IC := .reg false [zm 12 4, zv 13 (.len true (.t 12)), zm 2 13]
def qbcd : IC := .reg false [zv 14 (.bin .add .no (.t 6) (.c (.int .i64 1))), zm 6 14]
def qbe1 : IC := (.seq qbdh (.seq (.cond (.t 7) .skip (.exit 0)) (.seq (.block 1 (.seq qbld (.seq qbq0 (.cond (.t 11) (.seq qbq5 .ret) .skip)))) qbcd)))
def qbra : IC := .reg false [zv 2 (.mov (.c (.int .i64 0)))]
def k0db : IC := (.seq qbpp (.seq (.seq qbc5 (.block 0 (.loop qbe1))) (.seq qbra .ret)))
@[go_sem] def s0db : List (RV × Co) := [(.t 2, .id)]
theorem c0db : cFun Tryz.prog 130 = some (15, k0db, s0db) := by kernel_rfl

def qban : IC := .reg false [zi 2 (.alo [(.int .i64 0), (.int .i64 0), (.int .i64 0), (.str []), .nils]), zv 3 (.mov (.c (.bool false)))]
def qber : IC := .reg false [zm 6 0, zi 7 (.call (.c (.fn 15 [] [])) [((.t 6), .id)]), zi 4 (.alo [(.int .i64 0), (.int .i64 0), (.int .i64 0), (.str [])]), zn (.st 4 .id (.t 4) (.t 7))]
def qbi5 : IC := .reg false [zv 8 (.fad (.t 4) 1), zv 9 (.ld false 1 (.t 8)), zv 10 (.fad (.t 4) 3), zv 11 (.ld false 1 (.t 10)), zv 12 (.bld [(.int .i64 0), (.int .i64 0), (.int .i64 0), (.str []), .nils] [(1, 1, (.t 9)), (3, 1, (.t 11))]), zi 5 (.alo [(.int .i64 0), (.int .i64 0), (.int .i64 0), (.str []), .nils]), zn (.st 5 (.agg [.id, .id, .id, .id, (.sl 5)]) (.t 5) (.t 12))]
def qbmv : IC := .reg false [zv 15 (.fad (.t 4) 0), zv 16 (.ld false 1 (.t 15)), zv 17 (.bin .eql .no (.t 16) (.c (.int .i64 1))), zm 14 17]
def qbmm : IC := .reg false [zv 18 (.fad (.t 5) 0), zn (.st 1 .id (.t 18) (.c (.int .i64 11)))]
def qbd8 : IC := .reg false [zv 20 (.fad (.t 4) 0), zv 21 (.ld false 1 (.t 20)), zv 22 (.bin .eql .no (.t 21) (.c (.int .i64 2))), zm 19 22]
def qbnr : IC := .reg false [zv 23 (.fad (.t 5) 0), zn (.st 1 .id (.t 23) (.c (.int .i64 14)))]
def qbjl : IC := .reg false [zv 25 (.fad (.t 4) 0), zv 26 (.ld false 1 (.t 25)), zv 27 (.bin .eql .no (.t 26) (.c (.int .i64 3))), zm 24 27]
def qboi : IC := .drw [zp (zv 28 (.fad (.t 4) 2)), zp (zv 29 (.ld false 1 (.t 28))), zp (zv 30 (.fad (.t 5) 0)), (zn (.st 1 .id (.t 30) (.c (.int .i64 13))), [1]), zp (zv 31 (.fad (.t 5) 2)), (zn (.st 1 .id (.t 31) (.t 29)), []), zp (zv 32 (.fad (.t 5) 3)), (zn (.st 1 .id (.t 32) (.c (.str []))), [])]
def qbo8 : IC := .reg false [zm 34 0, zi 35 (.call (.c (.fn 45 [] [])) [((.t 34), .id), ((.c (.str [95])), .id)]), zm 33 35]
def q8g : IC := .reg false [zv 36 (.fad (.t 5) 0), zn (.st 1 .id (.t 36) (.c (.int .i64 12))), zv 37 (.fad (.t 5) 3), zn (.st 1 .id (.t 37) (.c (.str [])))]
def q81 : IC := .reg false [zv 13 (.bld [(.int .i64 0), (.int .i64 0), (.int .i64 0), (.str []), .nils] []), zn (.st 5 (.agg [.id, .id, .id, .id, (.sl 5)]) (.t 2) (.t 13)), zv 3 (.mov (.c (.bool false)))]
def q8x : IC := .reg false [zv 38 (.ld true 5 (.t 5)), zn (.st 5 (.agg [.id, .id, .id, .id, (.sl 5)]) (.t 2) (.t 38)), zv 3 (.mov (.c (.bool true)))]
def k0bf : IC := (.seq qban (.seq qber (.seq qbi5 (.seq (.block 0 (.seq qbmv (.cond (.t 14) qbmm (.seq qbd8 (.cond (.t 19) qbnr (.seq qbjl (.cond (.t 24) qboi (.seq qbo8 (.cond (.t 33) q8g (.seq q81 .ret)))))))))) (.seq q8x .ret)))))
@[go_sem] def s0bf : List (RV × Co) := [(.c true 5 2, (.agg [.id, .id, .id, .id, (.sl 5)])), (.t 3, .id)]
theorem c0bf : cFun Tryz.prog 133 = some (39, k0bf, s0bf) := by kernel_rfl

def qbl1 : IC := .reg false [zv 4 (.mov (.c (.bool false)))]
def qbnj : IC := .reg false [zm 5 0, zv 6 (.len true (.t 5)), zm 7 1, zv 8 (.len true (.t 7)), zv 9 (.bin .geq .no (.t 6) (.t 8)), zm 10 9, zw 10 true 11 (.mov (.t 0)), zw 10 true 12 (.mov (.t 1)), zw 10 true 13 (.len true (.t 12)), zw 10 true 14 (.sls (.t 11) none (some (.t 13))), zw 10 true 15 (.mov (.t 1)), zw 10 true 16 (.bin .eql .no (.t 14) (.t 15)), zv 17 (.pick (.t 10) (.t 16) (.c (.bool false))), zm 4 17]
def k0di : IC := (.seq qbl1 (.seq qbnj .ret))
@[go_sem] def s0di : List (RV × Co) := [(.t 4, .id)]
theorem c0di : cFun Tryz.prog 134 = some (18, k0di, s0di) := by kernel_rfl

end Go.Proofs.YtmekebfgmjaenaaGreat
