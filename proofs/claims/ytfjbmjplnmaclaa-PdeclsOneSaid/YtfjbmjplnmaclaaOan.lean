/- A text of this proof. -/
import Derived.Test.YtfjbmjplnmaclaaOae
import Derived.Test.YtfjbmjplnmaclaaProg
/- The compiled code of the functions. -/
namespace Go.Proofs.Ytfjbmjplnmaclaa
open Go Go.V
@[reducible] def zm (d s : Nat) : GI := ⟨none, some d, .v (.mov (.t s))⟩
@[reducible] def zv (d : Nat) (x : IV) : GI := ⟨none, some d, .v x⟩
@[reducible] def zi (d : Nat) (i : I) : GI := ⟨none, some d, i⟩
@[reducible] def zn (i : I) : GI := ⟨none, none, i⟩
@[reducible] def zw (j : Nat) (b : Bool) (d : Nat) (x : IV) : GI := ⟨some (j, b), some d, .v x⟩
@[reducible] def zp (g : GI) : GI × List Nat := (g, [])
def qbws : IC := .reg false [zv 2 (.mov (.c (.bool false)))]
def qbtr : IC := .reg false [zm 13 0, zv 14 (.len true (.t 13)), zv 15 (.bin .gtr .no (.t 14) (.c (.int .i64 3000)))]
def qbsa : IC := .reg false [zi 16 (.call (.c (.fn 6 [] [])) []), zm 2 16]
def qbym : IC := .reg false [zm 18 0, zi 19 (.call (.c (.fn 8 [] [])) [((.t 18), .id)]), zm 17 19, zv 20 (.ext (.t 17) 0), zv 21 (.ext (.t 17) 1), zv 22 (.ext (.t 17) 2), zi 3 (.alo [(.int .i64 0), (.int .i64 0), (.int .i64 0), (.str []), .nils]), zn (.st 5 (.agg [.id, .id, .id, .id, (.sl 5)]) (.t 3) (.t 20)), zm 4 21, zm 5 22]
def qbvj : IC := .reg false [zm 24 0, zi 25 (.call (.c (.fn 7 [] [])) [((.t 24), .id)]), zm 23 25, zv 26 (.ext (.t 23) 0), zv 27 (.ext (.t 23) 1), zv 28 (.ext (.t 23) 2), zi 6 (.alo [(.int .i64 0), (.int .i64 0), (.int .i64 0), (.str []), .nils]), zn (.st 5 (.agg [.id, .id, .id, .id, (.sl 5)]) (.t 6) (.t 26)), zm 7 27, zm 8 28]
def qbyv : IC := .reg false [zm 30 0, zv 31 (.bin .add .no (.t 30) (.c (.str [10, 59]))), zi 32 (.call (.c (.fn 7 [] [])) [((.t 31), .id)]), zm 29 32, zv 33 (.ext (.t 29) 0), zv 34 (.ext (.t 29) 1), zv 35 (.ext (.t 29) 2), zi 9 (.alo [(.int .i64 0), (.int .i64 0), (.int .i64 0), (.str []), .nils]), zn (.st 5 (.agg [.id, .id, .id, .id, (.sl 5)]) (.t 9) (.t 33)), zm 10 34, zm 11 35]
def qbr4 : IC := .reg false [zm 36 5, zv 37 (.bin .neq .no (.t 36) (.c (.int .i64 0))), zm 38 37, zw 38 false 39 (.ld true 5 (.t 3)), ⟨some (38, false), some 40, .call (.c (.fn 9 [] [])) [((.t 39), (.agg [.id, .id, .id, .id, (.sl 5)]))]⟩, zw 38 false 41 (.bin .geq .no (.t 40) (.c (.int .i64 100))), zv 42 (.pick (.t 38) (.c (.bool true)) (.t 41))]
def qbuz : IC := .reg false [zi 43 (.call (.c (.fn 6 [] [])) []), zm 2 43]
def qbv2 : IC := .reg false [zv 44 (.ld true 5 (.t 3)), zv 45 (.bsl 5 [((.t 44), (.agg [.id, .id, .id, .id, (.sl 5)]))]), zv 46 (.bld [(.int .i64 0), (.int .i64 0), (.int .i64 0), (.str []), .nils] [(0, 1, (.c (.int .i64 37))), (4, 1, (.t 45))]), zi 12 (.alo [(.int .i64 0), (.int .i64 0), (.int .i64 0), (.str []), .nils]), zn (.st 5 (.agg [.id, .id, .id, .id, (.sl 5)]) (.t 12) (.t 46))]
def qbv3 : IC := .reg false [zm 47 8, zv 48 (.bin .eql .no (.t 47) (.c (.int .i64 0))), zm 49 48, zw 49 true 50 (.mov (.t 11)), zw 49 true 51 (.bin .eql .no (.t 50) (.c (.int .i64 0))), zv 52 (.pick (.t 49) (.t 51) (.c (.bool false))), zm 53 52, zw 53 true 54 (.ld true 5 (.t 6)), zw 53 true 55 (.ld true 5 (.t 12)), ⟨some (53, true), some 56, .call (.c (.fn 10 [] [])) [((.t 54), (.agg [.id, .id, .id, .id, (.sl 5)])), ((.t 55), (.agg [.id, .id, .id, .id, (.sl 5)]))]⟩, zv 57 (.pick (.t 53) (.t 56) (.c (.bool false))), zm 58 57, zw 58 true 59 (.ld true 5 (.t 9)), zw 58 true 60 (.ld true 5 (.t 12)), ⟨some (58, true), some 61, .call (.c (.fn 10 [] [])) [((.t 59), (.agg [.id, .id, .id, .id, (.sl 5)])), ((.t 60), (.agg [.id, .id, .id, .id, (.sl 5)]))]⟩, zv 62 (.pick (.t 58) (.t 61) (.c (.bool false))), zm 63 62, ⟨some (63, true), some 64, .call (.c (.fn 6 [] [])) []⟩, zv 65 (.pick (.t 63) (.t 64) (.c (.bool false))), zm 2 65]
def k0a : IC := (.seq qbws (.seq (.seq qbtr (.cond (.t 15) (.seq qbsa .ret) .skip)) (.seq qbym (.seq qbvj (.seq qbyv (.seq (.seq qbr4 (.cond (.t 42) (.seq qbuz .ret) .skip)) (.seq qbv2 (.seq qbv3 .ret))))))))
@[go_sem] def s0a : List (RV × Co) := [(.t 2, .id)]
theorem c0a : cFun Try.prog 4 = some (66, k0a, s0a) := by kernel_rfl

def qbkh : IC := .reg false [zv 0 (.mov (.c (.bool false)))]
def qbq9 : IC := .reg false [zi 17 (.call (.c (.fn 7 [] [])) [((.c (.str [100, 97, 116, 97, 32, 66, 32, 61, 32, 84, 32, 124, 32, 70, 59])), .id)]), zm 16 17, zv 18 (.ext (.t 16) 0), zv 19 (.ext (.t 16) 1), zv 20 (.ext (.t 16) 2), zi 1 (.alo [(.int .i64 0), (.int .i64 0), (.int .i64 0), (.str []), .nils]), zn (.st 5 (.agg [.id, .id, .id, .id, (.sl 5)]) (.t 1) (.t 18)), zm 2 19, zm 3 20]
def qbhe : IC := .reg false [zi 22 (.call (.c (.fn 7 [] [])) [((.c (.str [99, 108, 97, 115, 115, 32, 69, 113, 32, 97, 32, 61, 62, 32, 79, 114, 100, 32, 97, 32, 119, 104, 101, 114, 101, 32, 123, 32, 108, 116, 32, 58, 58, 32, 97, 32, 45, 62, 32, 97, 32, 45, 62, 32, 66, 32, 125, 59, 32, 105, 110, 115, 116, 97, 110, 99, 101, 32, 69, 113, 32, 66, 32, 119, 104, 101, 114, 101, 32, 123, 32, 101, 113, 32, 120, 32, 121, 32, 61, 32, 84, 59, 32, 125, 59, 32, 102, 32, 58, 58, 32, 66, 59, 32, 102, 32, 61, 32, 84])), .id)]), zm 21 22, zv 23 (.ext (.t 21) 0), zv 24 (.ext (.t 21) 1), zv 25 (.ext (.t 21) 2), zi 4 (.alo [(.int .i64 0), (.int .i64 0), (.int .i64 0), (.str []), .nils]), zn (.st 5 (.agg [.id, .id, .id, .id, (.sl 5)]) (.t 4) (.t 23)), zm 5 24, zm 6 25]
def qbi9 : IC := .reg false [zi 27 (.call (.c (.fn 8 [] [])) [((.c (.str [100, 97, 116, 97, 32, 77, 32, 97, 32, 61, 32, 78, 32, 124, 32, 74, 32, 97])), .id)]), zm 26 27, zv 28 (.ext (.t 26) 0), zv 29 (.ext (.t 26) 1), zv 30 (.ext (.t 26) 2), zi 7 (.alo [(.int .i64 0), (.int .i64 0), (.int .i64 0), (.str []), .nils]), zn (.st 5 (.agg [.id, .id, .id, .id, (.sl 5)]) (.t 7) (.t 28)), zm 8 29, zm 9 30]
def qbjl : IC := .reg false [zi 32 (.call (.c (.fn 7 [] [])) [((.c (.str [120, 32, 61, 32, 49, 59, 32, 59])), .id)]), zm 31 32, zv 33 (.ext (.t 31) 0), zv 34 (.ext (.t 31) 1), zv 35 (.ext (.t 31) 2), zi 10 (.alo [(.int .i64 0), (.int .i64 0), (.int .i64 0), (.str []), .nils]), zn (.st 5 (.agg [.id, .id, .id, .id, (.sl 5)]) (.t 10) (.t 33)), zm 11 34, zm 12 35]
def qbh6 : IC := .reg false [zi 37 (.call (.c (.fn 7 [] [])) [((.c (.str [])), .id)]), zm 36 37, zv 38 (.ext (.t 36) 0), zv 39 (.ext (.t 36) 1), zv 40 (.ext (.t 36) 2), zi 13 (.alo [(.int .i64 0), (.int .i64 0), (.int .i64 0), (.str []), .nils]), zn (.st 5 (.agg [.id, .id, .id, .id, (.sl 5)]) (.t 13) (.t 38)), zm 14 39, zm 15 40]
def qbej : IC := .reg false [zv 41 (.fad (.t 1) 4), zv 42 (.ld false 1 (.t 41)), zv 43 (.len false (.t 42)), zv 44 (.bin .neq .no (.t 43) (.c (.int .i64 1))), zm 45 44, zw 45 false 46 (.fad (.t 4) 4), zw 45 false 47 (.ld false 1 (.t 46)), zw 45 false 48 (.len false (.t 47)), zw 45 false 49 (.bin .neq .no (.t 48) (.c (.int .i64 4))), zv 50 (.pick (.t 45) (.c (.bool true)) (.t 49))]
def qbfu : IC := .reg false [zv 0 (.mov (.c (.bool false)))]
def qbpo : IC := .reg false [zv 51 (.fad (.t 1) 4), zv 52 (.ld false 1 (.t 51)), zv 53 (.iad 5 (.t 52) (.c (.int .i64 0))), zv 54 (.fad (.t 53) 3), zv 55 (.ld false 1 (.t 54)), zv 56 (.bin .eql .no (.t 55) (.c (.str [66]))), zm 57 56, zw 57 true 58 (.mov (.t 2)), zw 57 true 59 (.bin .eql .no (.t 58) (.c (.int .i64 0))), zv 60 (.pick (.t 57) (.t 59) (.c (.bool false))), zm 61 60, zw 61 true 62 (.mov (.t 3)), zw 61 true 63 (.bin .eql .no (.t 62) (.c (.int .i64 0))), zv 64 (.pick (.t 61) (.t 63) (.c (.bool false))), zm 65 64, zw 65 true 66 (.fad (.t 4) 4), zw 65 true 67 (.ld false 1 (.t 66)), zw 65 true 68 (.iad 5 (.t 67) (.c (.int .i64 0))), zw 65 true 69 (.fad (.t 68) 2), zw 65 true 70 (.ld false 1 (.t 69)), zw 65 true 71 (.bin .eql .no (.t 70) (.c (.int .i64 1))), zv 72 (.pick (.t 65) (.t 71) (.c (.bool false))), zm 73 72, zw 73 true 74 (.fad (.t 4) 4), zw 73 true 75 (.ld false 1 (.t 74)), zw 73 true 76 (.iad 5 (.t 75) (.c (.int .i64 1))), zw 73 true 77 (.fad (.t 76) 0), zw 73 true 78 (.ld false 1 (.t 77)), zw 73 true 79 (.bin .eql .no (.t 78) (.c (.int .i64 36))), zv 80 (.pick (.t 73) (.t 79) (.c (.bool false))), zm 81 80, zw 81 true 82 (.mov (.t 6)), zw 81 true 83 (.bin .eql .no (.t 82) (.c (.int .i64 0))), zv 84 (.pick (.t 81) (.t 83) (.c (.bool false))), zm 85 84, zw 85 true 86 (.fad (.t 7) 2), zw 85 true 87 (.ld false 1 (.t 86)), zw 85 true 88 (.bin .eql .no (.t 87) (.c (.int .i64 1))), zv 89 (.pick (.t 85) (.t 88) (.c (.bool false))), zm 90 89, zw 90 true 91 (.fad (.t 7) 4), zw 90 true 92 (.ld false 1 (.t 91)), zw 90 true 93 (.len false (.t 92)), zw 90 true 94 (.bin .eql .no (.t 93) (.c (.int .i64 3))), zv 95 (.pick (.t 90) (.t 94) (.c (.bool false))), zm 96 95, zw 96 true 97 (.mov (.t 9)), zw 96 true 98 (.bin .eql .no (.t 97) (.c (.int .i64 0))), zv 99 (.pick (.t 96) (.t 98) (.c (.bool false))), zm 100 99, zw 100 true 101 (.mov (.t 11)), zw 100 true 102 (.bin .eql .no (.t 101) (.c (.int .i64 7))), zv 103 (.pick (.t 100) (.t 102) (.c (.bool false))), zm 104 103, zw 104 true 105 (.mov (.t 12)), zw 104 true 106 (.bin .eql .no (.t 105) (.c (.int .i64 5))), zv 107 (.pick (.t 104) (.t 106) (.c (.bool false))), zm 108 107, zw 108 true 109 (.fad (.t 13) 0), zw 108 true 110 (.ld false 1 (.t 109)), zw 108 true 111 (.bin .eql .no (.t 110) (.c (.int .i64 37))), zv 112 (.pick (.t 108) (.t 111) (.c (.bool false))), zm 113 112, zw 113 true 114 (.mov (.t 15)), zw 113 true 115 (.bin .eql .no (.t 114) (.c (.int .i64 0))), zv 116 (.pick (.t 113) (.t 115) (.c (.bool false))), zm 0 116]
def k0do : IC := (.seq qbkh (.seq qbq9 (.seq qbhe (.seq qbi9 (.seq qbjl (.seq qbh6 (.seq (.seq qbej (.cond (.t 50) (.seq qbfu .ret) .skip)) (.seq qbpo .ret))))))))
@[go_sem] def s0do : List (RV × Co) := [(.t 0, .id)]
theorem c0do : cFun Try.prog 6 = some (117, k0do, s0do) := by kernel_rfl

def qbpf : IC := .reg false [zi 2 (.alo [(.int .i64 0), (.int .i64 0), (.int .i64 0), (.str []), .nils]), zv 3 (.mov (.c (.int .i64 0))), zv 4 (.mov (.c (.int .i64 0)))]
def qbhh : IC := .reg false [zm 5 0, zi 6 (.call (.c (.fn 12 [] [])) [((.t 5), .id), ((.c (.fn 13 [] [])), .id)]), zv 7 (.ext (.t 6) 0), zv 8 (.ext (.t 6) 1), zv 9 (.ext (.t 6) 2), zn (.st 5 (.agg [.id, .id, .id, .id, (.sl 5)]) (.t 2) (.t 7)), zm 3 8, zm 4 9]
def k0cw : IC := (.seq qbpf (.seq qbhh .ret))
@[go_sem] def s0cw : List (RV × Co) := [(.c true 5 2, (.agg [.id, .id, .id, .id, (.sl 5)])), (.t 3, .id), (.t 4, .id)]
theorem c0cw : cFun Try.prog 7 = some (10, k0cw, s0cw) := by kernel_rfl

def qbix : IC := .reg false [zi 2 (.alo [(.int .i64 0), (.int .i64 0), (.int .i64 0), (.str []), .nils]), zv 3 (.mov (.c (.int .i64 0))), zv 4 (.mov (.c (.int .i64 0)))]
def qbj5 : IC := .reg false [zm 5 0, zi 6 (.call (.c (.fn 12 [] [])) [((.t 5), .id), ((.c (.fn 20 [] [])), .id)]), zv 7 (.ext (.t 6) 0), zv 8 (.ext (.t 6) 1), zv 9 (.ext (.t 6) 2), zn (.st 5 (.agg [.id, .id, .id, .id, (.sl 5)]) (.t 2) (.t 7)), zm 3 8, zm 4 9]
def k0cx : IC := (.seq qbix (.seq qbj5 .ret))
@[go_sem] def s0cx : List (RV × Co) := [(.c true 5 2, (.agg [.id, .id, .id, .id, (.sl 5)])), (.t 3, .id), (.t 4, .id)]
theorem c0cx : cFun Try.prog 8 = some (10, k0cx, s0cx) := by kernel_rfl

def qbow : IC := .reg false [zi 1 (.box (.t 0)), zv 2 (.mov (.c (.int .i64 0)))]
def qbph : IC := .reg false [zv 3 (.mov (.c (.int .i64 0)))]
def qbgu : IC := .reg false [zv 4 (.mov (.c (.int .i64 0)))]
def qboh : IC := .reg false [zm 5 4, zv 6 (.fad (.t 1) 4), zv 7 (.ld false 1 (.t 6)), zv 8 (.len false (.t 7)), zv 9 (.bin .lss .no (.t 5) (.t 8))]
def qbf4 : IC := .reg false [zm 12 3, zv 13 (.fad (.t 1) 4), zv 14 (.ld false 1 (.t 13)), zm 15 4, zv 16 (.iad 5 (.t 14) (.t 15)), zv 17 (.ld true 5 (.t 16)), zi 18 (.call (.c (.fn 9 [] [])) [((.t 17), (.agg [.id, .id, .id, .id, (.sl 5)]))]), zv 19 (.mm true (.t 12) (.t 18)), zm 3 19]
def qbnd : IC := .reg false [zm 10 4, zv 11 (.bin .add .no (.t 10) (.c (.int .i64 1))), zm 4 11]
def qbfl : IC := (.seq (.seq qboh (.cond (.t 9) .skip (.exit 0))) (.seq (.block 1 qbf4) qbnd))
def qbmd : IC := .reg false [zm 20 3, zv 21 (.bin .add .no (.t 20) (.c (.int .i64 1))), zm 2 21]
def k0cn : IC := (.seq qbow (.seq qbph (.seq (.seq qbgu (.block 0 (.loop qbfl))) (.seq qbmd .ret))))
@[go_sem] def s0cn : List (RV × Co) := [(.t 2, .id)]
theorem c0cn : cFun Try.prog 9 = some (22, k0cn, s0cn) := by kernel_rfl

def qbmj : IC := .reg false [zi 2 (.box (.t 0)), zi 3 (.box (.t 1)), zv 4 (.mov (.c (.bool false)))]
def qbfy : IC := .reg false [zv 6 (.fad (.t 2) 1), zv 7 (.ld false 1 (.t 6)), zv 8 (.fad (.t 3) 1), zv 9 (.ld false 1 (.t 8)), zv 10 (.bin .neq .no (.t 7) (.t 9)), zm 11 10, zw 11 false 12 (.fad (.t 2) 0), zw 11 false 13 (.ld false 1 (.t 12)), zw 11 false 14 (.fad (.t 3) 0), zw 11 false 15 (.ld false 1 (.t 14)), zw 11 false 16 (.bin .neq .no (.t 13) (.t 15)), zv 17 (.pick (.t 11) (.c (.bool true)) (.t 16)), zm 18 17, zw 18 false 19 (.fad (.t 2) 3), zw 18 false 20 (.ld false 1 (.t 19)), zw 18 false 21 (.fad (.t 3) 3), zw 18 false 22 (.ld false 1 (.t 21)), zw 18 false 23 (.bin .neq .no (.t 20) (.t 22)), zv 24 (.pick (.t 18) (.c (.bool true)) (.t 23)), zm 25 24, zw 25 false 26 (.fad (.t 2) 2), zw 25 false 27 (.ld false 1 (.t 26)), zw 25 false 28 (.fad (.t 3) 2), zw 25 false 29 (.ld false 1 (.t 28)), zw 25 false 30 (.bin .neq .no (.t 27) (.t 29)), zv 31 (.pick (.t 25) (.c (.bool true)) (.t 30)), zm 32 31, zw 32 false 33 (.fad (.t 2) 4), zw 32 false 34 (.ld false 1 (.t 33)), zw 32 false 35 (.len false (.t 34)), zw 32 false 36 (.fad (.t 3) 4), zw 32 false 37 (.ld false 1 (.t 36)), zw 32 false 38 (.len false (.t 37)), zw 32 false 39 (.bin .neq .no (.t 35) (.t 38)), zv 40 (.pick (.t 32) (.c (.bool true)) (.t 39))]
def qblc : IC := .reg false [zv 4 (.mov (.c (.bool false)))]
def qbi3 : IC := .reg false [zv 5 (.mov (.c (.int .i64 0)))]
def qbqz : IC := .reg false [zm 41 5, zv 42 (.fad (.t 2) 4), zv 43 (.ld false 1 (.t 42)), zv 44 (.len false (.t 43)), zv 45 (.bin .lss .no (.t 41) (.t 44))]
def qbn1 : IC := .drw [zp (zv 48 (.fad (.t 2) 4)), zp (zv 49 (.ld false 1 (.t 48))), zp (zm 50 5), zp (zv 51 (.iad 5 (.t 49) (.t 50))), zp (zv 52 (.ld true 5 (.t 51))), zp (zv 53 (.fad (.t 3) 4)), zp (zv 54 (.ld false 1 (.t 53))), zp (zm 55 5), zp (zv 56 (.iad 5 (.t 54) (.t 55))), zp (zv 57 (.ld true 5 (.t 56))), (zi 58 (.call (.c (.fn 10 [] [])) [((.t 52), (.agg [.id, .id, .id, .id, (.sl 5)])), ((.t 57), (.agg [.id, .id, .id, .id, (.sl 5)]))]), []), zp (zv 59 (.un .not (.t 58)))]
def qbnr : IC := .reg false [zv 4 (.mov (.c (.bool false)))]
def qbnu : IC := .reg false [zm 46 5, zv 47 (.bin .add .no (.t 46) (.c (.int .i64 1))), zm 5 47]
def qbmr : IC := (.seq (.seq qbqz (.cond (.t 45) .skip (.exit 0))) (.seq (.block 1 (.seq qbn1 (.cond (.t 59) (.seq qbnr .ret) .skip))) qbnu))
def q80 : IC := .reg false [zv 4 (.mov (.c (.bool true)))]
def k0ci : IC := (.seq qbmj (.seq (.seq qbfy (.cond (.t 40) (.seq qblc .ret) .skip)) (.seq (.seq qbi3 (.block 0 (.loop qbmr))) (.seq q80 .ret))))
@[go_sem] def s0ci : List (RV × Co) := [(.t 4, .id)]
theorem c0ci : cFun Try.prog 10 = some (60, k0ci, s0ci) := by kernel_rfl

def qbm4 : IC := .reg false [zi 2 (.box (.t 0)), zi 3 (.box (.t 1)), zv 4 (.mov (.c (.bool false)))]
def qbpi : IC := .reg false [zv 6 (.fad (.t 2) 0), zv 7 (.ld false 1 (.t 6)), zv 8 (.fad (.t 3) 0), zv 9 (.ld false 1 (.t 8)), zv 10 (.bin .neq .no (.t 7) (.t 9)), zm 11 10, zw 11 false 12 (.fad (.t 2) 3), zw 11 false 13 (.ld false 1 (.t 12)), zw 11 false 14 (.fad (.t 3) 3), zw 11 false 15 (.ld false 1 (.t 14)), zw 11 false 16 (.bin .neq .no (.t 13) (.t 15)), zv 17 (.pick (.t 11) (.c (.bool true)) (.t 16)), zm 18 17, zw 18 false 19 (.fad (.t 2) 2), zw 18 false 20 (.ld false 1 (.t 19)), zw 18 false 21 (.fad (.t 3) 2), zw 18 false 22 (.ld false 1 (.t 21)), zw 18 false 23 (.bin .neq .no (.t 20) (.t 22)), zv 24 (.pick (.t 18) (.c (.bool true)) (.t 23)), zm 25 24, zw 25 false 26 (.fad (.t 2) 4), zw 25 false 27 (.ld false 1 (.t 26)), zw 25 false 28 (.len false (.t 27)), zw 25 false 29 (.fad (.t 3) 4), zw 25 false 30 (.ld false 1 (.t 29)), zw 25 false 31 (.len false (.t 30)), zw 25 false 32 (.bin .neq .no (.t 28) (.t 31)), zv 33 (.pick (.t 25) (.c (.bool true)) (.t 32))]
def qbm0 : IC := .reg false [zv 4 (.mov (.c (.bool false)))]
def qbd3 : IC := .reg false [zv 34 (.fad (.t 2) 4), zv 35 (.ld false 1 (.t 34)), zv 36 (.len false (.t 35)), zv 37 (.mov (.c (.int .i64 0)))]
def qbj3 : IC := .reg false [zv 38 (.bin .lss .no (.t 37) (.t 36))]
def qbfk : IC := .reg false [zm 39 37, zm 5 39]
def qbo4 : IC := .drw [zp (zv 40 (.fad (.t 2) 4)), zp (zv 41 (.ld false 1 (.t 40))), zp (zm 42 5), zp (zv 43 (.iad 5 (.t 41) (.t 42))), zp (zv 44 (.ld true 5 (.t 43))), zp (zv 45 (.fad (.t 3) 4)), zp (zv 46 (.ld false 1 (.t 45))), zp (zm 47 5), zp (zv 48 (.iad 5 (.t 46) (.t 47))), zp (zv 49 (.ld true 5 (.t 48))), (zi 50 (.call (.c (.fn 11 [] [])) [((.t 44), (.agg [.id, .id, .id, .id, (.sl 5)])), ((.t 49), (.agg [.id, .id, .id, .id, (.sl 5)]))]), []), zp (zv 51 (.un .not (.t 50)))]
def qbex : IC := .reg false [zv 4 (.mov (.c (.bool false)))]
def qbf6 : IC := .reg false [zv 52 (.bin .add .no (.t 37) (.c (.int .i64 1))), zm 37 52]
def qblz : IC := (.seq qbj3 (.seq (.cond (.t 38) .skip (.exit 0)) (.seq (.block 1 (.seq qbfk (.seq qbo4 (.cond (.t 51) (.seq qbex .ret) .skip)))) qbf6)))
def qbaz : IC := .reg false [zv 4 (.mov (.c (.bool true)))]
def k0ch : IC := (.seq qbm4 (.seq (.seq qbpi (.cond (.t 33) (.seq qbm0 .ret) .skip)) (.seq (.seq qbd3 (.block 0 (.loop qblz))) (.seq qbaz .ret))))
@[go_sem] def s0ch : List (RV × Co) := [(.t 4, .id)]
theorem c0ch : cFun Try.prog 11 = some (53, k0ch, s0ch) := by kernel_rfl

def qbek : IC := .reg false [zi 4 (.alo [(.int .i64 0), (.int .i64 0), (.int .i64 0), (.str []), .nils]), zv 5 (.mov (.c (.int .i64 0))), zv 6 (.mov (.c (.int .i64 0)))]
def qbgj : IC := .reg false [zm 15 0, zi 16 (.call (.c (.fn 21 [] [])) [((.t 15), .id)]), zm 14 16, zv 17 (.ext (.t 14) 0), zv 18 (.ext (.t 14) 1), zv 19 (.ext (.t 14) 2), zm 7 17, zm 8 18, zm 9 19]
def qbl2 : IC := .reg false [zm 20 9, zv 21 (.bin .neq .no (.t 20) (.c (.int .i64 0)))]
def qblf : IC := .reg false [zv 22 (.bld [(.int .i64 0), (.int .i64 0), (.int .i64 0), (.str []), .nils] []), zm 23 8, zm 24 9, zn (.st 5 (.agg [.id, .id, .id, .id, (.sl 5)]) (.t 4) (.t 22)), zm 5 23, zm 6 24]
def qbly : IC := .reg false [zm 25 7, zi 26 (.call (.c (.fn 22 [] [])) [((.t 25), (.sl 4))]), zm 10 26]
def qblx : IC := .reg false [zm 27 1, zm 28 10, zi 29 (.call (.t 27) [((.t 28), .id)]), zi 11 (.alo [(.int .i64 0), (.int .i64 0), (.int .i64 0), (.str []), .nils]), zn (.st 5 (.agg [.id, .id, .id, .id, (.sl 5)]) (.t 11) (.t 29))]
def qbj0 : IC := .reg false [zm 31 10, zi 32 (.call (.c (.fn 23 [] [])) [((.t 31), .id)]), zm 30 32, zv 33 (.ext (.t 30) 0), zv 34 (.ext (.t 30) 1), zm 12 33, zm 13 34]
def qbor : IC := .reg false [zm 35 13, zv 36 (.bin .neq .no (.t 35) (.c (.int .i64 0)))]
def qbl5 : IC := .reg false [zv 37 (.bld [(.int .i64 0), (.int .i64 0), (.int .i64 0), (.str []), .nils] []), zm 38 12, zm 39 13, zn (.st 5 (.agg [.id, .id, .id, .id, (.sl 5)]) (.t 4) (.t 37)), zm 5 38, zm 6 39]
def qbgc : IC := .reg false [zv 40 (.ld true 5 (.t 11)), zi 41 (.call (.c (.fn 24 [] [])) [((.t 40), (.agg [.id, .id, .id, .id, (.sl 5)]))]), zv 42 (.bin .gtr .no (.t 41) (.c (.int .i64 100)))]
def q8v : IC := .drw [(zv 43 (.bld [(.int .i64 0), (.int .i64 0), (.int .i64 0), (.str []), .nils] []), []), zp (zv 44 (.fad (.t 11) 1)), zp (zv 45 (.ld false 1 (.t 44))), (zn (.st 5 (.agg [.id, .id, .id, .id, (.sl 5)]) (.t 4) (.t 43)), [2]), zp (zm 5 45), zp (zv 6 (.mov (.c (.int .i64 2))))]
def q98 : IC := .reg false [zv 46 (.ld true 5 (.t 11)), zn (.st 5 (.agg [.id, .id, .id, .id, (.sl 5)]) (.t 4) (.t 46)), zv 5 (.mov (.c (.int .i64 0))), zv 6 (.mov (.c (.int .i64 0)))]
def k0cv : IC := (.seq qbek (.seq qbgj (.seq (.seq qbl2 (.cond (.t 21) (.seq qblf .ret) .skip)) (.seq qbly (.seq qblx (.seq (.seq qbj0 (.seq qbor (.cond (.t 36) (.seq qbl5 .ret) .skip))) (.seq (.seq qbgc (.cond (.t 42) (.seq q8v .ret) .skip)) (.seq q98 .ret))))))))
@[go_sem] def s0cv : List (RV × Co) := [(.c true 5 4, (.agg [.id, .id, .id, .id, (.sl 5)])), (.t 5, .id), (.t 6, .id)]
theorem c0cv : cFun Try.prog 12 = some (47, k0cv, s0cv) := by kernel_rfl

def qbp0 : IC := .reg false [zi 1 (.box (.t 0)), zi 2 (.alo [(.int .i64 0), (.int .i64 0), (.int .i64 0), (.str []), .nils])]
def qbi1 : IC := .reg false [zv 6 (.ld false 1 (.t 1)), zi 7 (.call (.c (.fn 14 [] [])) [((.t 6), .id), ((.c (.str [59])), .id)]), zi 3 (.alo [.nilf]), zn (.st 1 .id (.t 3) (.t 7))]
def qbni : IC := .reg false [zv 9 (.mfn 16 [] [(.t 1)]), zv 10 (.mfn 18 [] [(.t 1), (.t 3)]), zi 11 (.call (.c (.fn 15 [] [])) [((.c .nils), (.sl 5)), ((.t 9), .id), ((.t 10), .id)]), zm 8 11, zv 12 (.ext (.t 8) 0), zv 13 (.ext (.t 8) 1), zm 4 12, zm 5 13]
def qbik : IC := .reg false [zm 14 4, zv 15 (.bld [(.int .i64 0), (.int .i64 0), (.int .i64 0), (.str []), .nils] [(0, 1, (.c (.int .i64 37))), (4, 1, (.t 14))]), zn (.st 5 (.agg [.id, .id, .id, .id, (.sl 5)]) (.t 2) (.t 15))]
def k0ct : IC := (.seq qbp0 (.seq qbi1 (.seq qbni (.seq qbik .ret))))
@[go_sem] def s0ct : List (RV × Co) := [(.c true 5 2, (.agg [.id, .id, .id, .id, (.sl 5)]))]
theorem c0ct : cFun Try.prog 13 = some (16, k0ct, s0ct) := by kernel_rfl

def qbn5 : IC := .reg false [zi 2 (.box (.t 0)), zi 3 (.box (.t 1)), zv 4 (.mov (.c .nilf))]
def qblb : IC := .reg false [zi 5 (.alo [(.bool false)]), zn (.st 1 .id (.t 5) (.c (.bool false)))]
def qbqc : IC := .reg false [zv 6 (.mfn 25 [] [(.t 5), (.t 2), (.t 3)]), zm 4 6]
def k0df : IC := (.seq qbn5 (.seq qblb (.seq qbqc .ret)))
@[go_sem] def s0df : List (RV × Co) := [(.t 4, .id)]
theorem c0df : cFun Try.prog 14 = some (7, k0df, s0df) := by kernel_rfl

def qbhc : IC := .reg false [zv 6 (.mov (.c .nils)), zv 7 (.mov (.c (.bool false)))]
def qbku : IC := .reg false [zm 10 2, zi 11 (.call (.t 10) [])]
def qbms : IC := .reg false [zm 13 1, zi 14 (.call (.t 13) []), zm 12 14, zv 15 (.ext (.t 12) 0), zv 16 (.ext (.t 12) 1), zi 8 (.alo [(.int .i64 0), (.int .i64 0), (.int .i64 0), (.str []), .nils]), zn (.st 5 (.agg [.id, .id, .id, .id, (.sl 5)]) (.t 8) (.t 15)), zm 9 16]
def qbkw : IC := .reg false [zm 17 9, zv 18 (.un .not (.t 17))]
def qbh0 : IC := .reg false [zm 19 0, zm 6 19, zv 7 (.mov (.c (.bool false)))]
def qbdp : IC := .reg false [zm 20 0, zv 21 (.ld true 5 (.t 8)), zv 22 (.bsl 5 [((.t 21), (.agg [.id, .id, .id, .id, (.sl 5)]))]), zi 23 (.app 5 (.agg [(.int .i64 0), (.int .i64 0), (.int .i64 0), (.str []), .nils]) 64 (.sl 5) (.t 20) (.t 22)), zm 0 23]
def qbqg : IC := (.seq (.seq qbku (.cond (.t 11) .skip (.exit 0))) (.block 1 (.seq qbms (.seq (.seq qbkw (.cond (.t 18) (.seq qbh0 .ret) .skip)) qbdp))))
def qbqo : IC := .reg false [zm 24 0, zm 6 24, zv 7 (.mov (.c (.bool true)))]
def k0dn : IC := (.seq qbhc (.seq (.block 0 (.loop qbqg)) (.seq qbqo .ret)))
@[go_sem] def s0dn : List (RV × Co) := [(.t 6, (.sl 5)), (.t 7, .id)]
theorem c0dn : cFun Try.prog 15 = some (25, k0dn, s0dn) := by kernel_rfl

def qbk5 : IC := .reg false [zi 1 (.alo [(.int .i64 0), (.int .i64 0), (.int .i64 0), (.str []), .nils]), zv 2 (.mov (.c (.bool false)))]
def qbld : IC := .reg false [zv 3 (.ld false 1 (.t 0)), zi 4 (.call (.c (.fn 17 [] [])) [((.t 3), .id)]), zv 5 (.ext (.t 4) 0), zv 6 (.ext (.t 4) 1), zn (.st 5 (.agg [.id, .id, .id, .id, (.sl 5)]) (.t 1) (.t 5)), zm 2 6]
def k0cr : IC := (.seq qbk5 (.seq qbld .ret))
@[go_sem] def s0cr : List (RV × Co) := [(.c true 5 1, (.agg [.id, .id, .id, .id, (.sl 5)])), (.t 2, .id)]
theorem c0cr : cFun Try.prog 16 = some (7, k0cr, s0cr) := by kernel_rfl

def qbfb : IC := .reg false [zi 2 (.alo [(.int .i64 0), (.int .i64 0), (.int .i64 0), (.str []), .nils]), zv 3 (.mov (.c (.bool false)))]
def qbl9 : IC := .reg false [zm 5 0, zi 6 (.call (.c (.fn 19 [] [])) [((.t 5), .id)]), zv 7 (.fld false 1 1 (.t 6)), zv 8 (.bld [(.int .i64 0), (.int .i64 0), (.int .i64 0), (.str []), .nils] [(1, 1, (.t 7))]), zi 4 (.alo [(.int .i64 0), (.int .i64 0), (.int .i64 0), (.str []), .nils]), zn (.st 5 (.agg [.id, .id, .id, .id, (.sl 5)]) (.t 4) (.t 8))]
def qbpr : IC := .reg false [zm 10 0, zi 11 (.call (.c (.fn 26 [] [])) [((.t 10), .id), ((.c (.str [100, 97, 116, 97])), .id)]), zm 9 11]
def qbiy : IC := .reg false [zm 12 0, zv 13 (.ld true 5 (.t 4)), zi 14 (.call (.c (.fn 27 [] [])) [((.t 12), .id), ((.t 13), (.agg [.id, .id, .id, .id, (.sl 5)]))]), zv 15 (.ext (.t 14) 0), zv 16 (.ext (.t 14) 1), zn (.st 5 (.agg [.id, .id, .id, .id, (.sl 5)]) (.t 2) (.t 15)), zm 3 16]
def qbpw : IC := .reg false [zm 18 0, zi 19 (.call (.c (.fn 26 [] [])) [((.t 18), .id), ((.c (.str [99, 108, 97, 115, 115])), .id)]), zm 17 19]
def qbnz : IC := .reg false [zv 20 (.fad (.t 4) 0), zn (.st 1 .id (.t 20) (.c (.int .i64 35)))]
def qboi : IC := .reg false [zm 21 0, zv 22 (.ld true 5 (.t 4)), zi 23 (.call (.c (.fn 28 [] [])) [((.t 21), .id), ((.t 22), (.agg [.id, .id, .id, .id, (.sl 5)]))]), zv 24 (.ext (.t 23) 0), zv 25 (.ext (.t 23) 1), zn (.st 5 (.agg [.id, .id, .id, .id, (.sl 5)]) (.t 2) (.t 24)), zm 3 25]
def qbp6 : IC := .reg false [zm 27 0, zi 28 (.call (.c (.fn 26 [] [])) [((.t 27), .id), ((.c (.str [105, 110, 115, 116, 97, 110, 99, 101])), .id)]), zm 26 28]
def qbkl : IC := .reg false [zv 29 (.fad (.t 4) 0), zn (.st 1 .id (.t 29) (.c (.int .i64 36)))]
def qbpm : IC := .reg false [zm 30 0, zv 31 (.ld true 5 (.t 4)), zi 32 (.call (.c (.fn 28 [] [])) [((.t 30), .id), ((.t 31), (.agg [.id, .id, .id, .id, (.sl 5)]))]), zv 33 (.ext (.t 32) 0), zv 34 (.ext (.t 32) 1), zn (.st 5 (.agg [.id, .id, .id, .id, (.sl 5)]) (.t 2) (.t 33)), zm 3 34]
def qbck : IC := .reg false [zm 35 0, zi 36 (.call (.c (.fn 29 [] [])) [((.t 35), .id)]), zv 37 (.ext (.t 36) 0), zv 38 (.ext (.t 36) 1), zn (.st 5 (.agg [.id, .id, .id, .id, (.sl 5)]) (.t 2) (.t 37)), zm 3 38]
def k0cq : IC := (.seq qbfb (.seq qbl9 (.seq (.block 0 (.seq qbpr (.cond (.t 9) (.seq qbiy .ret) (.seq qbpw (.cond (.t 17) (.seq qbnz (.seq qboi .ret)) (.seq qbp6 (.cond (.t 26) (.seq qbkl (.seq qbpm .ret)) .skip))))))) (.seq qbck .ret))))
@[go_sem] def s0cq : List (RV × Co) := [(.c true 5 2, (.agg [.id, .id, .id, .id, (.sl 5)])), (.t 3, .id)]
theorem c0cq : cFun Try.prog 17 = some (39, k0cq, s0cq) := by kernel_rfl

def qbge : IC := .reg false [zv 2 (.mov (.c (.bool false)))]
def qbk8 : IC := .reg false [zv 3 (.ld false 1 (.t 0)), zi 4 (.call (.c (.fn 19 [] [])) [((.t 3), .id)]), zv 5 (.fld false 1 0 (.t 4)), zv 6 (.bin .neq .no (.t 5) (.c (.int .i64 0))), zm 7 6, zw 7 true 8 (.ld false 1 (.t 1)), ⟨some (7, true), some 9, .call (.t 8) []⟩, zv 10 (.pick (.t 7) (.t 9) (.c (.bool false))), zm 11 10, zw 11 true 12 (.ld false 1 (.t 0)), ⟨some (11, true), some 13, .call (.c (.fn 19 [] [])) [((.t 12), .id)]⟩, zw 11 true 14 (.fld false 1 0 (.t 13)), zw 11 true 15 (.bin .neq .no (.t 14) (.c (.int .i64 0))), zv 16 (.pick (.t 11) (.t 15) (.c (.bool false))), zm 2 16]
def k0cs : IC := (.seq qbge (.seq qbk8 .ret))
@[go_sem] def s0cs : List (RV × Co) := [(.t 2, .id)]
theorem c0cs : cFun Try.prog 18 = some (17, k0cs, s0cs) := by kernel_rfl

def qbm5 : IC := .reg false [zi 2 (.alo [(.int .i64 0), (.int .i64 0), (.int .i64 0), (.str [])])]
def qbqq : IC := .reg false [zm 4 0, zi 5 (.call (.c (.fn 30 [] [])) [((.t 4), .id)]), zm 3 5]
def qblg : IC := .reg false [zv 6 (.bld [(.int .i64 0), (.int .i64 0), (.int .i64 0), (.str [])] []), zn (.st 4 .id (.t 2) (.t 6))]
def qbdy : IC := .drw [zp (zm 8 0), zp (zv 9 (.nck (.t 8))), zp (zv 10 (.fad (.t 9) 5)), zp (zv 11 (.ld false 1 (.t 10))), zp (zm 12 0), zp (zv 13 (.nck (.t 12))), zp (zv 14 (.fad (.t 13) 0)), zp (zv 15 (.ld false 1 (.t 14))), zp (zv 16 (.len false (.t 15))), zp (zv 17 (.bin .lss .no (.t 11) (.t 16))), zp (zm 7 17)]
def qbhj : IC := .drw [zp (zm 18 0), zp (zv 19 (.nck (.t 18))), zp (zv 20 (.fad (.t 19) 0)), zp (zv 21 (.ld false 1 (.t 20))), zp (zm 22 0), zp (zv 23 (.nck (.t 22))), zp (zv 24 (.fad (.t 23) 5)), zp (zv 25 (.ld false 1 (.t 24))), zp (zv 26 (.iad 4 (.t 21) (.t 25))), zp (zv 27 (.ld true 4 (.t 26))), (zn (.st 4 .id (.t 2) (.t 27)), [])]
def qbom : IC := .reg false [zm 28 0, zv 29 (.nck (.t 28)), zv 30 (.fad (.t 29) 1), zv 31 (.ld true 4 (.t 30)), zn (.st 4 .id (.t 2) (.t 31))]
def k0bd : IC := (.seq qbm5 (.seq (.block 0 (.seq qbqq (.cond (.t 3) (.seq qblg .ret) (.seq qbdy (.cond (.t 7) (.seq qbhj .ret) .skip))))) (.seq qbom .ret)))
@[go_sem] def s0bd : List (RV × Co) := [(.c true 4 2, .id)]
theorem c0bd : cFun Try.prog 19 = some (32, k0bd, s0bd) := by kernel_rfl

def qbgl : IC := .reg false [zi 2 (.alo [(.int .i64 0), (.int .i64 0), (.int .i64 0), (.str []), .nils])]
def qbp1 : IC := .reg false [zm 6 0, zi 7 (.call (.c (.fn 17 [] [])) [((.t 6), .id)]), zm 5 7, zv 8 (.ext (.t 5) 0), zv 9 (.ext (.t 5) 1), zi 3 (.alo [(.int .i64 0), (.int .i64 0), (.int .i64 0), (.str []), .nils]), zn (.st 5 (.agg [.id, .id, .id, .id, (.sl 5)]) (.t 3) (.t 8)), zm 4 9]
def qbod : IC := .reg false [zv 10 (.ld true 5 (.t 3)), zn (.st 5 (.agg [.id, .id, .id, .id, (.sl 5)]) (.t 2) (.t 10))]
def k0cu : IC := (.seq qbgl (.seq qbp1 (.seq qbod .ret)))
@[go_sem] def s0cu : List (RV × Co) := [(.c true 5 2, (.agg [.id, .id, .id, .id, (.sl 5)]))]
theorem c0cu : cFun Try.prog 20 = some (11, k0cu, s0cu) := by kernel_rfl

def qbfr : IC := .reg false [zi 2 (.alo [.nils]), zi 3 (.alo [(.int .i64 0)]), zi 4 (.alo [(.int .i64 0)])]
def qbnh : IC := .reg false [zm 8 0, zv 9 (.len true (.t 8)), zv 10 (.bin .gtr .no (.t 9) (.c (.int .i64 1048576)))]
def qbi0 : IC := .reg false [zn (.st 1 (.sl 4) (.t 2) (.c .nils)), zn (.st 1 .id (.t 3) (.c (.int .i64 0))), zn (.st 1 .id (.t 4) (.c (.int .i64 2)))]
def qbfh : IC := .reg false [zi 5 (.alo [.nils])]
def qbi2 : IC := .reg false [zm 11 0, zi 12 (.call (.c (.fn 31 [] [])) [((.t 11), .id)])]
def qbe5 : IC := .reg false [zm 15 7, zv 16 (.bin .neq .no (.t 15) (.c (.int .i64 0)))]
def qbma : IC := .drw [zp (zv 17 (.fad (.t 6) 1)), zp (zv 18 (.ld false 1 (.t 17))), zp (zm 19 7), (zn (.st 1 (.sl 4) (.t 2) (.c .nils)), [1]), (zn (.st 1 .id (.t 3) (.t 18)), []), (zn (.st 1 .id (.t 4) (.t 19)), [])]
def qbdu : IC := .reg false [zv 20 (.ld false 1 (.t 5)), zv 21 (.ld true 4 (.t 6)), zv 22 (.bsl 4 [((.t 21), .id)]), zi 23 (.app 4 (.agg [(.int .i64 0), (.int .i64 0), (.int .i64 0), (.str [])]) 40 (.sl 4) (.t 20) (.t 22)), zn (.st 1 (.sl 4) (.t 5) (.t 23))]
def qx7 : IC := (.block 1 (.seq (.seq qbe5 (.cond (.t 16) (.seq qbma .ret) .skip)) qbdu))
def qst : IC := .reg false [zi 6 (.alo [(.int .i64 0), (.int .i64 0), (.int .i64 0), (.str [])]), zn (.st 4 .id (.t 6) (.t 13))]
def qtm : IC := .reg false [zm 7 14]
def qbau : IC := .reg false [zv 24 (.ld false 1 (.t 5)), zm 25 0, zv 26 (.len true (.t 25)), zv 27 (.bld [(.int .i64 0), (.int .i64 0), (.int .i64 0), (.str [])] [(0, 1, (.c (.int .i64 0))), (1, 1, (.t 26))]), zv 28 (.bsl 4 [((.t 27), .id)]), zi 29 (.app 4 (.agg [(.int .i64 0), (.int .i64 0), (.int .i64 0), (.str [])]) 40 (.sl 4) (.t 24) (.t 28)), zn (.st 1 (.sl 4) (.t 2) (.t 29)), zn (.st 1 .id (.t 3) (.c (.int .i64 0))), zn (.st 1 .id (.t 4) (.c (.int .i64 0)))]
def k0bo : IC := (.seq qbfr (.seq (.seq qbnh (.cond (.t 10) (.seq qbi0 .ret) .skip)) (.seq qbfh (.seq (.seq qbi2 (.block 0 (.rng (.t 12) [13, 14] (.seq qst qtm) qx7))) (.seq qbau .ret)))))
@[go_sem] def s0bo : List (RV × Co) := [(.c false 1 2, (.sl 4)), (.c false 1 3, .id), (.c false 1 4, .id)]
theorem c0bo : cFun Try.prog 21 = some (30, k0bo, s0bo) := by kernel_rfl

def qbj7 : IC := .reg false [zv 2 (.mov (.c .nilp))]
def qbri : IC := .reg false [zv 6 (.bld [.nils, (.int .i64 0), (.int .i64 0), (.int .i64 0), (.str []), (.int .i64 0), (.int .i64 0), (.int .i64 0), (.int .i64 0)] []), zi 7 (.box (.t 6)), zm 3 7]
def qbnx : IC := .reg false [zm 8 0, zv 9 (.len false (.t 8)), zv 10 (.mov (.c (.int .i64 0)))]
def qbip : IC := .reg false [zv 11 (.bin .lss .no (.t 10) (.t 9))]
def qboq : IC := .reg false [zv 12 (.iad 4 (.t 8) (.t 10)), zv 13 (.ld true 4 (.t 12)), zi 5 (.alo [(.int .i64 0), (.int .i64 0), (.int .i64 0), (.str [])]), zn (.st 4 .id (.t 5) (.t 13))]
def qbgh : IC := .reg false [zv 14 (.fad (.t 5) 0), zv 15 (.ld false 1 (.t 14)), zv 16 (.bin .eql .no (.t 15) (.c (.int .i64 0)))]
def qbgm : IC := .reg false [zm 17 3, zv 18 (.fad (.t 5) 1), zv 19 (.ld false 1 (.t 18)), zv 20 (.nck (.t 17)), zv 21 (.fad (.t 20) 1), zv 22 (.fad (.t 21) 1), zn (.st 1 .id (.t 22) (.t 19))]
def qbob : IC := .drw [zp (zm 23 3), zp (zm 24 3), zp (zv 25 (.nck (.t 24))), zp (zv 26 (.fad (.t 25) 0)), zp (zv 27 (.ld false 1 (.t 26))), zp (zv 28 (.ld true 4 (.t 5))), (zv 29 (.bsl 4 [((.t 28), .id)]), []), (zi 30 (.app 4 (.agg [(.int .i64 0), (.int .i64 0), (.int .i64 0), (.str [])]) 40 (.sl 4) (.t 27) (.t 29)), []), zp (zv 31 (.nck (.t 23))), zp (zv 32 (.fad (.t 31) 0)), (zn (.st 1 (.sl 4) (.t 32) (.t 30)), [])]
def qbim : IC := .reg false [zv 33 (.bin .add .no (.t 10) (.c (.int .i64 1))), zm 10 33]
def qbna : IC := (.seq qbip (.seq (.cond (.t 11) .skip (.exit 0)) (.seq (.block 1 (.seq qboq (.seq (.seq qbgh (.cond (.t 16) (.seq qbgm (.exit 0)) .skip)) qbob))) qbim)))
def q78 : IC := .reg false [zm 34 3, zm 2 34]
def k0bb : IC := (.seq qbj7 (.seq qbri (.seq (.seq qbnx (.block 0 (.loop qbna))) (.seq q78 .ret))))
@[go_sem] def s0bb : List (RV × Co) := [(.t 2, .id)]
theorem c0bb : cFun Try.prog 22 = some (35, k0bb, s0bb) := by kernel_rfl

def qbiw : IC := .reg false [zv 2 (.mov (.c (.int .i64 0))), zv 3 (.mov (.c (.int .i64 0)))]
def qbhm : IC := .reg false [zm 5 0, zv 6 (.bin .eql .ptr (.t 5) (.c .nilp)), zm 4 6]
def qbjq : IC := .reg false [zv 2 (.mov (.c (.int .i64 0))), zv 3 (.mov (.c (.int .i64 1)))]
def qbhu : IC := .reg false [zm 8 0, zv 9 (.nck (.t 8)), zv 10 (.fad (.t 9) 7), zv 11 (.ld false 1 (.t 10)), zv 12 (.bin .neq .no (.t 11) (.c (.int .i64 0))), zm 7 12]
def qbj2 : IC := .drw [zp (zm 13 0), zp (zv 14 (.nck (.t 13))), zp (zv 15 (.fad (.t 14) 8)), zp (zv 16 (.ld false 1 (.t 15))), zp (zm 17 0), zp (zv 18 (.nck (.t 17))), zp (zv 19 (.fad (.t 18) 7)), zp (zv 20 (.ld false 1 (.t 19))), zp (zm 2 16), zp (zm 3 20)]
def qbpz : IC := .drw [zp (zm 22 0), zp (zv 23 (.nck (.t 22))), zp (zv 24 (.fad (.t 23) 5)), zp (zv 25 (.ld false 1 (.t 24))), zp (zm 26 0), zp (zv 27 (.nck (.t 26))), zp (zv 28 (.fad (.t 27) 0)), zp (zv 29 (.ld false 1 (.t 28))), zp (zv 30 (.len false (.t 29))), zp (zv 31 (.bin .lss .no (.t 25) (.t 30))), zp (zm 21 31)]
def qbmz : IC := .drw [zp (zm 32 0), zp (zv 33 (.nck (.t 32))), zp (zv 34 (.fad (.t 33) 0)), zp (zv 35 (.ld false 1 (.t 34))), zp (zm 36 0), zp (zv 37 (.nck (.t 36))), zp (zv 38 (.fad (.t 37) 5)), zp (zv 39 (.ld false 1 (.t 38))), zp (zv 40 (.iad 4 (.t 35) (.t 39))), zp (zv 41 (.fad (.t 40) 1)), zp (zv 42 (.ld false 1 (.t 41))), zp (zm 2 42), zp (zv 3 (.mov (.c (.int .i64 5))))]
def qbqp : IC := .reg false [zm 43 0, zv 44 (.nck (.t 43)), zv 45 (.fad (.t 44) 1), zv 46 (.fad (.t 45) 1), zv 47 (.ld false 1 (.t 46)), zm 2 47, zv 3 (.mov (.c (.int .i64 0)))]
def k0bm : IC := (.seq qbiw (.seq (.block 0 (.seq qbhm (.cond (.t 4) (.seq qbjq .ret) (.seq qbhu (.cond (.t 7) (.seq qbj2 .ret) (.seq qbpz (.cond (.t 21) (.seq qbmz .ret) .skip))))))) (.seq qbqp .ret)))
@[go_sem] def s0bm : List (RV × Co) := [(.t 2, .id), (.t 3, .id)]
theorem c0bm : cFun Try.prog 23 = some (48, k0bm, s0bm) := by kernel_rfl

def qbmn : IC := .reg false [zi 1 (.box (.t 0)), zv 2 (.mov (.c (.int .i64 0)))]
def qbd8 : IC := .reg false [zi 3 (.alo [(.int .i64 0)]), zn (.st 1 .id (.t 3) (.c (.int .i64 0)))]
def qblu : IC := .reg false [zv 5 (.ld true 5 (.t 1)), zi 6 (.call (.c (.fn 32 [] [])) [((.t 5), (.agg [.id, .id, .id, .id, (.sl 5)])), ((.c (.int .i64 1)), .id)])]
def qboz : IC := .reg false [zv 9 (.ld false 1 (.t 3)), zm 10 4, zv 11 (.mm true (.t 9) (.t 10)), zn (.st 1 .id (.t 3) (.t 11))]
def q7d : IC := (.block 1 qboz)
def q4z : IC := .reg false [zm 4 7]
def qbd5 : IC := .reg false [zv 12 (.ld false 1 (.t 3)), zm 2 12]
def k0cm : IC := (.seq qbmn (.seq qbd8 (.seq (.seq qblu (.block 0 (.rng (.t 6) [7, 8] q4z q7d))) (.seq qbd5 .ret))))
@[go_sem] def s0cm : List (RV × Co) := [(.t 2, .id)]
theorem c0cm : cFun Try.prog 24 = some (13, k0cm, s0cm) := by kernel_rfl

def qbh3 : IC := .reg false [zv 3 (.mov (.c (.bool false)))]
def qbnj : IC := .reg false [zv 4 (.ld false 1 (.t 0))]
def qbgn : IC := .reg false [zv 5 (.ld false 1 (.t 1)), zv 6 (.ld false 1 (.t 2)), zi 7 (.call (.c (.fn 26 [] [])) [((.t 5), .id), ((.t 6), .id)]), zm 3 7]
def qbig : IC := .reg false [zn (.st 1 .id (.t 0) (.c (.bool true)))]
def qble : IC := .reg false [zv 3 (.mov (.c (.bool true)))]
def k0dg : IC := (.seq qbh3 (.seq (.seq qbnj (.cond (.t 4) (.seq qbgn .ret) .skip)) (.seq qbig (.seq qble .ret))))
@[go_sem] def s0dg : List (RV × Co) := [(.t 3, .id)]
theorem c0dg : cFun Try.prog 25 = some (8, k0dg, s0dg) := by kernel_rfl

def qbh7 : IC := .reg false [zv 4 (.mov (.c (.bool false)))]
def qbfd : IC := .reg false [zm 5 0, zm 6 1, zi 7 (.call (.c (.fn 33 [] [])) [((.t 5), .id), ((.t 6), .id)]), zv 8 (.un .not (.t 7))]
def qbe8 : IC := .reg false [zv 4 (.mov (.c (.bool false)))]
def qbra : IC := .reg false [zm 9 0, zi 10 (.call (.c (.fn 34 [] [])) [((.t 9), .id)])]
def qbgk : IC := .reg false [zv 4 (.mov (.c (.bool true)))]
def k0bi : IC := (.seq qbh7 (.seq (.seq qbfd (.cond (.t 8) (.seq qbe8 .ret) .skip)) (.seq qbra (.seq qbgk .ret))))
@[go_sem] def s0bi : List (RV × Co) := [(.t 4, .id)]
theorem c0bi : cFun Try.prog 26 = some (11, k0bi, s0bi) := by kernel_rfl

def qbg5 : IC := .reg false [zi 2 (.box (.t 0)), zi 3 (.box (.t 1)), zi 4 (.alo [(.int .i64 0), (.int .i64 0), (.int .i64 0), (.str []), .nils]), zv 5 (.mov (.c (.bool false)))]
def qbel : IC := .reg false [zv 11 (.ld false 1 (.t 2)), zi 12 (.call (.c (.fn 35 [] [])) [((.t 11), .id), ((.c (.int .i64 2)), .id)]), zm 10 12, zv 13 (.ext (.t 10) 0), zv 14 (.ext (.t 10) 1), zi 6 (.alo [(.int .i64 0), (.int .i64 0), (.int .i64 0), (.str [])]), zn (.st 4 .id (.t 6) (.t 13)), zm 7 14]
def qbhf : IC := .reg false [zm 15 7, zv 16 (.un .not (.t 15))]
def qbgf : IC := .reg false [zv 17 (.ld true 5 (.t 3)), zn (.st 5 (.agg [.id, .id, .id, .id, (.sl 5)]) (.t 4) (.t 17)), zv 5 (.mov (.c (.bool false)))]
def qbls : IC := .reg false [zv 19 (.mfn 36 [] [(.t 2)]), zv 20 (.mfn 38 [] [(.t 2)]), zi 21 (.call (.c (.fn 15 [] [])) [((.c .nils), (.sl 5)), ((.t 19), .id), ((.t 20), .id)]), zm 18 21, zv 22 (.ext (.t 18) 0), zv 23 (.ext (.t 18) 1), zm 8 22, zm 9 23]
def qbjf : IC := .reg false [zv 24 (.ld false 1 (.t 2)), zi 25 (.call (.c (.fn 39 [] [])) [((.t 24), .id), ((.c (.str [61])), .id)]), zv 26 (.un .not (.t 25))]
def qbll : IC := .reg false [zv 27 (.ld true 5 (.t 3)), zn (.st 5 (.agg [.id, .id, .id, .id, (.sl 5)]) (.t 4) (.t 27)), zv 5 (.mov (.c (.bool false)))]
def qbm2 : IC := .drw [zp (zv 28 (.fad (.t 6) 3)), zp (zv 29 (.ld false 1 (.t 28))), zp (zm 30 8), zp (zv 31 (.len false (.t 30))), zp (zv 32 (.fad (.t 3) 0)), (zn (.st 1 .id (.t 32) (.c (.int .i64 33))), [1]), zp (zv 33 (.fad (.t 3) 3)), (zn (.st 1 .id (.t 33) (.t 29)), []), zp (zv 34 (.fad (.t 3) 2)), (zn (.st 1 .id (.t 34) (.t 31)), [])]
def qbkj : IC := .reg false [zm 36 8, zv 37 (.mfn 40 [] [(.t 2)]), zv 38 (.ld false 1 (.t 2)), zi 39 (.call (.c (.fn 14 [] [])) [((.t 38), .id), ((.c (.str [124])), .id)]), zi 40 (.call (.c (.fn 15 [] [])) [((.t 36), (.sl 5)), ((.t 37), .id), ((.t 39), .id)]), zm 35 40, zv 41 (.ext (.t 35) 0), zv 42 (.ext (.t 35) 1), zv 43 (.fad (.t 3) 4), zn (.st 1 (.sl 5) (.t 43) (.t 41)), zm 7 42]
def qbfn : IC := .reg false [zv 44 (.ld true 5 (.t 3)), zm 45 7, zn (.st 5 (.agg [.id, .id, .id, .id, (.sl 5)]) (.t 4) (.t 44)), zm 5 45]
def k0de : IC := (.seq qbg5 (.seq qbel (.seq (.seq qbhf (.cond (.t 16) (.seq qbgf .ret) .skip)) (.seq qbls (.seq (.seq qbjf (.cond (.t 26) (.seq qbll .ret) .skip)) (.seq qbm2 (.seq qbkj (.seq qbfn .ret))))))))
@[go_sem] def s0de : List (RV × Co) := [(.c true 5 4, (.agg [.id, .id, .id, .id, (.sl 5)])), (.t 5, .id)]
theorem c0de : cFun Try.prog 27 = some (46, k0de, s0de) := by kernel_rfl

def qbk2 : IC := .reg false [zi 3 (.box (.t 1)), zi 4 (.alo [(.int .i64 0), (.int .i64 0), (.int .i64 0), (.str []), .nils]), zv 5 (.mov (.c (.bool false)))]
def qbgb : IC := .reg false [zm 12 0, zi 13 (.call (.c (.fn 42 [] [])) [((.t 12), .id)]), zm 11 13, zv 14 (.ext (.t 11) 0), zv 15 (.ext (.t 11) 1), zm 6 14, zm 7 15]
def qbog : IC := .reg false [zm 16 7, zv 17 (.un .not (.t 16))]
def qbpe : IC := .reg false [zv 18 (.ld true 5 (.t 3)), zn (.st 5 (.agg [.id, .id, .id, .id, (.sl 5)]) (.t 4) (.t 18)), zv 5 (.mov (.c (.bool false)))]
def qbgx : IC := .reg false [zm 20 0, zi 21 (.call (.c (.fn 35 [] [])) [((.t 20), .id), ((.c (.int .i64 2)), .id)]), zm 19 21, zv 22 (.ext (.t 19) 0), zv 23 (.ext (.t 19) 1), zi 8 (.alo [(.int .i64 0), (.int .i64 0), (.int .i64 0), (.str [])]), zn (.st 4 .id (.t 8) (.t 22)), zm 7 23]
def qbij : IC := .reg false [zm 24 7, zv 25 (.un .not (.t 24))]
def qbd0 : IC := .reg false [zv 26 (.ld true 5 (.t 3)), zn (.st 5 (.agg [.id, .id, .id, .id, (.sl 5)]) (.t 4) (.t 26)), zv 5 (.mov (.c (.bool false)))]
def qbqn : IC := .reg false [zv 27 (.fad (.t 8) 3), zv 28 (.ld false 1 (.t 27)), zm 29 6, zv 30 (.len false (.t 29)), zv 31 (.fad (.t 3) 3), zn (.st 1 .id (.t 31) (.t 28)), zv 32 (.fad (.t 3) 2), zn (.st 1 .id (.t 32) (.t 30))]
def qbon : IC := .reg false [zv 9 (.mov (.c (.int .i64 31)))]
def qbfi : IC := .reg false [zv 33 (.fad (.t 3) 0), zv 34 (.ld false 1 (.t 33)), zv 35 (.bin .eql .no (.t 34) (.c (.int .i64 35)))]
def q92 : IC := .reg false [zv 9 (.mov (.c (.int .i64 32)))]
def qbax : IC := .reg false [zm 36 0, zi 37 (.call (.c (.fn 19 [] [])) [((.t 36), .id)]), zv 38 (.fld false 1 0 (.t 37)), zv 39 (.bin .neq .no (.t 38) (.c (.int .i64 1)))]
def q82 : IC := .drw [zp (zv 40 (.ld true 5 (.t 3))), zp (zm 41 0), (zi 42 (.call (.c (.fn 43 [] [])) [((.t 41), .id), ((.c (.int .i64 5)), .id)]), [0]), (zn (.st 5 (.agg [.id, .id, .id, .id, (.sl 5)]) (.t 4) (.t 40)), []), zp (zm 5 42)]
def q9e : IC := .reg false [zm 44 0, zi 45 (.call (.c (.fn 37 [] [])) [((.t 44), .id)]), zm 43 45, zv 46 (.ext (.t 43) 0), zv 47 (.ext (.t 43) 1), zi 10 (.alo [(.int .i64 0), (.int .i64 0), (.int .i64 0), (.str []), .nils]), zn (.st 5 (.agg [.id, .id, .id, .id, (.sl 5)]) (.t 10) (.t 46)), zm 7 47]
def qbcm : IC := .reg false [zm 48 7, zv 49 (.un .not (.t 48))]
def qbaw : IC := .reg false [zv 50 (.ld true 5 (.t 3)), zn (.st 5 (.agg [.id, .id, .id, .id, (.sl 5)]) (.t 4) (.t 50)), zv 5 (.mov (.c (.bool false)))]
def q9c : IC := .reg false [zm 52 0, zm 53 6, zv 54 (.ld true 5 (.t 10)), zv 55 (.bsl 5 [((.t 54), (.agg [.id, .id, .id, .id, (.sl 5)]))]), zi 56 (.app 5 (.agg [(.int .i64 0), (.int .i64 0), (.int .i64 0), (.str []), .nils]) 64 (.sl 5) (.t 53) (.t 55)), zm 57 9, zi 58 (.call (.c (.fn 44 [] [])) [((.t 52), .id), ((.t 56), (.sl 5)), ((.t 57), .id)]), zm 51 58, zv 59 (.ext (.t 51) 0), zv 60 (.ext (.t 51) 1), zv 61 (.fad (.t 3) 4), zn (.st 1 (.sl 5) (.t 61) (.t 59)), zm 7 60]
def qba0 : IC := .reg false [zv 62 (.ld true 5 (.t 3)), zm 63 7, zn (.st 5 (.agg [.id, .id, .id, .id, (.sl 5)]) (.t 4) (.t 62)), zm 5 63]
def k0cy : IC := (.seq qbk2 (.seq qbgb (.seq (.seq qbog (.cond (.t 17) (.seq qbpe .ret) .skip)) (.seq qbgx (.seq (.seq qbij (.cond (.t 25) (.seq qbd0 .ret) .skip)) (.seq qbqn (.seq qbon (.seq (.seq qbfi (.cond (.t 35) (.seq q92 (.seq qbax (.cond (.t 39) (.seq q82 .ret) .skip))) .skip)) (.seq q9e (.seq (.seq qbcm (.cond (.t 49) (.seq qbaw .ret) .skip)) (.seq q9c (.seq qba0 .ret))))))))))))
@[go_sem] def s0cy : List (RV × Co) := [(.c true 5 4, (.agg [.id, .id, .id, .id, (.sl 5)])), (.t 5, .id)]
theorem c0cy : cFun Try.prog 28 = some (64, k0cy, s0cy) := by kernel_rfl

def qbup : IC := .reg false [zi 2 (.alo [(.int .i64 0), (.int .i64 0), (.int .i64 0), (.str []), .nils]), zv 3 (.mov (.c (.bool false)))]
def qbwh : IC := .reg false [zm 9 0, zi 10 (.call (.c (.fn 35 [] [])) [((.t 9), .id), ((.c (.int .i64 1)), .id)]), zm 8 10, zv 11 (.ext (.t 8) 0), zv 12 (.ext (.t 8) 1), zi 4 (.alo [(.int .i64 0), (.int .i64 0), (.int .i64 0), (.str [])]), zn (.st 4 .id (.t 4) (.t 11)), zm 5 12]
def qbu4 : IC := .reg false [zm 13 5, zv 14 (.un .not (.t 13))]
def qbvd : IC := .reg false [zv 15 (.bld [(.int .i64 0), (.int .i64 0), (.int .i64 0), (.str []), .nils] []), zn (.st 5 (.agg [.id, .id, .id, .id, (.sl 5)]) (.t 2) (.t 15)), zv 3 (.mov (.c (.bool false)))]
def qbxy : IC := .reg false [zv 16 (.fad (.t 4) 1), zv 17 (.ld false 1 (.t 16)), zv 18 (.fad (.t 4) 3), zv 19 (.ld false 1 (.t 18)), zv 20 (.bld [(.int .i64 0), (.int .i64 0), (.int .i64 0), (.str []), .nils] [(0, 1, (.c (.int .i64 31))), (1, 1, (.t 17)), (3, 1, (.t 19))]), zi 6 (.alo [(.int .i64 0), (.int .i64 0), (.int .i64 0), (.str []), .nils]), zn (.st 5 (.agg [.id, .id, .id, .id, (.sl 5)]) (.t 6) (.t 20))]
def qbv8 : IC := .reg false [zi 7 (.alo [(.int .i64 0), (.int .i64 0), (.int .i64 0), (.str []), .nils])]
def qbzb : IC := .reg false [zm 21 0, zi 22 (.call (.c (.fn 26 [] [])) [((.t 21), .id), ((.c (.str [58, 58])), .id)])]
def qbtj : IC := .reg false [zv 23 (.fad (.t 6) 0), zn (.st 1 .id (.t 23) (.c (.int .i64 32)))]
def qbxq : IC := .reg false [zm 25 0, zi 26 (.call (.c (.fn 45 [] [])) [((.t 25), .id)]), zm 24 26, zv 27 (.ext (.t 24) 0), zv 28 (.ext (.t 24) 1), zn (.st 5 (.agg [.id, .id, .id, .id, (.sl 5)]) (.t 7) (.t 27)), zm 5 28]
def qbtv : IC := .reg false [zm 30 0, zi 31 (.call (.c (.fn 46 [] [])) [((.t 30), .id), ((.c (.str [61])), .id)]), zm 29 31, zv 32 (.ext (.t 29) 0), zv 33 (.ext (.t 29) 1), zn (.st 5 (.agg [.id, .id, .id, .id, (.sl 5)]) (.t 7) (.t 32)), zm 5 33]
def qbgo : IC := .reg false [zm 34 5, zv 35 (.un .not (.t 34))]
def qbdt : IC := .reg false [zv 36 (.bld [(.int .i64 0), (.int .i64 0), (.int .i64 0), (.str []), .nils] []), zn (.st 5 (.agg [.id, .id, .id, .id, (.sl 5)]) (.t 2) (.t 36)), zv 3 (.mov (.c (.bool false)))]
def qblq : IC := .reg false [zv 37 (.ld true 5 (.t 7)), zv 38 (.bsl 5 [((.t 37), (.agg [.id, .id, .id, .id, (.sl 5)]))]), zv 39 (.fad (.t 6) 4), zn (.st 1 (.sl 5) (.t 39) (.t 38))]
def qbg2 : IC := .reg false [zv 40 (.ld true 5 (.t 6)), zn (.st 5 (.agg [.id, .id, .id, .id, (.sl 5)]) (.t 2) (.t 40)), zv 3 (.mov (.c (.bool true)))]
def k0k : IC := (.seq qbup (.seq qbwh (.seq (.seq qbu4 (.cond (.t 14) (.seq qbvd .ret) .skip)) (.seq qbxy (.seq qbv8 (.seq (.seq qbzb (.cond (.t 22) (.seq qbtj qbxq) qbtv)) (.seq (.seq qbgo (.cond (.t 35) (.seq qbdt .ret) .skip)) (.seq qblq (.seq qbg2 .ret)))))))))
@[go_sem] def s0k : List (RV × Co) := [(.c true 5 2, (.agg [.id, .id, .id, .id, (.sl 5)])), (.t 3, .id)]
theorem c0k : cFun Try.prog 29 = some (41, k0k, s0k) := by kernel_rfl

def qbpn : IC := .reg false [zv 2 (.mov (.c (.bool false)))]
def qbnn : IC := .reg false [zm 3 0, zv 4 (.bin .eql .ptr (.t 3) (.c .nilp)), zm 5 4, zw 5 false 6 (.mov (.t 0)), zw 5 false 7 (.nck (.t 6)), zw 5 false 8 (.fad (.t 7) 7), zw 5 false 9 (.ld false 1 (.t 8)), zw 5 false 10 (.bin .neq .no (.t 9) (.c (.int .i64 0))), zv 11 (.pick (.t 5) (.c (.bool true)) (.t 10)), zm 2 11]
def k0bc : IC := (.seq qbpn (.seq qbnn .ret))
@[go_sem] def s0bc : List (RV × Co) := [(.t 2, .id)]
theorem c0bc : cFun Try.prog 30 = some (12, k0bc, s0bc) := by kernel_rfl

def qbj9 : IC := .reg false [zi 1 (.box (.t 0)), zv 2 (.mov (.c .nilf))]
def qbkd : IC := .reg false [zv 3 (.mfn 47 [] [(.t 1)]), zm 2 3]
def k0bn : IC := (.seq qbj9 (.seq qbkd .ret))
@[go_sem] def s0bn : List (RV × Co) := [(.t 2, .id)]
theorem c0bn : cFun Try.prog 31 = some (4, k0bn, s0bn) := by kernel_rfl

def qbga : IC := .reg false [zi 2 (.box (.t 0)), zi 3 (.box (.t 1)), zv 4 (.mov (.c .nilf))]
def qbny : IC := .reg false [zv 5 (.mfn 50 [] [(.t 2), (.t 3)]), zm 4 5]
def k0cl : IC := (.seq qbga (.seq qbny .ret))
@[go_sem] def s0cl : List (RV × Co) := [(.t 4, .id)]
theorem c0cl : cFun Try.prog 32 = some (6, k0cl, s0cl) := by kernel_rfl

def qbiq : IC := .reg false [zv 4 (.mov (.c (.bool false)))]
def qbi5 : IC := .reg false [zm 5 0, zi 6 (.call (.c (.fn 30 [] [])) [((.t 5), .id)]), zv 7 (.un .not (.t 6)), zm 8 7, zw 8 true 9 (.mov (.t 0)), ⟨some (8, true), some 10, .call (.c (.fn 19 [] [])) [((.t 9), .id)]⟩, zw 8 true 11 (.mov (.t 1)), zw 8 true 12 (.bsl 1 [((.t 11), .id)]), ⟨some (8, true), some 13, .call (.c (.fn 52 [] [])) [((.t 10), .id), ((.t 12), (.sl 1))]⟩, zv 14 (.pick (.t 8) (.t 13) (.c (.bool false))), zm 4 14]
def k0bg : IC := (.seq qbiq (.seq qbi5 .ret))
@[go_sem] def s0bg : List (RV × Co) := [(.t 4, .id)]
theorem c0bg : cFun Try.prog 33 = some (15, k0bg, s0bg) := by kernel_rfl

def qbju : IC := .reg false [zi 2 (.alo [(.int .i64 0), (.int .i64 0), (.int .i64 0), (.str [])])]
def qbne : IC := .reg false [zm 4 0, zi 5 (.call (.c (.fn 19 [] [])) [((.t 4), .id)]), zi 3 (.alo [(.int .i64 0), (.int .i64 0), (.int .i64 0), (.str [])]), zn (.st 4 .id (.t 3) (.t 5))]
def qbg1 : IC := .drw [zp (zm 6 0), (zi 7 (.call (.c (.fn 30 [] [])) [((.t 6), .id)]), []), zp (zv 8 (.un .not (.t 7))), zp (zm 9 8), zp (zw 9 true 10 (.mov (.t 0))), zp (zw 9 true 11 (.nck (.t 10))), zp (zw 9 true 12 (.fad (.t 11) 5)), zp (zw 9 true 13 (.ld false 1 (.t 12))), zp (zw 9 true 14 (.mov (.t 0))), zp (zw 9 true 15 (.nck (.t 14))), zp (zw 9 true 16 (.fad (.t 15) 0)), zp (zw 9 true 17 (.ld false 1 (.t 16))), zp (zw 9 true 18 (.len false (.t 17))), zp (zw 9 true 19 (.bin .lss .no (.t 13) (.t 18))), zp (zv 20 (.pick (.t 9) (.t 19) (.c (.bool false))))]
def qbf8 : IC := .reg false [zm 21 0, zv 22 (.nck (.t 21)), zv 23 (.fad (.t 22) 5), zv 24 (.ld false 1 (.t 23)), zv 25 (.bin .add .no (.t 24) (.c (.int .i64 1))), zv 26 (.nck (.t 21)), zv 27 (.fad (.t 26) 5), zn (.st 1 .id (.t 27) (.t 25))]
def qbic : IC := .reg false [zv 28 (.ld true 4 (.t 3)), zn (.st 4 .id (.t 2) (.t 28))]
def k0bf : IC := (.seq qbju (.seq qbne (.seq (.seq qbg1 (.cond (.t 20) qbf8 .skip)) (.seq qbic .ret))))
@[go_sem] def s0bf : List (RV × Co) := [(.c true 4 2, .id)]
theorem c0bf : cFun Try.prog 34 = some (29, k0bf, s0bf) := by kernel_rfl

def qbhv : IC := .reg false [zi 4 (.alo [(.int .i64 0), (.int .i64 0), (.int .i64 0), (.str [])]), zv 5 (.mov (.c (.bool false)))]
def qbng : IC := .reg false [zm 6 0, zi 7 (.call (.c (.fn 30 [] [])) [((.t 6), .id)]), zm 8 7, zw 8 false 9 (.mov (.t 0)), ⟨some (8, false), some 10, .call (.c (.fn 19 [] [])) [((.t 9), .id)]⟩, zw 8 false 11 (.fld false 1 0 (.t 10)), zw 8 false 12 (.mov (.t 1)), zw 8 false 13 (.bin .neq .no (.t 11) (.t 12)), zv 14 (.pick (.t 8) (.c (.bool true)) (.t 13))]
def qbdv : IC := .reg false [zv 15 (.bld [(.int .i64 0), (.int .i64 0), (.int .i64 0), (.str [])] []), zm 16 0, zi 17 (.call (.c (.fn 43 [] [])) [((.t 16), .id), ((.c (.int .i64 5)), .id)]), zn (.st 4 .id (.t 4) (.t 15)), zm 5 17]
def qbkk : IC := .reg false [zm 18 0, zi 19 (.call (.c (.fn 34 [] [])) [((.t 18), .id)]), zn (.st 4 .id (.t 4) (.t 19)), zv 5 (.mov (.c (.bool true)))]
def k0co : IC := (.seq qbhv (.seq (.seq qbng (.cond (.t 14) (.seq qbdv .ret) .skip)) (.seq qbkk .ret)))
@[go_sem] def s0co : List (RV × Co) := [(.c true 4 4, .id), (.t 5, .id)]
theorem c0co : cFun Try.prog 35 = some (20, k0co, s0co) := by kernel_rfl

def qbh5 : IC := .reg false [zi 1 (.alo [(.int .i64 0), (.int .i64 0), (.int .i64 0), (.str []), .nils]), zv 2 (.mov (.c (.bool false)))]
def qbfc : IC := .reg false [zv 3 (.ld false 1 (.t 0)), zi 4 (.call (.c (.fn 37 [] [])) [((.t 3), .id)]), zv 5 (.ext (.t 4) 0), zv 6 (.ext (.t 4) 1), zn (.st 5 (.agg [.id, .id, .id, .id, (.sl 5)]) (.t 1) (.t 5)), zm 2 6]
def k0dk : IC := (.seq qbh5 (.seq qbfc .ret))
@[go_sem] def s0dk : List (RV × Co) := [(.c true 5 1, (.agg [.id, .id, .id, .id, (.sl 5)])), (.t 2, .id)]
theorem c0dk : cFun Try.prog 36 = some (7, k0dk, s0dk) := by kernel_rfl

def qbsk : IC := .reg false [zi 2 (.alo [(.int .i64 0), (.int .i64 0), (.int .i64 0), (.str []), .nils]), zv 3 (.mov (.c (.bool false)))]
def qbrw : IC := .reg false [zm 7 0, zi 8 (.call (.c (.fn 19 [] [])) [((.t 7), .id)]), zi 4 (.alo [(.int .i64 0), (.int .i64 0), (.int .i64 0), (.str [])]), zn (.st 4 .id (.t 4) (.t 8))]
def qbsl : IC := .reg false [zv 10 (.fad (.t 4) 0), zv 11 (.ld false 1 (.t 10)), zv 12 (.bin .eql .no (.t 11) (.c (.int .i64 1))), zm 9 12]
def qbrv : IC := .reg false [zm 13 0, zi 14 (.call (.c (.fn 34 [] [])) [((.t 13), .id)])]
def qbvi : IC := .reg false [zv 15 (.fad (.t 4) 1), zv 16 (.ld false 1 (.t 15)), zv 17 (.fad (.t 4) 3), zv 18 (.ld false 1 (.t 17)), zv 19 (.bld [(.int .i64 0), (.int .i64 0), (.int .i64 0), (.str []), .nils] [(0, 1, (.c (.int .i64 1))), (1, 1, (.t 16)), (3, 1, (.t 18))]), zn (.st 5 (.agg [.id, .id, .id, .id, (.sl 5)]) (.t 2) (.t 19)), zv 3 (.mov (.c (.bool true)))]
def qbwa : IC := .reg false [zv 21 (.fad (.t 4) 0), zv 22 (.ld false 1 (.t 21)), zv 23 (.bin .eql .no (.t 22) (.c (.int .i64 2))), zm 20 23]
def qbxz : IC := .reg false [zm 24 0, zi 25 (.call (.c (.fn 34 [] [])) [((.t 24), .id)])]
def qbuy : IC := .reg false [zv 26 (.fad (.t 4) 1), zv 27 (.ld false 1 (.t 26)), zv 28 (.fad (.t 4) 3), zv 29 (.ld false 1 (.t 28)), zv 30 (.bld [(.int .i64 0), (.int .i64 0), (.int .i64 0), (.str []), .nils] [(0, 1, (.c (.int .i64 2))), (1, 1, (.t 27)), (3, 1, (.t 29))]), zn (.st 5 (.agg [.id, .id, .id, .id, (.sl 5)]) (.t 2) (.t 30)), zv 3 (.mov (.c (.bool true)))]
def qbxd : IC := .reg false [zm 32 0, zi 33 (.call (.c (.fn 33 [] [])) [((.t 32), .id), ((.c (.str [40])), .id)]), zv 34 (.un .not (.t 33)), zm 31 34]
def qbyq : IC := .reg false [zv 35 (.bld [(.int .i64 0), (.int .i64 0), (.int .i64 0), (.str []), .nils] []), zm 36 0, zi 37 (.call (.c (.fn 43 [] [])) [((.t 36), .id), ((.c (.int .i64 5)), .id)]), zn (.st 5 (.agg [.id, .id, .id, .id, (.sl 5)]) (.t 2) (.t 35)), zm 3 37]
def qbrc : IC := .reg false [zm 38 0, zi 39 (.call (.c (.fn 53 [] [])) [((.t 38), .id)]), zv 40 (.un .not (.t 39))]
def qbha : IC := .reg false [zv 41 (.bld [(.int .i64 0), (.int .i64 0), (.int .i64 0), (.str []), .nils] []), zn (.st 5 (.agg [.id, .id, .id, .id, (.sl 5)]) (.t 2) (.t 41)), zv 3 (.mov (.c (.bool false)))]
def qbq1 : IC := .reg false [zm 42 0, zi 43 (.call (.c (.fn 34 [] [])) [((.t 42), .id)])]
def qbe2 : IC := .reg false [zm 45 0, zi 46 (.call (.c (.fn 54 [] [])) [((.t 45), .id)]), zm 44 46, zv 47 (.ext (.t 44) 0), zv 48 (.ext (.t 44) 1), zi 5 (.alo [(.int .i64 0), (.int .i64 0), (.int .i64 0), (.str []), .nils]), zn (.st 5 (.agg [.id, .id, .id, .id, (.sl 5)]) (.t 5) (.t 47)), zm 6 48]
def qbeu : IC := .reg false [zm 49 6, zm 50 49, zw 50 true 51 (.mov (.t 0)), ⟨some (50, true), some 52, .call (.c (.fn 39 [] [])) [((.t 51), .id), ((.c (.str [41])), .id)]⟩, zv 53 (.pick (.t 50) (.t 52) (.c (.bool false))), zm 6 53]
def qbhw : IC := .reg false [zm 54 0, zi 55 (.call (.c (.fn 55 [] [])) [((.t 54), .id)])]
def qbiz : IC := .reg false [zm 56 0, zv 57 (.ld true 5 (.t 5)), zm 58 6, zi 59 (.call (.c (.fn 56 [] [])) [((.t 56), .id), ((.t 57), (.agg [.id, .id, .id, .id, (.sl 5)])), ((.t 58), .id)]), zv 60 (.ext (.t 59) 0), zv 61 (.ext (.t 59) 1), zn (.st 5 (.agg [.id, .id, .id, .id, (.sl 5)]) (.t 2) (.t 60)), zm 3 61]
def k0y : IC := (.seq qbsk (.seq (.seq qbrw (.block 0 (.seq qbsl (.cond (.t 9) (.seq qbrv (.seq qbvi .ret)) (.seq qbwa (.cond (.t 20) (.seq qbxz (.seq qbuy .ret)) (.seq qbxd (.cond (.t 31) (.seq qbyq .ret) .skip)))))))) (.seq (.seq qbrc (.cond (.t 40) (.seq qbha .ret) .skip)) (.seq qbq1 (.seq qbe2 (.seq qbeu (.seq qbhw (.seq qbiz .ret))))))))
@[go_sem] def s0y : List (RV × Co) := [(.c true 5 2, (.agg [.id, .id, .id, .id, (.sl 5)])), (.t 3, .id)]
theorem c0y : cFun Try.prog 37 = some (62, k0y, s0y) := by kernel_rfl

def qbo5 : IC := .reg false [zv 1 (.mov (.c (.bool false)))]
def qbjb : IC := .reg false [zv 2 (.ld false 1 (.t 0)), zi 3 (.call (.c (.fn 19 [] [])) [((.t 2), .id)]), zv 4 (.fld false 1 0 (.t 3)), zv 5 (.bin .eql .no (.t 4) (.c (.int .i64 1))), zm 1 5]
def k0dl : IC := (.seq qbo5 (.seq qbjb .ret))
@[go_sem] def s0dl : List (RV × Co) := [(.t 1, .id)]
theorem c0dl : cFun Try.prog 38 = some (6, k0dl, s0dl) := by kernel_rfl

def qbrl : IC := .reg false [zv 4 (.mov (.c (.bool false)))]
def qbjx : IC := .reg false [zm 5 0, zm 6 1, zi 7 (.call (.c (.fn 26 [] [])) [((.t 5), .id), ((.t 6), .id)]), zm 8 7, zw 8 false 9 (.mov (.t 0)), ⟨some (8, false), some 10, .call (.c (.fn 43 [] [])) [((.t 9), .id), ((.c (.int .i64 5)), .id)]⟩, zv 11 (.pick (.t 8) (.c (.bool true)) (.t 10)), zm 4 11]
def k0bj : IC := (.seq qbrl (.seq qbjx .ret))
@[go_sem] def s0bj : List (RV × Co) := [(.t 4, .id)]
theorem c0bj : cFun Try.prog 39 = some (12, k0bj, s0bj) := by kernel_rfl

def qbgg : IC := .reg false [zi 1 (.alo [(.int .i64 0), (.int .i64 0), (.int .i64 0), (.str []), .nils]), zv 2 (.mov (.c (.bool false)))]
def qboy : IC := .reg false [zv 3 (.ld false 1 (.t 0)), zi 4 (.call (.c (.fn 41 [] [])) [((.t 3), .id)]), zv 5 (.ext (.t 4) 0), zv 6 (.ext (.t 4) 1), zn (.st 5 (.agg [.id, .id, .id, .id, (.sl 5)]) (.t 1) (.t 5)), zm 2 6]
def k0dd : IC := (.seq qbgg (.seq qboy .ret))
@[go_sem] def s0dd : List (RV × Co) := [(.c true 5 1, (.agg [.id, .id, .id, .id, (.sl 5)])), (.t 2, .id)]
theorem c0dd : cFun Try.prog 40 = some (7, k0dd, s0dd) := by kernel_rfl

def qbl7 : IC := .reg false [zi 1 (.box (.t 0)), zi 2 (.alo [(.int .i64 0), (.int .i64 0), (.int .i64 0), (.str []), .nils]), zv 3 (.mov (.c (.bool false)))]
def qbqa : IC := .reg false [zv 8 (.ld false 1 (.t 1)), zi 9 (.call (.c (.fn 35 [] [])) [((.t 8), .id), ((.c (.int .i64 2)), .id)]), zm 7 9, zv 10 (.ext (.t 7) 0), zv 11 (.ext (.t 7) 1), zi 4 (.alo [(.int .i64 0), (.int .i64 0), (.int .i64 0), (.str [])]), zn (.st 4 .id (.t 4) (.t 10)), zm 5 11]
def qbo9 : IC := .reg false [zm 12 5, zv 13 (.un .not (.t 12))]
def qbnm : IC := .reg false [zv 14 (.bld [(.int .i64 0), (.int .i64 0), (.int .i64 0), (.str []), .nils] []), zn (.st 5 (.agg [.id, .id, .id, .id, (.sl 5)]) (.t 2) (.t 14)), zv 3 (.mov (.c (.bool false)))]
def qbjk : IC := .reg false [zv 15 (.fad (.t 4) 1), zv 16 (.ld false 1 (.t 15)), zv 17 (.fad (.t 4) 3), zv 18 (.ld false 1 (.t 17)), zv 19 (.bld [(.int .i64 0), (.int .i64 0), (.int .i64 0), (.str []), .nils] [(0, 1, (.c (.int .i64 34))), (1, 1, (.t 16)), (3, 1, (.t 18))]), zi 6 (.alo [(.int .i64 0), (.int .i64 0), (.int .i64 0), (.str []), .nils]), zn (.st 5 (.agg [.id, .id, .id, .id, (.sl 5)]) (.t 6) (.t 19))]
def qbn0 : IC := .reg false [zv 21 (.mfn 57 [] [(.t 1)]), zv 22 (.mfn 58 [] [(.t 1)]), zi 23 (.call (.c (.fn 15 [] [])) [((.c .nils), (.sl 5)), ((.t 21), .id), ((.t 22), .id)]), zm 20 23, zv 24 (.ext (.t 20) 0), zv 25 (.ext (.t 20) 1), zv 26 (.fad (.t 6) 4), zn (.st 1 (.sl 5) (.t 26) (.t 24)), zm 5 25]
def qbpg : IC := .reg false [zv 27 (.ld true 5 (.t 6)), zm 28 5, zn (.st 5 (.agg [.id, .id, .id, .id, (.sl 5)]) (.t 2) (.t 27)), zm 3 28]
def k0dm : IC := (.seq qbl7 (.seq qbqa (.seq (.seq qbo9 (.cond (.t 13) (.seq qbnm .ret) .skip)) (.seq qbjk (.seq qbn0 (.seq qbpg .ret))))))
@[go_sem] def s0dm : List (RV × Co) := [(.c true 5 2, (.agg [.id, .id, .id, .id, (.sl 5)])), (.t 3, .id)]
theorem c0dm : cFun Try.prog 41 = some (29, k0dm, s0dm) := by kernel_rfl

def qbzc : IC := .reg false [zv 2 (.mov (.c .nils)), zv 3 (.mov (.c (.bool false)))]
def qbw0 : IC := .reg false [zm 9 0, zi 10 (.call (.c (.fn 60 [] [])) [((.t 9), .id), ((.c (.str [61, 62])), .id)]), zv 11 (.un .not (.t 10))]
def qbsm : IC := .reg false [zm 12 0, zi 13 (.call (.c (.fn 61 [] [])) [((.t 12), .id)]), zv 14 (.un .not (.t 13)), zv 2 (.mov (.c .nils)), zm 3 14]
def qbr7 : IC := .reg false [zv 4 (.mov (.c .nils))]
def qbzr : IC := .reg false [zm 15 0, zi 16 (.call (.c (.fn 26 [] [])) [((.t 15), .id), ((.c (.str [40])), .id)]), zm 5 16]
def qbzs : IC := .reg false [zm 17 5, zv 18 (.un .not (.t 17)), zm 19 18, zw 19 false 20 (.mov (.t 0)), ⟨some (19, false), some 21, .call (.c (.fn 33 [] [])) [((.t 20), .id), ((.c (.str [41])), .id)]⟩, zw 19 false 22 (.un .not (.t 21)), zv 23 (.pick (.t 19) (.c (.bool true)) (.t 22)), zm 6 23]
def qbw6 : IC := .reg false [zm 24 6]
def qbw2 : IC := .reg false [zm 26 0, zi 27 (.call (.c (.fn 62 [] [])) [((.t 26), .id)]), zm 25 27, zv 28 (.ext (.t 25) 0), zv 29 (.ext (.t 25) 1), zi 7 (.alo [(.int .i64 0), (.int .i64 0), (.int .i64 0), (.str []), .nils]), zn (.st 5 (.agg [.id, .id, .id, .id, (.sl 5)]) (.t 7) (.t 28)), zm 8 29]
def qbyr : IC := .reg false [zm 30 8, zv 31 (.un .not (.t 30))]
def qbqv : IC := .reg false [zv 2 (.mov (.c .nils)), zv 3 (.mov (.c (.bool false)))]
def qbl6 : IC := .reg false [zm 32 4, zv 33 (.ld true 5 (.t 7)), zv 34 (.bsl 5 [((.t 33), (.agg [.id, .id, .id, .id, (.sl 5)]))]), zi 35 (.app 5 (.agg [(.int .i64 0), (.int .i64 0), (.int .i64 0), (.str []), .nils]) 64 (.sl 5) (.t 32) (.t 34)), zm 4 35]
def qbqb : IC := .reg false [zm 36 5, zm 37 36, zw 37 true 38 (.mov (.t 0)), ⟨some (37, true), some 39, .call (.c (.fn 26 [] [])) [((.t 38), .id), ((.c (.str [44])), .id)]⟩, zv 40 (.pick (.t 37) (.t 39) (.c (.bool false))), zm 6 40]
def qbsu : IC := (.seq (.seq qbw6 (.cond (.t 24) .skip (.exit 0))) (.block 1 (.seq qbw2 (.seq (.seq qbyr (.cond (.t 31) (.seq qbqv .ret) .skip)) (.seq qbl6 qbqb)))))
def qbir : IC := .reg false [zm 41 5, zm 42 41, zw 42 true 43 (.mov (.t 0)), ⟨some (42, true), some 44, .call (.c (.fn 39 [] [])) [((.t 43), .id), ((.c (.str [41])), .id)]⟩, zw 42 true 45 (.un .not (.t 44)), zv 46 (.pick (.t 42) (.t 45) (.c (.bool false))), zm 47 46, zw 47 false 48 (.mov (.t 0)), ⟨some (47, false), some 49, .call (.c (.fn 39 [] [])) [((.t 48), .id), ((.c (.str [61, 62])), .id)]⟩, zw 47 false 50 (.un .not (.t 49)), zv 51 (.pick (.t 47) (.c (.bool true)) (.t 50))]
def qbjo : IC := .reg false [zv 2 (.mov (.c .nils)), zv 3 (.mov (.c (.bool false)))]
def qbeq : IC := .reg false [zm 52 4, zm 2 52, zv 3 (.mov (.c (.bool true)))]
def k0t : IC := (.seq qbzc (.seq (.seq qbw0 (.cond (.t 11) (.seq qbsm .ret) .skip)) (.seq qbr7 (.seq qbzr (.seq (.seq qbzs (.block 0 (.loop qbsu))) (.seq (.seq qbir (.cond (.t 51) (.seq qbjo .ret) .skip)) (.seq qbeq .ret)))))))
@[go_sem] def s0t : List (RV × Co) := [(.t 2, (.sl 5)), (.t 3, .id)]
theorem c0t : cFun Try.prog 42 = some (53, k0t, s0t) := by kernel_rfl

def qbgp : IC := .reg false [zv 4 (.mov (.c (.bool false)))]
def qbpk : IC := .reg false [zm 5 0, zi 6 (.call (.c (.fn 30 [] [])) [((.t 5), .id)]), zv 7 (.un .not (.t 6))]
def qbns : IC := .reg false [zm 8 1, zv 9 (.bin .eql .no (.t 8) (.c (.int .i64 0)))]
def qbm9 : IC := .reg false [zv 1 (.mov (.c (.int .i64 1)))]
def qbqx : IC := .reg false [zm 10 0, zm 11 0, zi 12 (.call (.c (.fn 19 [] [])) [((.t 11), .id)]), zv 13 (.fld false 1 1 (.t 12)), zv 14 (.nck (.t 10)), zv 15 (.fad (.t 14) 8), zn (.st 1 .id (.t 15) (.t 13))]
def qbqm : IC := .reg false [zm 16 0, zm 17 1, zv 18 (.nck (.t 16)), zv 19 (.fad (.t 18) 7), zn (.st 1 .id (.t 19) (.t 17))]
def qbgt : IC := .reg false [zv 4 (.mov (.c (.bool false)))]
def k0bh : IC := (.seq qbgp (.seq (.seq qbpk (.cond (.t 7) (.seq (.seq qbns (.cond (.t 9) qbm9 .skip)) (.seq qbqx qbqm)) .skip)) (.seq qbgt .ret)))
@[go_sem] def s0bh : List (RV × Co) := [(.t 4, .id)]
theorem c0bh : cFun Try.prog 43 = some (20, k0bh, s0bh) := by kernel_rfl

def qbop : IC := .reg false [zi 3 (.box (.t 0)), zi 5 (.box (.t 2)), zv 6 (.mov (.c .nils)), zv 7 (.mov (.c (.bool false)))]
def qbd4 : IC := .reg false [zv 10 (.ld false 1 (.t 3)), zi 11 (.call (.c (.fn 39 [] [])) [((.t 10), .id), ((.c (.str [119, 104, 101, 114, 101])), .id)]), zv 12 (.un .not (.t 11)), zm 13 12, zw 13 false 14 (.ld false 1 (.t 3)), ⟨some (13, false), some 15, .call (.c (.fn 39 [] [])) [((.t 14), .id), ((.c (.str [123])), .id)]⟩, zw 13 false 16 (.un .not (.t 15)), zv 17 (.pick (.t 13) (.c (.bool true)) (.t 16))]
def qbo1 : IC := .reg false [zm 18 1, zm 6 18, zv 7 (.mov (.c (.bool false)))]
def qbhn : IC := .reg false [zv 19 (.ld false 1 (.t 3)), zi 20 (.call (.c (.fn 14 [] [])) [((.t 19), .id), ((.c (.str [59])), .id)]), zi 8 (.alo [.nilf]), zn (.st 1 .id (.t 8) (.t 20))]
def qbet : IC := .reg false [zm 22 1, zv 23 (.mfn 63 [] [(.t 3), (.t 5)]), zv 24 (.mfn 65 [] [(.t 3), (.t 8)]), zi 25 (.call (.c (.fn 15 [] [])) [((.t 22), (.sl 5)), ((.t 23), .id), ((.t 24), .id)]), zm 21 25, zv 26 (.ext (.t 21) 0), zv 27 (.ext (.t 21) 1), zm 1 26, zm 9 27]
def q38 : IC := .reg false [zm 28 1, zm 29 9, zm 30 29, zw 30 true 31 (.ld false 1 (.t 3)), ⟨some (30, true), some 32, .call (.c (.fn 39 [] [])) [((.t 31), .id), ((.c (.str [125])), .id)]⟩, zv 33 (.pick (.t 30) (.t 32) (.c (.bool false))), zm 6 28, zm 7 33]
def k0dc : IC := (.seq qbop (.seq (.seq qbd4 (.cond (.t 17) (.seq qbo1 .ret) .skip)) (.seq qbhn (.seq qbet (.seq q38 .ret)))))
@[go_sem] def s0dc : List (RV × Co) := [(.t 6, (.sl 5)), (.t 7, .id)]
theorem c0dc : cFun Try.prog 44 = some (34, k0dc, s0dc) := by kernel_rfl

def qbtu : IC := .reg false [zi 2 (.alo [(.int .i64 0), (.int .i64 0), (.int .i64 0), (.str []), .nils]), zv 3 (.mov (.c (.bool false)))]
def qbyl : IC := .reg false [zm 8 0, zi 9 (.call (.c (.fn 19 [] [])) [((.t 8), .id)]), zv 10 (.fld false 1 1 (.t 9)), zv 11 (.bld [(.int .i64 0), (.int .i64 0), (.int .i64 0), (.str []), .nils] [(0, 1, (.c (.int .i64 4))), (1, 1, (.t 10))]), zi 4 (.alo [(.int .i64 0), (.int .i64 0), (.int .i64 0), (.str []), .nils]), zn (.st 5 (.agg [.id, .id, .id, .id, (.sl 5)]) (.t 4) (.t 11))]
def qbxx : IC := .reg false [zm 13 0, zi 14 (.call (.c (.fn 42 [] [])) [((.t 13), .id)]), zm 12 14, zv 15 (.ext (.t 12) 0), zv 16 (.ext (.t 12) 1), zm 5 15, zm 6 16]
def qbru : IC := .reg false [zm 17 6, zv 18 (.un .not (.t 17))]
def qbro : IC := .reg false [zv 19 (.bld [(.int .i64 0), (.int .i64 0), (.int .i64 0), (.str []), .nils] []), zn (.st 5 (.agg [.id, .id, .id, .id, (.sl 5)]) (.t 2) (.t 19)), zv 3 (.mov (.c (.bool false)))]
def qbsb : IC := .reg false [zm 21 0, zi 22 (.call (.c (.fn 54 [] [])) [((.t 21), .id)]), zm 20 22, zv 23 (.ext (.t 20) 0), zv 24 (.ext (.t 20) 1), zi 7 (.alo [(.int .i64 0), (.int .i64 0), (.int .i64 0), (.str []), .nils]), zn (.st 5 (.agg [.id, .id, .id, .id, (.sl 5)]) (.t 7) (.t 23)), zm 6 24]
def qbxb : IC := .reg false [zm 25 5, zv 26 (.ld true 5 (.t 7)), zv 27 (.bsl 5 [((.t 26), (.agg [.id, .id, .id, .id, (.sl 5)]))]), zi 28 (.app 5 (.agg [(.int .i64 0), (.int .i64 0), (.int .i64 0), (.str []), .nils]) 64 (.sl 5) (.t 25) (.t 27)), zv 29 (.fad (.t 4) 4), zn (.st 1 (.sl 5) (.t 29) (.t 28))]
def qbzh : IC := .reg false [zm 30 0, zv 31 (.ld true 5 (.t 4)), zm 32 6, zi 33 (.call (.c (.fn 56 [] [])) [((.t 30), .id), ((.t 31), (.agg [.id, .id, .id, .id, (.sl 5)])), ((.t 32), .id)]), zv 34 (.ext (.t 33) 0), zv 35 (.ext (.t 33) 1), zn (.st 5 (.agg [.id, .id, .id, .id, (.sl 5)]) (.t 2) (.t 34)), zm 3 35]
def k0s : IC := (.seq qbtu (.seq qbyl (.seq qbxx (.seq (.seq qbru (.cond (.t 18) (.seq qbro .ret) .skip)) (.seq qbsb (.seq qbxb (.seq qbzh .ret)))))))
@[go_sem] def s0s : List (RV × Co) := [(.c true 5 2, (.agg [.id, .id, .id, .id, (.sl 5)])), (.t 3, .id)]
theorem c0s : cFun Try.prog 45 = some (36, k0s, s0s) := by kernel_rfl

def qbzg : IC := .reg false [zi 4 (.alo [(.int .i64 0), (.int .i64 0), (.int .i64 0), (.str []), .nils]), zv 5 (.mov (.c (.bool false)))]
def qbx4 : IC := .reg false [zm 9 0, zi 10 (.call (.c (.fn 19 [] [])) [((.t 9), .id)]), zv 11 (.fld false 1 0 (.t 10)), zv 12 (.bin .neq .no (.t 11) (.c (.int .i64 1)))]
def qbtc : IC := .reg false [zm 13 0, zm 14 1, zi 15 (.call (.c (.fn 39 [] [])) [((.t 13), .id), ((.t 14), .id)]), zv 16 (.un .not (.t 15))]
def qbsw : IC := .reg false [zv 17 (.bld [(.int .i64 0), (.int .i64 0), (.int .i64 0), (.str []), .nils] []), zn (.st 5 (.agg [.id, .id, .id, .id, (.sl 5)]) (.t 4) (.t 17)), zv 5 (.mov (.c (.bool false)))]
def qbxn : IC := .reg false [zm 18 0, zi 19 (.call (.c (.fn 66 [] [])) [((.t 18), .id)]), zv 20 (.ext (.t 19) 0), zv 21 (.ext (.t 19) 1), zn (.st 5 (.agg [.id, .id, .id, .id, (.sl 5)]) (.t 4) (.t 20)), zm 5 21]
def qbt1 : IC := .reg false [zm 22 0, zi 23 (.call (.c (.fn 34 [] [])) [((.t 22), .id)]), zi 6 (.alo [(.int .i64 0), (.int .i64 0), (.int .i64 0), (.str [])]), zn (.st 4 .id (.t 6) (.t 23))]
def qbur : IC := .reg false [zm 25 0, zm 26 1, zi 27 (.call (.c (.fn 46 [] [])) [((.t 25), .id), ((.t 26), .id)]), zm 24 27, zv 28 (.ext (.t 24) 0), zv 29 (.ext (.t 24) 1), zi 7 (.alo [(.int .i64 0), (.int .i64 0), (.int .i64 0), (.str []), .nils]), zn (.st 5 (.agg [.id, .id, .id, .id, (.sl 5)]) (.t 7) (.t 28)), zm 8 29]
def qbvt : IC := .reg false [zv 30 (.fad (.t 6) 1), zv 31 (.ld false 1 (.t 30)), zv 32 (.fad (.t 6) 3), zv 33 (.ld false 1 (.t 32)), zv 34 (.ld true 5 (.t 7)), zv 35 (.bsl 5 [((.t 34), (.agg [.id, .id, .id, .id, (.sl 5)]))]), zv 36 (.bld [(.int .i64 0), (.int .i64 0), (.int .i64 0), (.str []), .nils] [(0, 1, (.c (.int .i64 25))), (1, 1, (.t 31)), (3, 1, (.t 33)), (4, 1, (.t 35))]), zm 37 8, zn (.st 5 (.agg [.id, .id, .id, .id, (.sl 5)]) (.t 4) (.t 36)), zm 5 37]
def k0j : IC := (.seq qbzg (.seq (.seq qbx4 (.cond (.t 12) (.seq (.seq qbtc (.cond (.t 16) (.seq qbsw .ret) .skip)) (.seq qbxn .ret)) .skip)) (.seq qbt1 (.seq qbur (.seq qbvt .ret)))))
@[go_sem] def s0j : List (RV × Co) := [(.c true 5 4, (.agg [.id, .id, .id, .id, (.sl 5)])), (.t 5, .id)]
theorem c0j : cFun Try.prog 46 = some (38, k0j, s0j) := by kernel_rfl

def qbeg : IC := .reg false [zv 6 (.ld false 1 (.t 1)), zi 7 (.call (.c (.fn 48 [] [])) [((.t 6), .id)]), zm 3 7]
def qbmb : IC := .reg false [zm 8 3, zv 9 (.ld false 1 (.t 1)), zv 10 (.len true (.t 9)), zv 11 (.bin .lss .no (.t 8) (.t 10))]
def qbii : IC := .reg false [zv 13 (.ld false 1 (.t 1)), zm 14 3, zv 15 (.sls (.t 13) (some (.t 14)) none), zi 16 (.call (.c (.fn 49 [] [])) [((.t 15), .id)]), zm 12 16, zv 17 (.ext (.t 12) 0), zv 18 (.ext (.t 12) 1), zi 4 (.alo [(.int .i64 0), (.int .i64 0), (.int .i64 0), (.str [])]), zn (.st 4 .id (.t 4) (.t 17)), zm 5 18]
def qbo3 : IC := .reg false [zm 19 3, zv 20 (.fad (.t 4) 1), zn (.st 1 .id (.t 20) (.t 19))]
def qbe1 : IC := .reg false [zm 21 0, zv 22 (.ld true 4 (.t 4)), zm 23 5, zi 24 (.call (.t 21) [((.t 22), .id), ((.t 23), .id)]), zv 25 (.un .not (.t 24))]
def qbdz : IC := .reg false [zm 26 3, zv 27 (.fad (.t 4) 3), zv 28 (.ld false 1 (.t 27)), zv 29 (.len true (.t 28)), zv 30 (.bin .add .no (.t 26) (.t 29)), zm 3 30]
def qbj8 : IC := .reg false [zm 31 3, zv 32 (.ld false 1 (.t 1)), zm 33 3, zv 34 (.sls (.t 32) (some (.t 33)) none), zi 35 (.call (.c (.fn 48 [] [])) [((.t 34), .id)]), zv 36 (.bin .add .no (.t 31) (.t 35)), zm 3 36]
def qbdx : IC := (.seq (.seq qbmb (.cond (.t 11) .skip (.exit 0))) (.block 1 (.seq qbii (.seq qbo3 (.seq (.seq qbe1 (.cond (.t 25) .ret .skip)) (.seq qbdz qbj8))))))
def k0bp : IC := (.seq qbeg (.block 0 (.loop qbdx)))
@[go_sem] def s0bp : List (RV × Co) := []
theorem c0bp : cFun Try.prog 47 = some (37, k0bp, s0bp) := by kernel_rfl

def qbq3 : IC := .reg false [zv 2 (.mov (.c (.int .i64 0)))]
def qbkc : IC := .reg false [zv 3 (.mov (.c (.int .i64 0)))]
def qbk9 : IC := .reg false [zm 5 0, zm 6 3, zv 7 (.sls (.t 5) (some (.t 6)) none), zi 8 (.call (.c (.fn 67 [] [])) [((.t 7), .id), ((.c (.fn 68 [] [])), .id)]), zm 4 8]
def qbjy : IC := .reg false [zm 9 0, zm 10 3, zm 11 4, zv 12 (.bin .add .no (.t 10) (.t 11)), zv 13 (.sls (.t 9) (some (.t 12)) none), zi 14 (.call (.c (.fn 69 [] [])) [((.t 13), .id), ((.c (.str [45, 45])), .id)])]
def qbkb : IC := .reg false [zm 15 4, zm 16 0, zm 17 3, zm 18 4, zv 19 (.bin .add .no (.t 17) (.t 18)), zv 20 (.sls (.t 16) (some (.t 19)) none), zi 21 (.call (.c (.fn 67 [] [])) [((.t 20), .id), ((.c (.fn 70 [] [])), .id)]), zv 22 (.bin .add .no (.t 15) (.t 21)), zm 4 22]
def qbl3 : IC := .reg false [zm 23 4, zv 24 (.bin .eql .no (.t 23) (.c (.int .i64 0)))]
def qbgs : IC := .reg false [zm 25 3, zm 2 25]
def qblo : IC := .reg false [zm 26 3, zm 27 4, zv 28 (.bin .add .no (.t 26) (.t 27)), zm 3 28]
def qbhr : IC := (.block 1 (.seq qbk9 (.seq (.seq qbjy (.cond (.t 14) qbkb .skip)) (.seq (.seq qbl3 (.cond (.t 24) (.seq qbgs .ret) .skip)) qblo))))
def k0ca : IC := (.seq qbq3 (.seq qbkc (.block 0 (.loop qbhr))))
@[go_sem] def s0ca : List (RV × Co) := [(.t 2, .id)]
theorem c0ca : cFun Try.prog 48 = some (29, k0ca, s0ca) := by kernel_rfl

def qbf1 : IC := .reg false [zi 2 (.alo [(.int .i64 0), (.int .i64 0), (.int .i64 0), (.str [])]), zv 3 (.mov (.c (.int .i64 0)))]
def qbqk : IC := .reg false [zm 9 0, zv 10 (.idx (.t 9) (.c (.int .i64 0))), zm 4 10]
def qbec : IC := .reg false [zm 12 4, zi 13 (.call (.c (.fn 71 [] [])) [((.t 12), .id)]), zm 11 13]
def qbg4 : IC := .reg false [zm 14 0, zm 15 0, zi 16 (.call (.c (.fn 67 [] [])) [((.t 15), .id), ((.c (.fn 71 [] [])), .id)]), zv 17 (.sls (.t 14) none (some (.t 16))), zm 5 17]
def qblr : IC := .reg false [zm 19 5, zi 20 (.call (.c (.fn 72 [] [])) [((.t 19), .id)]), zm 18 20, zv 21 (.ext (.t 18) 0), zv 22 (.ext (.t 18) 1), zm 6 21, zm 7 22]
def qbjd : IC := .reg false [zm 23 6, zm 24 5, zv 25 (.bld [(.int .i64 0), (.int .i64 0), (.int .i64 0), (.str [])] [(0, 1, (.c (.int .i64 3))), (2, 1, (.t 23)), (3, 1, (.t 24))]), zm 26 7, zn (.st 4 .id (.t 2) (.t 25)), zm 3 26]
def qbmv : IC := .reg false [zm 28 4, zi 29 (.call (.c (.fn 73 [] [])) [((.t 28), .id)]), zm 30 29, zw 30 true 31 (.mov (.t 4)), zw 30 true 32 (.bin .neq .no (.t 31) (.c (.int .u8 39))), zv 33 (.pick (.t 30) (.t 32) (.c (.bool false))), zm 27 33]
def qbp7 : IC := .reg false [zm 34 0, zm 35 0, zi 36 (.call (.c (.fn 67 [] [])) [((.t 35), .id), ((.c (.fn 73 [] [])), .id)]), zv 37 (.sls (.t 34) none (some (.t 36))), zi 38 (.call (.c (.fn 74 [] [])) [((.t 37), .id)]), zn (.st 4 .id (.t 2) (.t 38)), zv 3 (.mov (.c (.int .i64 0)))]
def qbq0 : IC := .reg false [zm 39 0, zi 40 (.call (.c (.fn 75 [] [])) [((.t 39), .id)]), zm 8 40]
def qbkq : IC := .reg false [zm 41 8, zv 42 (.bin .eql .no (.t 41) (.c (.int .i64 0)))]
def qbbl : IC := .reg false [zv 43 (.bld [(.int .i64 0), (.int .i64 0), (.int .i64 0), (.str [])] []), zn (.st 4 .id (.t 2) (.t 43)), zv 3 (.mov (.c (.int .i64 3)))]
def qbcl : IC := .reg false [zm 44 0, zm 45 8, zv 46 (.sls (.t 44) none (some (.t 45))), zv 47 (.bld [(.int .i64 0), (.int .i64 0), (.int .i64 0), (.str [])] [(0, 1, (.c (.int .i64 5))), (3, 1, (.t 46))]), zn (.st 4 .id (.t 2) (.t 47)), zv 3 (.mov (.c (.int .i64 0)))]
def k0bs : IC := (.seq qbf1 (.seq (.seq qbqk (.block 0 (.seq qbec (.cond (.t 11) (.seq qbg4 (.seq qblr (.seq qbjd .ret))) (.seq qbmv (.cond (.t 27) (.seq qbp7 .ret) .skip)))))) (.seq qbq0 (.seq (.seq qbkq (.cond (.t 42) (.seq qbbl .ret) .skip)) (.seq qbcl .ret)))))
@[go_sem] def s0bs : List (RV × Co) := [(.c true 4 2, .id), (.t 3, .id)]
theorem c0bs : cFun Try.prog 49 = some (48, k0bs, s0bs) := by kernel_rfl

def qbpd : IC := .reg false [zv 4 (.ld true 5 (.t 1)), zv 5 (.ld false 1 (.t 2)), zm 6 0, zi 7 (.call (.c (.fn 51 [] [])) [((.t 4), (.agg [.id, .id, .id, .id, (.sl 5)])), ((.t 5), .id), ((.t 6), .id)])]
def k0ck : IC := qbpd
@[go_sem] def s0ck : List (RV × Co) := []
theorem c0ck : cFun Try.prog 50 = some (8, k0ck, s0ck) := by kernel_rfl

def qbil : IC := .reg false [zi 3 (.box (.t 0)), zv 6 (.mov (.c (.bool false)))]
def qbeb : IC := .reg false [zm 9 2, zm 10 1, zv 11 (.ld true 5 (.t 3)), zi 12 (.call (.t 9) [((.t 10), .id), ((.t 11), (.agg [.id, .id, .id, .id, (.sl 5)]))]), zv 13 (.un .not (.t 12))]
def qbkz : IC := .reg false [zv 6 (.mov (.c (.bool false)))]
def qbfx : IC := .reg false [zv 14 (.fad (.t 3) 4), zv 15 (.ld false 1 (.t 14)), zv 16 (.len false (.t 15)), zv 17 (.mov (.c (.int .i64 0)))]
def qbfw : IC := .reg false [zv 18 (.bin .lss .no (.t 17) (.t 16))]
def qbpq : IC := .reg false [zv 19 (.iad 5 (.t 15) (.t 17)), zv 20 (.ld true 5 (.t 19)), zi 8 (.alo [(.int .i64 0), (.int .i64 0), (.int .i64 0), (.str []), .nils]), zn (.st 5 (.agg [.id, .id, .id, .id, (.sl 5)]) (.t 8) (.t 20))]
def qbjz : IC := .reg false [zv 21 (.ld true 5 (.t 8)), zm 22 1, zv 23 (.bin .add .no (.t 22) (.c (.int .i64 1))), zm 24 2, zi 25 (.call (.c (.fn 51 [] [])) [((.t 21), (.agg [.id, .id, .id, .id, (.sl 5)])), ((.t 23), .id), ((.t 24), .id)]), zv 26 (.un .not (.t 25))]
def qbmp : IC := .reg false [zv 6 (.mov (.c (.bool false)))]
def qblh : IC := .reg false [zv 27 (.bin .add .no (.t 17) (.c (.int .i64 1))), zm 17 27]
def qbft : IC := (.seq qbfw (.seq (.cond (.t 18) .skip (.exit 0)) (.seq (.block 1 (.seq qbpq (.seq qbjz (.cond (.t 26) (.seq qbmp .ret) .skip)))) qblh)))
def qbaq : IC := .reg false [zv 6 (.mov (.c (.bool true)))]
def k0cj : IC := (.seq qbil (.seq (.seq qbeb (.cond (.t 13) (.seq qbkz .ret) .skip)) (.seq (.seq qbfx (.block 0 (.loop qbft))) (.seq qbaq .ret))))
@[go_sem] def s0cj : List (RV × Co) := [(.t 6, .id)]
theorem c0cj : cFun Try.prog 51 = some (28, k0cj, s0cj) := by kernel_rfl

def qbe7 : IC := .reg false [zi 2 (.box (.t 0)), zv 4 (.mov (.c (.bool false)))]
def qbhi : IC := .reg false [zv 7 (.fad (.t 2) 0), zv 8 (.ld false 1 (.t 7)), zv 9 (.bin .neq .no (.t 8) (.c (.int .i64 4))), zm 10 9, zw 10 true 11 (.fad (.t 2) 0), zw 10 true 12 (.ld false 1 (.t 11)), zw 10 true 13 (.bin .neq .no (.t 12) (.c (.int .i64 5))), zv 14 (.pick (.t 10) (.t 13) (.c (.bool false)))]
def qbrb : IC := .reg false [zv 4 (.mov (.c (.bool false)))]
def qbd9 : IC := .reg false [zm 15 1, zv 16 (.len false (.t 15)), zv 17 (.mov (.c (.int .i64 0)))]
def qbf2 : IC := .reg false [zv 18 (.bin .lss .no (.t 17) (.t 16))]
def qbi7 : IC := .reg false [zv 19 (.iad 1 (.t 15) (.t 17)), zv 20 (.ld false 1 (.t 19)), zm 6 20]
def qbh1 : IC := .reg false [zv 21 (.fad (.t 2) 3), zv 22 (.ld false 1 (.t 21)), zm 23 6, zv 24 (.bin .eql .no (.t 22) (.t 23))]
def qbn8 : IC := .reg false [zv 4 (.mov (.c (.bool true)))]
def qbol : IC := .reg false [zv 25 (.bin .add .no (.t 17) (.c (.int .i64 1))), zm 17 25]
def k0be_l4 : IC := (.seq qbf2 (.seq (.cond (.t 18) .skip (.exit 0)) (.seq (.block 1 (.seq qbi7 (.seq qbh1 (.cond (.t 24) (.seq qbn8 .ret) .skip)))) qbol)))
def k0be_r11 : IC := .reg false [zv 4 (.mov (.c (.bool false)))]
def k0be : IC := (.seq qbe7 (.seq (.seq qbhi (.cond (.t 14) (.seq qbrb .ret) .skip)) (.seq (.seq qbd9 (.block 0 (.loop k0be_l4))) (.seq k0be_r11 .ret))))
@[go_sem] def s0be : List (RV × Co) := [(.t 4, .id)]
theorem c0be : cFun Try.prog 52 = some (26, k0be, s0be) := by kernel_rfl

def qbib : IC := .reg false [zv 2 (.mov (.c (.bool false)))]
def qbkf : IC := .reg false [zm 3 0, zi 4 (.call (.c (.fn 30 [] [])) [((.t 3), .id)]), zm 5 4, zw 5 false 6 (.mov (.t 0)), zw 5 false 7 (.nck (.t 6)), zw 5 false 8 (.fad (.t 7) 6), zw 5 false 9 (.ld false 1 (.t 8)), zw 5 false 10 (.bin .geq .no (.t 9) (.c (.int .i64 200))), zv 11 (.pick (.t 5) (.c (.bool true)) (.t 10))]
def qbdr : IC := .reg false [zm 12 0, zi 13 (.call (.c (.fn 43 [] [])) [((.t 12), .id), ((.c (.int .i64 2)), .id)]), zm 2 13]
def qboo : IC := .reg false [zm 14 0, zv 15 (.nck (.t 14)), zv 16 (.fad (.t 15) 6), zv 17 (.ld false 1 (.t 16)), zv 18 (.bin .add .no (.t 17) (.c (.int .i64 1))), zv 19 (.nck (.t 14)), zv 20 (.fad (.t 19) 6), zn (.st 1 .id (.t 20) (.t 18))]
def qbfm : IC := .reg false [zv 2 (.mov (.c (.bool true)))]
def k0bk : IC := (.seq qbib (.seq (.seq qbkf (.cond (.t 11) (.seq qbdr .ret) .skip)) (.seq qboo (.seq qbfm .ret))))
@[go_sem] def s0bk : List (RV × Co) := [(.t 2, .id)]
theorem c0bk : cFun Try.prog 53 = some (21, k0bk, s0bk) := by kernel_rfl

def qbqh : IC := .reg false [zi 2 (.alo [(.int .i64 0), (.int .i64 0), (.int .i64 0), (.str []), .nils]), zv 3 (.mov (.c (.bool false)))]
def qbm1 : IC := .reg false [zm 8 0, zi 9 (.call (.c (.fn 53 [] [])) [((.t 8), .id)]), zv 10 (.un .not (.t 9))]
def qbfp : IC := .reg false [zv 11 (.bld [(.int .i64 0), (.int .i64 0), (.int .i64 0), (.str []), .nils] []), zn (.st 5 (.agg [.id, .id, .id, .id, (.sl 5)]) (.t 2) (.t 11)), zv 3 (.mov (.c (.bool false)))]
def qbg9 : IC := .reg false [zm 13 0, zi 14 (.call (.c (.fn 76 [] [])) [((.t 13), .id)]), zm 12 14, zv 15 (.ext (.t 12) 0), zv 16 (.ext (.t 12) 1), zi 4 (.alo [(.int .i64 0), (.int .i64 0), (.int .i64 0), (.str []), .nils]), zn (.st 5 (.agg [.id, .id, .id, .id, (.sl 5)]) (.t 4) (.t 15)), zm 5 16]
def qbks : IC := .reg false [zm 17 5, zm 18 17, zw 18 true 19 (.mov (.t 0)), ⟨some (18, true), some 20, .call (.c (.fn 26 [] [])) [((.t 19), .id), ((.c (.str [45, 62])), .id)]⟩, zv 21 (.pick (.t 18) (.t 20) (.c (.bool false)))]
def qbpy : IC := .reg false [zm 23 0, zi 24 (.call (.c (.fn 54 [] [])) [((.t 23), .id)]), zm 22 24, zv 25 (.ext (.t 22) 0), zv 26 (.ext (.t 22) 1), zi 6 (.alo [(.int .i64 0), (.int .i64 0), (.int .i64 0), (.str []), .nils]), zn (.st 5 (.agg [.id, .id, .id, .id, (.sl 5)]) (.t 6) (.t 25)), zm 7 26]
def qbpj : IC := .reg false [zv 27 (.fad (.t 4) 1), zv 28 (.ld false 1 (.t 27)), zv 29 (.ld true 5 (.t 4)), zv 30 (.ld true 5 (.t 6)), zv 31 (.bsl 5 [((.t 29), (.agg [.id, .id, .id, .id, (.sl 5)])), ((.t 30), (.agg [.id, .id, .id, .id, (.sl 5)]))]), zv 32 (.bld [(.int .i64 0), (.int .i64 0), (.int .i64 0), (.str []), .nils] [(0, 1, (.c (.int .i64 2))), (1, 1, (.t 28)), (3, 1, (.c (.str [45, 62]))), (4, 1, (.t 31))]), zm 33 7, zn (.st 5 (.agg [.id, .id, .id, .id, (.sl 5)]) (.t 4) (.t 32)), zm 5 33]
def qbo6 : IC := .reg false [zm 34 0, zi 35 (.call (.c (.fn 55 [] [])) [((.t 34), .id)])]
def qbmt : IC := .reg false [zm 36 0, zv 37 (.ld true 5 (.t 4)), zm 38 5, zi 39 (.call (.c (.fn 56 [] [])) [((.t 36), .id), ((.t 37), (.agg [.id, .id, .id, .id, (.sl 5)])), ((.t 38), .id)]), zv 40 (.ext (.t 39) 0), zv 41 (.ext (.t 39) 1), zn (.st 5 (.agg [.id, .id, .id, .id, (.sl 5)]) (.t 2) (.t 40)), zm 3 41]
def k0ba : IC := (.seq qbqh (.seq (.seq qbm1 (.cond (.t 10) (.seq qbfp .ret) .skip)) (.seq qbg9 (.seq (.seq qbks (.cond (.t 21) (.seq qbpy qbpj) .skip)) (.seq qbo6 (.seq qbmt .ret))))))
@[go_sem] def s0ba : List (RV × Co) := [(.c true 5 2, (.agg [.id, .id, .id, .id, (.sl 5)])), (.t 3, .id)]
theorem c0ba : cFun Try.prog 54 = some (42, k0ba, s0ba) := by kernel_rfl

def qbio : IC := .reg false [zm 2 0, zi 3 (.call (.c (.fn 30 [] [])) [((.t 2), .id)]), zv 4 (.un .not (.t 3)), zm 5 4, zw 5 true 6 (.mov (.t 0)), zw 5 true 7 (.nck (.t 6)), zw 5 true 8 (.fad (.t 7) 6), zw 5 true 9 (.ld false 1 (.t 8)), zw 5 true 10 (.bin .gtr .no (.t 9) (.c (.int .i64 0))), zv 11 (.pick (.t 5) (.t 10) (.c (.bool false)))]
def qbez : IC := .reg false [zm 12 0, zv 13 (.nck (.t 12)), zv 14 (.fad (.t 13) 6), zv 15 (.ld false 1 (.t 14)), zv 16 (.bin .sub .no (.t 15) (.c (.int .i64 1))), zv 17 (.nck (.t 12)), zv 18 (.fad (.t 17) 6), zn (.st 1 .id (.t 18) (.t 16))]
def k0bl : IC := (.seq qbio (.cond (.t 11) qbez .skip))
@[go_sem] def s0bl : List (RV × Co) := []
theorem c0bl : cFun Try.prog 55 = some (19, k0bl, s0bl) := by kernel_rfl

def qbtd : IC := .reg false [zi 4 (.box (.t 1)), zi 6 (.alo [(.int .i64 0), (.int .i64 0), (.int .i64 0), (.str []), .nils]), zv 7 (.mov (.c (.bool false)))]
def qbx8 : IC := .reg false [zm 8 2, zv 9 (.un .not (.t 8))]
def qbxg : IC := .reg false [zv 10 (.bld [(.int .i64 0), (.int .i64 0), (.int .i64 0), (.str []), .nils] []), zn (.st 5 (.agg [.id, .id, .id, .id, (.sl 5)]) (.t 6) (.t 10)), zv 7 (.mov (.c (.bool false)))]
def qbzd : IC := .reg false [zv 11 (.ld true 5 (.t 4)), zn (.st 5 (.agg [.id, .id, .id, .id, (.sl 5)]) (.t 6) (.t 11)), zv 7 (.mov (.c (.bool true)))]
def k0w : IC := (.seq qbtd (.seq (.seq qbx8 (.cond (.t 9) (.seq qbxg .ret) .skip)) (.seq qbzd .ret)))
@[go_sem] def s0w : List (RV × Co) := [(.c true 5 6, (.agg [.id, .id, .id, .id, (.sl 5)])), (.t 7, .id)]
theorem c0w : cFun Try.prog 56 = some (12, k0w, s0w) := by kernel_rfl

def qbn7 : IC := .reg false [zi 1 (.alo [(.int .i64 0), (.int .i64 0), (.int .i64 0), (.str []), .nils]), zv 2 (.mov (.c (.bool false)))]
def qbkp : IC := .reg false [zv 3 (.ld false 1 (.t 0)), zi 4 (.call (.c (.fn 37 [] [])) [((.t 3), .id)]), zv 5 (.ext (.t 4) 0), zv 6 (.ext (.t 4) 1), zn (.st 5 (.agg [.id, .id, .id, .id, (.sl 5)]) (.t 1) (.t 5)), zm 2 6]
def k0di : IC := (.seq qbn7 (.seq qbkp .ret))
@[go_sem] def s0di : List (RV × Co) := [(.c true 5 1, (.agg [.id, .id, .id, .id, (.sl 5)])), (.t 2, .id)]
theorem c0di : cFun Try.prog 57 = some (7, k0di, s0di) := by kernel_rfl

def qbp3 : IC := .reg false [zv 1 (.mov (.c (.bool false)))]
def qbmq : IC := .reg false [zv 2 (.ld false 1 (.t 0)), zi 3 (.call (.c (.fn 59 [] [])) [((.t 2), .id)]), zm 1 3]
def k0dj : IC := (.seq qbp3 (.seq qbmq .ret))
@[go_sem] def s0dj : List (RV × Co) := [(.t 1, .id)]
theorem c0dj : cFun Try.prog 58 = some (4, k0dj, s0dj) := by kernel_rfl

def qbk4 : IC := .reg false [zv 2 (.mov (.c (.bool false)))]
def qbgz : IC := .reg false [zm 4 0, zi 5 (.call (.c (.fn 19 [] [])) [((.t 4), .id)]), zv 6 (.fld false 1 0 (.t 5)), zm 3 6]
def qbja : IC := .reg false [zm 7 3, zv 8 (.bin .eql .no (.t 7) (.c (.int .i64 1))), zm 9 8, zw 9 false 10 (.mov (.t 3)), zw 9 false 11 (.bin .eql .no (.t 10) (.c (.int .i64 2))), zv 12 (.pick (.t 9) (.c (.bool true)) (.t 11)), zm 13 12, zw 13 false 14 (.mov (.t 0)), ⟨some (13, false), some 15, .call (.c (.fn 33 [] [])) [((.t 14), .id), ((.c (.str [40])), .id)]⟩, zv 16 (.pick (.t 13) (.c (.bool true)) (.t 15)), zm 2 16]
def k0dh : IC := (.seq qbk4 (.seq qbgz (.seq qbja .ret)))
@[go_sem] def s0dh : List (RV × Co) := [(.t 2, .id)]
theorem c0dh : cFun Try.prog 59 = some (17, k0dh, s0dh) := by kernel_rfl

def qbee : IC := .reg false [zv 4 (.mov (.c (.bool false)))]
def qbjs : IC := .reg false [zm 8 0, zi 9 (.call (.c (.fn 30 [] [])) [((.t 8), .id)])]
def qbm7 : IC := .reg false [zv 4 (.mov (.c (.bool false)))]
def qbfz : IC := .reg false [zv 5 (.mov (.c (.int .i64 0)))]
def qbp9 : IC := .drw [zp (zm 10 0), zp (zv 11 (.nck (.t 10))), zp (zv 12 (.fad (.t 11) 0)), zp (zv 13 (.ld false 1 (.t 12))), zp (zm 14 0), zp (zv 15 (.nck (.t 14))), zp (zv 16 (.fad (.t 15) 5)), zp (zv 17 (.ld false 1 (.t 16))), zp (zv 18 (.slv 4 (.t 13) (some (.t 17)) none none)), zp (zv 19 (.len false (.t 18))), zp (zv 20 (.mov (.c (.int .i64 0))))]
def qbem : IC := .reg false [zv 21 (.bin .lss .no (.t 20) (.t 19))]
def qbkn : IC := .reg false [zv 22 (.iad 4 (.t 18) (.t 20)), zv 23 (.ld true 4 (.t 22)), zi 7 (.alo [(.int .i64 0), (.int .i64 0), (.int .i64 0), (.str [])]), zn (.st 4 .id (.t 7) (.t 23))]
def qboe : IC := .reg false [zv 25 (.ld true 4 (.t 7)), zv 26 (.bsl 1 [((.c (.str [40])), .id), ((.c (.str [123])), .id)]), zi 27 (.call (.c (.fn 52 [] [])) [((.t 25), .id), ((.t 26), (.sl 1))]), zm 24 27]
def qbkg : IC := .reg false [zm 28 5, zv 29 (.bin .add .no (.t 28) (.c (.int .i64 1))), zm 5 29]
def qbbd : IC := .reg false [zv 31 (.ld true 4 (.t 7)), zv 32 (.bsl 1 [((.c (.str [41])), .id), ((.c (.str [125])), .id)]), zi 33 (.call (.c (.fn 52 [] [])) [((.t 31), .id), ((.t 32), (.sl 1))]), zm 30 33]
def q9i : IC := .reg false [zm 34 5, zv 35 (.bin .sub .no (.t 34) (.c (.int .i64 1))), zm 5 35]
def q8x : IC := .reg false [zm 36 5, zv 37 (.bin .lss .no (.t 36) (.c (.int .i64 0)))]
def qbcc : IC := .reg false [zv 4 (.mov (.c (.bool false)))]
def qbbk : IC := .reg false [zm 39 5, zv 40 (.bin .gtr .no (.t 39) (.c (.int .i64 0))), zm 38 40]
def q9k : IC := .reg false [zv 42 (.ld true 4 (.t 7)), zv 43 (.bsl 1 [((.c (.str [59])), .id)]), zi 44 (.call (.c (.fn 52 [] [])) [((.t 42), .id), ((.t 43), (.sl 1))]), zm 41 44]
def q8w : IC := .reg false [zv 4 (.mov (.c (.bool false)))]
def qbam : IC := .reg false [zv 46 (.ld true 4 (.t 7)), zm 47 1, zv 48 (.bsl 1 [((.t 47), .id)]), zi 49 (.call (.c (.fn 52 [] [])) [((.t 46), .id), ((.t 48), (.sl 1))]), zm 45 49]
def qbcw : IC := .reg false [zv 4 (.mov (.c (.bool true)))]
def qbbu : IC := .reg false [zv 50 (.bin .add .no (.t 20) (.c (.int .i64 1))), zm 20 50]
def qbql : IC := (.seq qbem (.seq (.cond (.t 21) .skip (.exit 0)) (.seq (.block 1 (.seq qbkn (.block 2 (.seq qboe (.cond (.t 24) qbkg (.seq qbbd (.cond (.t 30) (.seq q9i (.seq q8x (.cond (.t 37) (.seq qbcc .ret) .skip))) (.seq qbbk (.cond (.t 38) .skip (.seq q9k (.cond (.t 41) (.seq q8w .ret) (.seq qbam (.cond (.t 45) (.seq qbcw .ret) .skip))))))))))))) qbbu)))
def qbca : IC := .reg false [zv 4 (.mov (.c (.bool false)))]
def k0cp : IC := (.seq qbee (.seq (.seq qbjs (.cond (.t 9) (.seq qbm7 .ret) .skip)) (.seq qbfz (.seq (.seq qbp9 (.block 0 (.loop qbql))) (.seq qbca .ret)))))
@[go_sem] def s0cp : List (RV × Co) := [(.t 4, .id)]
theorem c0cp : cFun Try.prog 60 = some (51, k0cp, s0cp) := by kernel_rfl

def qbwr : IC := .reg false [zv 2 (.mov (.c (.bool false)))]
def qbya : IC := .reg false [zm 6 0, zi 7 (.call (.c (.fn 23 [] [])) [((.t 6), .id)]), zm 5 7, zv 8 (.ext (.t 5) 0), zv 9 (.ext (.t 5) 1), zm 3 8, zm 4 9]
def qbss : IC := .reg false [zm 10 4, zv 11 (.bin .neq .no (.t 10) (.c (.int .i64 0))), zm 12 11, zw 12 true 13 (.mov (.t 4)), zw 12 true 14 (.bin .neq .no (.t 13) (.c (.int .i64 5))), zw 12 true 15 (.mov (.t 14)), zw 15 false 16 (.mov (.t 0)), ⟨some (15, false), some 17, .call (.c (.fn 19 [] [])) [((.t 16), .id)]⟩, zw 15 false 18 (.fld false 1 0 (.t 17)), zw 15 false 19 (.bin .eql .no (.t 18) (.c (.int .i64 0))), zw 12 true 20 (.pick (.t 15) (.c (.bool true)) (.t 19)), zv 21 (.pick (.t 12) (.t 20) (.c (.bool false))), zm 2 21]
def k0u : IC := (.seq qbwr (.seq qbya (.seq qbss .ret)))
@[go_sem] def s0u : List (RV × Co) := [(.t 2, .id)]
theorem c0u : cFun Try.prog 61 = some (22, k0u, s0u) := by kernel_rfl

def qbs8 : IC := .reg false [zi 2 (.alo [(.int .i64 0), (.int .i64 0), (.int .i64 0), (.str []), .nils]), zv 3 (.mov (.c (.bool false)))]
def qbwl : IC := .reg false [zm 8 0, zi 9 (.call (.c (.fn 35 [] [])) [((.t 8), .id), ((.c (.int .i64 2)), .id)]), zm 7 9, zv 10 (.ext (.t 7) 0), zv 11 (.ext (.t 7) 1), zi 4 (.alo [(.int .i64 0), (.int .i64 0), (.int .i64 0), (.str [])]), zn (.st 4 .id (.t 4) (.t 10)), zm 5 11]
def qbxr : IC := .reg false [zm 12 5, zv 13 (.un .not (.t 12))]
def qbxu : IC := .reg false [zv 14 (.bld [(.int .i64 0), (.int .i64 0), (.int .i64 0), (.str []), .nils] []), zn (.st 5 (.agg [.id, .id, .id, .id, (.sl 5)]) (.t 2) (.t 14)), zv 3 (.mov (.c (.bool false)))]
def qbve : IC := .reg false [zm 16 0, zi 17 (.call (.c (.fn 37 [] [])) [((.t 16), .id)]), zm 15 17, zv 18 (.ext (.t 15) 0), zv 19 (.ext (.t 15) 1), zi 6 (.alo [(.int .i64 0), (.int .i64 0), (.int .i64 0), (.str []), .nils]), zn (.st 5 (.agg [.id, .id, .id, .id, (.sl 5)]) (.t 6) (.t 18)), zm 5 19]
def qbzm : IC := .reg false [zm 20 0, zv 21 (.fad (.t 4) 1), zv 22 (.ld false 1 (.t 21)), zv 23 (.fad (.t 4) 3), zv 24 (.ld false 1 (.t 23)), zv 25 (.ld true 5 (.t 6)), zv 26 (.bsl 5 [((.t 25), (.agg [.id, .id, .id, .id, (.sl 5)]))]), zv 27 (.bld [(.int .i64 0), (.int .i64 0), (.int .i64 0), (.str []), .nils] [(0, 1, (.c (.int .i64 3))), (1, 1, (.t 22)), (3, 1, (.t 24)), (4, 1, (.t 26))]), zm 28 5, zi 29 (.call (.c (.fn 56 [] [])) [((.t 20), .id), ((.t 27), (.agg [.id, .id, .id, .id, (.sl 5)])), ((.t 28), .id)]), zv 30 (.ext (.t 29) 0), zv 31 (.ext (.t 29) 1), zn (.st 5 (.agg [.id, .id, .id, .id, (.sl 5)]) (.t 2) (.t 30)), zm 3 31]
def k0v : IC := (.seq qbs8 (.seq qbwl (.seq (.seq qbxr (.cond (.t 13) (.seq qbxu .ret) .skip)) (.seq qbve (.seq qbzm .ret)))))
@[go_sem] def s0v : List (RV × Co) := [(.c true 5 2, (.agg [.id, .id, .id, .id, (.sl 5)])), (.t 3, .id)]
theorem c0v : cFun Try.prog 62 = some (32, k0v, s0v) := by kernel_rfl

def qbrd : IC := .reg false [zi 2 (.alo [(.int .i64 0), (.int .i64 0), (.int .i64 0), (.str []), .nils]), zv 3 (.mov (.c (.bool false)))]
def qbo8 : IC := .reg false [zv 4 (.ld false 1 (.t 0)), zv 5 (.ld false 1 (.t 1)), zi 6 (.call (.c (.fn 64 [] [])) [((.t 4), .id), ((.t 5), .id)]), zv 7 (.ext (.t 6) 0), zv 8 (.ext (.t 6) 1), zn (.st 5 (.agg [.id, .id, .id, .id, (.sl 5)]) (.t 2) (.t 7)), zm 3 8]
def k0da : IC := (.seq qbrd (.seq qbo8 .ret))
@[go_sem] def s0da : List (RV × Co) := [(.c true 5 2, (.agg [.id, .id, .id, .id, (.sl 5)])), (.t 3, .id)]
theorem c0da : cFun Try.prog 63 = some (9, k0da, s0da) := by kernel_rfl

def qbdq : IC := .reg false [zi 4 (.alo [(.int .i64 0), (.int .i64 0), (.int .i64 0), (.str []), .nils]), zv 5 (.mov (.c (.bool false)))]
def qbht : IC := .reg false [zm 9 0, zi 10 (.call (.c (.fn 29 [] [])) [((.t 9), .id)]), zm 8 10, zv 11 (.ext (.t 8) 0), zv 12 (.ext (.t 8) 1), zi 6 (.alo [(.int .i64 0), (.int .i64 0), (.int .i64 0), (.str []), .nils]), zn (.st 5 (.agg [.id, .id, .id, .id, (.sl 5)]) (.t 6) (.t 11)), zm 7 12]
def qbme : IC := .reg false [zm 13 7, zm 14 13, zw 14 true 15 (.fad (.t 6) 0), zw 14 true 16 (.ld false 1 (.t 15)), zw 14 true 17 (.mov (.t 1)), zw 14 true 18 (.bin .neq .no (.t 16) (.t 17)), zv 19 (.pick (.t 14) (.t 18) (.c (.bool false)))]
def qbqs : IC := .drw [zp (zv 20 (.ld true 5 (.t 6))), zp (zm 21 0), (zi 22 (.call (.c (.fn 43 [] [])) [((.t 21), .id), ((.c (.int .i64 5)), .id)]), [0]), (zn (.st 5 (.agg [.id, .id, .id, .id, (.sl 5)]) (.t 4) (.t 20)), []), zp (zm 5 22)]
def qbn4 : IC := .reg false [zv 23 (.ld true 5 (.t 6)), zm 24 7, zn (.st 5 (.agg [.id, .id, .id, .id, (.sl 5)]) (.t 4) (.t 23)), zm 5 24]
def k0cz : IC := (.seq qbdq (.seq qbht (.seq (.seq qbme (.cond (.t 19) (.seq qbqs .ret) .skip)) (.seq qbn4 .ret))))
@[go_sem] def s0cz : List (RV × Co) := [(.c true 5 4, (.agg [.id, .id, .id, .id, (.sl 5)])), (.t 5, .id)]
theorem c0cz : cFun Try.prog 64 = some (25, k0cz, s0cz) := by kernel_rfl

def qbnw : IC := .reg false [zv 2 (.mov (.c (.bool false)))]
def qbnt : IC := .reg false [zv 3 (.ld false 1 (.t 0)), zi 4 (.call (.c (.fn 33 [] [])) [((.t 3), .id), ((.c (.str [125])), .id)]), zv 5 (.un .not (.t 4)), zm 6 5, zw 6 true 7 (.ld false 1 (.t 1)), ⟨some (6, true), some 8, .call (.t 7) []⟩, zv 9 (.pick (.t 6) (.t 8) (.c (.bool false))), zm 10 9, zw 10 true 11 (.ld false 1 (.t 0)), ⟨some (10, true), some 12, .call (.c (.fn 33 [] [])) [((.t 11), .id), ((.c (.str [125])), .id)]⟩, zw 10 true 13 (.un .not (.t 12)), zv 14 (.pick (.t 10) (.t 13) (.c (.bool false))), zm 2 14]
def k0db : IC := (.seq qbnw (.seq qbnt .ret))
@[go_sem] def s0db : List (RV × Co) := [(.t 2, .id)]
theorem c0db : cFun Try.prog 65 = some (15, k0db, s0db) := by kernel_rfl

def qbwy : IC := .reg false [zi 2 (.alo [(.int .i64 0), (.int .i64 0), (.int .i64 0), (.str []), .nils]), zv 3 (.mov (.c (.bool false)))]
def qby1 : IC := .reg false [zm 6 0, zi 7 (.call (.c (.fn 53 [] [])) [((.t 6), .id)]), zv 8 (.un .not (.t 7))]
def qbt2 : IC := .reg false [zv 9 (.bld [(.int .i64 0), (.int .i64 0), (.int .i64 0), (.str []), .nils] []), zn (.st 5 (.agg [.id, .id, .id, .id, (.sl 5)]) (.t 2) (.t 9)), zv 3 (.mov (.c (.bool false)))]
def qby8 : IC := .reg false [zm 11 0, zi 12 (.call (.c (.fn 77 [] [])) [((.t 11), .id)]), zm 10 12, zv 13 (.ext (.t 10) 0), zv 14 (.ext (.t 10) 1), zi 4 (.alo [(.int .i64 0), (.int .i64 0), (.int .i64 0), (.str []), .nils]), zn (.st 5 (.agg [.id, .id, .id, .id, (.sl 5)]) (.t 4) (.t 13)), zm 5 14]
def qbvg : IC := .reg false [zm 15 0, zi 16 (.call (.c (.fn 55 [] [])) [((.t 15), .id)])]
def qbxo : IC := .reg false [zm 17 5, zv 18 (.un .not (.t 17))]
def qbuu : IC := .reg false [zv 19 (.bld [(.int .i64 0), (.int .i64 0), (.int .i64 0), (.str []), .nils] []), zn (.st 5 (.agg [.id, .id, .id, .id, (.sl 5)]) (.t 2) (.t 19)), zv 3 (.mov (.c (.bool false)))]
def qby0 : IC := .reg false [zv 20 (.ld true 5 (.t 4)), zn (.st 5 (.agg [.id, .id, .id, .id, (.sl 5)]) (.t 2) (.t 20)), zv 3 (.mov (.c (.bool true)))]
def k0b : IC := (.seq qbwy (.seq (.seq qby1 (.cond (.t 8) (.seq qbt2 .ret) .skip)) (.seq qby8 (.seq qbvg (.seq (.seq qbxo (.cond (.t 18) (.seq qbuu .ret) .skip)) (.seq qby0 .ret))))))
@[go_sem] def s0b : List (RV × Co) := [(.c true 5 2, (.agg [.id, .id, .id, .id, (.sl 5)])), (.t 3, .id)]
theorem c0b : cFun Try.prog 66 = some (21, k0b, s0b) := by kernel_rfl

def qbli : IC := .reg false [zv 4 (.mov (.c (.int .i64 0)))]
def qbf5 : IC := .reg false [zm 6 0, zv 7 (.len true (.t 6)), zv 8 (.mov (.c (.int .i64 0)))]
def qbm8 : IC := .reg false [zv 9 (.bin .lss .no (.t 8) (.t 7))]
def qbmc : IC := .reg false [zm 10 8, zm 5 10]
def qbfv : IC := .reg false [zm 11 1, zm 12 0, zm 13 5, zv 14 (.idx (.t 12) (.t 13)), zi 15 (.call (.t 11) [((.t 14), .id)]), zv 16 (.un .not (.t 15))]
def qbkv : IC := .reg false [zm 17 5, zm 4 17]
def qbj6 : IC := .reg false [zv 18 (.bin .add .no (.t 8) (.c (.int .i64 1))), zm 8 18]
def qbmi : IC := (.seq qbm8 (.seq (.cond (.t 9) .skip (.exit 0)) (.seq (.block 1 (.seq qbmc (.seq qbfv (.cond (.t 16) (.seq qbkv .ret) .skip)))) qbj6)))
def qbgv : IC := .reg false [zm 19 0, zv 20 (.len true (.t 19)), zm 4 20]
def k0bx : IC := (.seq qbli (.seq (.seq qbf5 (.block 0 (.loop qbmi))) (.seq qbgv .ret)))
@[go_sem] def s0bx : List (RV × Co) := [(.t 4, .id)]
theorem c0bx : cFun Try.prog 67 = some (21, k0bx, s0bx) := by kernel_rfl

def qbds : IC := .reg false [zv 2 (.mov (.c (.bool false)))]
def qbjn : IC := .reg false [zm 3 0, zv 4 (.bin .eql .no (.t 3) (.c (.int .u8 9))), zm 5 4, zw 5 false 6 (.mov (.t 0)), zw 5 false 7 (.bin .eql .no (.t 6) (.c (.int .u8 10))), zv 8 (.pick (.t 5) (.c (.bool true)) (.t 7)), zm 9 8, zw 9 false 10 (.mov (.t 0)), zw 9 false 11 (.bin .eql .no (.t 10) (.c (.int .u8 13))), zv 12 (.pick (.t 9) (.c (.bool true)) (.t 11)), zm 13 12, zw 13 false 14 (.mov (.t 0)), zw 13 false 15 (.bin .eql .no (.t 14) (.c (.int .u8 32))), zv 16 (.pick (.t 13) (.c (.bool true)) (.t 15)), zm 2 16]
def k0bv : IC := (.seq qbds (.seq qbjn .ret))
@[go_sem] def s0bv : List (RV × Co) := [(.t 2, .id)]
theorem c0bv : cFun Try.prog 68 = some (17, k0bv, s0bv) := by kernel_rfl

def qblm : IC := .reg false [zv 4 (.mov (.c (.bool false)))]
def qbef : IC := .reg false [zm 5 0, zm 6 1, zi 7 (.call (.c (.fn 78 [] [])) [((.t 5), .id), ((.t 6), .id)]), zm 4 7]
def k0bz : IC := (.seq qblm (.seq qbef .ret))
@[go_sem] def s0bz : List (RV × Co) := [(.t 4, .id)]
theorem c0bz : cFun Try.prog 69 = some (8, k0bz, s0bz) := by kernel_rfl

def qbi6 : IC := .reg false [zv 2 (.mov (.c (.bool false)))]
def qbqj : IC := .reg false [zm 3 0, zv 4 (.bin .neq .no (.t 3) (.c (.int .u8 10))), zm 2 4]
def k0bw : IC := (.seq qbi6 (.seq qbqj .ret))
@[go_sem] def s0bw : List (RV × Co) := [(.t 2, .id)]
theorem c0bw : cFun Try.prog 70 = some (5, k0bw, s0bw) := by kernel_rfl

def qbit : IC := .reg false [zv 2 (.mov (.c (.bool false)))]
def qbkx : IC := .reg false [zm 3 0, zv 4 (.bin .geq .no (.t 3) (.c (.int .u8 48))), zm 5 4, zw 5 true 6 (.mov (.t 0)), zw 5 true 7 (.bin .leq .no (.t 6) (.c (.int .u8 57))), zv 8 (.pick (.t 5) (.t 7) (.c (.bool false))), zm 2 8]
def k0bt : IC := (.seq qbit (.seq qbkx .ret))
@[go_sem] def s0bt : List (RV × Co) := [(.t 2, .id)]
theorem c0bt : cFun Try.prog 71 = some (9, k0bt, s0bt) := by kernel_rfl

def qbq7 : IC := .reg false [zv 2 (.mov (.c (.int .i64 0))), zv 3 (.mov (.c (.int .i64 0)))]
def qbq8 : IC := .reg false [zm 8 0, zv 9 (.len true (.t 8)), zv 10 (.mov (.c (.int .i64 0)))]
def qbpp : IC := .reg false [zv 11 (.bin .lss .no (.t 10) (.t 9))]
def qbn2 : IC := .reg false [zm 12 10, zm 4 12]
def qbe0 : IC := .reg false [zm 13 0, zm 14 4, zv 15 (.idx (.t 13) (.t 14)), zv 16 (.bin .lss .no (.t 15) (.c (.int .u8 48))), zm 17 16, zw 17 false 18 (.mov (.t 0)), zw 17 false 19 (.mov (.t 4)), zw 17 false 20 (.idx (.t 18) (.t 19)), zw 17 false 21 (.bin .gtr .no (.t 20) (.c (.int .u8 57))), zv 22 (.pick (.t 17) (.c (.bool true)) (.t 21))]
def qbmk : IC := .reg false [zv 2 (.mov (.c (.int .i64 0))), zv 3 (.mov (.c (.int .i64 5)))]
def qbp2 : IC := .reg false [zv 23 (.bin .add .no (.t 10) (.c (.int .i64 1))), zm 10 23]
def qbfa : IC := (.seq qbpp (.seq (.cond (.t 11) .skip (.exit 0)) (.seq (.block 1 (.seq qbn2 (.seq qbe0 (.cond (.t 22) (.seq qbmk .ret) .skip)))) qbp2)))
def qbhd : IC := .reg false [zm 24 0, zv 25 (.bin .eql .no (.t 24) (.c (.str [])))]
def qbb9 : IC := .reg false [zv 2 (.mov (.c (.int .i64 0))), zv 3 (.mov (.c (.int .i64 5)))]
def q8z : IC := .reg false [zv 5 (.mov (.c (.int .i64 0))), zv 6 (.mov (.c (.int .i64 0)))]
def q9x : IC := .reg false [zm 26 0, zm 27 6, zv 28 (.idx (.t 26) (.t 27)), zv 29 (.bin .sub .no (.t 28) (.c (.int .u8 48))), zv 30 (.cvi .i64 (.t 29)), zm 7 30]
def q79 : IC := .reg false [zm 31 5, zm 32 7, zv 33 (.bin .sub .no (.c (.int .i64 9223372036854775807)) (.t 32)), zv 34 (.bin .quo .no (.t 33) (.c (.int .i64 10))), zv 35 (.bin .gtr .no (.t 31) (.t 34))]
def q9g : IC := .reg false [zv 2 (.mov (.c (.int .i64 0))), zv 3 (.mov (.c (.int .i64 4)))]
def qbb8 : IC := .reg false [zm 36 5, zv 37 (.bin .mul .no (.c (.int .i64 10)) (.t 36)), zm 38 7, zv 39 (.bin .add .no (.t 37) (.t 38)), zm 5 39]
def q9l : IC := .reg false [zm 40 6, zv 41 (.bin .add .no (.t 40) (.c (.int .i64 1))), zm 6 41]
def q84 : IC := .reg false [zm 42 6, zm 43 0, zv 44 (.len true (.t 43)), zv 45 (.bin .lss .no (.t 42) (.t 44))]
def qbad : IC := .reg false [zm 46 5, zm 2 46, zv 3 (.mov (.c (.int .i64 0)))]
def k0cb : IC := (.seq qbq7 (.scope (.seq (.seq qbq8 (.block 0 (.loop qbfa))) (.seq (.seq qbhd (.cond (.t 25) (.seq qbb9 .ret) .skip)) (.seq q8z (.seq (.label 0) (.seq q9x (.seq (.seq q79 (.cond (.t 35) (.seq q9g .ret) .skip)) (.seq qbb8 (.seq (.seq q9l (.seq q84 (.cond (.t 45) (.goto 0) .skip))) (.seq qbad .ret)))))))))))
@[go_sem] def s0cb : List (RV × Co) := [(.t 2, .id), (.t 3, .id)]
theorem c0cb : cFun Try.prog 72 = some (47, k0cb, s0cb) := by kernel_rfl

def qbk0 : IC := .reg false [zv 2 (.mov (.c (.bool false)))]
def qbou : IC := .reg false [zm 3 0, zv 4 (.bin .geq .no (.t 3) (.c (.int .u8 97))), zm 5 4, zw 5 true 6 (.mov (.t 0)), zw 5 true 7 (.bin .leq .no (.t 6) (.c (.int .u8 122))), zv 8 (.pick (.t 5) (.t 7) (.c (.bool false))), zm 9 8, zw 9 false 10 (.mov (.t 0)), zw 9 false 11 (.bin .geq .no (.t 10) (.c (.int .u8 65))), zw 9 false 12 (.mov (.t 11)), zw 12 true 13 (.mov (.t 0)), zw 12 true 14 (.bin .leq .no (.t 13) (.c (.int .u8 90))), zw 9 false 15 (.pick (.t 12) (.t 14) (.c (.bool false))), zv 16 (.pick (.t 9) (.c (.bool true)) (.t 15)), zm 17 16, zw 17 false 18 (.mov (.t 0)), zw 17 false 19 (.bin .eql .no (.t 18) (.c (.int .u8 95))), zv 20 (.pick (.t 17) (.c (.bool true)) (.t 19)), zm 21 20, zw 21 false 22 (.mov (.t 0)), zw 21 false 23 (.bin .eql .no (.t 22) (.c (.int .u8 39))), zv 24 (.pick (.t 21) (.c (.bool true)) (.t 23)), zm 25 24, zw 25 false 26 (.mov (.t 0)), ⟨some (25, false), some 27, .call (.c (.fn 71 [] [])) [((.t 26), .id)]⟩, zv 28 (.pick (.t 25) (.c (.bool true)) (.t 27)), zm 2 28]
def k0bu : IC := (.seq qbk0 (.seq qbou .ret))
@[go_sem] def s0bu : List (RV × Co) := [(.t 2, .id)]
theorem c0bu : cFun Try.prog 73 = some (29, k0bu, s0bu) := by kernel_rfl

def qbo0 : IC := .reg false [zi 2 (.alo [(.int .i64 0), (.int .i64 0), (.int .i64 0), (.str [])])]
def qbjm : IC := .reg false [zm 4 0, zv 5 (.bld [(.int .i64 0), (.int .i64 0), (.int .i64 0), (.str [])] [(0, 1, (.c (.int .i64 1))), (3, 1, (.t 4))]), zi 3 (.alo [(.int .i64 0), (.int .i64 0), (.int .i64 0), (.str [])]), zn (.st 4 .id (.t 3) (.t 5))]
def qbhy : IC := .reg false [zm 7 0, zv 8 (.bin .eql .no (.t 7) (.c (.str [95]))), zm 6 8]
def qbnl : IC := .reg false [zv 9 (.fad (.t 3) 0), zn (.st 1 .id (.t 9) (.c (.int .i64 5)))]
def qbmw : IC := .reg false [zm 11 0, zi 12 (.call (.c (.fn 79 [] [])) [((.t 11), .id)]), zm 10 12]
def qbkm : IC := .reg false [zv 13 (.fad (.t 3) 0), zn (.st 1 .id (.t 13) (.c (.int .i64 4)))]
def qbg8 : IC := .reg false [zm 15 0, zi 16 (.call (.c (.fn 80 [] [])) [((.t 15), .id)]), zm 14 16]
def qbos : IC := .reg false [zv 17 (.fad (.t 3) 0), zn (.st 1 .id (.t 17) (.c (.int .i64 2)))]
def qbpc : IC := .reg false [zv 18 (.ld true 4 (.t 3)), zn (.st 4 .id (.t 2) (.t 18))]
def k0bq : IC := (.seq qbo0 (.seq qbjm (.seq (.block 0 (.seq qbhy (.cond (.t 6) qbnl (.seq qbmw (.cond (.t 10) qbkm (.seq qbg8 (.cond (.t 14) qbos .skip))))))) (.seq qbpc .ret))))
@[go_sem] def s0bq : List (RV × Co) := [(.c true 4 2, .id)]
theorem c0bq : cFun Try.prog 74 = some (19, k0bq, s0bq) := by kernel_rfl

def qbl1 : IC := .reg false [zv 2 (.mov (.c (.int .i64 0)))]
def qbqr : IC := .reg false [zv 5 (.bld [(.str []), (.str []), (.str []), (.str []), (.str []), (.str []), (.str []), (.str []), (.str []), (.str []), (.str []), (.str [])] [(0, 1, (.c (.str [45, 62]))), (1, 1, (.c (.str [61, 62]))), (2, 1, (.c (.str [58, 58]))), (3, 1, (.c (.str [40]))), (4, 1, (.c (.str [41]))), (5, 1, (.c (.str [123]))), (6, 1, (.c (.str [125]))), (7, 1, (.c (.str [59]))), (8, 1, (.c (.str [44]))), (9, 1, (.c (.str [61]))), (10, 1, (.c (.str [124]))), (11, 1, (.c (.str [92])))]), zv 6 (.mov (.c (.int .i64 0)))]
def qbnp : IC := .reg false [zv 7 (.bin .lss .no (.t 6) (.c (.int .i64 12)))]
def qbgr : IC := .reg false [zv 8 (.ida false 1 12 (.t 5) (.t 6)), zm 4 8]
def qbjj : IC := .reg false [zm 9 0, zm 10 4, zi 11 (.call (.c (.fn 69 [] [])) [((.t 9), .id), ((.t 10), .id)])]
def qbg3 : IC := .reg false [zm 12 4, zv 13 (.len true (.t 12)), zm 2 13]
def qbky : IC := .reg false [zv 14 (.bin .add .no (.t 6) (.c (.int .i64 1))), zm 6 14]
def qbn3 : IC := (.seq qbnp (.seq (.cond (.t 7) .skip (.exit 0)) (.seq (.block 1 (.seq qbgr (.seq qbjj (.cond (.t 11) (.seq qbg3 .ret) .skip)))) qbky)))
def qbnb : IC := .reg false [zv 2 (.mov (.c (.int .i64 0)))]
def k0br : IC := (.seq qbl1 (.seq (.seq qbqr (.block 0 (.loop qbn3))) (.seq qbnb .ret)))
@[go_sem] def s0br : List (RV × Co) := [(.t 2, .id)]
theorem c0br : cFun Try.prog 75 = some (15, k0br, s0br) := by kernel_rfl

def qbth : IC := .reg false [zi 2 (.alo [(.int .i64 0), (.int .i64 0), (.int .i64 0), (.str []), .nils]), zv 3 (.mov (.c (.bool false)))]
def qbsj : IC := .reg false [zm 8 0, zi 9 (.call (.c (.fn 19 [] [])) [((.t 8), .id)]), zv 10 (.fld false 1 0 (.t 9)), zv 11 (.bin .neq .no (.t 10) (.c (.int .i64 2)))]
def qby4 : IC := .reg false [zm 12 0, zi 13 (.call (.c (.fn 37 [] [])) [((.t 12), .id)]), zv 14 (.ext (.t 13) 0), zv 15 (.ext (.t 13) 1), zn (.st 5 (.agg [.id, .id, .id, .id, (.sl 5)]) (.t 2) (.t 14)), zm 3 15]
def qbr8 : IC := .reg false [zm 16 0, zi 17 (.call (.c (.fn 34 [] [])) [((.t 16), .id)]), zi 4 (.alo [(.int .i64 0), (.int .i64 0), (.int .i64 0), (.str [])]), zn (.st 4 .id (.t 4) (.t 17))]
def qbs2 : IC := .reg false [zv 18 (.fad (.t 4) 1), zv 19 (.ld false 1 (.t 18)), zv 20 (.fad (.t 4) 3), zv 21 (.ld false 1 (.t 20)), zv 22 (.bld [(.int .i64 0), (.int .i64 0), (.int .i64 0), (.str []), .nils] [(0, 1, (.c (.int .i64 2))), (1, 1, (.t 19)), (3, 1, (.t 21))]), zi 5 (.alo [(.int .i64 0), (.int .i64 0), (.int .i64 0), (.str []), .nils]), zn (.st 5 (.agg [.id, .id, .id, .id, (.sl 5)]) (.t 5) (.t 22))]
def qbvn : IC := .reg false [zm 23 0, zi 24 (.call (.c (.fn 81 [] [])) [((.t 23), .id)])]
def qbvm : IC := .reg false [zm 26 0, zi 27 (.call (.c (.fn 37 [] [])) [((.t 26), .id)]), zm 25 27, zv 28 (.ext (.t 25) 0), zv 29 (.ext (.t 25) 1), zi 6 (.alo [(.int .i64 0), (.int .i64 0), (.int .i64 0), (.str []), .nils]), zn (.st 5 (.agg [.id, .id, .id, .id, (.sl 5)]) (.t 6) (.t 28)), zm 7 29]
def qbyh : IC := .reg false [zm 30 7, zv 31 (.un .not (.t 30))]
def qbwx : IC := .reg false [zv 32 (.bld [(.int .i64 0), (.int .i64 0), (.int .i64 0), (.str []), .nils] []), zn (.st 5 (.agg [.id, .id, .id, .id, (.sl 5)]) (.t 2) (.t 32)), zv 3 (.mov (.c (.bool false)))]
def qbe9 : IC := .reg false [zv 33 (.fad (.t 5) 4), zv 34 (.ld false 1 (.t 33)), zv 35 (.ld true 5 (.t 6)), zv 36 (.bsl 5 [((.t 35), (.agg [.id, .id, .id, .id, (.sl 5)]))]), zi 37 (.app 5 (.agg [(.int .i64 0), (.int .i64 0), (.int .i64 0), (.str []), .nils]) 64 (.sl 5) (.t 34) (.t 36)), zv 38 (.fad (.t 5) 4), zn (.st 1 (.sl 5) (.t 38) (.t 37))]
def qbuf : IC := (.seq (.seq qbvn (.cond (.t 24) .skip (.exit 0))) (.block 1 (.seq qbvm (.seq (.seq qbyh (.cond (.t 31) (.seq qbwx .ret) .skip)) qbe9))))
def qboc : IC := .reg false [zv 39 (.ld true 5 (.t 5)), zn (.st 5 (.agg [.id, .id, .id, .id, (.sl 5)]) (.t 2) (.t 39)), zv 3 (.mov (.c (.bool true)))]
def k0z : IC := (.seq qbth (.seq (.seq qbsj (.cond (.t 11) (.seq qby4 .ret) .skip)) (.seq qbr8 (.seq qbs2 (.seq (.block 0 (.loop qbuf)) (.seq qboc .ret))))))
@[go_sem] def s0z : List (RV × Co) := [(.c true 5 2, (.agg [.id, .id, .id, .id, (.sl 5)])), (.t 3, .id)]
theorem c0z : cFun Try.prog 76 = some (40, k0z, s0z) := by kernel_rfl

def qbte : IC := .reg false [zi 2 (.alo [(.int .i64 0), (.int .i64 0), (.int .i64 0), (.str []), .nils]), zv 3 (.mov (.c (.bool false)))]
def qbub : IC := .reg false [zm 5 0, zi 6 (.call (.c (.fn 19 [] [])) [((.t 5), .id)]), zv 7 (.fld false 1 1 (.t 6)), zv 8 (.bld [(.int .i64 0), (.int .i64 0), (.int .i64 0), (.str []), .nils] [(1, 1, (.t 7))]), zi 4 (.alo [(.int .i64 0), (.int .i64 0), (.int .i64 0), (.str []), .nils]), zn (.st 5 (.agg [.id, .id, .id, .id, (.sl 5)]) (.t 4) (.t 8))]
def qbuk : IC := .reg false [zm 10 0, zi 11 (.call (.c (.fn 26 [] [])) [((.t 10), .id), ((.c (.str [92])), .id)]), zm 9 11]
def qbvx : IC := .reg false [zm 12 0, zi 13 (.call (.c (.fn 19 [] [])) [((.t 12), .id)]), zv 14 (.fld false 1 0 (.t 13)), zv 15 (.bin .neq .no (.t 14) (.c (.int .i64 1)))]
def qbvy : IC := .drw [zp (zv 16 (.ld true 5 (.t 4))), zp (zm 17 0), (zi 18 (.call (.c (.fn 43 [] [])) [((.t 17), .id), ((.c (.int .i64 5)), .id)]), [0]), (zn (.st 5 (.agg [.id, .id, .id, .id, (.sl 5)]) (.t 2) (.t 16)), []), zp (zm 3 18)]
def qbsd : IC := .reg false [zm 19 0, zi 20 (.call (.c (.fn 46 [] [])) [((.t 19), .id), ((.c (.str [45, 62])), .id)]), zv 21 (.ext (.t 20) 0), zv 22 (.ext (.t 20) 1), zn (.st 5 (.agg [.id, .id, .id, .id, (.sl 5)]) (.t 2) (.t 21)), zm 3 22]
def qbxs : IC := .reg false [zm 24 0, zi 25 (.call (.c (.fn 26 [] [])) [((.t 24), .id), ((.c (.str [108, 101, 116])), .id)]), zm 23 25]
def qbzf : IC := .reg false [zm 26 0, zv 27 (.ld true 5 (.t 4)), zi 28 (.call (.c (.fn 82 [] [])) [((.t 26), .id), ((.t 27), (.agg [.id, .id, .id, .id, (.sl 5)]))]), zv 29 (.ext (.t 28) 0), zv 30 (.ext (.t 28) 1), zn (.st 5 (.agg [.id, .id, .id, .id, (.sl 5)]) (.t 2) (.t 29)), zm 3 30]
def qbwj : IC := .reg false [zm 32 0, zi 33 (.call (.c (.fn 26 [] [])) [((.t 32), .id), ((.c (.str [99, 97, 115, 101])), .id)]), zm 31 33]
def qbt3 : IC := .reg false [zm 34 0, zv 35 (.ld true 5 (.t 4)), zi 36 (.call (.c (.fn 83 [] [])) [((.t 34), .id), ((.t 35), (.agg [.id, .id, .id, .id, (.sl 5)]))]), zv 37 (.ext (.t 36) 0), zv 38 (.ext (.t 36) 1), zn (.st 5 (.agg [.id, .id, .id, .id, (.sl 5)]) (.t 2) (.t 37)), zm 3 38]
def qbhs : IC := .reg false [zm 40 0, zi 41 (.call (.c (.fn 26 [] [])) [((.t 40), .id), ((.c (.str [105, 102])), .id)]), zm 39 41]
def qbo7 : IC := .reg false [zm 42 0, zv 43 (.ld true 5 (.t 4)), zi 44 (.call (.c (.fn 84 [] [])) [((.t 42), .id), ((.t 43), (.agg [.id, .id, .id, .id, (.sl 5)]))]), zv 45 (.ext (.t 44) 0), zv 46 (.ext (.t 44) 1), zn (.st 5 (.agg [.id, .id, .id, .id, (.sl 5)]) (.t 2) (.t 45)), zm 3 46]
def qbqd : IC := .reg false [zm 47 0, zi 48 (.call (.c (.fn 85 [] [])) [((.t 47), .id)]), zv 49 (.ext (.t 48) 0), zv 50 (.ext (.t 48) 1), zn (.st 5 (.agg [.id, .id, .id, .id, (.sl 5)]) (.t 2) (.t 49)), zm 3 50]
def k0f : IC := (.seq qbte (.seq qbub (.seq (.block 0 (.seq qbuk (.cond (.t 9) (.seq (.seq qbvx (.cond (.t 15) (.seq qbvy .ret) .skip)) (.seq qbsd .ret)) (.seq qbxs (.cond (.t 23) (.seq qbzf .ret) (.seq qbwj (.cond (.t 31) (.seq qbt3 .ret) (.seq qbhs (.cond (.t 39) (.seq qbo7 .ret) .skip))))))))) (.seq qbqd .ret))))
@[go_sem] def s0f : List (RV × Co) := [(.c true 5 2, (.agg [.id, .id, .id, .id, (.sl 5)])), (.t 3, .id)]
theorem c0f : cFun Try.prog 77 = some (51, k0f, s0f) := by kernel_rfl

def qbps : IC := .reg false [zv 4 (.mov (.c (.bool false)))]
def qbpv : IC := .reg false [zm 5 0, zv 6 (.len true (.t 5)), zm 7 1, zv 8 (.len true (.t 7)), zv 9 (.bin .geq .no (.t 6) (.t 8)), zm 10 9, zw 10 true 11 (.mov (.t 0)), zw 10 true 12 (.mov (.t 1)), zw 10 true 13 (.len true (.t 12)), zw 10 true 14 (.sls (.t 11) none (some (.t 13))), zw 10 true 15 (.mov (.t 1)), zw 10 true 16 (.bin .eql .no (.t 14) (.t 15)), zv 17 (.pick (.t 10) (.t 16) (.c (.bool false))), zm 4 17]
def k0by : IC := (.seq qbps (.seq qbpv .ret))
@[go_sem] def s0by : List (RV × Co) := [(.t 4, .id)]
theorem c0by : cFun Try.prog 78 = some (18, k0by, s0by) := by kernel_rfl

def qbgw : IC := .reg false [zv 2 (.mov (.c (.bool false)))]
def qboj : IC := .reg false [zv 3 (.mov (.c (.bool false)))]
def qbp8 : IC := .reg false [zv 6 (.bld [(.str []), (.str []), (.str []), (.str []), (.str []), (.str []), (.str []), (.str []), (.str []), (.str []), (.str [])] [(0, 1, (.c (.str [100, 97, 116, 97]))), (1, 1, (.c (.str [99, 108, 97, 115, 115]))), (2, 1, (.c (.str [105, 110, 115, 116, 97, 110, 99, 101]))), (3, 1, (.c (.str [119, 104, 101, 114, 101]))), (4, 1, (.c (.str [108, 101, 116]))), (5, 1, (.c (.str [105, 110]))), (6, 1, (.c (.str [99, 97, 115, 101]))), (7, 1, (.c (.str [111, 102]))), (8, 1, (.c (.str [105, 102]))), (9, 1, (.c (.str [116, 104, 101, 110]))), (10, 1, (.c (.str [101, 108, 115, 101])))]), zv 7 (.mov (.c (.int .i64 0)))]
def qbl0 : IC := .reg false [zv 8 (.bin .lss .no (.t 7) (.c (.int .i64 11)))]
def qbnv : IC := .reg false [zv 9 (.ida false 1 11 (.t 6) (.t 7)), zm 5 9]
def qbhl : IC := .reg false [zm 10 5, zm 11 0, zv 12 (.bin .neq .no (.t 10) (.t 11))]
def qbqi : IC := .reg false [zv 3 (.mov (.c (.bool true)))]
def qbqy : IC := .reg false [zv 13 (.bin .add .no (.t 7) (.c (.int .i64 1))), zm 7 13]
def qbjr : IC := (.seq qbl0 (.seq (.cond (.t 8) .skip (.exit 0)) (.seq (.block 1 (.seq qbnv (.seq (.seq qbhl (.cond (.t 12) (.exit 1) .skip)) (.seq qbqi (.exit 0))))) qbqy)))
def q9r : IC := .reg false [zm 14 3, zm 2 14]
def k0cf : IC := (.seq qbgw (.scope (.seq qboj (.seq (.label 0) (.seq (.seq qbp8 (.block 0 (.loop qbjr))) (.seq q9r .ret))))))
@[go_sem] def s0cf : List (RV × Co) := [(.t 2, .id)]
theorem c0cf : cFun Try.prog 79 = some (15, k0cf, s0cf) := by kernel_rfl

def qbk3 : IC := .reg false [zv 2 (.mov (.c (.bool false)))]
def qbjt : IC := .reg false [zm 3 0, zv 4 (.bin .neq .no (.t 3) (.c (.str []))), zm 5 4, zw 5 true 6 (.mov (.t 0)), zw 5 true 7 (.idx (.t 6) (.c (.int .i64 0))), ⟨some (5, true), some 8, .call (.c (.fn 86 [] [])) [((.t 7), .id)]⟩, zv 9 (.pick (.t 5) (.t 8) (.c (.bool false))), zm 10 9, zw 10 true 11 (.mov (.t 0)), ⟨some (10, true), some 12, .call (.c (.fn 87 [] [])) [((.t 11), .id)]⟩, zv 13 (.pick (.t 10) (.t 12) (.c (.bool false))), zm 2 13]
def k0cg : IC := (.seq qbk3 (.seq qbjt .ret))
@[go_sem] def s0cg : List (RV × Co) := [(.t 2, .id)]
theorem c0cg : cFun Try.prog 80 = some (14, k0cg, s0cg) := by kernel_rfl

def qbwe : IC := .reg false [zv 2 (.mov (.c (.bool false)))]
def qbsp : IC := .reg false [zm 4 0, zi 5 (.call (.c (.fn 19 [] [])) [((.t 4), .id)]), zv 6 (.fld false 1 0 (.t 5)), zm 3 6]
def qbye : IC := .reg false [zm 7 3, zv 8 (.bin .eql .no (.t 7) (.c (.int .i64 1))), zm 9 8, zw 9 false 10 (.mov (.t 3)), zw 9 false 11 (.bin .eql .no (.t 10) (.c (.int .i64 2))), zv 12 (.pick (.t 9) (.c (.bool true)) (.t 11)), zm 13 12, zw 13 false 14 (.mov (.t 0)), ⟨some (13, false), some 15, .call (.c (.fn 33 [] [])) [((.t 14), .id), ((.c (.str [40])), .id)]⟩, zv 16 (.pick (.t 13) (.c (.bool true)) (.t 15)), zm 2 16]
def k0x : IC := (.seq qbwe (.seq qbsp (.seq qbye .ret)))
@[go_sem] def s0x : List (RV × Co) := [(.t 2, .id)]
theorem c0x : cFun Try.prog 81 = some (17, k0x, s0x) := by kernel_rfl

def qbxe : IC := .reg false [zi 2 (.box (.t 0)), zi 3 (.box (.t 1)), zi 4 (.alo [(.int .i64 0), (.int .i64 0), (.int .i64 0), (.str []), .nils]), zv 5 (.mov (.c (.bool false)))]
def qbs3 : IC := .reg false [zv 10 (.ld false 1 (.t 2)), zv 11 (.mfn 89 [] [(.t 2)]), zi 12 (.call (.c (.fn 88 [] [])) [((.t 10), .id), ((.t 11), .id)]), zm 9 12, zv 13 (.ext (.t 9) 0), zv 14 (.ext (.t 9) 1), zm 6 13, zm 7 14]
def qbyb : IC := .reg false [zm 15 7, zv 16 (.un .not (.t 15)), zm 17 16, zw 17 false 18 (.ld false 1 (.t 2)), ⟨some (17, false), some 19, .call (.c (.fn 39 [] [])) [((.t 18), .id), ((.c (.str [105, 110])), .id)]⟩, zw 17 false 20 (.un .not (.t 19)), zv 21 (.pick (.t 17) (.c (.bool true)) (.t 20))]
def qbw3 : IC := .reg false [zv 22 (.ld true 5 (.t 3)), zn (.st 5 (.agg [.id, .id, .id, .id, (.sl 5)]) (.t 4) (.t 22)), zv 5 (.mov (.c (.bool false)))]
def qbyc : IC := .reg false [zv 24 (.ld false 1 (.t 2)), zi 25 (.call (.c (.fn 66 [] [])) [((.t 24), .id)]), zm 23 25, zv 26 (.ext (.t 23) 0), zv 27 (.ext (.t 23) 1), zi 8 (.alo [(.int .i64 0), (.int .i64 0), (.int .i64 0), (.str []), .nils]), zn (.st 5 (.agg [.id, .id, .id, .id, (.sl 5)]) (.t 8) (.t 26)), zm 7 27]
def qbyf : IC := .reg false [zm 28 6, zv 29 (.ld true 5 (.t 8)), zv 30 (.bsl 5 [((.t 29), (.agg [.id, .id, .id, .id, (.sl 5)]))]), zi 31 (.app 5 (.agg [(.int .i64 0), (.int .i64 0), (.int .i64 0), (.str []), .nils]) 64 (.sl 5) (.t 28) (.t 30)), zv 32 (.fad (.t 3) 0), zn (.st 1 .id (.t 32) (.c (.int .i64 26))), zv 33 (.fad (.t 3) 4), zn (.st 1 (.sl 5) (.t 33) (.t 31))]
def qbwt : IC := .reg false [zv 34 (.ld true 5 (.t 3)), zm 35 7, zn (.st 5 (.agg [.id, .id, .id, .id, (.sl 5)]) (.t 4) (.t 34)), zm 5 35]
def k0c : IC := (.seq qbxe (.seq qbs3 (.seq (.seq qbyb (.cond (.t 21) (.seq qbw3 .ret) .skip)) (.seq qbyc (.seq qbyf (.seq qbwt .ret))))))
@[go_sem] def s0c : List (RV × Co) := [(.c true 5 4, (.agg [.id, .id, .id, .id, (.sl 5)])), (.t 5, .id)]
theorem c0c : cFun Try.prog 82 = some (36, k0c, s0c) := by kernel_rfl

def qbts : IC := .reg false [zi 2 (.box (.t 0)), zi 3 (.box (.t 1)), zi 4 (.alo [(.int .i64 0), (.int .i64 0), (.int .i64 0), (.str []), .nils]), zv 5 (.mov (.c (.bool false)))]
def qbxj : IC := .reg false [zv 10 (.ld false 1 (.t 2)), zi 11 (.call (.c (.fn 66 [] [])) [((.t 10), .id)]), zm 9 11, zv 12 (.ext (.t 9) 0), zv 13 (.ext (.t 9) 1), zi 6 (.alo [(.int .i64 0), (.int .i64 0), (.int .i64 0), (.str []), .nils]), zn (.st 5 (.agg [.id, .id, .id, .id, (.sl 5)]) (.t 6) (.t 12)), zm 7 13]
def qbvv : IC := .reg false [zm 14 7, zv 15 (.un .not (.t 14)), zm 16 15, zw 16 false 17 (.ld false 1 (.t 2)), ⟨some (16, false), some 18, .call (.c (.fn 39 [] [])) [((.t 17), .id), ((.c (.str [111, 102])), .id)]⟩, zw 16 false 19 (.un .not (.t 18)), zv 20 (.pick (.t 16) (.c (.bool true)) (.t 19))]
def qbyg : IC := .reg false [zv 21 (.ld true 5 (.t 3)), zn (.st 5 (.agg [.id, .id, .id, .id, (.sl 5)]) (.t 4) (.t 21)), zv 5 (.mov (.c (.bool false)))]
def qbse : IC := .reg false [zv 23 (.ld false 1 (.t 2)), zv 24 (.mfn 90 [] [(.t 2)]), zi 25 (.call (.c (.fn 88 [] [])) [((.t 23), .id), ((.t 24), .id)]), zm 22 25, zv 26 (.ext (.t 22) 0), zv 27 (.ext (.t 22) 1), zm 8 26, zm 7 27]
def qbr2 : IC := .reg false [zv 28 (.ld true 5 (.t 6)), zv 29 (.bsl 5 [((.t 28), (.agg [.id, .id, .id, .id, (.sl 5)]))]), zm 30 8, zi 31 (.app 5 (.agg [(.int .i64 0), (.int .i64 0), (.int .i64 0), (.str []), .nils]) 64 (.sl 5) (.t 29) (.t 30)), zv 32 (.fad (.t 3) 0), zn (.st 1 .id (.t 32) (.c (.int .i64 27))), zv 33 (.fad (.t 3) 4), zn (.st 1 (.sl 5) (.t 33) (.t 31))]
def qbr6 : IC := .reg false [zv 34 (.ld true 5 (.t 3)), zm 35 7, zn (.st 5 (.agg [.id, .id, .id, .id, (.sl 5)]) (.t 4) (.t 34)), zm 5 35]
def k0d : IC := (.seq qbts (.seq qbxj (.seq (.seq qbvv (.cond (.t 20) (.seq qbyg .ret) .skip)) (.seq qbse (.seq qbr2 (.seq qbr6 .ret))))))
@[go_sem] def s0d : List (RV × Co) := [(.c true 5 4, (.agg [.id, .id, .id, .id, (.sl 5)])), (.t 5, .id)]
theorem c0d : cFun Try.prog 83 = some (36, k0d, s0d) := by kernel_rfl

def qbxf : IC := .reg false [zi 3 (.box (.t 1)), zi 4 (.alo [(.int .i64 0), (.int .i64 0), (.int .i64 0), (.str []), .nils]), zv 5 (.mov (.c (.bool false)))]
def qbwg : IC := .reg false [zv 10 (.fad (.t 3) 0), zn (.st 1 .id (.t 10) (.c (.int .i64 28)))]
def qbsx : IC := .reg false [zv 11 (.bld [(.str []), (.str []), (.str [])] [(0, 1, (.c (.str []))), (1, 1, (.c (.str [116, 104, 101, 110]))), (2, 1, (.c (.str [101, 108, 115, 101])))]), zv 12 (.mov (.c (.int .i64 0)))]
def qbs9 : IC := .reg false [zv 13 (.bin .lss .no (.t 12) (.c (.int .i64 3)))]
def qbrr : IC := .reg false [zv 14 (.ida false 1 3 (.t 11) (.t 12)), zm 7 14]
def qby2 : IC := .reg false [zm 15 7, zv 16 (.bin .neq .no (.t 15) (.c (.str []))), zm 17 16, zw 17 true 18 (.mov (.t 0)), zw 17 true 19 (.mov (.t 7)), ⟨some (17, true), some 20, .call (.c (.fn 39 [] [])) [((.t 18), .id), ((.t 19), .id)]⟩, zw 17 true 21 (.un .not (.t 20)), zv 22 (.pick (.t 17) (.t 21) (.c (.bool false)))]
def qbvo : IC := .reg false [zv 23 (.ld true 5 (.t 3)), zn (.st 5 (.agg [.id, .id, .id, .id, (.sl 5)]) (.t 4) (.t 23)), zv 5 (.mov (.c (.bool false)))]
def qbyi : IC := .reg false [zm 25 0, zi 26 (.call (.c (.fn 66 [] [])) [((.t 25), .id)]), zm 24 26, zv 27 (.ext (.t 24) 0), zv 28 (.ext (.t 24) 1), zi 8 (.alo [(.int .i64 0), (.int .i64 0), (.int .i64 0), (.str []), .nils]), zn (.st 5 (.agg [.id, .id, .id, .id, (.sl 5)]) (.t 8) (.t 27)), zm 9 28]
def qbw5 : IC := .reg false [zm 29 9, zv 30 (.un .not (.t 29))]
def qbq5 : IC := .reg false [zv 31 (.ld true 5 (.t 3)), zn (.st 5 (.agg [.id, .id, .id, .id, (.sl 5)]) (.t 4) (.t 31)), zv 5 (.mov (.c (.bool false)))]
def qbf0 : IC := .reg false [zv 32 (.fad (.t 3) 4), zv 33 (.ld false 1 (.t 32)), zv 34 (.ld true 5 (.t 8)), zv 35 (.bsl 5 [((.t 34), (.agg [.id, .id, .id, .id, (.sl 5)]))]), zi 36 (.app 5 (.agg [(.int .i64 0), (.int .i64 0), (.int .i64 0), (.str []), .nils]) 64 (.sl 5) (.t 33) (.t 35)), zv 37 (.fad (.t 3) 4), zn (.st 1 (.sl 5) (.t 37) (.t 36))]
def qblv : IC := .reg false [zv 38 (.bin .add .no (.t 12) (.c (.int .i64 1))), zm 12 38]
def qbr0 : IC := (.seq qbs9 (.seq (.cond (.t 13) .skip (.exit 0)) (.seq (.block 1 (.seq qbrr (.seq (.seq qby2 (.cond (.t 22) (.seq qbvo .ret) .skip)) (.seq qbyi (.seq (.seq qbw5 (.cond (.t 30) (.seq qbq5 .ret) .skip)) qbf0))))) qblv)))
def qbn6 : IC := .reg false [zv 39 (.ld true 5 (.t 3)), zn (.st 5 (.agg [.id, .id, .id, .id, (.sl 5)]) (.t 4) (.t 39)), zv 5 (.mov (.c (.bool true)))]
def k0e : IC := (.seq qbxf (.seq qbwg (.seq (.seq qbsx (.block 0 (.loop qbr0))) (.seq qbn6 .ret))))
@[go_sem] def s0e : List (RV × Co) := [(.c true 5 4, (.agg [.id, .id, .id, .id, (.sl 5)])), (.t 5, .id)]
theorem c0e : cFun Try.prog 84 = some (40, k0e, s0e) := by kernel_rfl

def qbwd : IC := .reg false [zi 2 (.alo [(.int .i64 0), (.int .i64 0), (.int .i64 0), (.str []), .nils]), zv 3 (.mov (.c (.bool false)))]
def qbyx : IC := .reg false [zm 10 0, zi 11 (.call (.c (.fn 92 [] [])) [((.t 10), .id)]), zm 9 11, zv 12 (.ext (.t 9) 0), zv 13 (.ext (.t 9) 1), zi 4 (.alo [(.int .i64 0), (.int .i64 0), (.int .i64 0), (.str []), .nils]), zn (.st 5 (.agg [.id, .id, .id, .id, (.sl 5)]) (.t 4) (.t 12)), zm 5 13]
def qbuc : IC := .reg false [zm 14 5]
def qbv0 : IC := .reg false [zm 16 0, zi 17 (.call (.c (.fn 93 [] [])) [((.t 16), .id)]), zm 15 17, zv 18 (.ext (.t 15) 0), zv 19 (.ext (.t 15) 1), zi 6 (.alo [(.int .i64 0), (.int .i64 0), (.int .i64 0), (.str []), .nils]), zn (.st 5 (.agg [.id, .id, .id, .id, (.sl 5)]) (.t 6) (.t 18)), zm 7 19]
def qbvl : IC := .reg false [zm 20 7, zv 21 (.un .not (.t 20)), zm 22 21, zw 22 true 23 (.mov (.t 0)), ⟨some (22, true), some 24, .call (.c (.fn 33 [] [])) [((.t 23), .id), ((.c (.str [40])), .id)]⟩, zw 22 true 25 (.un .not (.t 24)), zv 26 (.pick (.t 22) (.t 25) (.c (.bool false)))]
def qbr1 : IC := .reg false [zi 8 (.alo [(.int .i64 0), (.int .i64 0), (.int .i64 0), (.str []), .nils])]
def qbu9 : IC := .reg false [zm 28 0, zi 29 (.call (.c (.fn 92 [] [])) [((.t 28), .id)]), zm 27 29, zv 30 (.ext (.t 27) 0), zv 31 (.ext (.t 27) 1), zn (.st 5 (.agg [.id, .id, .id, .id, (.sl 5)]) (.t 8) (.t 30)), zm 5 31]
def qbtf : IC := .reg false [zv 32 (.fad (.t 4) 1), zv 33 (.ld false 1 (.t 32)), zv 34 (.ld true 5 (.t 4)), zv 35 (.ld true 5 (.t 8)), zv 36 (.bsl 5 [((.t 34), (.agg [.id, .id, .id, .id, (.sl 5)])), ((.t 35), (.agg [.id, .id, .id, .id, (.sl 5)]))]), zv 37 (.bld [(.int .i64 0), (.int .i64 0), (.int .i64 0), (.str []), .nils] [(0, 1, (.c (.int .i64 24))), (1, 1, (.t 33)), (4, 1, (.t 36))]), zn (.st 5 (.agg [.id, .id, .id, .id, (.sl 5)]) (.t 4) (.t 37))]
def qbtt : IC := (.seq (.seq qbuc (.cond (.t 14) .skip (.exit 0))) (.block 1 (.seq (.seq qbv0 (.seq qbvl (.cond (.t 26) (.exit 0) .skip))) (.seq qbr1 (.seq qbu9 qbtf)))))
def qbn9 : IC := .reg false [zv 38 (.ld true 5 (.t 4)), zm 39 5, zn (.st 5 (.agg [.id, .id, .id, .id, (.sl 5)]) (.t 2) (.t 38)), zm 3 39]
def k0n : IC := (.seq qbwd (.seq qbyx (.seq (.block 0 (.loop qbtt)) (.seq qbn9 .ret))))
@[go_sem] def s0n : List (RV × Co) := [(.c true 5 2, (.agg [.id, .id, .id, .id, (.sl 5)])), (.t 3, .id)]
theorem c0n : cFun Try.prog 85 = some (40, k0n, s0n) := by kernel_rfl

def qbml : IC := .reg false [zv 2 (.mov (.c (.bool false)))]
def qbeo : IC := .reg false [zm 3 0, zv 4 (.bin .geq .no (.t 3) (.c (.int .u8 65))), zm 5 4, zw 5 true 6 (.mov (.t 0)), zw 5 true 7 (.bin .leq .no (.t 6) (.c (.int .u8 90))), zv 8 (.pick (.t 5) (.t 7) (.c (.bool false))), zm 2 8]
def k0cd : IC := (.seq qbml (.seq qbeo .ret))
@[go_sem] def s0cd : List (RV × Co) := [(.t 2, .id)]
theorem c0cd : cFun Try.prog 86 = some (9, k0cd, s0cd) := by kernel_rfl

def qbd2 : IC := .reg false [zv 2 (.mov (.c (.bool false)))]
def qbke : IC := .reg false [zm 5 0, zv 6 (.len true (.t 5)), zv 7 (.mov (.c (.int .i64 0)))]
def qbm6 : IC := .reg false [zv 8 (.bin .lss .no (.t 7) (.t 6))]
def qbfg : IC := .reg false [zm 9 7, zm 3 9]
def qbnf : IC := .reg false [zm 10 0, zm 11 3, zv 12 (.idx (.t 10) (.t 11)), zm 4 12]
def qbkr : IC := .reg false [zm 13 4, zi 14 (.call (.c (.fn 94 [] [])) [((.t 13), .id)]), zv 15 (.un .not (.t 14)), zm 16 15, zw 16 true 17 (.mov (.t 4)), ⟨some (16, true), some 18, .call (.c (.fn 86 [] [])) [((.t 17), .id)]⟩, zw 16 true 19 (.un .not (.t 18)), zv 20 (.pick (.t 16) (.t 19) (.c (.bool false))), zm 21 20, zw 21 true 22 (.mov (.t 4)), zw 21 true 23 (.bin .lss .no (.t 22) (.c (.int .u8 48))), zw 21 true 24 (.mov (.t 23)), zw 24 false 25 (.mov (.t 4)), zw 24 false 26 (.bin .gtr .no (.t 25) (.c (.int .u8 57))), zw 21 true 27 (.pick (.t 24) (.c (.bool true)) (.t 26)), zv 28 (.pick (.t 21) (.t 27) (.c (.bool false))), zm 29 28, zw 29 true 30 (.mov (.t 4)), zw 29 true 31 (.bin .neq .no (.t 30) (.c (.int .u8 39))), zv 32 (.pick (.t 29) (.t 31) (.c (.bool false)))]
def qbfj : IC := .reg false [zv 2 (.mov (.c (.bool false)))]
def qbhq : IC := .reg false [zv 33 (.bin .add .no (.t 7) (.c (.int .i64 1))), zm 7 33]
def qbov : IC := (.seq qbm6 (.seq (.cond (.t 8) .skip (.exit 0)) (.seq (.block 1 (.seq qbfg (.seq qbnf (.seq qbkr (.cond (.t 32) (.seq qbfj .ret) .skip))))) qbhq)))
def qbal : IC := .reg false [zv 2 (.mov (.c (.bool true)))]
def k0ce : IC := (.seq qbd2 (.seq (.seq qbke (.block 0 (.loop qbov))) (.seq qbal .ret)))
@[go_sem] def s0ce : List (RV × Co) := [(.t 2, .id)]
theorem c0ce : cFun Try.prog 87 = some (34, k0ce, s0ce) := by kernel_rfl

def qbxa : IC := .reg false [zv 4 (.mov (.c .nils)), zv 5 (.mov (.c (.bool false)))]
def qbx3 : IC := .reg false [zm 9 0, zi 10 (.call (.c (.fn 39 [] [])) [((.t 9), .id), ((.c (.str [123])), .id)]), zv 11 (.un .not (.t 10))]
def qbwm : IC := .reg false [zv 4 (.mov (.c .nils)), zv 5 (.mov (.c (.bool false)))]
def qbyw : IC := .reg false [zv 6 (.mov (.c .nils))]
def qbwp : IC := .reg false [zm 13 1, zi 14 (.call (.t 13) []), zm 12 14, zv 15 (.ext (.t 12) 0), zv 16 (.ext (.t 12) 1), zi 7 (.alo [(.int .i64 0), (.int .i64 0), (.int .i64 0), (.str []), .nils]), zn (.st 5 (.agg [.id, .id, .id, .id, (.sl 5)]) (.t 7) (.t 15)), zm 8 16]
def qbue : IC := .reg false [zm 17 8, zv 18 (.un .not (.t 17))]
def qbvp : IC := .reg false [zv 4 (.mov (.c .nils)), zv 5 (.mov (.c (.bool false)))]
def qbyj : IC := .reg false [zm 19 6, zv 20 (.ld true 5 (.t 7)), zv 21 (.bsl 5 [((.t 20), (.agg [.id, .id, .id, .id, (.sl 5)]))]), zi 22 (.app 5 (.agg [(.int .i64 0), (.int .i64 0), (.int .i64 0), (.str []), .nils]) 64 (.sl 5) (.t 19) (.t 21)), zm 6 22]
def qbc3 : IC := .reg false [zm 23 0, zi 24 (.call (.c (.fn 26 [] [])) [((.t 23), .id), ((.c (.str [59])), .id)]), zv 25 (.un .not (.t 24)), zm 26 25, zw 26 false 27 (.mov (.t 0)), ⟨some (26, false), some 28, .call (.c (.fn 33 [] [])) [((.t 27), .id), ((.c (.str [125])), .id)]⟩, zv 29 (.pick (.t 26) (.c (.bool true)) (.t 28))]
def qbq2 : IC := .reg false [zm 30 6, zm 31 0, zi 32 (.call (.c (.fn 39 [] [])) [((.t 31), .id), ((.c (.str [125])), .id)]), zm 4 30, zm 5 32]
def qbdk : IC := (.block 1 (.seq qbwp (.seq (.seq qbue (.cond (.t 18) (.seq qbvp .ret) .skip)) (.seq qbyj (.seq qbc3 (.cond (.t 29) (.seq qbq2 .ret) .skip))))))
def k0i : IC := (.seq qbxa (.seq (.seq qbx3 (.cond (.t 11) (.seq qbwm .ret) .skip)) (.seq qbyw (.block 0 (.loop qbdk)))))
@[go_sem] def s0i : List (RV × Co) := [(.t 4, (.sl 5)), (.t 5, .id)]
theorem c0i : cFun Try.prog 88 = some (33, k0i, s0i) := by kernel_rfl

def qbst : IC := .reg false [zi 1 (.alo [(.int .i64 0), (.int .i64 0), (.int .i64 0), (.str []), .nils]), zv 2 (.mov (.c (.bool false)))]
def qbx5 : IC := .reg false [zv 3 (.ld false 1 (.t 0)), zi 4 (.call (.c (.fn 29 [] [])) [((.t 3), .id)]), zv 5 (.ext (.t 4) 0), zv 6 (.ext (.t 4) 1), zn (.st 5 (.agg [.id, .id, .id, .id, (.sl 5)]) (.t 1) (.t 5)), zm 2 6]
def k0g : IC := (.seq qbst (.seq qbx5 .ret))
@[go_sem] def s0g : List (RV × Co) := [(.c true 5 1, (.agg [.id, .id, .id, .id, (.sl 5)])), (.t 2, .id)]
theorem c0g : cFun Try.prog 89 = some (7, k0g, s0g) := by kernel_rfl

def qbu5 : IC := .reg false [zi 1 (.alo [(.int .i64 0), (.int .i64 0), (.int .i64 0), (.str []), .nils]), zv 2 (.mov (.c (.bool false)))]
def qbsc : IC := .reg false [zv 7 (.ld false 1 (.t 0)), zi 8 (.call (.c (.fn 91 [] [])) [((.t 7), .id)]), zm 6 8, zv 9 (.ext (.t 6) 0), zv 10 (.ext (.t 6) 1), zi 3 (.alo [(.int .i64 0), (.int .i64 0), (.int .i64 0), (.str []), .nils]), zn (.st 5 (.agg [.id, .id, .id, .id, (.sl 5)]) (.t 3) (.t 9)), zm 4 10]
def qbrq : IC := .reg false [zm 11 4, zv 12 (.un .not (.t 11)), zm 13 12, zw 13 false 14 (.ld false 1 (.t 0)), ⟨some (13, false), some 15, .call (.c (.fn 39 [] [])) [((.t 14), .id), ((.c (.str [45, 62])), .id)]⟩, zw 13 false 16 (.un .not (.t 15)), zv 17 (.pick (.t 13) (.c (.bool true)) (.t 16))]
def qbv6 : IC := .reg false [zv 18 (.ld true 5 (.t 3)), zn (.st 5 (.agg [.id, .id, .id, .id, (.sl 5)]) (.t 1) (.t 18)), zv 2 (.mov (.c (.bool false)))]
def qbvq : IC := .reg false [zv 20 (.ld false 1 (.t 0)), zi 21 (.call (.c (.fn 66 [] [])) [((.t 20), .id)]), zm 19 21, zv 22 (.ext (.t 19) 0), zv 23 (.ext (.t 19) 1), zi 5 (.alo [(.int .i64 0), (.int .i64 0), (.int .i64 0), (.str []), .nils]), zn (.st 5 (.agg [.id, .id, .id, .id, (.sl 5)]) (.t 5) (.t 22)), zm 4 23]
def qbvf : IC := .reg false [zv 24 (.fad (.t 3) 1), zv 25 (.ld false 1 (.t 24)), zv 26 (.ld true 5 (.t 3)), zv 27 (.ld true 5 (.t 5)), zv 28 (.bsl 5 [((.t 26), (.agg [.id, .id, .id, .id, (.sl 5)])), ((.t 27), (.agg [.id, .id, .id, .id, (.sl 5)]))]), zv 29 (.bld [(.int .i64 0), (.int .i64 0), (.int .i64 0), (.str []), .nils] [(0, 1, (.c (.int .i64 15))), (1, 1, (.t 25)), (4, 1, (.t 28))]), zm 30 4, zn (.st 5 (.agg [.id, .id, .id, .id, (.sl 5)]) (.t 1) (.t 29)), zm 2 30]
def k0h : IC := (.seq qbu5 (.seq qbsc (.seq (.seq qbrq (.cond (.t 17) (.seq qbv6 .ret) .skip)) (.seq qbvq (.seq qbvf .ret)))))
@[go_sem] def s0h : List (RV × Co) := [(.c true 5 1, (.agg [.id, .id, .id, .id, (.sl 5)])), (.t 2, .id)]
theorem c0h : cFun Try.prog 90 = some (31, k0h, s0h) := by kernel_rfl

def qbx2 : IC := .reg false [zi 2 (.alo [(.int .i64 0), (.int .i64 0), (.int .i64 0), (.str []), .nils]), zv 3 (.mov (.c (.bool false)))]
def qbw7 : IC := .reg false [zm 8 0, zi 9 (.call (.c (.fn 53 [] [])) [((.t 8), .id)]), zv 10 (.un .not (.t 9))]
def qbu7 : IC := .reg false [zv 11 (.bld [(.int .i64 0), (.int .i64 0), (.int .i64 0), (.str []), .nils] []), zn (.st 5 (.agg [.id, .id, .id, .id, (.sl 5)]) (.t 2) (.t 11)), zv 3 (.mov (.c (.bool false)))]
def qbu6 : IC := .reg false [zm 12 0, zi 13 (.call (.c (.fn 19 [] [])) [((.t 12), .id)]), zv 14 (.fld false 1 0 (.t 13)), zv 15 (.bin .eql .no (.t 14) (.c (.int .i64 2))), zm 4 15]
def qbs7 : IC := .reg false [zm 17 0, zi 18 (.call (.c (.fn 95 [] [])) [((.t 17), .id)]), zm 16 18, zv 19 (.ext (.t 16) 0), zv 20 (.ext (.t 16) 1), zi 5 (.alo [(.int .i64 0), (.int .i64 0), (.int .i64 0), (.str []), .nils]), zn (.st 5 (.agg [.id, .id, .id, .id, (.sl 5)]) (.t 5) (.t 19)), zm 6 20]
def qbud : IC := .reg false [zm 21 6, zm 22 21, zw 22 true 23 (.mov (.t 4)), zv 24 (.pick (.t 22) (.t 23) (.c (.bool false))), zm 25 24, zw 25 true 26 (.mov (.t 0)), ⟨some (25, true), some 27, .call (.c (.fn 96 [] [])) [((.t 26), .id)]⟩, zv 28 (.pick (.t 25) (.t 27) (.c (.bool false)))]
def qbx9 : IC := .reg false [zi 7 (.alo [(.int .i64 0), (.int .i64 0), (.int .i64 0), (.str []), .nils])]
def qby7 : IC := .reg false [zm 30 0, zi 31 (.call (.c (.fn 95 [] [])) [((.t 30), .id)]), zm 29 31, zv 32 (.ext (.t 29) 0), zv 33 (.ext (.t 29) 1), zn (.st 5 (.agg [.id, .id, .id, .id, (.sl 5)]) (.t 7) (.t 32)), zm 6 33]
def qbvz : IC := .reg false [zm 34 6]
def qbjv : IC := .reg false [zv 35 (.fad (.t 5) 4), zv 36 (.ld false 1 (.t 35)), zv 37 (.ld true 5 (.t 7)), zv 38 (.bsl 5 [((.t 37), (.agg [.id, .id, .id, .id, (.sl 5)]))]), zi 39 (.app 5 (.agg [(.int .i64 0), (.int .i64 0), (.int .i64 0), (.str []), .nils]) 64 (.sl 5) (.t 36) (.t 38)), zv 40 (.fad (.t 5) 4), zn (.st 1 (.sl 5) (.t 40) (.t 39))]
def qbt9 : IC := (.seq (.seq qbud (.cond (.t 28) .skip (.exit 0))) (.block 1 (.seq qbx9 (.seq qby7 (.seq qbvz (.cond (.t 34) qbjv .skip))))))
def qben : IC := .reg false [zm 41 0, zi 42 (.call (.c (.fn 55 [] [])) [((.t 41), .id)])]
def qbey : IC := .reg false [zm 43 6, zv 44 (.un .not (.t 43))]
def qbid : IC := .reg false [zv 45 (.bld [(.int .i64 0), (.int .i64 0), (.int .i64 0), (.str []), .nils] []), zn (.st 5 (.agg [.id, .id, .id, .id, (.sl 5)]) (.t 2) (.t 45)), zv 3 (.mov (.c (.bool false)))]
def qbjh : IC := .reg false [zv 46 (.ld true 5 (.t 5)), zn (.st 5 (.agg [.id, .id, .id, .id, (.sl 5)]) (.t 2) (.t 46)), zv 3 (.mov (.c (.bool true)))]
def k0r : IC := (.seq qbx2 (.seq (.seq qbw7 (.cond (.t 10) (.seq qbu7 .ret) .skip)) (.seq qbu6 (.seq qbs7 (.seq (.block 0 (.loop qbt9)) (.seq qben (.seq (.seq qbey (.cond (.t 44) (.seq qbid .ret) .skip)) (.seq qbjh .ret))))))))
@[go_sem] def s0r : List (RV × Co) := [(.c true 5 2, (.agg [.id, .id, .id, .id, (.sl 5)])), (.t 3, .id)]
theorem c0r : cFun Try.prog 91 = some (47, k0r, s0r) := by kernel_rfl

def qbwz : IC := .reg false [zi 2 (.alo [(.int .i64 0), (.int .i64 0), (.int .i64 0), (.str []), .nils]), zv 3 (.mov (.c (.bool false)))]
def qbzi : IC := .reg false [zm 9 0, zi 10 (.call (.c (.fn 93 [] [])) [((.t 9), .id)]), zm 8 10, zv 11 (.ext (.t 8) 0), zv 12 (.ext (.t 8) 1), zi 4 (.alo [(.int .i64 0), (.int .i64 0), (.int .i64 0), (.str []), .nils]), zn (.st 5 (.agg [.id, .id, .id, .id, (.sl 5)]) (.t 4) (.t 11)), zm 5 12]
def qbzq : IC := .reg false [zm 13 5]
def qbyu : IC := .reg false [zm 14 0, zi 15 (.call (.c (.fn 34 [] [])) [((.t 14), .id)])]
def qbv9 : IC := .reg false [zv 16 (.ld true 5 (.t 4)), zn (.st 5 (.agg [.id, .id, .id, .id, (.sl 5)]) (.t 2) (.t 16)), zv 3 (.mov (.c (.bool true)))]
def qbtb : IC := .reg false [zm 17 0, zi 18 (.call (.c (.fn 33 [] [])) [((.t 17), .id), ((.c (.str [40])), .id)]), zv 19 (.un .not (.t 18))]
def qbso : IC := .reg false [zv 20 (.bld [(.int .i64 0), (.int .i64 0), (.int .i64 0), (.str []), .nils] []), zm 21 0, zi 22 (.call (.c (.fn 43 [] [])) [((.t 21), .id), ((.c (.int .i64 5)), .id)]), zn (.st 5 (.agg [.id, .id, .id, .id, (.sl 5)]) (.t 2) (.t 20)), zm 3 22]
def qbwo : IC := .reg false [zm 23 0, zi 24 (.call (.c (.fn 53 [] [])) [((.t 23), .id)]), zv 25 (.un .not (.t 24))]
def qbtp : IC := .reg false [zv 26 (.bld [(.int .i64 0), (.int .i64 0), (.int .i64 0), (.str []), .nils] []), zn (.st 5 (.agg [.id, .id, .id, .id, (.sl 5)]) (.t 2) (.t 26)), zv 3 (.mov (.c (.bool false)))]
def qbt7 : IC := .reg false [zm 27 0, zi 28 (.call (.c (.fn 34 [] [])) [((.t 27), .id)])]
def qbd6 : IC := .reg false [zm 30 0, zi 31 (.call (.c (.fn 66 [] [])) [((.t 30), .id)]), zm 29 31, zv 32 (.ext (.t 29) 0), zv 33 (.ext (.t 29) 1), zi 6 (.alo [(.int .i64 0), (.int .i64 0), (.int .i64 0), (.str []), .nils]), zn (.st 5 (.agg [.id, .id, .id, .id, (.sl 5)]) (.t 6) (.t 32)), zm 7 33]
def qber : IC := .reg false [zm 34 7, zv 35 (.un .not (.t 34)), zm 36 35, zw 36 false 37 (.mov (.t 0)), ⟨some (36, false), some 38, .call (.c (.fn 39 [] [])) [((.t 37), .id), ((.c (.str [41])), .id)]⟩, zw 36 false 39 (.un .not (.t 38)), zv 40 (.pick (.t 36) (.c (.bool true)) (.t 39))]
def qbew : IC := .reg false [zv 41 (.bld [(.int .i64 0), (.int .i64 0), (.int .i64 0), (.str []), .nils] []), zn (.st 5 (.agg [.id, .id, .id, .id, (.sl 5)]) (.t 2) (.t 41)), zv 3 (.mov (.c (.bool false)))]
def qboa : IC := .reg false [zm 42 0, zi 43 (.call (.c (.fn 55 [] [])) [((.t 42), .id)])]
def qbnk : IC := .reg false [zv 44 (.ld true 5 (.t 6)), zn (.st 5 (.agg [.id, .id, .id, .id, (.sl 5)]) (.t 2) (.t 44)), zv 3 (.mov (.c (.bool true)))]
def k0m : IC := (.seq qbwz (.seq (.seq qbzi (.seq qbzq (.cond (.t 13) (.seq qbyu (.seq qbv9 .ret)) .skip))) (.seq (.seq qbtb (.cond (.t 19) (.seq qbso .ret) .skip)) (.seq (.seq qbwo (.cond (.t 25) (.seq qbtp .ret) .skip)) (.seq qbt7 (.seq qbd6 (.seq (.seq qber (.cond (.t 40) (.seq qbew .ret) .skip)) (.seq qboa (.seq qbnk .ret)))))))))
@[go_sem] def s0m : List (RV × Co) := [(.c true 5 2, (.agg [.id, .id, .id, .id, (.sl 5)])), (.t 3, .id)]
theorem c0m : cFun Try.prog 92 = some (45, k0m, s0m) := by kernel_rfl

def qbw9 : IC := .reg false [zi 2 (.alo [(.int .i64 0), (.int .i64 0), (.int .i64 0), (.str []), .nils]), zv 3 (.mov (.c (.bool false)))]
def qbvs : IC := .reg false [zm 5 0, zi 6 (.call (.c (.fn 19 [] [])) [((.t 5), .id)]), zi 4 (.alo [(.int .i64 0), (.int .i64 0), (.int .i64 0), (.str [])]), zn (.st 4 .id (.t 4) (.t 6))]
def qbuq : IC := .reg false [zv 7 (.fad (.t 4) 0), zv 8 (.ld false 1 (.t 7))]
def qbr9 : IC := .reg false [zv 10 (.bin .eql .no (.t 8) (.c (.int .i64 1))), zm 9 10]
def qbs4 : IC := .reg false [zv 11 (.fad (.t 4) 1), zv 12 (.ld false 1 (.t 11)), zv 13 (.fad (.t 4) 3), zv 14 (.ld false 1 (.t 13)), zv 15 (.bld [(.int .i64 0), (.int .i64 0), (.int .i64 0), (.str []), .nils] [(0, 1, (.c (.int .i64 21))), (1, 1, (.t 12)), (3, 1, (.t 14))]), zn (.st 5 (.agg [.id, .id, .id, .id, (.sl 5)]) (.t 2) (.t 15)), zv 3 (.mov (.c (.bool true)))]
def qbtl : IC := .reg false [zv 17 (.bin .eql .no (.t 8) (.c (.int .i64 2))), zm 16 17]
def qbuw : IC := .reg false [zv 18 (.fad (.t 4) 1), zv 19 (.ld false 1 (.t 18)), zv 20 (.fad (.t 4) 3), zv 21 (.ld false 1 (.t 20)), zv 22 (.bld [(.int .i64 0), (.int .i64 0), (.int .i64 0), (.str []), .nils] [(0, 1, (.c (.int .i64 22))), (1, 1, (.t 19)), (3, 1, (.t 21))]), zn (.st 5 (.agg [.id, .id, .id, .id, (.sl 5)]) (.t 2) (.t 22)), zv 3 (.mov (.c (.bool true)))]
def qbv7 : IC := .reg false [zv 24 (.bin .eql .no (.t 8) (.c (.int .i64 3))), zm 23 24]
def qbxm : IC := .reg false [zv 25 (.fad (.t 4) 1), zv 26 (.ld false 1 (.t 25)), zv 27 (.fad (.t 4) 2), zv 28 (.ld false 1 (.t 27)), zv 29 (.bld [(.int .i64 0), (.int .i64 0), (.int .i64 0), (.str []), .nils] [(0, 1, (.c (.int .i64 23))), (1, 1, (.t 26)), (2, 1, (.t 28))]), zn (.st 5 (.agg [.id, .id, .id, .id, (.sl 5)]) (.t 2) (.t 29)), zv 3 (.mov (.c (.bool true)))]
def qbwv : IC := .reg false [zv 30 (.bld [(.int .i64 0), (.int .i64 0), (.int .i64 0), (.str []), .nils] []), zn (.st 5 (.agg [.id, .id, .id, .id, (.sl 5)]) (.t 2) (.t 30)), zv 3 (.mov (.c (.bool false)))]
def k0l : IC := (.seq qbw9 (.seq qbvs (.seq (.seq qbuq (.block 0 (.seq qbr9 (.cond (.t 9) (.seq qbs4 .ret) (.seq qbtl (.cond (.t 16) (.seq qbuw .ret) (.seq qbv7 (.cond (.t 23) (.seq qbxm .ret) .skip)))))))) (.seq qbwv .ret))))
@[go_sem] def s0l : List (RV × Co) := [(.c true 5 2, (.agg [.id, .id, .id, .id, (.sl 5)])), (.t 3, .id)]
theorem c0l : cFun Try.prog 93 = some (31, k0l, s0l) := by kernel_rfl

def qbeh : IC := .reg false [zv 2 (.mov (.c (.bool false)))]
def qbfe : IC := .reg false [zm 3 0, zv 4 (.bin .geq .no (.t 3) (.c (.int .u8 97))), zm 5 4, zw 5 true 6 (.mov (.t 0)), zw 5 true 7 (.bin .leq .no (.t 6) (.c (.int .u8 122))), zv 8 (.pick (.t 5) (.t 7) (.c (.bool false))), zm 9 8, zw 9 false 10 (.mov (.t 0)), zw 9 false 11 (.bin .eql .no (.t 10) (.c (.int .u8 95))), zv 12 (.pick (.t 9) (.c (.bool true)) (.t 11)), zm 2 12]
def k0cc : IC := (.seq qbeh (.seq qbfe .ret))
@[go_sem] def s0cc : List (RV × Co) := [(.t 2, .id)]
theorem c0cc : cFun Try.prog 94 = some (13, k0cc, s0cc) := by kernel_rfl

def qbsy : IC := .reg false [zi 2 (.alo [(.int .i64 0), (.int .i64 0), (.int .i64 0), (.str []), .nils]), zv 3 (.mov (.c (.bool false)))]
def qbzl : IC := .reg false [zm 9 0, zi 10 (.call (.c (.fn 97 [] [])) [((.t 9), .id)]), zm 8 10, zv 11 (.ext (.t 8) 0), zv 12 (.ext (.t 8) 1), zi 4 (.alo [(.int .i64 0), (.int .i64 0), (.int .i64 0), (.str []), .nils]), zn (.st 5 (.agg [.id, .id, .id, .id, (.sl 5)]) (.t 4) (.t 11)), zm 5 12]
def qbry : IC := .reg false [zm 13 5]
def qbu0 : IC := .reg false [zm 14 0, zi 15 (.call (.c (.fn 34 [] [])) [((.t 14), .id)])]
def qbsr : IC := .reg false [zv 16 (.ld true 5 (.t 4)), zn (.st 5 (.agg [.id, .id, .id, .id, (.sl 5)]) (.t 2) (.t 16)), zv 3 (.mov (.c (.bool true)))]
def qbzp : IC := .reg false [zm 17 0, zi 18 (.call (.c (.fn 33 [] [])) [((.t 17), .id), ((.c (.str [40])), .id)]), zv 19 (.un .not (.t 18))]
def qbvk : IC := .reg false [zv 20 (.bld [(.int .i64 0), (.int .i64 0), (.int .i64 0), (.str []), .nils] []), zm 21 0, zi 22 (.call (.c (.fn 43 [] [])) [((.t 21), .id), ((.c (.int .i64 5)), .id)]), zn (.st 5 (.agg [.id, .id, .id, .id, (.sl 5)]) (.t 2) (.t 20)), zm 3 22]
def qby5 : IC := .reg false [zm 23 0, zi 24 (.call (.c (.fn 53 [] [])) [((.t 23), .id)]), zv 25 (.un .not (.t 24))]
def qbu8 : IC := .reg false [zv 26 (.bld [(.int .i64 0), (.int .i64 0), (.int .i64 0), (.str []), .nils] []), zn (.st 5 (.agg [.id, .id, .id, .id, (.sl 5)]) (.t 2) (.t 26)), zv 3 (.mov (.c (.bool false)))]
def qbyy : IC := .reg false [zm 27 0, zi 28 (.call (.c (.fn 34 [] [])) [((.t 27), .id)])]
def qbia : IC := .reg false [zm 30 0, zi 31 (.call (.c (.fn 91 [] [])) [((.t 30), .id)]), zm 29 31, zv 32 (.ext (.t 29) 0), zv 33 (.ext (.t 29) 1), zi 6 (.alo [(.int .i64 0), (.int .i64 0), (.int .i64 0), (.str []), .nils]), zn (.st 5 (.agg [.id, .id, .id, .id, (.sl 5)]) (.t 6) (.t 32)), zm 7 33]
def qbl4 : IC := .reg false [zm 34 7, zv 35 (.un .not (.t 34)), zm 36 35, zw 36 false 37 (.mov (.t 0)), ⟨some (36, false), some 38, .call (.c (.fn 39 [] [])) [((.t 37), .id), ((.c (.str [41])), .id)]⟩, zw 36 false 39 (.un .not (.t 38)), zv 40 (.pick (.t 36) (.c (.bool true)) (.t 39))]
def qbln : IC := .reg false [zv 41 (.bld [(.int .i64 0), (.int .i64 0), (.int .i64 0), (.str []), .nils] []), zn (.st 5 (.agg [.id, .id, .id, .id, (.sl 5)]) (.t 2) (.t 41)), zv 3 (.mov (.c (.bool false)))]
def qbd1 : IC := .reg false [zm 42 0, zi 43 (.call (.c (.fn 55 [] [])) [((.t 42), .id)])]
def qbh9 : IC := .reg false [zv 44 (.ld true 5 (.t 6)), zn (.st 5 (.agg [.id, .id, .id, .id, (.sl 5)]) (.t 2) (.t 44)), zv 3 (.mov (.c (.bool true)))]
def k0q : IC := (.seq qbsy (.seq (.seq qbzl (.seq qbry (.cond (.t 13) (.seq qbu0 (.seq qbsr .ret)) .skip))) (.seq (.seq qbzp (.cond (.t 19) (.seq qbvk .ret) .skip)) (.seq (.seq qby5 (.cond (.t 25) (.seq qbu8 .ret) .skip)) (.seq qbyy (.seq qbia (.seq (.seq qbl4 (.cond (.t 40) (.seq qbln .ret) .skip)) (.seq qbd1 (.seq qbh9 .ret)))))))))
@[go_sem] def s0q : List (RV × Co) := [(.c true 5 2, (.agg [.id, .id, .id, .id, (.sl 5)])), (.t 3, .id)]
theorem c0q : cFun Try.prog 95 = some (45, k0q, s0q) := by kernel_rfl

def qbs6 : IC := .reg false [zv 2 (.mov (.c (.bool false)))]
def qbvc : IC := .reg false [zm 6 0, zi 7 (.call (.c (.fn 97 [] [])) [((.t 6), .id)]), zm 5 7, zv 8 (.ext (.t 5) 0), zv 9 (.ext (.t 5) 1), zi 3 (.alo [(.int .i64 0), (.int .i64 0), (.int .i64 0), (.str []), .nils]), zn (.st 5 (.agg [.id, .id, .id, .id, (.sl 5)]) (.t 3) (.t 8)), zm 4 9]
def qbyk : IC := .reg false [zm 10 4, zm 11 10, zw 11 false 12 (.mov (.t 0)), ⟨some (11, false), some 13, .call (.c (.fn 33 [] [])) [((.t 12), .id), ((.c (.str [40])), .id)]⟩, zv 14 (.pick (.t 11) (.c (.bool true)) (.t 13)), zm 2 14]
def k0p : IC := (.seq qbs6 (.seq qbvc (.seq qbyk .ret)))
@[go_sem] def s0p : List (RV × Co) := [(.t 2, .id)]
theorem c0p : cFun Try.prog 96 = some (15, k0p, s0p) := by kernel_rfl

def qbxc : IC := .reg false [zi 2 (.alo [(.int .i64 0), (.int .i64 0), (.int .i64 0), (.str []), .nils]), zv 3 (.mov (.c (.bool false)))]
def qbs5 : IC := .reg false [zm 6 0, zi 7 (.call (.c (.fn 19 [] [])) [((.t 6), .id)]), zi 4 (.alo [(.int .i64 0), (.int .i64 0), (.int .i64 0), (.str [])]), zn (.st 4 .id (.t 4) (.t 7))]
def qbyp : IC := .reg false [zv 8 (.fad (.t 4) 1), zv 9 (.ld false 1 (.t 8)), zv 10 (.fad (.t 4) 3), zv 11 (.ld false 1 (.t 10)), zv 12 (.bld [(.int .i64 0), (.int .i64 0), (.int .i64 0), (.str []), .nils] [(1, 1, (.t 9)), (3, 1, (.t 11))]), zi 5 (.alo [(.int .i64 0), (.int .i64 0), (.int .i64 0), (.str []), .nils]), zn (.st 5 (.agg [.id, .id, .id, .id, (.sl 5)]) (.t 5) (.t 12))]
def qbwf : IC := .reg false [zv 15 (.fad (.t 4) 0), zv 16 (.ld false 1 (.t 15)), zv 17 (.bin .eql .no (.t 16) (.c (.int .i64 1))), zm 14 17]
def qbui : IC := .reg false [zv 18 (.fad (.t 5) 0), zn (.st 1 .id (.t 18) (.c (.int .i64 11)))]
def qbv5 : IC := .reg false [zv 20 (.fad (.t 4) 0), zv 21 (.ld false 1 (.t 20)), zv 22 (.bin .eql .no (.t 21) (.c (.int .i64 2))), zm 19 22]
def qbvb : IC := .reg false [zv 23 (.fad (.t 5) 0), zn (.st 1 .id (.t 23) (.c (.int .i64 14)))]
def qby6 : IC := .reg false [zv 25 (.fad (.t 4) 0), zv 26 (.ld false 1 (.t 25)), zv 27 (.bin .eql .no (.t 26) (.c (.int .i64 3))), zm 24 27]
def qbwu : IC := .drw [zp (zv 28 (.fad (.t 4) 2)), zp (zv 29 (.ld false 1 (.t 28))), zp (zv 30 (.fad (.t 5) 0)), (zn (.st 1 .id (.t 30) (.c (.int .i64 13))), [1]), zp (zv 31 (.fad (.t 5) 2)), (zn (.st 1 .id (.t 31) (.t 29)), []), zp (zv 32 (.fad (.t 5) 3)), (zn (.st 1 .id (.t 32) (.c (.str []))), [])]
def qbw1 : IC := .reg false [zm 34 0, zi 35 (.call (.c (.fn 33 [] [])) [((.t 34), .id), ((.c (.str [95])), .id)]), zm 33 35]
def qbre : IC := .reg false [zv 36 (.fad (.t 5) 0), zn (.st 1 .id (.t 36) (.c (.int .i64 12))), zv 37 (.fad (.t 5) 3), zn (.st 1 .id (.t 37) (.c (.str [])))]
def qbrj : IC := .reg false [zv 13 (.bld [(.int .i64 0), (.int .i64 0), (.int .i64 0), (.str []), .nils] []), zn (.st 5 (.agg [.id, .id, .id, .id, (.sl 5)]) (.t 2) (.t 13)), zv 3 (.mov (.c (.bool false)))]
def qbl8 : IC := .reg false [zv 38 (.ld true 5 (.t 5)), zn (.st 5 (.agg [.id, .id, .id, .id, (.sl 5)]) (.t 2) (.t 38)), zv 3 (.mov (.c (.bool true)))]
def k0o : IC := (.seq qbxc (.seq qbs5 (.seq qbyp (.seq (.block 0 (.seq qbwf (.cond (.t 14) qbui (.seq qbv5 (.cond (.t 19) qbvb (.seq qby6 (.cond (.t 24) qbwu (.seq qbw1 (.cond (.t 33) qbre (.seq qbrj .ret)))))))))) (.seq qbl8 .ret)))))
@[go_sem] def s0o : List (RV × Co) := [(.c true 5 2, (.agg [.id, .id, .id, .id, (.sl 5)])), (.t 3, .id)]
theorem c0o : cFun Try.prog 97 = some (39, k0o, s0o) := by kernel_rfl

end Go.Proofs.Ytfjbmjplnmaclaa
