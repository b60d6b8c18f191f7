/- A text of this proof. -/
import Derived.Test.YtmekebfgmjaenaaPae
import Derived.Test.YtmekebfgmjaenaaProg
/- The compiled code of the functions. -/
namespace Go.Proofs.Ytmekebfgmjaenaa
open Go Go.V
@[reducible] def zm (d s : Nat) : GI := ⟨none, some d, .v (.mov (.t s))⟩
@[reducible] def zv (d : Nat) (x : IV) : GI := ⟨none, some d, .v x⟩
@[reducible] def zi (d : Nat) (i : I) : GI := ⟨none, some d, i⟩
@[reducible] def zn (i : I) : GI := ⟨none, none, i⟩
@[reducible] def zw (j : Nat) (b : Bool) (d : Nat) (x : IV) : GI := ⟨some (j, b), some d, .v x⟩
@[reducible] def zp (g : GI) : GI × List Nat := (g, [])
def qbkv : IC := .reg false [zv 4 (.mov (.c (.bool false)))]
def qbl9 : IC := .reg false [zm 22 1, zv 23 (.len true (.t 22)), zv 24 (.bin .gtr .no (.t 23) (.c (.int .i64 1000)))]
def qbns : IC := .reg false [zi 25 (.call (.c (.fn 5 [] [])) []), zm 4 25]
def qbli : IC := .reg false [zm 26 0, zv 27 (.cvi .u64 (.t 26)), zv 28 (.bin .rem .no (.t 27) (.c (.int .u64 5))), zv 29 (.cvi .i64 (.t 28)), zv 30 (.bin .add .no (.c (.int .i64 1)) (.t 29)), zm 5 30]
def qbjv : IC := .reg false [zv 6 (.mov (.c (.str []))), zv 7 (.mov (.c (.str []))), zv 8 (.mov (.c (.str [])))]
def qblb : IC := .reg false [zv 9 (.mov (.c (.int .i64 0)))]
def qbj9 : IC := .reg false [zm 31 9, zm 32 5, zv 33 (.bin .lss .no (.t 31) (.t 32))]
def qbj5 : IC := .reg false [zm 36 6, zv 37 (.bin .add .no (.t 36) (.c (.str [32, 120]))), zm 6 37]
def qbpo : IC := .reg false [zm 38 7, zv 39 (.bin .add .no (.t 38) (.c (.str [92, 32, 120, 32, 45, 62, 32]))), zm 7 39]
def qbai : IC := .reg false [zm 34 9, zv 35 (.bin .add .no (.t 34) (.c (.int .i64 1))), zm 9 35]
def qbqm : IC := (.seq (.seq qbj9 (.cond (.t 33) .skip (.exit 0))) (.seq (.block 1 (.seq qbj5 qbpo)) qbai))
def qbao : IC := .reg false [zm 40 6, zv 41 (.bin .add .no (.c (.str [92])) (.t 40)), zv 42 (.bin .add .no (.t 41) (.c (.str [32, 45, 62, 32]))), zm 43 1, zv 44 (.bin .add .no (.t 42) (.t 43)), zm 8 44]
def qbir : IC := .reg false [zm 46 7, zm 47 1, zv 48 (.bin .add .no (.t 46) (.t 47)), zi 49 (.call (.c (.fn 6 [] [])) [((.t 48), .id)]), zm 45 49, zv 50 (.ext (.t 45) 0), zv 51 (.ext (.t 45) 1), zv 52 (.ext (.t 45) 2), zi 10 (.alo [(.int .i64 0), (.int .i64 0), (.int .i64 0), (.str []), .nils]), zn (.st 5 (.agg [.id, .id, .id, .id, (.sl 5)]) (.t 10) (.t 50)), zm 11 51, zm 12 52]
def q9l : IC := .reg false [zm 54 8, zi 55 (.call (.c (.fn 6 [] [])) [((.t 54), .id)]), zm 53 55, zv 56 (.ext (.t 53) 0), zv 57 (.ext (.t 53) 1), zv 58 (.ext (.t 53) 2), zi 13 (.alo [(.int .i64 0), (.int .i64 0), (.int .i64 0), (.str []), .nils]), zn (.st 5 (.agg [.id, .id, .id, .id, (.sl 5)]) (.t 13) (.t 56)), zm 14 57, zm 15 58]
def qbgf : IC := .reg false [zm 60 6, zv 61 (.bin .add .no (.c (.str [108, 101, 116, 32, 123, 32, 102])) (.t 60)), zv 62 (.bin .add .no (.t 61) (.c (.str [32, 61, 32]))), zm 63 1, zv 64 (.bin .add .no (.t 62) (.t 63)), zv 65 (.bin .add .no (.t 64) (.c (.str [32, 125, 32, 105, 110, 32, 49]))), zi 66 (.call (.c (.fn 6 [] [])) [((.t 65), .id)]), zm 59 66, zv 67 (.ext (.t 59) 0), zv 68 (.ext (.t 59) 1), zv 69 (.ext (.t 59) 2), zi 16 (.alo [(.int .i64 0), (.int .i64 0), (.int .i64 0), (.str []), .nils]), zn (.st 5 (.agg [.id, .id, .id, .id, (.sl 5)]) (.t 16) (.t 67)), zm 17 68, zm 18 69]
def qbc0 : IC := .reg false [zm 71 7, zv 72 (.bin .add .no (.c (.str [108, 101, 116, 32, 123, 32, 102, 32, 61, 32])) (.t 71)), zm 73 1, zv 74 (.bin .add .no (.t 72) (.t 73)), zv 75 (.bin .add .no (.t 74) (.c (.str [32, 125, 32, 105, 110, 32, 49]))), zi 76 (.call (.c (.fn 6 [] [])) [((.t 75), .id)]), zm 70 76, zv 77 (.ext (.t 70) 0), zv 78 (.ext (.t 70) 1), zv 79 (.ext (.t 70) 2), zi 19 (.alo [(.int .i64 0), (.int .i64 0), (.int .i64 0), (.str []), .nils]), zn (.st 5 (.agg [.id, .id, .id, .id, (.sl 5)]) (.t 19) (.t 77)), zm 20 78, zm 21 79]
def qbht : IC := .reg false [zm 80 12, zv 81 (.bin .eql .no (.t 80) (.c (.int .i64 0))), zm 82 81, zw 82 true 83 (.mov (.t 15)), zw 82 true 84 (.bin .eql .no (.t 83) (.c (.int .i64 0))), zv 85 (.pick (.t 82) (.t 84) (.c (.bool false))), zm 86 85, zw 86 true 87 (.ld true 5 (.t 10)), zw 86 true 88 (.ld true 5 (.t 13)), ⟨some (86, true), some 89, .call (.c (.fn 7 [] [])) [((.t 87), (.agg [.id, .id, .id, .id, (.sl 5)])), ((.t 88), (.agg [.id, .id, .id, .id, (.sl 5)]))]⟩, zw 86 true 90 (.un .not (.t 89)), zv 91 (.pick (.t 86) (.t 90) (.c (.bool false))), zm 92 91, zw 92 false 93 (.mov (.t 18)), zw 92 false 94 (.bin .eql .no (.t 93) (.c (.int .i64 0))), zw 92 false 95 (.mov (.t 94)), zw 95 true 96 (.mov (.t 21)), zw 95 true 97 (.bin .eql .no (.t 96) (.c (.int .i64 0))), zw 92 false 98 (.pick (.t 95) (.t 97) (.c (.bool false))), zw 92 false 99 (.mov (.t 98)), zw 99 true 100 (.ld true 5 (.t 16)), zw 99 true 101 (.ld true 5 (.t 19)), ⟨some (99, true), some 102, .call (.c (.fn 7 [] [])) [((.t 100), (.agg [.id, .id, .id, .id, (.sl 5)])), ((.t 101), (.agg [.id, .id, .id, .id, (.sl 5)]))]⟩, zw 99 true 103 (.un .not (.t 102)), zw 92 false 104 (.pick (.t 99) (.t 103) (.c (.bool false))), zv 105 (.pick (.t 92) (.c (.bool true)) (.t 104))]
def qbfx : IC := .reg false [zv 4 (.mov (.c (.bool false)))]
def qbb2 : IC := .reg false [zm 106 12, zv 107 (.bin .neq .no (.t 106) (.c (.int .i64 0))), zm 108 107, zw 108 false 109 (.mov (.t 15)), zw 108 false 110 (.bin .eql .no (.t 109) (.c (.int .i64 0))), zv 111 (.pick (.t 108) (.c (.bool true)) (.t 110)), zm 112 111, zw 112 true 113 (.mov (.t 21)), zw 112 true 114 (.bin .neq .no (.t 113) (.c (.int .i64 0))), zw 112 true 115 (.mov (.t 114)), zw 115 false 116 (.mov (.t 18)), zw 115 false 117 (.bin .eql .no (.t 116) (.c (.int .i64 0))), zw 112 true 118 (.pick (.t 115) (.c (.bool true)) (.t 117)), zv 119 (.pick (.t 112) (.t 118) (.c (.bool false))), zm 120 119, ⟨some (120, true), some 121, .call (.c (.fn 5 [] [])) []⟩, zv 122 (.pick (.t 120) (.t 121) (.c (.bool false))), zm 4 122]
def k0a : IC := (.seq qbkv (.seq (.seq qbl9 (.cond (.t 24) (.seq qbns .ret) .skip)) (.seq qbli (.seq qbjv (.seq (.seq qblb (.block 0 (.loop qbqm))) (.seq qbao (.seq qbir (.seq q9l (.seq qbgf (.seq qbc0 (.seq (.seq qbht (.cond (.t 105) (.seq qbfx .ret) .skip)) (.seq qbb2 .ret))))))))))))
@[go_sem] def s0a : List (RV × Co) := [(.t 4, .id)]
theorem c0a : cFun Try.prog 3 = some (123, k0a, s0a) := by kernel_rfl

def q9m : IC := .reg false [zv 0 (.mov (.c (.bool false)))]
def qbbq : IC := .reg false [zi 11 (.call (.c (.fn 6 [] [])) [((.c (.str [102, 32, 120, 32, 49])), .id)]), zm 10 11, zv 12 (.ext (.t 10) 0), zv 13 (.ext (.t 10) 1), zv 14 (.ext (.t 10) 2), zi 1 (.alo [(.int .i64 0), (.int .i64 0), (.int .i64 0), (.str []), .nils]), zn (.st 5 (.agg [.id, .id, .id, .id, (.sl 5)]) (.t 1) (.t 12)), zm 2 13, zm 3 14]
def qbci : IC := .reg false [zi 16 (.call (.c (.fn 6 [] [])) [((.c (.str [92, 32, 120, 32, 121, 32, 45, 62, 32, 108, 101, 116, 32, 123, 32, 103, 32, 122, 32, 61, 32, 122, 59, 32, 125, 32, 105, 110, 32, 99, 97, 115, 101, 32, 120, 32, 111, 102, 32, 123, 32, 75, 32, 97, 32, 45, 62, 32, 105, 102, 32, 97, 32, 116, 104, 101, 110, 32, 121, 32, 101, 108, 115, 101, 32, 50, 32, 125])), .id)]), zm 15 16, zv 17 (.ext (.t 15) 0), zv 18 (.ext (.t 15) 1), zv 19 (.ext (.t 15) 2), zi 4 (.alo [(.int .i64 0), (.int .i64 0), (.int .i64 0), (.str []), .nils]), zn (.st 5 (.agg [.id, .id, .id, .id, (.sl 5)]) (.t 4) (.t 17)), zm 5 18, zm 6 19]
def qbdz : IC := .reg false [zi 21 (.call (.c (.fn 6 [] [])) [((.c (.str [108, 101, 116, 32, 123, 32, 125, 32, 105, 110, 32, 120])), .id)]), zm 20 21, zv 22 (.ext (.t 20) 0), zv 23 (.ext (.t 20) 1), zv 24 (.ext (.t 20) 2), zi 7 (.alo [(.int .i64 0), (.int .i64 0), (.int .i64 0), (.str []), .nils]), zn (.st 5 (.agg [.id, .id, .id, .id, (.sl 5)]) (.t 7) (.t 22)), zm 8 23, zm 9 24]
def qbdp : IC := .reg false [zv 25 (.fad (.t 1) 4), zv 26 (.ld false 1 (.t 25)), zv 27 (.len false (.t 26)), zv 28 (.bin .neq .no (.t 27) (.c (.int .i64 2))), zm 29 28, zw 29 false 30 (.fad (.t 4) 4), zw 29 false 31 (.ld false 1 (.t 30)), zw 29 false 32 (.len false (.t 31)), zw 29 false 33 (.bin .neq .no (.t 32) (.c (.int .i64 1))), zv 34 (.pick (.t 29) (.c (.bool true)) (.t 33))]
def qbeg : IC := .reg false [zv 0 (.mov (.c (.bool false)))]
def qbgp : IC := .reg false [zv 35 (.fad (.t 1) 0), zv 36 (.ld false 1 (.t 35)), zv 37 (.bin .eql .no (.t 36) (.c (.int .i64 24))), zm 38 37, zw 38 true 39 (.fad (.t 1) 4), zw 38 true 40 (.ld false 1 (.t 39)), zw 38 true 41 (.iad 5 (.t 40) (.c (.int .i64 1))), zw 38 true 42 (.fad (.t 41) 2), zw 38 true 43 (.ld false 1 (.t 42)), zw 38 true 44 (.bin .eql .no (.t 43) (.c (.int .i64 1))), zv 45 (.pick (.t 38) (.t 44) (.c (.bool false))), zm 46 45, zw 46 true 47 (.fad (.t 1) 4), zw 46 true 48 (.ld false 1 (.t 47)), zw 46 true 49 (.iad 5 (.t 48) (.c (.int .i64 0))), zw 46 true 50 (.fad (.t 49) 0), zw 46 true 51 (.ld false 1 (.t 50)), zw 46 true 52 (.bin .eql .no (.t 51) (.c (.int .i64 24))), zv 53 (.pick (.t 46) (.t 52) (.c (.bool false))), zm 54 53, zw 54 true 55 (.mov (.t 2)), zw 54 true 56 (.bin .eql .no (.t 55) (.c (.int .i64 0))), zv 57 (.pick (.t 54) (.t 56) (.c (.bool false))), zm 58 57, zw 58 true 59 (.mov (.t 3)), zw 58 true 60 (.bin .eql .no (.t 59) (.c (.int .i64 0))), zv 61 (.pick (.t 58) (.t 60) (.c (.bool false))), zm 62 61, zw 62 true 63 (.fad (.t 4) 0), zw 62 true 64 (.ld false 1 (.t 63)), zw 62 true 65 (.bin .eql .no (.t 64) (.c (.int .i64 25))), zv 66 (.pick (.t 62) (.t 65) (.c (.bool false))), zm 67 66, zw 67 true 68 (.fad (.t 4) 3), zw 67 true 69 (.ld false 1 (.t 68)), zw 67 true 70 (.bin .eql .no (.t 69) (.c (.str [120]))), zv 71 (.pick (.t 67) (.t 70) (.c (.bool false))), zm 72 71, zw 72 true 73 (.fad (.t 4) 4), zw 72 true 74 (.ld false 1 (.t 73)), zw 72 true 75 (.iad 5 (.t 74) (.c (.int .i64 0))), zw 72 true 76 (.fad (.t 75) 3), zw 72 true 77 (.ld false 1 (.t 76)), zw 72 true 78 (.bin .eql .no (.t 77) (.c (.str [121]))), zv 79 (.pick (.t 72) (.t 78) (.c (.bool false))), zm 80 79, zw 80 true 81 (.mov (.t 6)), zw 80 true 82 (.bin .eql .no (.t 81) (.c (.int .i64 0))), zv 83 (.pick (.t 80) (.t 82) (.c (.bool false))), zm 84 83, zw 84 true 85 (.mov (.t 8)), zw 84 true 86 (.bin .eql .no (.t 85) (.c (.int .i64 6))), zv 87 (.pick (.t 84) (.t 86) (.c (.bool false))), zm 88 87, zw 88 true 89 (.mov (.t 9)), zw 88 true 90 (.bin .eql .no (.t 89) (.c (.int .i64 5))), zv 91 (.pick (.t 88) (.t 90) (.c (.bool false))), zm 0 91]
def k0cp : IC := (.seq q9m (.seq qbbq (.seq qbci (.seq qbdz (.seq (.seq qbdp (.cond (.t 34) (.seq qbeg .ret) .skip)) (.seq qbgp .ret))))))
@[go_sem] def s0cp : List (RV × Co) := [(.t 0, .id)]
theorem c0cp : cFun Try.prog 5 = some (92, k0cp, s0cp) := by kernel_rfl

def qbnz : IC := .reg false [zi 2 (.alo [(.int .i64 0), (.int .i64 0), (.int .i64 0), (.str []), .nils]), zv 3 (.mov (.c (.int .i64 0))), zv 4 (.mov (.c (.int .i64 0)))]
def qbj0 : IC := .reg false [zm 14 0, zi 15 (.call (.c (.fn 8 [] [])) [((.t 14), .id)]), zm 13 15, zv 16 (.ext (.t 13) 0), zv 17 (.ext (.t 13) 1), zv 18 (.ext (.t 13) 2), zm 5 16, zm 6 17, zm 7 18]
def qbjm : IC := .reg false [zm 19 7, zv 20 (.bin .neq .no (.t 19) (.c (.int .i64 0)))]
def qbnj : IC := .reg false [zv 21 (.bld [(.int .i64 0), (.int .i64 0), (.int .i64 0), (.str []), .nils] []), zm 22 6, zm 23 7, zn (.st 5 (.agg [.id, .id, .id, .id, (.sl 5)]) (.t 2) (.t 21)), zm 3 22, zm 4 23]
def qbna : IC := .reg false [zm 24 5, zi 25 (.call (.c (.fn 9 [] [])) [((.t 24), (.sl 4))]), zm 8 25]
def qbom : IC := .reg false [zm 27 8, zi 28 (.call (.c (.fn 10 [] [])) [((.t 27), .id)]), zm 26 28, zv 29 (.ext (.t 26) 0), zv 30 (.ext (.t 26) 1), zi 9 (.alo [(.int .i64 0), (.int .i64 0), (.int .i64 0), (.str []), .nils]), zn (.st 5 (.agg [.id, .id, .id, .id, (.sl 5)]) (.t 9) (.t 29)), zm 10 30]
def qbqi : IC := .reg false [zm 32 8, zi 33 (.call (.c (.fn 11 [] [])) [((.t 32), .id)]), zm 31 33, zv 34 (.ext (.t 31) 0), zv 35 (.ext (.t 31) 1), zm 11 34, zm 12 35]
def qbmj : IC := .reg false [zm 36 12, zv 37 (.bin .neq .no (.t 36) (.c (.int .i64 0)))]
def qbma : IC := .reg false [zv 38 (.bld [(.int .i64 0), (.int .i64 0), (.int .i64 0), (.str []), .nils] []), zm 39 11, zm 40 12, zn (.st 5 (.agg [.id, .id, .id, .id, (.sl 5)]) (.t 2) (.t 38)), zm 3 39, zm 4 40]
def qbop : IC := .reg false [zv 41 (.ld true 5 (.t 9)), zi 42 (.call (.c (.fn 12 [] [])) [((.t 41), (.agg [.id, .id, .id, .id, (.sl 5)]))]), zv 43 (.bin .gtr .no (.t 42) (.c (.int .i64 100)))]
def qbah : IC := .drw [(zv 44 (.bld [(.int .i64 0), (.int .i64 0), (.int .i64 0), (.str []), .nils] []), []), zp (zv 45 (.fad (.t 9) 1)), zp (zv 46 (.ld false 1 (.t 45))), (zn (.st 5 (.agg [.id, .id, .id, .id, (.sl 5)]) (.t 2) (.t 44)), [2]), zp (zm 3 46), zp (zv 4 (.mov (.c (.int .i64 2))))]
def q92 : IC := .reg false [zv 47 (.ld true 5 (.t 9)), zn (.st 5 (.agg [.id, .id, .id, .id, (.sl 5)]) (.t 2) (.t 47)), zv 3 (.mov (.c (.int .i64 0))), zv 4 (.mov (.c (.int .i64 0)))]
def k0c : IC := (.seq qbnz (.seq qbj0 (.seq (.seq qbjm (.cond (.t 20) (.seq qbnj .ret) .skip)) (.seq qbna (.seq qbom (.seq (.seq qbqi (.seq qbmj (.cond (.t 37) (.seq qbma .ret) .skip))) (.seq (.seq qbop (.cond (.t 43) (.seq qbah .ret) .skip)) (.seq q92 .ret))))))))
@[go_sem] def s0c : List (RV × Co) := [(.c true 5 2, (.agg [.id, .id, .id, .id, (.sl 5)])), (.t 3, .id), (.t 4, .id)]
theorem c0c : cFun Try.prog 6 = some (48, k0c, s0c) := by kernel_rfl

def qba8 : IC := .reg false [zi 2 (.box (.t 0)), zi 3 (.box (.t 1)), zv 4 (.mov (.c (.bool false)))]
def qbg8 : IC := .reg false [zv 6 (.fad (.t 2) 0), zv 7 (.ld false 1 (.t 6)), zv 8 (.fad (.t 3) 0), zv 9 (.ld false 1 (.t 8)), zv 10 (.bin .neq .no (.t 7) (.t 9)), zm 11 10, zw 11 false 12 (.fad (.t 2) 3), zw 11 false 13 (.ld false 1 (.t 12)), zw 11 false 14 (.fad (.t 3) 3), zw 11 false 15 (.ld false 1 (.t 14)), zw 11 false 16 (.bin .neq .no (.t 13) (.t 15)), zv 17 (.pick (.t 11) (.c (.bool true)) (.t 16)), zm 18 17, zw 18 false 19 (.fad (.t 2) 2), zw 18 false 20 (.ld false 1 (.t 19)), zw 18 false 21 (.fad (.t 3) 2), zw 18 false 22 (.ld false 1 (.t 21)), zw 18 false 23 (.bin .neq .no (.t 20) (.t 22)), zv 24 (.pick (.t 18) (.c (.bool true)) (.t 23)), zm 25 24, zw 25 false 26 (.fad (.t 2) 4), zw 25 false 27 (.ld false 1 (.t 26)), zw 25 false 28 (.len false (.t 27)), zw 25 false 29 (.fad (.t 3) 4), zw 25 false 30 (.ld false 1 (.t 29)), zw 25 false 31 (.len false (.t 30)), zw 25 false 32 (.bin .neq .no (.t 28) (.t 31)), zv 33 (.pick (.t 25) (.c (.bool true)) (.t 32))]
def q9n : IC := .reg false [zv 4 (.mov (.c (.bool false)))]
def qbho : IC := .reg false [zv 34 (.fad (.t 2) 4), zv 35 (.ld false 1 (.t 34)), zv 36 (.len false (.t 35)), zv 37 (.mov (.c (.int .i64 0)))]
def qbib : IC := .reg false [zv 38 (.bin .lss .no (.t 37) (.t 36))]
def qbd8 : IC := .reg false [zm 39 37, zm 5 39]
def qbep : IC := .drw [zp (zv 40 (.fad (.t 2) 4)), zp (zv 41 (.ld false 1 (.t 40))), zp (zm 42 5), zp (zv 43 (.iad 5 (.t 41) (.t 42))), zp (zv 44 (.ld true 5 (.t 43))), zp (zv 45 (.fad (.t 3) 4)), zp (zv 46 (.ld false 1 (.t 45))), zp (zm 47 5), zp (zv 48 (.iad 5 (.t 46) (.t 47))), zp (zv 49 (.ld true 5 (.t 48))), (zi 50 (.call (.c (.fn 7 [] [])) [((.t 44), (.agg [.id, .id, .id, .id, (.sl 5)])), ((.t 49), (.agg [.id, .id, .id, .id, (.sl 5)]))]), []), zp (zv 51 (.un .not (.t 50)))]
def qbgu : IC := .reg false [zv 4 (.mov (.c (.bool false)))]
def qbd5 : IC := .reg false [zv 52 (.bin .add .no (.t 37) (.c (.int .i64 1))), zm 37 52]
def qbdg : IC := (.seq qbib (.seq (.cond (.t 38) .skip (.exit 0)) (.seq (.block 1 (.seq qbd8 (.seq qbep (.cond (.t 51) (.seq qbgu .ret) .skip)))) qbd5)))
def q6y : IC := .reg false [zv 4 (.mov (.c (.bool true)))]
def k0ci : IC := (.seq qba8 (.seq (.seq qbg8 (.cond (.t 33) (.seq q9n .ret) .skip)) (.seq (.seq qbho (.block 0 (.loop qbdg))) (.seq q6y .ret))))
@[go_sem] def s0ci : List (RV × Co) := [(.t 4, .id)]
theorem c0ci : cFun Try.prog 7 = some (53, k0ci, s0ci) := by kernel_rfl

def q9a : IC := .reg false [zi 2 (.alo [.nils]), zi 3 (.alo [(.int .i64 0)]), zi 4 (.alo [(.int .i64 0)])]
def qbbl : IC := .reg false [zm 8 0, zv 9 (.len true (.t 8)), zv 10 (.bin .gtr .no (.t 9) (.c (.int .i64 1048576)))]
def q8f : IC := .reg false [zn (.st 1 (.sl 4) (.t 2) (.c .nils)), zn (.st 1 .id (.t 3) (.c (.int .i64 0))), zn (.st 1 .id (.t 4) (.c (.int .i64 2)))]
def qbih : IC := .reg false [zi 5 (.alo [.nils])]
def qba1 : IC := .reg false [zm 11 0, zi 12 (.call (.c (.fn 13 [] [])) [((.t 11), .id)])]
def q9y : IC := .reg false [zm 15 7, zv 16 (.bin .neq .no (.t 15) (.c (.int .i64 0)))]
def qbid : IC := .drw [zp (zv 17 (.fad (.t 6) 1)), zp (zv 18 (.ld false 1 (.t 17))), zp (zm 19 7), (zn (.st 1 (.sl 4) (.t 2) (.c .nils)), [1]), (zn (.st 1 .id (.t 3) (.t 18)), []), (zn (.st 1 .id (.t 4) (.t 19)), [])]
def qbfq : IC := .reg false [zv 20 (.ld false 1 (.t 5)), zv 21 (.ld true 4 (.t 6)), zv 22 (.bsl 4 [((.t 21), .id)]), zi 23 (.app 4 (.agg [(.int .i64 0), (.int .i64 0), (.int .i64 0), (.str [])]) 40 (.sl 4) (.t 20) (.t 22)), zn (.st 1 (.sl 4) (.t 5) (.t 23))]
def qub : IC := (.block 1 (.seq (.seq q9y (.cond (.t 16) (.seq qbid .ret) .skip)) qbfq))
def qqz : IC := .reg false [zi 6 (.alo [(.int .i64 0), (.int .i64 0), (.int .i64 0), (.str [])]), zn (.st 4 .id (.t 6) (.t 13))]
def qpv : IC := .reg false [zm 7 14]
def q5d : IC := .reg false [zv 24 (.ld false 1 (.t 5)), zm 25 0, zv 26 (.len true (.t 25)), zv 27 (.bld [(.int .i64 0), (.int .i64 0), (.int .i64 0), (.str [])] [(0, 1, (.c (.int .i64 0))), (1, 1, (.t 26))]), zv 28 (.bsl 4 [((.t 27), .id)]), zi 29 (.app 4 (.agg [(.int .i64 0), (.int .i64 0), (.int .i64 0), (.str [])]) 40 (.sl 4) (.t 24) (.t 28)), zn (.st 1 (.sl 4) (.t 2) (.t 29)), zn (.st 1 .id (.t 3) (.c (.int .i64 0))), zn (.st 1 .id (.t 4) (.c (.int .i64 0)))]
def k0bp : IC := (.seq q9a (.seq (.seq qbbl (.cond (.t 10) (.seq q8f .ret) .skip)) (.seq qbih (.seq (.seq qba1 (.block 0 (.rng (.t 12) [13, 14] (.seq qqz qpv) qub))) (.seq q5d .ret)))))
@[go_sem] def s0bp : List (RV × Co) := [(.c false 1 2, (.sl 4)), (.c false 1 3, .id), (.c false 1 4, .id)]
theorem c0bp : cFun Try.prog 8 = some (30, k0bp, s0bp) := by kernel_rfl

def qbcl : IC := .reg false [zv 2 (.mov (.c .nilp))]
def qbdl : IC := .reg false [zv 6 (.bld [.nils, (.int .i64 0), (.int .i64 0), (.int .i64 0), (.str []), (.int .i64 0), (.int .i64 0), (.int .i64 0), (.int .i64 0)] []), zi 7 (.box (.t 6)), zm 3 7]
def qbdn : IC := .reg false [zm 8 0, zv 9 (.len false (.t 8)), zv 10 (.mov (.c (.int .i64 0)))]
def qbhb : IC := .reg false [zv 11 (.bin .lss .no (.t 10) (.t 9))]
def qbcd : IC := .reg false [zv 12 (.iad 4 (.t 8) (.t 10)), zv 13 (.ld true 4 (.t 12)), zi 5 (.alo [(.int .i64 0), (.int .i64 0), (.int .i64 0), (.str [])]), zn (.st 4 .id (.t 5) (.t 13))]
def qbez : IC := .reg false [zv 14 (.fad (.t 5) 0), zv 15 (.ld false 1 (.t 14)), zv 16 (.bin .eql .no (.t 15) (.c (.int .i64 0)))]
def qbgj : IC := .reg false [zm 17 3, zv 18 (.fad (.t 5) 1), zv 19 (.ld false 1 (.t 18)), zv 20 (.nck (.t 17)), zv 21 (.fad (.t 20) 1), zv 22 (.fad (.t 21) 1), zn (.st 1 .id (.t 22) (.t 19))]
def qbb0 : IC := .drw [zp (zm 23 3), zp (zm 24 3), zp (zv 25 (.nck (.t 24))), zp (zv 26 (.fad (.t 25) 0)), zp (zv 27 (.ld false 1 (.t 26))), zp (zv 28 (.ld true 4 (.t 5))), (zv 29 (.bsl 4 [((.t 28), .id)]), []), (zi 30 (.app 4 (.agg [(.int .i64 0), (.int .i64 0), (.int .i64 0), (.str [])]) 40 (.sl 4) (.t 27) (.t 29)), []), zp (zv 31 (.nck (.t 23))), zp (zv 32 (.fad (.t 31) 0)), (zn (.st 1 (.sl 4) (.t 32) (.t 30)), [])]
def qbdw : IC := .reg false [zv 33 (.bin .add .no (.t 10) (.c (.int .i64 1))), zm 10 33]
def qbay : IC := (.seq qbhb (.seq (.cond (.t 11) .skip (.exit 0)) (.seq (.block 1 (.seq qbcd (.seq (.seq qbez (.cond (.t 16) (.seq qbgj (.exit 0)) .skip)) qbb0))) qbdw)))
def q4m : IC := .reg false [zm 34 3, zm 2 34]
def k0bc : IC := (.seq qbcl (.seq qbdl (.seq (.seq qbdn (.block 0 (.loop qbay))) (.seq q4m .ret))))
@[go_sem] def s0bc : List (RV × Co) := [(.t 2, .id)]
theorem c0bc : cFun Try.prog 9 = some (35, k0bc, s0bc) := by kernel_rfl

def qbpy : IC := .reg false [zi 2 (.alo [(.int .i64 0), (.int .i64 0), (.int .i64 0), (.str []), .nils]), zv 3 (.mov (.c (.bool false)))]
def qbn7 : IC := .reg false [zm 6 0, zi 7 (.call (.c (.fn 14 [] [])) [((.t 6), .id)]), zv 8 (.un .not (.t 7))]
def qbra : IC := .reg false [zv 9 (.bld [(.int .i64 0), (.int .i64 0), (.int .i64 0), (.str []), .nils] []), zn (.st 5 (.agg [.id, .id, .id, .id, (.sl 5)]) (.t 2) (.t 9)), zv 3 (.mov (.c (.bool false)))]
def qbjq : IC := .reg false [zm 11 0, zi 12 (.call (.c (.fn 15 [] [])) [((.t 11), .id)]), zm 10 12, zv 13 (.ext (.t 10) 0), zv 14 (.ext (.t 10) 1), zi 4 (.alo [(.int .i64 0), (.int .i64 0), (.int .i64 0), (.str []), .nils]), zn (.st 5 (.agg [.id, .id, .id, .id, (.sl 5)]) (.t 4) (.t 13)), zm 5 14]
def qbn9 : IC := .reg false [zm 15 0, zi 16 (.call (.c (.fn 16 [] [])) [((.t 15), .id)])]
def qbll : IC := .reg false [zm 17 5, zv 18 (.un .not (.t 17))]
def qbmm : IC := .reg false [zv 19 (.bld [(.int .i64 0), (.int .i64 0), (.int .i64 0), (.str []), .nils] []), zn (.st 5 (.agg [.id, .id, .id, .id, (.sl 5)]) (.t 2) (.t 19)), zv 3 (.mov (.c (.bool false)))]
def qbi5 : IC := .reg false [zv 20 (.ld true 5 (.t 4)), zn (.st 5 (.agg [.id, .id, .id, .id, (.sl 5)]) (.t 2) (.t 20)), zv 3 (.mov (.c (.bool true)))]
def k0b : IC := (.seq qbpy (.seq (.seq qbn7 (.cond (.t 8) (.seq qbra .ret) .skip)) (.seq qbjq (.seq qbn9 (.seq (.seq qbll (.cond (.t 18) (.seq qbmm .ret) .skip)) (.seq qbi5 .ret))))))
@[go_sem] def s0b : List (RV × Co) := [(.c true 5 2, (.agg [.id, .id, .id, .id, (.sl 5)])), (.t 3, .id)]
theorem c0b : cFun Try.prog 10 = some (21, k0b, s0b) := by kernel_rfl

def qbb8 : IC := .reg false [zv 2 (.mov (.c (.int .i64 0))), zv 3 (.mov (.c (.int .i64 0)))]
def qbbg : IC := .reg false [zm 5 0, zv 6 (.bin .eql .ptr (.t 5) (.c .nilp)), zm 4 6]
def qbds : IC := .reg false [zv 2 (.mov (.c (.int .i64 0))), zv 3 (.mov (.c (.int .i64 1)))]
def qbcx : IC := .reg false [zm 8 0, zv 9 (.nck (.t 8)), zv 10 (.fad (.t 9) 7), zv 11 (.ld false 1 (.t 10)), zv 12 (.bin .neq .no (.t 11) (.c (.int .i64 0))), zm 7 12]
def qbhz : IC := .drw [zp (zm 13 0), zp (zv 14 (.nck (.t 13))), zp (zv 15 (.fad (.t 14) 8)), zp (zv 16 (.ld false 1 (.t 15))), zp (zm 17 0), zp (zv 18 (.nck (.t 17))), zp (zv 19 (.fad (.t 18) 7)), zp (zv 20 (.ld false 1 (.t 19))), zp (zm 2 16), zp (zm 3 20)]
def qbag : IC := .drw [zp (zm 22 0), zp (zv 23 (.nck (.t 22))), zp (zv 24 (.fad (.t 23) 5)), zp (zv 25 (.ld false 1 (.t 24))), zp (zm 26 0), zp (zv 27 (.nck (.t 26))), zp (zv 28 (.fad (.t 27) 0)), zp (zv 29 (.ld false 1 (.t 28))), zp (zv 30 (.len false (.t 29))), zp (zv 31 (.bin .lss .no (.t 25) (.t 30))), zp (zm 21 31)]
def q98 : IC := .drw [zp (zm 32 0), zp (zv 33 (.nck (.t 32))), zp (zv 34 (.fad (.t 33) 0)), zp (zv 35 (.ld false 1 (.t 34))), zp (zm 36 0), zp (zv 37 (.nck (.t 36))), zp (zv 38 (.fad (.t 37) 5)), zp (zv 39 (.ld false 1 (.t 38))), zp (zv 40 (.iad 4 (.t 35) (.t 39))), zp (zv 41 (.fad (.t 40) 1)), zp (zv 42 (.ld false 1 (.t 41))), zp (zm 2 42), zp (zv 3 (.mov (.c (.int .i64 5))))]
def qbdr : IC := .reg false [zm 43 0, zv 44 (.nck (.t 43)), zv 45 (.fad (.t 44) 1), zv 46 (.fad (.t 45) 1), zv 47 (.ld false 1 (.t 46)), zm 2 47, zv 3 (.mov (.c (.int .i64 0)))]
def k0bn : IC := (.seq qbb8 (.seq (.block 0 (.seq qbbg (.cond (.t 4) (.seq qbds .ret) (.seq qbcx (.cond (.t 7) (.seq qbhz .ret) (.seq qbag (.cond (.t 21) (.seq q98 .ret) .skip))))))) (.seq qbdr .ret)))
@[go_sem] def s0bn : List (RV × Co) := [(.t 2, .id), (.t 3, .id)]
theorem c0bn : cFun Try.prog 11 = some (48, k0bn, s0bn) := by kernel_rfl

def qbce : IC := .reg false [zi 1 (.box (.t 0)), zv 2 (.mov (.c (.int .i64 0)))]
def qbfg : IC := .reg false [zi 3 (.alo [(.int .i64 0)]), zn (.st 1 .id (.t 3) (.c (.int .i64 0)))]
def qbhv : IC := .reg false [zv 5 (.ld true 5 (.t 1)), zi 6 (.call (.c (.fn 17 [] [])) [((.t 5), (.agg [.id, .id, .id, .id, (.sl 5)])), ((.c (.int .i64 1)), .id)])]
def qbfp : IC := .reg false [zv 9 (.ld false 1 (.t 3)), zm 10 4, zv 11 (.mm true (.t 9) (.t 10)), zn (.st 1 .id (.t 3) (.t 11))]
def qzx : IC := (.block 1 qbfp)
def qz5 : IC := .reg false [zm 4 7]
def qbdo : IC := .reg false [zv 12 (.ld false 1 (.t 3)), zm 2 12]
def k0cm : IC := (.seq qbce (.seq qbfg (.seq (.seq qbhv (.block 0 (.rng (.t 6) [7, 8] qz5 qzx))) (.seq qbdo .ret))))
@[go_sem] def s0cm : List (RV × Co) := [(.t 2, .id)]
theorem c0cm : cFun Try.prog 12 = some (13, k0cm, s0cm) := by kernel_rfl

def q89 : IC := .reg false [zi 1 (.box (.t 0)), zv 2 (.mov (.c .nilf))]
def q8w : IC := .reg false [zv 3 (.mfn 18 [] [(.t 1)]), zm 2 3]
def k0bo : IC := (.seq q89 (.seq q8w .ret))
@[go_sem] def s0bo : List (RV × Co) := [(.t 2, .id)]
theorem c0bo : cFun Try.prog 13 = some (4, k0bo, s0bo) := by kernel_rfl

def q8h : IC := .reg false [zv 2 (.mov (.c (.bool false)))]
def qbia : IC := .reg false [zm 3 0, zi 4 (.call (.c (.fn 21 [] [])) [((.t 3), .id)]), zm 5 4, zw 5 false 6 (.mov (.t 0)), zw 5 false 7 (.nck (.t 6)), zw 5 false 8 (.fad (.t 7) 6), zw 5 false 9 (.ld false 1 (.t 8)), zw 5 false 10 (.bin .geq .no (.t 9) (.c (.int .i64 200))), zv 11 (.pick (.t 5) (.c (.bool true)) (.t 10))]
def qbbo : IC := .reg false [zm 12 0, zi 13 (.call (.c (.fn 22 [] [])) [((.t 12), .id), ((.c (.int .i64 2)), .id)]), zm 2 13]
def qbe9 : IC := .reg false [zm 14 0, zv 15 (.nck (.t 14)), zv 16 (.fad (.t 15) 6), zv 17 (.ld false 1 (.t 16)), zv 18 (.bin .add .no (.t 17) (.c (.int .i64 1))), zv 19 (.nck (.t 14)), zv 20 (.fad (.t 19) 6), zn (.st 1 .id (.t 20) (.t 18))]
def qbgm : IC := .reg false [zv 2 (.mov (.c (.bool true)))]
def k0bl : IC := (.seq q8h (.seq (.seq qbia (.cond (.t 11) (.seq qbbo .ret) .skip)) (.seq qbe9 (.seq qbgm .ret))))
@[go_sem] def s0bl : List (RV × Co) := [(.t 2, .id)]
theorem c0bl : cFun Try.prog 14 = some (21, k0bl, s0bl) := by kernel_rfl

def qbju : IC := .reg false [zi 2 (.alo [(.int .i64 0), (.int .i64 0), (.int .i64 0), (.str []), .nils]), zv 3 (.mov (.c (.bool false)))]
def qbls : IC := .reg false [zm 5 0, zi 6 (.call (.c (.fn 23 [] [])) [((.t 5), .id)]), zv 7 (.fld false 1 1 (.t 6)), zv 8 (.bld [(.int .i64 0), (.int .i64 0), (.int .i64 0), (.str []), .nils] [(1, 1, (.t 7))]), zi 4 (.alo [(.int .i64 0), (.int .i64 0), (.int .i64 0), (.str []), .nils]), zn (.st 5 (.agg [.id, .id, .id, .id, (.sl 5)]) (.t 4) (.t 8))]
def qbqg : IC := .reg false [zm 10 0, zi 11 (.call (.c (.fn 24 [] [])) [((.t 10), .id), ((.c (.str [92])), .id)]), zm 9 11]
def qboy : IC := .reg false [zm 12 0, zi 13 (.call (.c (.fn 23 [] [])) [((.t 12), .id)]), zv 14 (.fld false 1 0 (.t 13)), zv 15 (.bin .neq .no (.t 14) (.c (.int .i64 1)))]
def qbor : IC := .drw [zp (zv 16 (.ld true 5 (.t 4))), zp (zm 17 0), (zi 18 (.call (.c (.fn 22 [] [])) [((.t 17), .id), ((.c (.int .i64 5)), .id)]), [0]), (zn (.st 5 (.agg [.id, .id, .id, .id, (.sl 5)]) (.t 2) (.t 16)), []), zp (zm 3 18)]
def qbpd : IC := .reg false [zm 19 0, zi 20 (.call (.c (.fn 25 [] [])) [((.t 19), .id), ((.c (.str [45, 62])), .id)]), zv 21 (.ext (.t 20) 0), zv 22 (.ext (.t 20) 1), zn (.st 5 (.agg [.id, .id, .id, .id, (.sl 5)]) (.t 2) (.t 21)), zm 3 22]
def qbpf : IC := .reg false [zm 24 0, zi 25 (.call (.c (.fn 24 [] [])) [((.t 24), .id), ((.c (.str [108, 101, 116])), .id)]), zm 23 25]
def qbmd : IC := .reg false [zm 26 0, zv 27 (.ld true 5 (.t 4)), zi 28 (.call (.c (.fn 26 [] [])) [((.t 26), .id), ((.t 27), (.agg [.id, .id, .id, .id, (.sl 5)]))]), zv 29 (.ext (.t 28) 0), zv 30 (.ext (.t 28) 1), zn (.st 5 (.agg [.id, .id, .id, .id, (.sl 5)]) (.t 2) (.t 29)), zm 3 30]
def qbm3 : IC := .reg false [zm 32 0, zi 33 (.call (.c (.fn 24 [] [])) [((.t 32), .id), ((.c (.str [99, 97, 115, 101])), .id)]), zm 31 33]
def qbp4 : IC := .reg false [zm 34 0, zv 35 (.ld true 5 (.t 4)), zi 36 (.call (.c (.fn 27 [] [])) [((.t 34), .id), ((.t 35), (.agg [.id, .id, .id, .id, (.sl 5)]))]), zv 37 (.ext (.t 36) 0), zv 38 (.ext (.t 36) 1), zn (.st 5 (.agg [.id, .id, .id, .id, (.sl 5)]) (.t 2) (.t 37)), zm 3 38]
def qbge : IC := .reg false [zm 40 0, zi 41 (.call (.c (.fn 24 [] [])) [((.t 40), .id), ((.c (.str [105, 102])), .id)]), zm 39 41]
def qbf8 : IC := .reg false [zm 42 0, zv 43 (.ld true 5 (.t 4)), zi 44 (.call (.c (.fn 28 [] [])) [((.t 42), .id), ((.t 43), (.agg [.id, .id, .id, .id, (.sl 5)]))]), zv 45 (.ext (.t 44) 0), zv 46 (.ext (.t 44) 1), zn (.st 5 (.agg [.id, .id, .id, .id, (.sl 5)]) (.t 2) (.t 45)), zm 3 46]
def qbe8 : IC := .reg false [zm 47 0, zi 48 (.call (.c (.fn 29 [] [])) [((.t 47), .id)]), zv 49 (.ext (.t 48) 0), zv 50 (.ext (.t 48) 1), zn (.st 5 (.agg [.id, .id, .id, .id, (.sl 5)]) (.t 2) (.t 49)), zm 3 50]
def k0g : IC := (.seq qbju (.seq qbls (.seq (.block 0 (.seq qbqg (.cond (.t 9) (.seq (.seq qboy (.cond (.t 15) (.seq qbor .ret) .skip)) (.seq qbpd .ret)) (.seq qbpf (.cond (.t 23) (.seq qbmd .ret) (.seq qbm3 (.cond (.t 31) (.seq qbp4 .ret) (.seq qbge (.cond (.t 39) (.seq qbf8 .ret) .skip))))))))) (.seq qbe8 .ret))))
@[go_sem] def s0g : List (RV × Co) := [(.c true 5 2, (.agg [.id, .id, .id, .id, (.sl 5)])), (.t 3, .id)]
theorem c0g : cFun Try.prog 15 = some (51, k0g, s0g) := by kernel_rfl

def qba2 : IC := .reg false [zm 2 0, zi 3 (.call (.c (.fn 21 [] [])) [((.t 2), .id)]), zv 4 (.un .not (.t 3)), zm 5 4, zw 5 true 6 (.mov (.t 0)), zw 5 true 7 (.nck (.t 6)), zw 5 true 8 (.fad (.t 7) 6), zw 5 true 9 (.ld false 1 (.t 8)), zw 5 true 10 (.bin .gtr .no (.t 9) (.c (.int .i64 0))), zv 11 (.pick (.t 5) (.t 10) (.c (.bool false)))]
def q8x : IC := .reg false [zm 12 0, zv 13 (.nck (.t 12)), zv 14 (.fad (.t 13) 6), zv 15 (.ld false 1 (.t 14)), zv 16 (.bin .sub .no (.t 15) (.c (.int .i64 1))), zv 17 (.nck (.t 12)), zv 18 (.fad (.t 17) 6), zn (.st 1 .id (.t 18) (.t 16))]
def k0bm : IC := (.seq qba2 (.cond (.t 11) q8x .skip))
@[go_sem] def s0bm : List (RV × Co) := []
theorem c0bm : cFun Try.prog 16 = some (19, k0bm, s0bm) := by kernel_rfl

def qbd3 : IC := .reg false [zi 2 (.box (.t 0)), zi 3 (.box (.t 1)), zv 4 (.mov (.c .nilf))]
def qbb3 : IC := .reg false [zv 5 (.mfn 30 [] [(.t 2), (.t 3)]), zm 4 5]
def k0cl : IC := (.seq qbd3 (.seq qbb3 .ret))
@[go_sem] def s0cl : List (RV × Co) := [(.t 4, .id)]
theorem c0cl : cFun Try.prog 17 = some (6, k0cl, s0cl) := by kernel_rfl

def qbd7 : IC := .reg false [zv 6 (.ld false 1 (.t 1)), zi 7 (.call (.c (.fn 19 [] [])) [((.t 6), .id)]), zm 3 7]
def q8l : IC := .reg false [zm 8 3, zv 9 (.ld false 1 (.t 1)), zv 10 (.len true (.t 9)), zv 11 (.bin .lss .no (.t 8) (.t 10))]
def qbdu : IC := .reg false [zv 13 (.ld false 1 (.t 1)), zm 14 3, zv 15 (.sls (.t 13) (some (.t 14)) none), zi 16 (.call (.c (.fn 20 [] [])) [((.t 15), .id)]), zm 12 16, zv 17 (.ext (.t 12) 0), zv 18 (.ext (.t 12) 1), zi 4 (.alo [(.int .i64 0), (.int .i64 0), (.int .i64 0), (.str [])]), zn (.st 4 .id (.t 4) (.t 17)), zm 5 18]
def qbdm : IC := .reg false [zm 19 3, zv 20 (.fad (.t 4) 1), zn (.st 1 .id (.t 20) (.t 19))]
def qbbx : IC := .reg false [zm 21 0, zv 22 (.ld true 4 (.t 4)), zm 23 5, zi 24 (.call (.t 21) [((.t 22), .id), ((.t 23), .id)]), zv 25 (.un .not (.t 24))]
def qbd0 : IC := .reg false [zm 26 3, zv 27 (.fad (.t 4) 3), zv 28 (.ld false 1 (.t 27)), zv 29 (.len true (.t 28)), zv 30 (.bin .add .no (.t 26) (.t 29)), zm 3 30]
def qbgb : IC := .reg false [zm 31 3, zv 32 (.ld false 1 (.t 1)), zm 33 3, zv 34 (.sls (.t 32) (some (.t 33)) none), zi 35 (.call (.c (.fn 19 [] [])) [((.t 34), .id)]), zv 36 (.bin .add .no (.t 31) (.t 35)), zm 3 36]
def qbbv : IC := (.seq (.seq q8l (.cond (.t 11) .skip (.exit 0))) (.block 1 (.seq qbdu (.seq qbdm (.seq (.seq qbbx (.cond (.t 25) .ret .skip)) (.seq qbd0 qbgb))))))
def k0bq : IC := (.seq qbd7 (.block 0 (.loop qbbv)))
@[go_sem] def s0bq : List (RV × Co) := []
theorem c0bq : cFun Try.prog 18 = some (37, k0bq, s0bq) := by kernel_rfl

def qbfd : IC := .reg false [zv 2 (.mov (.c (.int .i64 0)))]
def q80 : IC := .reg false [zv 3 (.mov (.c (.int .i64 0)))]
def q81 : IC := .reg false [zm 5 0, zm 6 3, zv 7 (.sls (.t 5) (some (.t 6)) none), zi 8 (.call (.c (.fn 32 [] [])) [((.t 7), .id), ((.c (.fn 33 [] [])), .id)]), zm 4 8]
def qbaq : IC := .reg false [zm 9 0, zm 10 3, zm 11 4, zv 12 (.bin .add .no (.t 10) (.t 11)), zv 13 (.sls (.t 9) (some (.t 12)) none), zi 14 (.call (.c (.fn 34 [] [])) [((.t 13), .id), ((.c (.str [45, 45])), .id)])]
def qben : IC := .reg false [zm 15 4, zm 16 0, zm 17 3, zm 18 4, zv 19 (.bin .add .no (.t 17) (.t 18)), zv 20 (.sls (.t 16) (some (.t 19)) none), zi 21 (.call (.c (.fn 32 [] [])) [((.t 20), .id), ((.c (.fn 35 [] [])), .id)]), zv 22 (.bin .add .no (.t 15) (.t 21)), zm 4 22]
def qbei : IC := .reg false [zm 23 4, zv 24 (.bin .eql .no (.t 23) (.c (.int .i64 0)))]
def qbfe : IC := .reg false [zm 25 3, zm 2 25]
def qban : IC := .reg false [zm 26 3, zm 27 4, zv 28 (.bin .add .no (.t 26) (.t 27)), zm 3 28]
def qbcm : IC := (.block 1 (.seq q81 (.seq (.seq qbaq (.cond (.t 14) qben .skip)) (.seq (.seq qbei (.cond (.t 24) (.seq qbfe .ret) .skip)) qban))))
def k0cb : IC := (.seq qbfd (.seq q80 (.block 0 (.loop qbcm))))
@[go_sem] def s0cb : List (RV × Co) := [(.t 2, .id)]
theorem c0cb : cFun Try.prog 19 = some (29, k0cb, s0cb) := by kernel_rfl

def qbb5 : IC := .reg false [zi 2 (.alo [(.int .i64 0), (.int .i64 0), (.int .i64 0), (.str [])]), zv 3 (.mov (.c (.int .i64 0)))]
def qbfh : IC := .reg false [zm 9 0, zv 10 (.idx (.t 9) (.c (.int .i64 0))), zm 4 10]
def qbha : IC := .reg false [zm 12 4, zi 13 (.call (.c (.fn 36 [] [])) [((.t 12), .id)]), zm 11 13]
def qbit : IC := .reg false [zm 14 0, zm 15 0, zi 16 (.call (.c (.fn 32 [] [])) [((.t 15), .id), ((.c (.fn 36 [] [])), .id)]), zv 17 (.sls (.t 14) none (some (.t 16))), zm 5 17]
def q95 : IC := .reg false [zm 19 5, zi 20 (.call (.c (.fn 37 [] [])) [((.t 19), .id)]), zm 18 20, zv 21 (.ext (.t 18) 0), zv 22 (.ext (.t 18) 1), zm 6 21, zm 7 22]
def qba0 : IC := .reg false [zm 23 6, zm 24 5, zv 25 (.bld [(.int .i64 0), (.int .i64 0), (.int .i64 0), (.str [])] [(0, 1, (.c (.int .i64 3))), (2, 1, (.t 23)), (3, 1, (.t 24))]), zm 26 7, zn (.st 4 .id (.t 2) (.t 25)), zm 3 26]
def qbed : IC := .reg false [zm 28 4, zi 29 (.call (.c (.fn 38 [] [])) [((.t 28), .id)]), zm 30 29, zw 30 true 31 (.mov (.t 4)), zw 30 true 32 (.bin .neq .no (.t 31) (.c (.int .u8 39))), zv 33 (.pick (.t 30) (.t 32) (.c (.bool false))), zm 27 33]
def qbec : IC := .reg false [zm 34 0, zm 35 0, zi 36 (.call (.c (.fn 32 [] [])) [((.t 35), .id), ((.c (.fn 38 [] [])), .id)]), zv 37 (.sls (.t 34) none (some (.t 36))), zi 38 (.call (.c (.fn 39 [] [])) [((.t 37), .id)]), zn (.st 4 .id (.t 2) (.t 38)), zv 3 (.mov (.c (.int .i64 0)))]
def qbe2 : IC := .reg false [zm 39 0, zi 40 (.call (.c (.fn 40 [] [])) [((.t 39), .id)]), zm 8 40]
def qbca : IC := .reg false [zm 41 8, zv 42 (.bin .eql .no (.t 41) (.c (.int .i64 0)))]
def q6x : IC := .reg false [zv 43 (.bld [(.int .i64 0), (.int .i64 0), (.int .i64 0), (.str [])] []), zn (.st 4 .id (.t 2) (.t 43)), zv 3 (.mov (.c (.int .i64 3)))]
def q3i : IC := .reg false [zm 44 0, zm 45 8, zv 46 (.sls (.t 44) none (some (.t 45))), zv 47 (.bld [(.int .i64 0), (.int .i64 0), (.int .i64 0), (.str [])] [(0, 1, (.c (.int .i64 5))), (3, 1, (.t 46))]), zn (.st 4 .id (.t 2) (.t 47)), zv 3 (.mov (.c (.int .i64 0)))]
def k0bt : IC := (.seq qbb5 (.seq (.seq qbfh (.block 0 (.seq qbha (.cond (.t 11) (.seq qbit (.seq q95 (.seq qba0 .ret))) (.seq qbed (.cond (.t 27) (.seq qbec .ret) .skip)))))) (.seq qbe2 (.seq (.seq qbca (.cond (.t 42) (.seq q6x .ret) .skip)) (.seq q3i .ret)))))
@[go_sem] def s0bt : List (RV × Co) := [(.c true 4 2, .id), (.t 3, .id)]
theorem c0bt : cFun Try.prog 20 = some (48, k0bt, s0bt) := by kernel_rfl

def qbgy : IC := .reg false [zv 2 (.mov (.c (.bool false)))]
def qba6 : IC := .reg false [zm 3 0, zv 4 (.bin .eql .ptr (.t 3) (.c .nilp)), zm 5 4, zw 5 false 6 (.mov (.t 0)), zw 5 false 7 (.nck (.t 6)), zw 5 false 8 (.fad (.t 7) 7), zw 5 false 9 (.ld false 1 (.t 8)), zw 5 false 10 (.bin .neq .no (.t 9) (.c (.int .i64 0))), zv 11 (.pick (.t 5) (.c (.bool true)) (.t 10)), zm 2 11]
def k0bd : IC := (.seq qbgy (.seq qba6 .ret))
@[go_sem] def s0bd : List (RV × Co) := [(.t 2, .id)]
theorem c0bd : cFun Try.prog 21 = some (12, k0bd, s0bd) := by kernel_rfl

def qbck : IC := .reg false [zv 4 (.mov (.c (.bool false)))]
def qbhn : IC := .reg false [zm 5 0, zi 6 (.call (.c (.fn 21 [] [])) [((.t 5), .id)]), zv 7 (.un .not (.t 6))]
def qbf5 : IC := .reg false [zm 8 1, zv 9 (.bin .eql .no (.t 8) (.c (.int .i64 0)))]
def qbeb : IC := .reg false [zv 1 (.mov (.c (.int .i64 1)))]
def qbg1 : IC := .reg false [zm 10 0, zm 11 0, zi 12 (.call (.c (.fn 23 [] [])) [((.t 11), .id)]), zv 13 (.fld false 1 1 (.t 12)), zv 14 (.nck (.t 10)), zv 15 (.fad (.t 14) 8), zn (.st 1 .id (.t 15) (.t 13))]
def qbf7 : IC := .reg false [zm 16 0, zm 17 1, zv 18 (.nck (.t 16)), zv 19 (.fad (.t 18) 7), zn (.st 1 .id (.t 19) (.t 17))]
def qbav : IC := .reg false [zv 4 (.mov (.c (.bool false)))]
def k0bi : IC := (.seq qbck (.seq (.seq qbhn (.cond (.t 7) (.seq (.seq qbf5 (.cond (.t 9) qbeb .skip)) (.seq qbg1 qbf7)) .skip)) (.seq qbav .ret)))
@[go_sem] def s0bi : List (RV × Co) := [(.t 4, .id)]
theorem c0bi : cFun Try.prog 22 = some (20, k0bi, s0bi) := by kernel_rfl

def q9j : IC := .reg false [zi 2 (.alo [(.int .i64 0), (.int .i64 0), (.int .i64 0), (.str [])])]
def qbhs : IC := .reg false [zm 4 0, zi 5 (.call (.c (.fn 21 [] [])) [((.t 4), .id)]), zm 3 5]
def qbi1 : IC := .reg false [zv 6 (.bld [(.int .i64 0), (.int .i64 0), (.int .i64 0), (.str [])] []), zn (.st 4 .id (.t 2) (.t 6))]
def qbf3 : IC := .drw [zp (zm 8 0), zp (zv 9 (.nck (.t 8))), zp (zv 10 (.fad (.t 9) 5)), zp (zv 11 (.ld false 1 (.t 10))), zp (zm 12 0), zp (zv 13 (.nck (.t 12))), zp (zv 14 (.fad (.t 13) 0)), zp (zv 15 (.ld false 1 (.t 14))), zp (zv 16 (.len false (.t 15))), zp (zv 17 (.bin .lss .no (.t 11) (.t 16))), zp (zm 7 17)]
def qbgt : IC := .drw [zp (zm 18 0), zp (zv 19 (.nck (.t 18))), zp (zv 20 (.fad (.t 19) 0)), zp (zv 21 (.ld false 1 (.t 20))), zp (zm 22 0), zp (zv 23 (.nck (.t 22))), zp (zv 24 (.fad (.t 23) 5)), zp (zv 25 (.ld false 1 (.t 24))), zp (zv 26 (.iad 4 (.t 21) (.t 25))), zp (zv 27 (.ld true 4 (.t 26))), (zn (.st 4 .id (.t 2) (.t 27)), [])]
def q99 : IC := .reg false [zm 28 0, zv 29 (.nck (.t 28)), zv 30 (.fad (.t 29) 1), zv 31 (.ld true 4 (.t 30)), zn (.st 4 .id (.t 2) (.t 31))]
def k0be : IC := (.seq q9j (.seq (.block 0 (.seq qbhs (.cond (.t 3) (.seq qbi1 .ret) (.seq qbf3 (.cond (.t 7) (.seq qbgt .ret) .skip))))) (.seq q99 .ret)))
@[go_sem] def s0be : List (RV × Co) := [(.c true 4 2, .id)]
theorem c0be : cFun Try.prog 23 = some (32, k0be, s0be) := by kernel_rfl

def qbb6 : IC := .reg false [zv 4 (.mov (.c (.bool false)))]
def qbf0 : IC := .reg false [zm 5 0, zm 6 1, zi 7 (.call (.c (.fn 41 [] [])) [((.t 5), .id), ((.t 6), .id)]), zv 8 (.un .not (.t 7))]
def q9h : IC := .reg false [zv 4 (.mov (.c (.bool false)))]
def qbaz : IC := .reg false [zm 9 0, zi 10 (.call (.c (.fn 42 [] [])) [((.t 9), .id)])]
def qbga : IC := .reg false [zv 4 (.mov (.c (.bool true)))]
def k0bj : IC := (.seq qbb6 (.seq (.seq qbf0 (.cond (.t 8) (.seq q9h .ret) .skip)) (.seq qbaz (.seq qbga .ret))))
@[go_sem] def s0bj : List (RV × Co) := [(.t 4, .id)]
theorem c0bj : cFun Try.prog 24 = some (11, k0bj, s0bj) := by kernel_rfl

def qblf : IC := .reg false [zi 4 (.alo [(.int .i64 0), (.int .i64 0), (.int .i64 0), (.str []), .nils]), zv 5 (.mov (.c (.bool false)))]
def qbo7 : IC := .reg false [zm 9 0, zi 10 (.call (.c (.fn 23 [] [])) [((.t 9), .id)]), zv 11 (.fld false 1 0 (.t 10)), zv 12 (.bin .neq .no (.t 11) (.c (.int .i64 1)))]
def qbl1 : IC := .reg false [zm 13 0, zm 14 1, zi 15 (.call (.c (.fn 43 [] [])) [((.t 13), .id), ((.t 14), .id)]), zv 16 (.un .not (.t 15))]
def qbpg : IC := .reg false [zv 17 (.bld [(.int .i64 0), (.int .i64 0), (.int .i64 0), (.str []), .nils] []), zn (.st 5 (.agg [.id, .id, .id, .id, (.sl 5)]) (.t 4) (.t 17)), zv 5 (.mov (.c (.bool false)))]
def qbq7 : IC := .reg false [zm 18 0, zi 19 (.call (.c (.fn 10 [] [])) [((.t 18), .id)]), zv 20 (.ext (.t 19) 0), zv 21 (.ext (.t 19) 1), zn (.st 5 (.agg [.id, .id, .id, .id, (.sl 5)]) (.t 4) (.t 20)), zm 5 21]
def qbjw : IC := .reg false [zm 22 0, zi 23 (.call (.c (.fn 42 [] [])) [((.t 22), .id)]), zi 6 (.alo [(.int .i64 0), (.int .i64 0), (.int .i64 0), (.str [])]), zn (.st 4 .id (.t 6) (.t 23))]
def qbi7 : IC := .reg false [zm 25 0, zm 26 1, zi 27 (.call (.c (.fn 25 [] [])) [((.t 25), .id), ((.t 26), .id)]), zm 24 27, zv 28 (.ext (.t 24) 0), zv 29 (.ext (.t 24) 1), zi 7 (.alo [(.int .i64 0), (.int .i64 0), (.int .i64 0), (.str []), .nils]), zn (.st 5 (.agg [.id, .id, .id, .id, (.sl 5)]) (.t 7) (.t 28)), zm 8 29]
def qbng : IC := .reg false [zv 30 (.fad (.t 6) 1), zv 31 (.ld false 1 (.t 30)), zv 32 (.fad (.t 6) 3), zv 33 (.ld false 1 (.t 32)), zv 34 (.ld true 5 (.t 7)), zv 35 (.bsl 5 [((.t 34), (.agg [.id, .id, .id, .id, (.sl 5)]))]), zv 36 (.bld [(.int .i64 0), (.int .i64 0), (.int .i64 0), (.str []), .nils] [(0, 1, (.c (.int .i64 25))), (1, 1, (.t 31)), (3, 1, (.t 33)), (4, 1, (.t 35))]), zm 37 8, zn (.st 5 (.agg [.id, .id, .id, .id, (.sl 5)]) (.t 4) (.t 36)), zm 5 37]
def k0k : IC := (.seq qblf (.seq (.seq qbo7 (.cond (.t 12) (.seq (.seq qbl1 (.cond (.t 16) (.seq qbpg .ret) .skip)) (.seq qbq7 .ret)) .skip)) (.seq qbjw (.seq qbi7 (.seq qbng .ret)))))
@[go_sem] def s0k : List (RV × Co) := [(.c true 5 4, (.agg [.id, .id, .id, .id, (.sl 5)])), (.t 5, .id)]
theorem c0k : cFun Try.prog 25 = some (38, k0k, s0k) := by kernel_rfl

def qbpe : IC := .reg false [zi 2 (.box (.t 0)), zi 3 (.box (.t 1)), zi 4 (.alo [(.int .i64 0), (.int .i64 0), (.int .i64 0), (.str []), .nils]), zv 5 (.mov (.c (.bool false)))]
def qbla : IC := .reg false [zv 10 (.ld false 1 (.t 2)), zv 11 (.mfn 45 [] [(.t 2)]), zi 12 (.call (.c (.fn 44 [] [])) [((.t 10), .id), ((.t 11), .id)]), zm 9 12, zv 13 (.ext (.t 9) 0), zv 14 (.ext (.t 9) 1), zm 6 13, zm 7 14]
def qbj4 : IC := .reg false [zm 15 7, zv 16 (.un .not (.t 15)), zm 17 16, zw 17 false 18 (.ld false 1 (.t 2)), ⟨some (17, false), some 19, .call (.c (.fn 43 [] [])) [((.t 18), .id), ((.c (.str [105, 110])), .id)]⟩, zw 17 false 20 (.un .not (.t 19)), zv 21 (.pick (.t 17) (.c (.bool true)) (.t 20))]
def qbqv : IC := .reg false [zv 22 (.ld true 5 (.t 3)), zn (.st 5 (.agg [.id, .id, .id, .id, (.sl 5)]) (.t 4) (.t 22)), zv 5 (.mov (.c (.bool false)))]
def qbp9 : IC := .reg false [zv 24 (.ld false 1 (.t 2)), zi 25 (.call (.c (.fn 10 [] [])) [((.t 24), .id)]), zm 23 25, zv 26 (.ext (.t 23) 0), zv 27 (.ext (.t 23) 1), zi 8 (.alo [(.int .i64 0), (.int .i64 0), (.int .i64 0), (.str []), .nils]), zn (.st 5 (.agg [.id, .id, .id, .id, (.sl 5)]) (.t 8) (.t 26)), zm 7 27]
def qbkm : IC := .reg false [zm 28 6, zv 29 (.ld true 5 (.t 8)), zv 30 (.bsl 5 [((.t 29), (.agg [.id, .id, .id, .id, (.sl 5)]))]), zi 31 (.app 5 (.agg [(.int .i64 0), (.int .i64 0), (.int .i64 0), (.str []), .nils]) 64 (.sl 5) (.t 28) (.t 30)), zv 32 (.fad (.t 3) 0), zn (.st 1 .id (.t 32) (.c (.int .i64 26))), zv 33 (.fad (.t 3) 4), zn (.st 1 (.sl 5) (.t 33) (.t 31))]
def qbo2 : IC := .reg false [zv 34 (.ld true 5 (.t 3)), zm 35 7, zn (.st 5 (.agg [.id, .id, .id, .id, (.sl 5)]) (.t 4) (.t 34)), zm 5 35]
def k0d : IC := (.seq qbpe (.seq qbla (.seq (.seq qbj4 (.cond (.t 21) (.seq qbqv .ret) .skip)) (.seq qbp9 (.seq qbkm (.seq qbo2 .ret))))))
@[go_sem] def s0d : List (RV × Co) := [(.c true 5 4, (.agg [.id, .id, .id, .id, (.sl 5)])), (.t 5, .id)]
theorem c0d : cFun Try.prog 26 = some (36, k0d, s0d) := by kernel_rfl

def qbpp : IC := .reg false [zi 2 (.box (.t 0)), zi 3 (.box (.t 1)), zi 4 (.alo [(.int .i64 0), (.int .i64 0), (.int .i64 0), (.str []), .nils]), zv 5 (.mov (.c (.bool false)))]
def qbn1 : IC := .reg false [zv 10 (.ld false 1 (.t 2)), zi 11 (.call (.c (.fn 10 [] [])) [((.t 10), .id)]), zm 9 11, zv 12 (.ext (.t 9) 0), zv 13 (.ext (.t 9) 1), zi 6 (.alo [(.int .i64 0), (.int .i64 0), (.int .i64 0), (.str []), .nils]), zn (.st 5 (.agg [.id, .id, .id, .id, (.sl 5)]) (.t 6) (.t 12)), zm 7 13]
def qbjt : IC := .reg false [zm 14 7, zv 15 (.un .not (.t 14)), zm 16 15, zw 16 false 17 (.ld false 1 (.t 2)), ⟨some (16, false), some 18, .call (.c (.fn 43 [] [])) [((.t 17), .id), ((.c (.str [111, 102])), .id)]⟩, zw 16 false 19 (.un .not (.t 18)), zv 20 (.pick (.t 16) (.c (.bool true)) (.t 19))]
def qbks : IC := .reg false [zv 21 (.ld true 5 (.t 3)), zn (.st 5 (.agg [.id, .id, .id, .id, (.sl 5)]) (.t 4) (.t 21)), zv 5 (.mov (.c (.bool false)))]
def qbnr : IC := .reg false [zv 23 (.ld false 1 (.t 2)), zv 24 (.mfn 47 [] [(.t 2)]), zi 25 (.call (.c (.fn 44 [] [])) [((.t 23), .id), ((.t 24), .id)]), zm 22 25, zv 26 (.ext (.t 22) 0), zv 27 (.ext (.t 22) 1), zm 8 26, zm 7 27]
def qbmh : IC := .reg false [zv 28 (.ld true 5 (.t 6)), zv 29 (.bsl 5 [((.t 28), (.agg [.id, .id, .id, .id, (.sl 5)]))]), zm 30 8, zi 31 (.app 5 (.agg [(.int .i64 0), (.int .i64 0), (.int .i64 0), (.str []), .nils]) 64 (.sl 5) (.t 29) (.t 30)), zv 32 (.fad (.t 3) 0), zn (.st 1 .id (.t 32) (.c (.int .i64 27))), zv 33 (.fad (.t 3) 4), zn (.st 1 (.sl 5) (.t 33) (.t 31))]
def qbp5 : IC := .reg false [zv 34 (.ld true 5 (.t 3)), zm 35 7, zn (.st 5 (.agg [.id, .id, .id, .id, (.sl 5)]) (.t 4) (.t 34)), zm 5 35]
def k0e : IC := (.seq qbpp (.seq qbn1 (.seq (.seq qbjt (.cond (.t 20) (.seq qbks .ret) .skip)) (.seq qbnr (.seq qbmh (.seq qbp5 .ret))))))
@[go_sem] def s0e : List (RV × Co) := [(.c true 5 4, (.agg [.id, .id, .id, .id, (.sl 5)])), (.t 5, .id)]
theorem c0e : cFun Try.prog 27 = some (36, k0e, s0e) := by kernel_rfl

def qbo3 : IC := .reg false [zi 3 (.box (.t 1)), zi 4 (.alo [(.int .i64 0), (.int .i64 0), (.int .i64 0), (.str []), .nils]), zv 5 (.mov (.c (.bool false)))]
def qbqy : IC := .reg false [zv 10 (.fad (.t 3) 0), zn (.st 1 .id (.t 10) (.c (.int .i64 28)))]
def qbk0 : IC := .reg false [zv 11 (.bld [(.str []), (.str []), (.str [])] [(0, 1, (.c (.str []))), (1, 1, (.c (.str [116, 104, 101, 110]))), (2, 1, (.c (.str [101, 108, 115, 101])))]), zv 12 (.mov (.c (.int .i64 0)))]
def qboc : IC := .reg false [zv 13 (.bin .lss .no (.t 12) (.c (.int .i64 3)))]
def qbol : IC := .reg false [zv 14 (.ida false 1 3 (.t 11) (.t 12)), zm 7 14]
def qbqq : IC := .reg false [zm 15 7, zv 16 (.bin .neq .no (.t 15) (.c (.str []))), zm 17 16, zw 17 true 18 (.mov (.t 0)), zw 17 true 19 (.mov (.t 7)), ⟨some (17, true), some 20, .call (.c (.fn 43 [] [])) [((.t 18), .id), ((.t 19), .id)]⟩, zw 17 true 21 (.un .not (.t 20)), zv 22 (.pick (.t 17) (.t 21) (.c (.bool false)))]
def qbqd : IC := .reg false [zv 23 (.ld true 5 (.t 3)), zn (.st 5 (.agg [.id, .id, .id, .id, (.sl 5)]) (.t 4) (.t 23)), zv 5 (.mov (.c (.bool false)))]
def qbo4 : IC := .reg false [zm 25 0, zi 26 (.call (.c (.fn 10 [] [])) [((.t 25), .id)]), zm 24 26, zv 27 (.ext (.t 24) 0), zv 28 (.ext (.t 24) 1), zi 8 (.alo [(.int .i64 0), (.int .i64 0), (.int .i64 0), (.str []), .nils]), zn (.st 5 (.agg [.id, .id, .id, .id, (.sl 5)]) (.t 8) (.t 27)), zm 9 28]
def qbp6 : IC := .reg false [zm 29 9, zv 30 (.un .not (.t 29))]
def qbh6 : IC := .reg false [zv 31 (.ld true 5 (.t 3)), zn (.st 5 (.agg [.id, .id, .id, .id, (.sl 5)]) (.t 4) (.t 31)), zv 5 (.mov (.c (.bool false)))]
def qbcw : IC := .reg false [zv 32 (.fad (.t 3) 4), zv 33 (.ld false 1 (.t 32)), zv 34 (.ld true 5 (.t 8)), zv 35 (.bsl 5 [((.t 34), (.agg [.id, .id, .id, .id, (.sl 5)]))]), zi 36 (.app 5 (.agg [(.int .i64 0), (.int .i64 0), (.int .i64 0), (.str []), .nils]) 64 (.sl 5) (.t 33) (.t 35)), zv 37 (.fad (.t 3) 4), zn (.st 1 (.sl 5) (.t 37) (.t 36))]
def qbic : IC := .reg false [zv 38 (.bin .add .no (.t 12) (.c (.int .i64 1))), zm 12 38]
def qbn8 : IC := (.seq qboc (.seq (.cond (.t 13) .skip (.exit 0)) (.seq (.block 1 (.seq qbol (.seq (.seq qbqq (.cond (.t 22) (.seq qbqd .ret) .skip)) (.seq qbo4 (.seq (.seq qbp6 (.cond (.t 30) (.seq qbh6 .ret) .skip)) qbcw))))) qbic)))
def qbf1 : IC := .reg false [zv 39 (.ld true 5 (.t 3)), zn (.st 5 (.agg [.id, .id, .id, .id, (.sl 5)]) (.t 4) (.t 39)), zv 5 (.mov (.c (.bool true)))]
def k0f : IC := (.seq qbo3 (.seq qbqy (.seq (.seq qbk0 (.block 0 (.loop qbn8))) (.seq qbf1 .ret))))
@[go_sem] def s0f : List (RV × Co) := [(.c true 5 4, (.agg [.id, .id, .id, .id, (.sl 5)])), (.t 5, .id)]
theorem c0f : cFun Try.prog 28 = some (40, k0f, s0f) := by kernel_rfl

def qbni : IC := .reg false [zi 2 (.alo [(.int .i64 0), (.int .i64 0), (.int .i64 0), (.str []), .nils]), zv 3 (.mov (.c (.bool false)))]
def qbn0 : IC := .reg false [zm 10 0, zi 11 (.call (.c (.fn 49 [] [])) [((.t 10), .id)]), zm 9 11, zv 12 (.ext (.t 9) 0), zv 13 (.ext (.t 9) 1), zi 4 (.alo [(.int .i64 0), (.int .i64 0), (.int .i64 0), (.str []), .nils]), zn (.st 5 (.agg [.id, .id, .id, .id, (.sl 5)]) (.t 4) (.t 12)), zm 5 13]
def qblt : IC := .reg false [zm 14 5]
def qbp8 : IC := .reg false [zm 16 0, zi 17 (.call (.c (.fn 50 [] [])) [((.t 16), .id)]), zm 15 17, zv 18 (.ext (.t 15) 0), zv 19 (.ext (.t 15) 1), zi 6 (.alo [(.int .i64 0), (.int .i64 0), (.int .i64 0), (.str []), .nils]), zn (.st 5 (.agg [.id, .id, .id, .id, (.sl 5)]) (.t 6) (.t 18)), zm 7 19]
def qbpw : IC := .reg false [zm 20 7, zv 21 (.un .not (.t 20)), zm 22 21, zw 22 true 23 (.mov (.t 0)), ⟨some (22, true), some 24, .call (.c (.fn 41 [] [])) [((.t 23), .id), ((.c (.str [40])), .id)]⟩, zw 22 true 25 (.un .not (.t 24)), zv 26 (.pick (.t 22) (.t 25) (.c (.bool false)))]
def qbqz : IC := .reg false [zi 8 (.alo [(.int .i64 0), (.int .i64 0), (.int .i64 0), (.str []), .nils])]
def qbm5 : IC := .reg false [zm 28 0, zi 29 (.call (.c (.fn 49 [] [])) [((.t 28), .id)]), zm 27 29, zv 30 (.ext (.t 27) 0), zv 31 (.ext (.t 27) 1), zn (.st 5 (.agg [.id, .id, .id, .id, (.sl 5)]) (.t 8) (.t 30)), zm 5 31]
def qbl5 : IC := .reg false [zv 32 (.fad (.t 4) 1), zv 33 (.ld false 1 (.t 32)), zv 34 (.ld true 5 (.t 4)), zv 35 (.ld true 5 (.t 8)), zv 36 (.bsl 5 [((.t 34), (.agg [.id, .id, .id, .id, (.sl 5)])), ((.t 35), (.agg [.id, .id, .id, .id, (.sl 5)]))]), zv 37 (.bld [(.int .i64 0), (.int .i64 0), (.int .i64 0), (.str []), .nils] [(0, 1, (.c (.int .i64 24))), (1, 1, (.t 33)), (4, 1, (.t 36))]), zn (.st 5 (.agg [.id, .id, .id, .id, (.sl 5)]) (.t 4) (.t 37))]
def qbk6 : IC := (.seq (.seq qblt (.cond (.t 14) .skip (.exit 0))) (.block 1 (.seq (.seq qbp8 (.seq qbpw (.cond (.t 26) (.exit 0) .skip))) (.seq qbqz (.seq qbm5 qbl5)))))
def qbiz : IC := .reg false [zv 38 (.ld true 5 (.t 4)), zm 39 5, zn (.st 5 (.agg [.id, .id, .id, .id, (.sl 5)]) (.t 2) (.t 38)), zm 3 39]
def k0o : IC := (.seq qbni (.seq qbn0 (.seq (.block 0 (.loop qbk6)) (.seq qbiz .ret))))
@[go_sem] def s0o : List (RV × Co) := [(.c true 5 2, (.agg [.id, .id, .id, .id, (.sl 5)])), (.t 3, .id)]
theorem c0o : cFun Try.prog 29 = some (40, k0o, s0o) := by kernel_rfl

def qbaj : IC := .reg false [zv 4 (.ld true 5 (.t 1)), zv 5 (.ld false 1 (.t 2)), zm 6 0, zi 7 (.call (.c (.fn 31 [] [])) [((.t 4), (.agg [.id, .id, .id, .id, (.sl 5)])), ((.t 5), .id), ((.t 6), .id)])]
def k0ck : IC := qbaj
@[go_sem] def s0ck : List (RV × Co) := []
theorem c0ck : cFun Try.prog 30 = some (8, k0ck, s0ck) := by kernel_rfl

def qbi3 : IC := .reg false [zi 3 (.box (.t 0)), zv 6 (.mov (.c (.bool false)))]
def qbhm : IC := .reg false [zm 9 2, zm 10 1, zv 11 (.ld true 5 (.t 3)), zi 12 (.call (.t 9) [((.t 10), .id), ((.t 11), (.agg [.id, .id, .id, .id, (.sl 5)]))]), zv 13 (.un .not (.t 12))]
def q8g : IC := .reg false [zv 6 (.mov (.c (.bool false)))]
def qbgq : IC := .reg false [zv 14 (.fad (.t 3) 4), zv 15 (.ld false 1 (.t 14)), zv 16 (.len false (.t 15)), zv 17 (.mov (.c (.int .i64 0)))]
def qbc3 : IC := .reg false [zv 18 (.bin .lss .no (.t 17) (.t 16))]
def qbc4 : IC := .reg false [zv 19 (.iad 5 (.t 15) (.t 17)), zv 20 (.ld true 5 (.t 19)), zi 8 (.alo [(.int .i64 0), (.int .i64 0), (.int .i64 0), (.str []), .nils]), zn (.st 5 (.agg [.id, .id, .id, .id, (.sl 5)]) (.t 8) (.t 20))]
def q88 : IC := .reg false [zv 21 (.ld true 5 (.t 8)), zm 22 1, zv 23 (.bin .add .no (.t 22) (.c (.int .i64 1))), zm 24 2, zi 25 (.call (.c (.fn 31 [] [])) [((.t 21), (.agg [.id, .id, .id, .id, (.sl 5)])), ((.t 23), .id), ((.t 24), .id)]), zv 26 (.un .not (.t 25))]
def qbaf : IC := .reg false [zv 6 (.mov (.c (.bool false)))]
def q9w : IC := .reg false [zv 27 (.bin .add .no (.t 17) (.c (.int .i64 1))), zm 17 27]
def qbc5 : IC := (.seq qbc3 (.seq (.cond (.t 18) .skip (.exit 0)) (.seq (.block 1 (.seq qbc4 (.seq q88 (.cond (.t 26) (.seq qbaf .ret) .skip)))) q9w)))
def q49 : IC := .reg false [zv 6 (.mov (.c (.bool true)))]
def k0cj : IC := (.seq qbi3 (.seq (.seq qbhm (.cond (.t 13) (.seq q8g .ret) .skip)) (.seq (.seq qbgq (.block 0 (.loop qbc5))) (.seq q49 .ret))))
@[go_sem] def s0cj : List (RV × Co) := [(.t 6, .id)]
theorem c0cj : cFun Try.prog 31 = some (28, k0cj, s0cj) := by kernel_rfl

def qbe5 : IC := .reg false [zv 4 (.mov (.c (.int .i64 0)))]
def qbba : IC := .reg false [zm 6 0, zv 7 (.len true (.t 6)), zv 8 (.mov (.c (.int .i64 0)))]
def qbcj : IC := .reg false [zv 9 (.bin .lss .no (.t 8) (.t 7))]
def qbhg : IC := .reg false [zm 10 8, zm 5 10]
def qbcq : IC := .reg false [zm 11 1, zm 12 0, zm 13 5, zv 14 (.idx (.t 12) (.t 13)), zi 15 (.call (.t 11) [((.t 14), .id)]), zv 16 (.un .not (.t 15))]
def qbfz : IC := .reg false [zm 17 5, zm 4 17]
def qbhc : IC := .reg false [zv 18 (.bin .add .no (.t 8) (.c (.int .i64 1))), zm 8 18]
def qbbh : IC := (.seq qbcj (.seq (.cond (.t 9) .skip (.exit 0)) (.seq (.block 1 (.seq qbhg (.seq qbcq (.cond (.t 16) (.seq qbfz .ret) .skip)))) qbhc)))
def qbfw : IC := .reg false [zm 19 0, zv 20 (.len true (.t 19)), zm 4 20]
def k0by : IC := (.seq qbe5 (.seq (.seq qbba (.block 0 (.loop qbbh))) (.seq qbfw .ret)))
@[go_sem] def s0by : List (RV × Co) := [(.t 4, .id)]
theorem c0by : cFun Try.prog 32 = some (21, k0by, s0by) := by kernel_rfl

def qbij : IC := .reg false [zv 2 (.mov (.c (.bool false)))]
def qbbk : IC := .reg false [zm 3 0, zv 4 (.bin .eql .no (.t 3) (.c (.int .u8 9))), zm 5 4, zw 5 false 6 (.mov (.t 0)), zw 5 false 7 (.bin .eql .no (.t 6) (.c (.int .u8 10))), zv 8 (.pick (.t 5) (.c (.bool true)) (.t 7)), zm 9 8, zw 9 false 10 (.mov (.t 0)), zw 9 false 11 (.bin .eql .no (.t 10) (.c (.int .u8 13))), zv 12 (.pick (.t 9) (.c (.bool true)) (.t 11)), zm 13 12, zw 13 false 14 (.mov (.t 0)), zw 13 false 15 (.bin .eql .no (.t 14) (.c (.int .u8 32))), zv 16 (.pick (.t 13) (.c (.bool true)) (.t 15)), zm 2 16]
def k0bw : IC := (.seq qbij (.seq qbbk .ret))
@[go_sem] def s0bw : List (RV × Co) := [(.t 2, .id)]
theorem c0bw : cFun Try.prog 33 = some (17, k0bw, s0bw) := by kernel_rfl

def qbhl : IC := .reg false [zv 4 (.mov (.c (.bool false)))]
def qbbd : IC := .reg false [zm 5 0, zm 6 1, zi 7 (.call (.c (.fn 51 [] [])) [((.t 5), .id), ((.t 6), .id)]), zm 4 7]
def k0ca : IC := (.seq qbhl (.seq qbbd .ret))
@[go_sem] def s0ca : List (RV × Co) := [(.t 4, .id)]
theorem c0ca : cFun Try.prog 34 = some (8, k0ca, s0ca) := by kernel_rfl

def qbdk : IC := .reg false [zv 2 (.mov (.c (.bool false)))]
def qbc6 : IC := .reg false [zm 3 0, zv 4 (.bin .neq .no (.t 3) (.c (.int .u8 10))), zm 2 4]
def k0bx : IC := (.seq qbdk (.seq qbc6 .ret))
@[go_sem] def s0bx : List (RV × Co) := [(.t 2, .id)]
theorem c0bx : cFun Try.prog 35 = some (5, k0bx, s0bx) := by kernel_rfl

def qbif : IC := .reg false [zv 2 (.mov (.c (.bool false)))]
def qbfj : IC := .reg false [zm 3 0, zv 4 (.bin .geq .no (.t 3) (.c (.int .u8 48))), zm 5 4, zw 5 true 6 (.mov (.t 0)), zw 5 true 7 (.bin .leq .no (.t 6) (.c (.int .u8 57))), zv 8 (.pick (.t 5) (.t 7) (.c (.bool false))), zm 2 8]
def k0bu : IC := (.seq qbif (.seq qbfj .ret))
@[go_sem] def s0bu : List (RV × Co) := [(.t 2, .id)]
theorem c0bu : cFun Try.prog 36 = some (9, k0bu, s0bu) := by kernel_rfl

def qbfn : IC := .reg false [zv 2 (.mov (.c (.int .i64 0))), zv 3 (.mov (.c (.int .i64 0)))]
def qbc8 : IC := .reg false [zm 8 0, zv 9 (.len true (.t 8)), zv 10 (.mov (.c (.int .i64 0)))]
def qbi2 : IC := .reg false [zv 11 (.bin .lss .no (.t 10) (.t 9))]
def qbgx : IC := .reg false [zm 12 10, zm 4 12]
def qbek : IC := .reg false [zm 13 0, zm 14 4, zv 15 (.idx (.t 13) (.t 14)), zv 16 (.bin .lss .no (.t 15) (.c (.int .u8 48))), zm 17 16, zw 17 false 18 (.mov (.t 0)), zw 17 false 19 (.mov (.t 4)), zw 17 false 20 (.idx (.t 18) (.t 19)), zw 17 false 21 (.bin .gtr .no (.t 20) (.c (.int .u8 57))), zv 22 (.pick (.t 17) (.c (.bool true)) (.t 21))]
def qbhf : IC := .reg false [zv 2 (.mov (.c (.int .i64 0))), zv 3 (.mov (.c (.int .i64 5)))]
def qbh8 : IC := .reg false [zv 23 (.bin .add .no (.t 10) (.c (.int .i64 1))), zm 10 23]
def q8p : IC := (.seq qbi2 (.seq (.cond (.t 11) .skip (.exit 0)) (.seq (.block 1 (.seq qbgx (.seq qbek (.cond (.t 22) (.seq qbhf .ret) .skip)))) qbh8)))
def qbe3 : IC := .reg false [zm 24 0, zv 25 (.bin .eql .no (.t 24) (.c (.str [])))]
def q4o : IC := .reg false [zv 2 (.mov (.c (.int .i64 0))), zv 3 (.mov (.c (.int .i64 5)))]
def q5j : IC := .reg false [zv 5 (.mov (.c (.int .i64 0))), zv 6 (.mov (.c (.int .i64 0)))]
def q4t : IC := .reg false [zm 26 0, zm 27 6, zv 28 (.idx (.t 26) (.t 27)), zv 29 (.bin .sub .no (.t 28) (.c (.int .u8 48))), zv 30 (.cvi .i64 (.t 29)), zm 7 30]
def q54 : IC := .reg false [zm 31 5, zm 32 7, zv 33 (.bin .sub .no (.c (.int .i64 9223372036854775807)) (.t 32)), zv 34 (.bin .quo .no (.t 33) (.c (.int .i64 10))), zv 35 (.bin .gtr .no (.t 31) (.t 34))]
def q4c : IC := .reg false [zv 2 (.mov (.c (.int .i64 0))), zv 3 (.mov (.c (.int .i64 4)))]
def q4l : IC := .reg false [zm 36 5, zv 37 (.bin .mul .no (.c (.int .i64 10)) (.t 36)), zm 38 7, zv 39 (.bin .add .no (.t 37) (.t 38)), zm 5 39]
def q4i : IC := .reg false [zm 40 6, zv 41 (.bin .add .no (.t 40) (.c (.int .i64 1))), zm 6 41]
def q4v : IC := .reg false [zm 42 6, zm 43 0, zv 44 (.len true (.t 43)), zv 45 (.bin .lss .no (.t 42) (.t 44))]
def q5m : IC := .reg false [zm 46 5, zm 2 46, zv 3 (.mov (.c (.int .i64 0)))]
def k0cc : IC := (.seq qbfn (.scope (.seq (.seq qbc8 (.block 0 (.loop q8p))) (.seq (.seq qbe3 (.cond (.t 25) (.seq q4o .ret) .skip)) (.seq q5j (.seq (.label 0) (.seq q4t (.seq (.seq q54 (.cond (.t 35) (.seq q4c .ret) .skip)) (.seq q4l (.seq (.seq q4i (.seq q4v (.cond (.t 45) (.goto 0) .skip))) (.seq q5m .ret)))))))))))
@[go_sem] def s0cc : List (RV × Co) := [(.t 2, .id), (.t 3, .id)]
theorem c0cc : cFun Try.prog 37 = some (47, k0cc, s0cc) := by kernel_rfl

def qbhp : IC := .reg false [zv 2 (.mov (.c (.bool false)))]
def qbeq : IC := .reg false [zm 3 0, zv 4 (.bin .geq .no (.t 3) (.c (.int .u8 97))), zm 5 4, zw 5 true 6 (.mov (.t 0)), zw 5 true 7 (.bin .leq .no (.t 6) (.c (.int .u8 122))), zv 8 (.pick (.t 5) (.t 7) (.c (.bool false))), zm 9 8, zw 9 false 10 (.mov (.t 0)), zw 9 false 11 (.bin .geq .no (.t 10) (.c (.int .u8 65))), zw 9 false 12 (.mov (.t 11)), zw 12 true 13 (.mov (.t 0)), zw 12 true 14 (.bin .leq .no (.t 13) (.c (.int .u8 90))), zw 9 false 15 (.pick (.t 12) (.t 14) (.c (.bool false))), zv 16 (.pick (.t 9) (.c (.bool true)) (.t 15)), zm 17 16, zw 17 false 18 (.mov (.t 0)), zw 17 false 19 (.bin .eql .no (.t 18) (.c (.int .u8 95))), zv 20 (.pick (.t 17) (.c (.bool true)) (.t 19)), zm 21 20, zw 21 false 22 (.mov (.t 0)), zw 21 false 23 (.bin .eql .no (.t 22) (.c (.int .u8 39))), zv 24 (.pick (.t 21) (.c (.bool true)) (.t 23)), zm 25 24, zw 25 false 26 (.mov (.t 0)), ⟨some (25, false), some 27, .call (.c (.fn 36 [] [])) [((.t 26), .id)]⟩, zv 28 (.pick (.t 25) (.c (.bool true)) (.t 27)), zm 2 28]
def k0bv : IC := (.seq qbhp (.seq qbeq .ret))
@[go_sem] def s0bv : List (RV × Co) := [(.t 2, .id)]
theorem c0bv : cFun Try.prog 38 = some (29, k0bv, s0bv) := by kernel_rfl

def qbiv : IC := .reg false [zi 2 (.alo [(.int .i64 0), (.int .i64 0), (.int .i64 0), (.str [])])]
def qbbi : IC := .reg false [zm 4 0, zv 5 (.bld [(.int .i64 0), (.int .i64 0), (.int .i64 0), (.str [])] [(0, 1, (.c (.int .i64 1))), (3, 1, (.t 4))]), zi 3 (.alo [(.int .i64 0), (.int .i64 0), (.int .i64 0), (.str [])]), zn (.st 4 .id (.t 3) (.t 5))]
def qbhj : IC := .reg false [zm 7 0, zv 8 (.bin .eql .no (.t 7) (.c (.str [95]))), zm 6 8]
def qbcf : IC := .reg false [zv 9 (.fad (.t 3) 0), zn (.st 1 .id (.t 9) (.c (.int .i64 5)))]
def qbff : IC := .reg false [zm 11 0, zi 12 (.call (.c (.fn 52 [] [])) [((.t 11), .id)]), zm 10 12]
def qbfa : IC := .reg false [zv 13 (.fad (.t 3) 0), zn (.st 1 .id (.t 13) (.c (.int .i64 4)))]
def qbgw : IC := .reg false [zm 15 0, zi 16 (.call (.c (.fn 53 [] [])) [((.t 15), .id)]), zm 14 16]
def qbg4 : IC := .reg false [zv 17 (.fad (.t 3) 0), zn (.st 1 .id (.t 17) (.c (.int .i64 2)))]
def qbex : IC := .reg false [zv 18 (.ld true 4 (.t 3)), zn (.st 4 .id (.t 2) (.t 18))]
def k0br : IC := (.seq qbiv (.seq qbbi (.seq (.block 0 (.seq qbhj (.cond (.t 6) qbcf (.seq qbff (.cond (.t 10) qbfa (.seq qbgw (.cond (.t 14) qbg4 .skip))))))) (.seq qbex .ret))))
@[go_sem] def s0br : List (RV × Co) := [(.c true 4 2, .id)]
theorem c0br : cFun Try.prog 39 = some (19, k0br, s0br) := by kernel_rfl

def qbc7 : IC := .reg false [zv 2 (.mov (.c (.int .i64 0)))]
def q8q : IC := .reg false [zv 5 (.bld [(.str []), (.str []), (.str []), (.str []), (.str []), (.str []), (.str []), (.str []), (.str []), (.str []), (.str []), (.str [])] [(0, 1, (.c (.str [45, 62]))), (1, 1, (.c (.str [61, 62]))), (2, 1, (.c (.str [58, 58]))), (3, 1, (.c (.str [40]))), (4, 1, (.c (.str [41]))), (5, 1, (.c (.str [123]))), (6, 1, (.c (.str [125]))), (7, 1, (.c (.str [59]))), (8, 1, (.c (.str [44]))), (9, 1, (.c (.str [61]))), (10, 1, (.c (.str [124]))), (11, 1, (.c (.str [92])))]), zv 6 (.mov (.c (.int .i64 0)))]
def qbbp : IC := .reg false [zv 7 (.bin .lss .no (.t 6) (.c (.int .i64 12)))]
def qbcg : IC := .reg false [zv 8 (.ida false 1 12 (.t 5) (.t 6)), zm 4 8]
def qbby : IC := .reg false [zm 9 0, zm 10 4, zi 11 (.call (.c (.fn 34 [] [])) [((.t 9), .id), ((.t 10), .id)])]
def qbfy : IC := .reg false [zm 12 4, zv 13 (.len true (.t 12)), zm 2 13]
def qbad : IC := .reg false [zv 14 (.bin .add .no (.t 6) (.c (.int .i64 1))), zm 6 14]
def q9b : IC := (.seq qbbp (.seq (.cond (.t 7) .skip (.exit 0)) (.seq (.block 1 (.seq qbcg (.seq qbby (.cond (.t 11) (.seq qbfy .ret) .skip)))) qbad)))
def q8m : IC := .reg false [zv 2 (.mov (.c (.int .i64 0)))]
def k0bs : IC := (.seq qbc7 (.seq (.seq q8q (.block 0 (.loop q9b))) (.seq q8m .ret)))
@[go_sem] def s0bs : List (RV × Co) := [(.t 2, .id)]
theorem c0bs : cFun Try.prog 40 = some (15, k0bs, s0bs) := by kernel_rfl

def q9i : IC := .reg false [zv 4 (.mov (.c (.bool false)))]
def q8t : IC := .reg false [zm 5 0, zi 6 (.call (.c (.fn 21 [] [])) [((.t 5), .id)]), zv 7 (.un .not (.t 6)), zm 8 7, zw 8 true 9 (.mov (.t 0)), ⟨some (8, true), some 10, .call (.c (.fn 23 [] [])) [((.t 9), .id)]⟩, zw 8 true 11 (.mov (.t 1)), zw 8 true 12 (.bsl 1 [((.t 11), .id)]), ⟨some (8, true), some 13, .call (.c (.fn 54 [] [])) [((.t 10), .id), ((.t 12), (.sl 1))]⟩, zv 14 (.pick (.t 8) (.t 13) (.c (.bool false))), zm 4 14]
def k0bh : IC := (.seq q9i (.seq q8t .ret))
@[go_sem] def s0bh : List (RV × Co) := [(.t 4, .id)]
theorem c0bh : cFun Try.prog 41 = some (15, k0bh, s0bh) := by kernel_rfl

def qbdx : IC := .reg false [zi 2 (.alo [(.int .i64 0), (.int .i64 0), (.int .i64 0), (.str [])])]
def qbg9 : IC := .reg false [zm 4 0, zi 5 (.call (.c (.fn 23 [] [])) [((.t 4), .id)]), zi 3 (.alo [(.int .i64 0), (.int .i64 0), (.int .i64 0), (.str [])]), zn (.st 4 .id (.t 3) (.t 5))]
def qbhu : IC := .drw [zp (zm 6 0), (zi 7 (.call (.c (.fn 21 [] [])) [((.t 6), .id)]), []), zp (zv 8 (.un .not (.t 7))), zp (zm 9 8), zp (zw 9 true 10 (.mov (.t 0))), zp (zw 9 true 11 (.nck (.t 10))), zp (zw 9 true 12 (.fad (.t 11) 5)), zp (zw 9 true 13 (.ld false 1 (.t 12))), zp (zw 9 true 14 (.mov (.t 0))), zp (zw 9 true 15 (.nck (.t 14))), zp (zw 9 true 16 (.fad (.t 15) 0)), zp (zw 9 true 17 (.ld false 1 (.t 16))), zp (zw 9 true 18 (.len false (.t 17))), zp (zw 9 true 19 (.bin .lss .no (.t 13) (.t 18))), zp (zv 20 (.pick (.t 9) (.t 19) (.c (.bool false))))]
def q9t : IC := .reg false [zm 21 0, zv 22 (.nck (.t 21)), zv 23 (.fad (.t 22) 5), zv 24 (.ld false 1 (.t 23)), zv 25 (.bin .add .no (.t 24) (.c (.int .i64 1))), zv 26 (.nck (.t 21)), zv 27 (.fad (.t 26) 5), zn (.st 1 .id (.t 27) (.t 25))]
def q9o : IC := .reg false [zv 28 (.ld true 4 (.t 3)), zn (.st 4 .id (.t 2) (.t 28))]
def k0bg : IC := (.seq qbdx (.seq qbg9 (.seq (.seq qbhu (.cond (.t 20) q9t .skip)) (.seq q9o .ret))))
@[go_sem] def s0bg : List (RV × Co) := [(.c true 4 2, .id)]
theorem c0bg : cFun Try.prog 42 = some (29, k0bg, s0bg) := by kernel_rfl

def q9f : IC := .reg false [zv 4 (.mov (.c (.bool false)))]
def qbhe : IC := .reg false [zm 5 0, zm 6 1, zi 7 (.call (.c (.fn 24 [] [])) [((.t 5), .id), ((.t 6), .id)]), zm 8 7, zw 8 false 9 (.mov (.t 0)), ⟨some (8, false), some 10, .call (.c (.fn 22 [] [])) [((.t 9), .id), ((.c (.int .i64 5)), .id)]⟩, zv 11 (.pick (.t 8) (.c (.bool true)) (.t 10)), zm 4 11]
def k0bk : IC := (.seq q9f (.seq qbhe .ret))
@[go_sem] def s0bk : List (RV × Co) := [(.t 4, .id)]
theorem c0bk : cFun Try.prog 43 = some (12, k0bk, s0bk) := by kernel_rfl

def qbp1 : IC := .reg false [zv 4 (.mov (.c .nils)), zv 5 (.mov (.c (.bool false)))]
def qbou : IC := .reg false [zm 9 0, zi 10 (.call (.c (.fn 43 [] [])) [((.t 9), .id), ((.c (.str [123])), .id)]), zv 11 (.un .not (.t 10))]
def qbod : IC := .reg false [zv 4 (.mov (.c .nils)), zv 5 (.mov (.c (.bool false)))]
def qbl6 : IC := .reg false [zv 6 (.mov (.c .nils))]
def qbpz : IC := .reg false [zm 13 1, zi 14 (.call (.t 13) []), zm 12 14, zv 15 (.ext (.t 12) 0), zv 16 (.ext (.t 12) 1), zi 7 (.alo [(.int .i64 0), (.int .i64 0), (.int .i64 0), (.str []), .nils]), zn (.st 5 (.agg [.id, .id, .id, .id, (.sl 5)]) (.t 7) (.t 15)), zm 8 16]
def qblu : IC := .reg false [zm 17 8, zv 18 (.un .not (.t 17))]
def qbka : IC := .reg false [zv 4 (.mov (.c .nils)), zv 5 (.mov (.c (.bool false)))]
def qbos : IC := .reg false [zm 19 6, zv 20 (.ld true 5 (.t 7)), zv 21 (.bsl 5 [((.t 20), (.agg [.id, .id, .id, .id, (.sl 5)]))]), zi 22 (.app 5 (.agg [(.int .i64 0), (.int .i64 0), (.int .i64 0), (.str []), .nils]) 64 (.sl 5) (.t 19) (.t 21)), zm 6 22]
def q73 : IC := .reg false [zm 23 0, zi 24 (.call (.c (.fn 24 [] [])) [((.t 23), .id), ((.c (.str [59])), .id)]), zv 25 (.un .not (.t 24)), zm 26 25, zw 26 false 27 (.mov (.t 0)), ⟨some (26, false), some 28, .call (.c (.fn 41 [] [])) [((.t 27), .id), ((.c (.str [125])), .id)]⟩, zv 29 (.pick (.t 26) (.c (.bool true)) (.t 28))]
def qbae : IC := .reg false [zm 30 6, zm 31 0, zi 32 (.call (.c (.fn 43 [] [])) [((.t 31), .id), ((.c (.str [125])), .id)]), zm 4 30, zm 5 32]
def q75 : IC := (.block 1 (.seq qbpz (.seq (.seq qblu (.cond (.t 18) (.seq qbka .ret) .skip)) (.seq qbos (.seq q73 (.cond (.t 29) (.seq qbae .ret) .skip))))))
def k0j : IC := (.seq qbp1 (.seq (.seq qbou (.cond (.t 11) (.seq qbod .ret) .skip)) (.seq qbl6 (.block 0 (.loop q75)))))
@[go_sem] def s0j : List (RV × Co) := [(.t 4, (.sl 5)), (.t 5, .id)]
theorem c0j : cFun Try.prog 44 = some (33, k0j, s0j) := by kernel_rfl

def qbn4 : IC := .reg false [zi 1 (.alo [(.int .i64 0), (.int .i64 0), (.int .i64 0), (.str []), .nils]), zv 2 (.mov (.c (.bool false)))]
def qbm4 : IC := .reg false [zv 3 (.ld false 1 (.t 0)), zi 4 (.call (.c (.fn 46 [] [])) [((.t 3), .id)]), zv 5 (.ext (.t 4) 0), zv 6 (.ext (.t 4) 1), zn (.st 5 (.agg [.id, .id, .id, .id, (.sl 5)]) (.t 1) (.t 5)), zm 2 6]
def k0h : IC := (.seq qbn4 (.seq qbm4 .ret))
@[go_sem] def s0h : List (RV × Co) := [(.c true 5 1, (.agg [.id, .id, .id, .id, (.sl 5)])), (.t 2, .id)]
theorem c0h : cFun Try.prog 45 = some (7, k0h, s0h) := by kernel_rfl

def qbq1 : IC := .reg false [zi 2 (.alo [(.int .i64 0), (.int .i64 0), (.int .i64 0), (.str []), .nils]), zv 3 (.mov (.c (.bool false)))]
def qble : IC := .reg false [zm 9 0, zi 10 (.call (.c (.fn 55 [] [])) [((.t 9), .id), ((.c (.int .i64 1)), .id)]), zm 8 10, zv 11 (.ext (.t 8) 0), zv 12 (.ext (.t 8) 1), zi 4 (.alo [(.int .i64 0), (.int .i64 0), (.int .i64 0), (.str [])]), zn (.st 4 .id (.t 4) (.t 11)), zm 5 12]
def qbrj : IC := .reg false [zm 13 5, zv 14 (.un .not (.t 13))]
def qbi8 : IC := .reg false [zv 15 (.bld [(.int .i64 0), (.int .i64 0), (.int .i64 0), (.str []), .nils] []), zn (.st 5 (.agg [.id, .id, .id, .id, (.sl 5)]) (.t 2) (.t 15)), zv 3 (.mov (.c (.bool false)))]
def qbkh : IC := .reg false [zv 16 (.fad (.t 4) 1), zv 17 (.ld false 1 (.t 16)), zv 18 (.fad (.t 4) 3), zv 19 (.ld false 1 (.t 18)), zv 20 (.bld [(.int .i64 0), (.int .i64 0), (.int .i64 0), (.str []), .nils] [(0, 1, (.c (.int .i64 31))), (1, 1, (.t 17)), (3, 1, (.t 19))]), zi 6 (.alo [(.int .i64 0), (.int .i64 0), (.int .i64 0), (.str []), .nils]), zn (.st 5 (.agg [.id, .id, .id, .id, (.sl 5)]) (.t 6) (.t 20))]
def qbkt : IC := .reg false [zi 7 (.alo [(.int .i64 0), (.int .i64 0), (.int .i64 0), (.str []), .nils])]
def qbnp : IC := .reg false [zm 21 0, zi 22 (.call (.c (.fn 24 [] [])) [((.t 21), .id), ((.c (.str [58, 58])), .id)])]
def qbq6 : IC := .reg false [zv 23 (.fad (.t 6) 0), zn (.st 1 .id (.t 23) (.c (.int .i64 32)))]
def qbjs : IC := .reg false [zm 25 0, zi 26 (.call (.c (.fn 56 [] [])) [((.t 25), .id)]), zm 24 26, zv 27 (.ext (.t 24) 0), zv 28 (.ext (.t 24) 1), zn (.st 5 (.agg [.id, .id, .id, .id, (.sl 5)]) (.t 7) (.t 27)), zm 5 28]
def qbn3 : IC := .reg false [zm 30 0, zi 31 (.call (.c (.fn 25 [] [])) [((.t 30), .id), ((.c (.str [61])), .id)]), zm 29 31, zv 32 (.ext (.t 29) 0), zv 33 (.ext (.t 29) 1), zn (.st 5 (.agg [.id, .id, .id, .id, (.sl 5)]) (.t 7) (.t 32)), zm 5 33]
def qbal : IC := .reg false [zm 34 5, zv 35 (.un .not (.t 34))]
def qbdh : IC := .reg false [zv 36 (.bld [(.int .i64 0), (.int .i64 0), (.int .i64 0), (.str []), .nils] []), zn (.st 5 (.agg [.id, .id, .id, .id, (.sl 5)]) (.t 2) (.t 36)), zv 3 (.mov (.c (.bool false)))]
def qbcn : IC := .reg false [zv 37 (.ld true 5 (.t 7)), zv 38 (.bsl 5 [((.t 37), (.agg [.id, .id, .id, .id, (.sl 5)]))]), zv 39 (.fad (.t 6) 4), zn (.st 1 (.sl 5) (.t 39) (.t 38))]
def qbft : IC := .reg false [zv 40 (.ld true 5 (.t 6)), zn (.st 5 (.agg [.id, .id, .id, .id, (.sl 5)]) (.t 2) (.t 40)), zv 3 (.mov (.c (.bool true)))]
def k0l : IC := (.seq qbq1 (.seq qble (.seq (.seq qbrj (.cond (.t 14) (.seq qbi8 .ret) .skip)) (.seq qbkh (.seq qbkt (.seq (.seq qbnp (.cond (.t 22) (.seq qbq6 qbjs) qbn3)) (.seq (.seq qbal (.cond (.t 35) (.seq qbdh .ret) .skip)) (.seq qbcn (.seq qbft .ret)))))))))
@[go_sem] def s0l : List (RV × Co) := [(.c true 5 2, (.agg [.id, .id, .id, .id, (.sl 5)])), (.t 3, .id)]
theorem c0l : cFun Try.prog 46 = some (41, k0l, s0l) := by kernel_rfl

def qbl0 : IC := .reg false [zi 1 (.alo [(.int .i64 0), (.int .i64 0), (.int .i64 0), (.str []), .nils]), zv 2 (.mov (.c (.bool false)))]
def qbjx : IC := .reg false [zv 7 (.ld false 1 (.t 0)), zi 8 (.call (.c (.fn 48 [] [])) [((.t 7), .id)]), zm 6 8, zv 9 (.ext (.t 6) 0), zv 10 (.ext (.t 6) 1), zi 3 (.alo [(.int .i64 0), (.int .i64 0), (.int .i64 0), (.str []), .nils]), zn (.st 5 (.agg [.id, .id, .id, .id, (.sl 5)]) (.t 3) (.t 9)), zm 4 10]
def qbkx : IC := .reg false [zm 11 4, zv 12 (.un .not (.t 11)), zm 13 12, zw 13 false 14 (.ld false 1 (.t 0)), ⟨some (13, false), some 15, .call (.c (.fn 43 [] [])) [((.t 14), .id), ((.c (.str [45, 62])), .id)]⟩, zw 13 false 16 (.un .not (.t 15)), zv 17 (.pick (.t 13) (.c (.bool true)) (.t 16))]
def qbpt : IC := .reg false [zv 18 (.ld true 5 (.t 3)), zn (.st 5 (.agg [.id, .id, .id, .id, (.sl 5)]) (.t 1) (.t 18)), zv 2 (.mov (.c (.bool false)))]
def qbjp : IC := .reg false [zv 20 (.ld false 1 (.t 0)), zi 21 (.call (.c (.fn 10 [] [])) [((.t 20), .id)]), zm 19 21, zv 22 (.ext (.t 19) 0), zv 23 (.ext (.t 19) 1), zi 5 (.alo [(.int .i64 0), (.int .i64 0), (.int .i64 0), (.str []), .nils]), zn (.st 5 (.agg [.id, .id, .id, .id, (.sl 5)]) (.t 5) (.t 22)), zm 4 23]
def qbkc : IC := .reg false [zv 24 (.fad (.t 3) 1), zv 25 (.ld false 1 (.t 24)), zv 26 (.ld true 5 (.t 3)), zv 27 (.ld true 5 (.t 5)), zv 28 (.bsl 5 [((.t 26), (.agg [.id, .id, .id, .id, (.sl 5)])), ((.t 27), (.agg [.id, .id, .id, .id, (.sl 5)]))]), zv 29 (.bld [(.int .i64 0), (.int .i64 0), (.int .i64 0), (.str []), .nils] [(0, 1, (.c (.int .i64 15))), (1, 1, (.t 25)), (4, 1, (.t 28))]), zm 30 4, zn (.st 5 (.agg [.id, .id, .id, .id, (.sl 5)]) (.t 1) (.t 29)), zm 2 30]
def k0i : IC := (.seq qbl0 (.seq qbjx (.seq (.seq qbkx (.cond (.t 17) (.seq qbpt .ret) .skip)) (.seq qbjp (.seq qbkc .ret)))))
@[go_sem] def s0i : List (RV × Co) := [(.c true 5 1, (.agg [.id, .id, .id, .id, (.sl 5)])), (.t 2, .id)]
theorem c0i : cFun Try.prog 47 = some (31, k0i, s0i) := by kernel_rfl

def qbrd : IC := .reg false [zi 2 (.alo [(.int .i64 0), (.int .i64 0), (.int .i64 0), (.str []), .nils]), zv 3 (.mov (.c (.bool false)))]
def qbpi : IC := .reg false [zm 8 0, zi 9 (.call (.c (.fn 14 [] [])) [((.t 8), .id)]), zv 10 (.un .not (.t 9))]
def qbnm : IC := .reg false [zv 11 (.bld [(.int .i64 0), (.int .i64 0), (.int .i64 0), (.str []), .nils] []), zn (.st 5 (.agg [.id, .id, .id, .id, (.sl 5)]) (.t 2) (.t 11)), zv 3 (.mov (.c (.bool false)))]
def qbjg : IC := .reg false [zm 12 0, zi 13 (.call (.c (.fn 23 [] [])) [((.t 12), .id)]), zv 14 (.fld false 1 0 (.t 13)), zv 15 (.bin .eql .no (.t 14) (.c (.int .i64 2))), zm 4 15]
def qbki : IC := .reg false [zm 17 0, zi 18 (.call (.c (.fn 57 [] [])) [((.t 17), .id)]), zm 16 18, zv 19 (.ext (.t 16) 0), zv 20 (.ext (.t 16) 1), zi 5 (.alo [(.int .i64 0), (.int .i64 0), (.int .i64 0), (.str []), .nils]), zn (.st 5 (.agg [.id, .id, .id, .id, (.sl 5)]) (.t 5) (.t 19)), zm 6 20]
def qbmt : IC := .reg false [zm 21 6, zm 22 21, zw 22 true 23 (.mov (.t 4)), zv 24 (.pick (.t 22) (.t 23) (.c (.bool false))), zm 25 24, zw 25 true 26 (.mov (.t 0)), ⟨some (25, true), some 27, .call (.c (.fn 58 [] [])) [((.t 26), .id)]⟩, zv 28 (.pick (.t 25) (.t 27) (.c (.bool false)))]
def qbk5 : IC := .reg false [zi 7 (.alo [(.int .i64 0), (.int .i64 0), (.int .i64 0), (.str []), .nils])]
def qbp7 : IC := .reg false [zm 30 0, zi 31 (.call (.c (.fn 57 [] [])) [((.t 30), .id)]), zm 29 31, zv 32 (.ext (.t 29) 0), zv 33 (.ext (.t 29) 1), zn (.st 5 (.agg [.id, .id, .id, .id, (.sl 5)]) (.t 7) (.t 32)), zm 6 33]
def qbk1 : IC := .reg false [zm 34 6]
def qbac : IC := .reg false [zv 35 (.fad (.t 5) 4), zv 36 (.ld false 1 (.t 35)), zv 37 (.ld true 5 (.t 7)), zv 38 (.bsl 5 [((.t 37), (.agg [.id, .id, .id, .id, (.sl 5)]))]), zi 39 (.app 5 (.agg [(.int .i64 0), (.int .i64 0), (.int .i64 0), (.str []), .nils]) 64 (.sl 5) (.t 36) (.t 38)), zv 40 (.fad (.t 5) 4), zn (.st 1 (.sl 5) (.t 40) (.t 39))]
def qbk4 : IC := (.seq (.seq qbmt (.cond (.t 28) .skip (.exit 0))) (.block 1 (.seq qbk5 (.seq qbp7 (.seq qbk1 (.cond (.t 34) qbac .skip))))))
def qbgh : IC := .reg false [zm 41 0, zi 42 (.call (.c (.fn 16 [] [])) [((.t 41), .id)])]
def qbfc : IC := .reg false [zm 43 6, zv 44 (.un .not (.t 43))]
def qbf4 : IC := .reg false [zv 45 (.bld [(.int .i64 0), (.int .i64 0), (.int .i64 0), (.str []), .nils] []), zn (.st 5 (.agg [.id, .id, .id, .id, (.sl 5)]) (.t 2) (.t 45)), zv 3 (.mov (.c (.bool false)))]
def q8e : IC := .reg false [zv 46 (.ld true 5 (.t 5)), zn (.st 5 (.agg [.id, .id, .id, .id, (.sl 5)]) (.t 2) (.t 46)), zv 3 (.mov (.c (.bool true)))]
def k0s : IC := (.seq qbrd (.seq (.seq qbpi (.cond (.t 10) (.seq qbnm .ret) .skip)) (.seq qbjg (.seq qbki (.seq (.block 0 (.loop qbk4)) (.seq qbgh (.seq (.seq qbfc (.cond (.t 44) (.seq qbf4 .ret) .skip)) (.seq q8e .ret))))))))
@[go_sem] def s0s : List (RV × Co) := [(.c true 5 2, (.agg [.id, .id, .id, .id, (.sl 5)])), (.t 3, .id)]
theorem c0s : cFun Try.prog 48 = some (47, k0s, s0s) := by kernel_rfl

def qbp2 : IC := .reg false [zi 2 (.alo [(.int .i64 0), (.int .i64 0), (.int .i64 0), (.str []), .nils]), zv 3 (.mov (.c (.bool false)))]
def qbov : IC := .reg false [zm 9 0, zi 10 (.call (.c (.fn 50 [] [])) [((.t 9), .id)]), zm 8 10, zv 11 (.ext (.t 8) 0), zv 12 (.ext (.t 8) 1), zi 4 (.alo [(.int .i64 0), (.int .i64 0), (.int .i64 0), (.str []), .nils]), zn (.st 5 (.agg [.id, .id, .id, .id, (.sl 5)]) (.t 4) (.t 11)), zm 5 12]
def qbnf : IC := .reg false [zm 13 5]
def qbpb : IC := .reg false [zm 14 0, zi 15 (.call (.c (.fn 42 [] [])) [((.t 14), .id)])]
def qbjy : IC := .reg false [zv 16 (.ld true 5 (.t 4)), zn (.st 5 (.agg [.id, .id, .id, .id, (.sl 5)]) (.t 2) (.t 16)), zv 3 (.mov (.c (.bool true)))]
def qbnq : IC := .reg false [zm 17 0, zi 18 (.call (.c (.fn 41 [] [])) [((.t 17), .id), ((.c (.str [40])), .id)]), zv 19 (.un .not (.t 18))]
def qboq : IC := .reg false [zv 20 (.bld [(.int .i64 0), (.int .i64 0), (.int .i64 0), (.str []), .nils] []), zm 21 0, zi 22 (.call (.c (.fn 22 [] [])) [((.t 21), .id), ((.c (.int .i64 5)), .id)]), zn (.st 5 (.agg [.id, .id, .id, .id, (.sl 5)]) (.t 2) (.t 20)), zm 3 22]
def qbqr : IC := .reg false [zm 23 0, zi 24 (.call (.c (.fn 14 [] [])) [((.t 23), .id)]), zv 25 (.un .not (.t 24))]
def qbml : IC := .reg false [zv 26 (.bld [(.int .i64 0), (.int .i64 0), (.int .i64 0), (.str []), .nils] []), zn (.st 5 (.agg [.id, .id, .id, .id, (.sl 5)]) (.t 2) (.t 26)), zv 3 (.mov (.c (.bool false)))]
def qbqs : IC := .reg false [zm 27 0, zi 28 (.call (.c (.fn 42 [] [])) [((.t 27), .id)])]
def qbee : IC := .reg false [zm 30 0, zi 31 (.call (.c (.fn 10 [] [])) [((.t 30), .id)]), zm 29 31, zv 32 (.ext (.t 29) 0), zv 33 (.ext (.t 29) 1), zi 6 (.alo [(.int .i64 0), (.int .i64 0), (.int .i64 0), (.str []), .nils]), zn (.st 5 (.agg [.id, .id, .id, .id, (.sl 5)]) (.t 6) (.t 32)), zm 7 33]
def qbgi : IC := .reg false [zm 34 7, zv 35 (.un .not (.t 34)), zm 36 35, zw 36 false 37 (.mov (.t 0)), ⟨some (36, false), some 38, .call (.c (.fn 43 [] [])) [((.t 37), .id), ((.c (.str [41])), .id)]⟩, zw 36 false 39 (.un .not (.t 38)), zv 40 (.pick (.t 36) (.c (.bool true)) (.t 39))]
def qbh0 : IC := .reg false [zv 41 (.bld [(.int .i64 0), (.int .i64 0), (.int .i64 0), (.str []), .nils] []), zn (.st 5 (.agg [.id, .id, .id, .id, (.sl 5)]) (.t 2) (.t 41)), zv 3 (.mov (.c (.bool false)))]
def qbfb : IC := .reg false [zm 42 0, zi 43 (.call (.c (.fn 16 [] [])) [((.t 42), .id)])]
def qbie : IC := .reg false [zv 44 (.ld true 5 (.t 6)), zn (.st 5 (.agg [.id, .id, .id, .id, (.sl 5)]) (.t 2) (.t 44)), zv 3 (.mov (.c (.bool true)))]
def k0n : IC := (.seq qbp2 (.seq (.seq qbov (.seq qbnf (.cond (.t 13) (.seq qbpb (.seq qbjy .ret)) .skip))) (.seq (.seq qbnq (.cond (.t 19) (.seq qboq .ret) .skip)) (.seq (.seq qbqr (.cond (.t 25) (.seq qbml .ret) .skip)) (.seq qbqs (.seq qbee (.seq (.seq qbgi (.cond (.t 40) (.seq qbh0 .ret) .skip)) (.seq qbfb (.seq qbie .ret)))))))))
@[go_sem] def s0n : List (RV × Co) := [(.c true 5 2, (.agg [.id, .id, .id, .id, (.sl 5)])), (.t 3, .id)]
theorem c0n : cFun Try.prog 49 = some (45, k0n, s0n) := by kernel_rfl

def qbq2 : IC := .reg false [zi 2 (.alo [(.int .i64 0), (.int .i64 0), (.int .i64 0), (.str []), .nils]), zv 3 (.mov (.c (.bool false)))]
def qbjj : IC := .reg false [zm 5 0, zi 6 (.call (.c (.fn 23 [] [])) [((.t 5), .id)]), zi 4 (.alo [(.int .i64 0), (.int .i64 0), (.int .i64 0), (.str [])]), zn (.st 4 .id (.t 4) (.t 6))]
def qbmb : IC := .reg false [zv 7 (.fad (.t 4) 0), zv 8 (.ld false 1 (.t 7))]
def qbrg : IC := .reg false [zv 10 (.bin .eql .no (.t 8) (.c (.int .i64 1))), zm 9 10]
def qbqc : IC := .reg false [zv 11 (.fad (.t 4) 1), zv 12 (.ld false 1 (.t 11)), zv 13 (.fad (.t 4) 3), zv 14 (.ld false 1 (.t 13)), zv 15 (.bld [(.int .i64 0), (.int .i64 0), (.int .i64 0), (.str []), .nils] [(0, 1, (.c (.int .i64 21))), (1, 1, (.t 12)), (3, 1, (.t 14))]), zn (.st 5 (.agg [.id, .id, .id, .id, (.sl 5)]) (.t 2) (.t 15)), zv 3 (.mov (.c (.bool true)))]
def qbkr : IC := .reg false [zv 17 (.bin .eql .no (.t 8) (.c (.int .i64 2))), zm 16 17]
def qbog : IC := .reg false [zv 18 (.fad (.t 4) 1), zv 19 (.ld false 1 (.t 18)), zv 20 (.fad (.t 4) 3), zv 21 (.ld false 1 (.t 20)), zv 22 (.bld [(.int .i64 0), (.int .i64 0), (.int .i64 0), (.str []), .nils] [(0, 1, (.c (.int .i64 22))), (1, 1, (.t 19)), (3, 1, (.t 21))]), zn (.st 5 (.agg [.id, .id, .id, .id, (.sl 5)]) (.t 2) (.t 22)), zv 3 (.mov (.c (.bool true)))]
def qboa : IC := .reg false [zv 24 (.bin .eql .no (.t 8) (.c (.int .i64 3))), zm 23 24]
def qbq9 : IC := .reg false [zv 25 (.fad (.t 4) 1), zv 26 (.ld false 1 (.t 25)), zv 27 (.fad (.t 4) 2), zv 28 (.ld false 1 (.t 27)), zv 29 (.bld [(.int .i64 0), (.int .i64 0), (.int .i64 0), (.str []), .nils] [(0, 1, (.c (.int .i64 23))), (1, 1, (.t 26)), (2, 1, (.t 28))]), zn (.st 5 (.agg [.id, .id, .id, .id, (.sl 5)]) (.t 2) (.t 29)), zv 3 (.mov (.c (.bool true)))]
def qbmg : IC := .reg false [zv 30 (.bld [(.int .i64 0), (.int .i64 0), (.int .i64 0), (.str []), .nils] []), zn (.st 5 (.agg [.id, .id, .id, .id, (.sl 5)]) (.t 2) (.t 30)), zv 3 (.mov (.c (.bool false)))]
def k0m : IC := (.seq qbq2 (.seq qbjj (.seq (.seq qbmb (.block 0 (.seq qbrg (.cond (.t 9) (.seq qbqc .ret) (.seq qbkr (.cond (.t 16) (.seq qbog .ret) (.seq qboa (.cond (.t 23) (.seq qbq9 .ret) .skip)))))))) (.seq qbmg .ret))))
@[go_sem] def s0m : List (RV × Co) := [(.c true 5 2, (.agg [.id, .id, .id, .id, (.sl 5)])), (.t 3, .id)]
theorem c0m : cFun Try.prog 50 = some (31, k0m, s0m) := by kernel_rfl

def qbg6 : IC := .reg false [zv 4 (.mov (.c (.bool false)))]
def qbdd : IC := .reg false [zm 5 0, zv 6 (.len true (.t 5)), zm 7 1, zv 8 (.len true (.t 7)), zv 9 (.bin .geq .no (.t 6) (.t 8)), zm 10 9, zw 10 true 11 (.mov (.t 0)), zw 10 true 12 (.mov (.t 1)), zw 10 true 13 (.len true (.t 12)), zw 10 true 14 (.sls (.t 11) none (some (.t 13))), zw 10 true 15 (.mov (.t 1)), zw 10 true 16 (.bin .eql .no (.t 14) (.t 15)), zv 17 (.pick (.t 10) (.t 16) (.c (.bool false))), zm 4 17]
def k0bz : IC := (.seq qbg6 (.seq qbdd .ret))
@[go_sem] def s0bz : List (RV × Co) := [(.t 4, .id)]
theorem c0bz : cFun Try.prog 51 = some (18, k0bz, s0bz) := by kernel_rfl

def qbfi : IC := .reg false [zv 2 (.mov (.c (.bool false)))]
def qbau : IC := .reg false [zv 3 (.mov (.c (.bool false)))]
def qbcp : IC := .reg false [zv 6 (.bld [(.str []), (.str []), (.str []), (.str []), (.str []), (.str []), (.str []), (.str []), (.str []), (.str []), (.str [])] [(0, 1, (.c (.str [100, 97, 116, 97]))), (1, 1, (.c (.str [99, 108, 97, 115, 115]))), (2, 1, (.c (.str [105, 110, 115, 116, 97, 110, 99, 101]))), (3, 1, (.c (.str [119, 104, 101, 114, 101]))), (4, 1, (.c (.str [108, 101, 116]))), (5, 1, (.c (.str [105, 110]))), (6, 1, (.c (.str [99, 97, 115, 101]))), (7, 1, (.c (.str [111, 102]))), (8, 1, (.c (.str [105, 102]))), (9, 1, (.c (.str [116, 104, 101, 110]))), (10, 1, (.c (.str [101, 108, 115, 101])))]), zv 7 (.mov (.c (.int .i64 0)))]
def qbbb : IC := .reg false [zv 8 (.bin .lss .no (.t 7) (.c (.int .i64 11)))]
def q9e : IC := .reg false [zv 9 (.ida false 1 11 (.t 6) (.t 7)), zm 5 9]
def qbcb : IC := .reg false [zm 10 5, zm 11 0, zv 12 (.bin .neq .no (.t 10) (.t 11))]
def qbc2 : IC := .reg false [zv 3 (.mov (.c (.bool true)))]
def qbfv : IC := .reg false [zv 13 (.bin .add .no (.t 7) (.c (.int .i64 1))), zm 7 13]
def qber : IC := (.seq qbbb (.seq (.cond (.t 8) .skip (.exit 0)) (.seq (.block 1 (.seq q9e (.seq (.seq qbcb (.cond (.t 12) (.exit 1) .skip)) (.seq qbc2 (.exit 0))))) qbfv)))
def q7d : IC := .reg false [zm 14 3, zm 2 14]
def k0cg : IC := (.seq qbfi (.scope (.seq qbau (.seq (.label 0) (.seq (.seq qbcp (.block 0 (.loop qber))) (.seq q7d .ret))))))
@[go_sem] def s0cg : List (RV × Co) := [(.t 2, .id)]
theorem c0cg : cFun Try.prog 52 = some (15, k0cg, s0cg) := by kernel_rfl

def qbeo : IC := .reg false [zv 2 (.mov (.c (.bool false)))]
def q8d : IC := .reg false [zm 3 0, zv 4 (.bin .neq .no (.t 3) (.c (.str []))), zm 5 4, zw 5 true 6 (.mov (.t 0)), zw 5 true 7 (.idx (.t 6) (.c (.int .i64 0))), ⟨some (5, true), some 8, .call (.c (.fn 59 [] [])) [((.t 7), .id)]⟩, zv 9 (.pick (.t 5) (.t 8) (.c (.bool false))), zm 10 9, zw 10 true 11 (.mov (.t 0)), ⟨some (10, true), some 12, .call (.c (.fn 60 [] [])) [((.t 11), .id)]⟩, zv 13 (.pick (.t 10) (.t 12) (.c (.bool false))), zm 2 13]
def k0ch : IC := (.seq qbeo (.seq q8d .ret))
@[go_sem] def s0ch : List (RV × Co) := [(.t 2, .id)]
theorem c0ch : cFun Try.prog 53 = some (14, k0ch, s0ch) := by kernel_rfl

def qbch : IC := .reg false [zi 2 (.box (.t 0)), zv 4 (.mov (.c (.bool false)))]
def qbbm : IC := .reg false [zv 7 (.fad (.t 2) 0), zv 8 (.ld false 1 (.t 7)), zv 9 (.bin .neq .no (.t 8) (.c (.int .i64 4))), zm 10 9, zw 10 true 11 (.fad (.t 2) 0), zw 10 true 12 (.ld false 1 (.t 11)), zw 10 true 13 (.bin .neq .no (.t 12) (.c (.int .i64 5))), zv 14 (.pick (.t 10) (.t 13) (.c (.bool false)))]
def qbgg : IC := .reg false [zv 4 (.mov (.c (.bool false)))]
def q9v : IC := .reg false [zm 15 1, zv 16 (.len false (.t 15)), zv 17 (.mov (.c (.int .i64 0)))]
def qbem : IC := .reg false [zv 18 (.bin .lss .no (.t 17) (.t 16))]
def qbbw : IC := .reg false [zv 19 (.iad 1 (.t 15) (.t 17)), zv 20 (.ld false 1 (.t 19)), zm 6 20]
def qbey : IC := .reg false [zv 21 (.fad (.t 2) 3), zv 22 (.ld false 1 (.t 21)), zm 23 6, zv 24 (.bin .eql .no (.t 22) (.t 23))]
def qbbs : IC := .reg false [zv 4 (.mov (.c (.bool true)))]
def q87 : IC := .reg false [zv 25 (.bin .add .no (.t 17) (.c (.int .i64 1))), zm 17 25]
def k0bf_l4 : IC := (.seq qbem (.seq (.cond (.t 18) .skip (.exit 0)) (.seq (.block 1 (.seq qbbw (.seq qbey (.cond (.t 24) (.seq qbbs .ret) .skip)))) q87)))
def k0bf_r11 : IC := .reg false [zv 4 (.mov (.c (.bool false)))]
def k0bf : IC := (.seq qbch (.seq (.seq qbbm (.cond (.t 14) (.seq qbgg .ret) .skip)) (.seq (.seq q9v (.block 0 (.loop k0bf_l4))) (.seq k0bf_r11 .ret))))
@[go_sem] def s0bf : List (RV × Co) := [(.t 4, .id)]
theorem c0bf : cFun Try.prog 54 = some (26, k0bf, s0bf) := by kernel_rfl

def q86 : IC := .reg false [zi 4 (.alo [(.int .i64 0), (.int .i64 0), (.int .i64 0), (.str [])]), zv 5 (.mov (.c (.bool false)))]
def qbii : IC := .reg false [zm 6 0, zi 7 (.call (.c (.fn 21 [] [])) [((.t 6), .id)]), zm 8 7, zw 8 false 9 (.mov (.t 0)), ⟨some (8, false), some 10, .call (.c (.fn 23 [] [])) [((.t 9), .id)]⟩, zw 8 false 11 (.fld false 1 0 (.t 10)), zw 8 false 12 (.mov (.t 1)), zw 8 false 13 (.bin .neq .no (.t 11) (.t 12)), zv 14 (.pick (.t 8) (.c (.bool true)) (.t 13))]
def qbbz : IC := .reg false [zv 15 (.bld [(.int .i64 0), (.int .i64 0), (.int .i64 0), (.str [])] []), zm 16 0, zi 17 (.call (.c (.fn 22 [] [])) [((.t 16), .id), ((.c (.int .i64 5)), .id)]), zn (.st 4 .id (.t 4) (.t 15)), zm 5 17]
def qbar : IC := .reg false [zm 18 0, zi 19 (.call (.c (.fn 42 [] [])) [((.t 18), .id)]), zn (.st 4 .id (.t 4) (.t 19)), zv 5 (.mov (.c (.bool true)))]
def k0cn : IC := (.seq q86 (.seq (.seq qbii (.cond (.t 14) (.seq qbbz .ret) .skip)) (.seq qbar .ret)))
@[go_sem] def s0cn : List (RV × Co) := [(.c true 4 4, .id), (.t 5, .id)]
theorem c0cn : cFun Try.prog 55 = some (20, k0cn, s0cn) := by kernel_rfl

def qbo6 : IC := .reg false [zi 2 (.alo [(.int .i64 0), (.int .i64 0), (.int .i64 0), (.str []), .nils]), zv 3 (.mov (.c (.bool false)))]
def qbmk : IC := .reg false [zm 8 0, zi 9 (.call (.c (.fn 23 [] [])) [((.t 8), .id)]), zv 10 (.fld false 1 1 (.t 9)), zv 11 (.bld [(.int .i64 0), (.int .i64 0), (.int .i64 0), (.str []), .nils] [(0, 1, (.c (.int .i64 4))), (1, 1, (.t 10))]), zi 4 (.alo [(.int .i64 0), (.int .i64 0), (.int .i64 0), (.str []), .nils]), zn (.st 5 (.agg [.id, .id, .id, .id, (.sl 5)]) (.t 4) (.t 11))]
def qbji : IC := .reg false [zm 13 0, zi 14 (.call (.c (.fn 61 [] [])) [((.t 13), .id)]), zm 12 14, zv 15 (.ext (.t 12) 0), zv 16 (.ext (.t 12) 1), zm 5 15, zm 6 16]
def qbqk : IC := .reg false [zm 17 6, zv 18 (.un .not (.t 17))]
def qbqx : IC := .reg false [zv 19 (.bld [(.int .i64 0), (.int .i64 0), (.int .i64 0), (.str []), .nils] []), zn (.st 5 (.agg [.id, .id, .id, .id, (.sl 5)]) (.t 2) (.t 19)), zv 3 (.mov (.c (.bool false)))]
def qbq4 : IC := .reg false [zm 21 0, zi 22 (.call (.c (.fn 62 [] [])) [((.t 21), .id)]), zm 20 22, zv 23 (.ext (.t 20) 0), zv 24 (.ext (.t 20) 1), zi 7 (.alo [(.int .i64 0), (.int .i64 0), (.int .i64 0), (.str []), .nils]), zn (.st 5 (.agg [.id, .id, .id, .id, (.sl 5)]) (.t 7) (.t 23)), zm 6 24]
def qbkk : IC := .reg false [zm 25 5, zv 26 (.ld true 5 (.t 7)), zv 27 (.bsl 5 [((.t 26), (.agg [.id, .id, .id, .id, (.sl 5)]))]), zi 28 (.app 5 (.agg [(.int .i64 0), (.int .i64 0), (.int .i64 0), (.str []), .nils]) 64 (.sl 5) (.t 25) (.t 27)), zv 29 (.fad (.t 4) 4), zn (.st 1 (.sl 5) (.t 29) (.t 28))]
def qbnc : IC := .reg false [zm 30 0, zv 31 (.ld true 5 (.t 4)), zm 32 6, zi 33 (.call (.c (.fn 63 [] [])) [((.t 30), .id), ((.t 31), (.agg [.id, .id, .id, .id, (.sl 5)])), ((.t 32), .id)]), zv 34 (.ext (.t 33) 0), zv 35 (.ext (.t 33) 1), zn (.st 5 (.agg [.id, .id, .id, .id, (.sl 5)]) (.t 2) (.t 34)), zm 3 35]
def k0t : IC := (.seq qbo6 (.seq qbmk (.seq qbji (.seq (.seq qbqk (.cond (.t 18) (.seq qbqx .ret) .skip)) (.seq qbq4 (.seq qbkk (.seq qbnc .ret)))))))
@[go_sem] def s0t : List (RV × Co) := [(.c true 5 2, (.agg [.id, .id, .id, .id, (.sl 5)])), (.t 3, .id)]
theorem c0t : cFun Try.prog 56 = some (36, k0t, s0t) := by kernel_rfl

def qbja : IC := .reg false [zi 2 (.alo [(.int .i64 0), (.int .i64 0), (.int .i64 0), (.str []), .nils]), zv 3 (.mov (.c (.bool false)))]
def qbo8 : IC := .reg false [zm 9 0, zi 10 (.call (.c (.fn 64 [] [])) [((.t 9), .id)]), zm 8 10, zv 11 (.ext (.t 8) 0), zv 12 (.ext (.t 8) 1), zi 4 (.alo [(.int .i64 0), (.int .i64 0), (.int .i64 0), (.str []), .nils]), zn (.st 5 (.agg [.id, .id, .id, .id, (.sl 5)]) (.t 4) (.t 11)), zm 5 12]
def qbox : IC := .reg false [zm 13 5]
def qbpu : IC := .reg false [zm 14 0, zi 15 (.call (.c (.fn 42 [] [])) [((.t 14), .id)])]
def qbm2 : IC := .reg false [zv 16 (.ld true 5 (.t 4)), zn (.st 5 (.agg [.id, .id, .id, .id, (.sl 5)]) (.t 2) (.t 16)), zv 3 (.mov (.c (.bool true)))]
def qbmu : IC := .reg false [zm 17 0, zi 18 (.call (.c (.fn 41 [] [])) [((.t 17), .id), ((.c (.str [40])), .id)]), zv 19 (.un .not (.t 18))]
def qbmr : IC := .reg false [zv 20 (.bld [(.int .i64 0), (.int .i64 0), (.int .i64 0), (.str []), .nils] []), zm 21 0, zi 22 (.call (.c (.fn 22 [] [])) [((.t 21), .id), ((.c (.int .i64 5)), .id)]), zn (.st 5 (.agg [.id, .id, .id, .id, (.sl 5)]) (.t 2) (.t 20)), zm 3 22]
def qbj7 : IC := .reg false [zm 23 0, zi 24 (.call (.c (.fn 14 [] [])) [((.t 23), .id)]), zv 25 (.un .not (.t 24))]
def qbj1 : IC := .reg false [zv 26 (.bld [(.int .i64 0), (.int .i64 0), (.int .i64 0), (.str []), .nils] []), zn (.st 5 (.agg [.id, .id, .id, .id, (.sl 5)]) (.t 2) (.t 26)), zv 3 (.mov (.c (.bool false)))]
def qblg : IC := .reg false [zm 27 0, zi 28 (.call (.c (.fn 42 [] [])) [((.t 27), .id)])]
def qbix : IC := .reg false [zm 30 0, zi 31 (.call (.c (.fn 48 [] [])) [((.t 30), .id)]), zm 29 31, zv 32 (.ext (.t 29) 0), zv 33 (.ext (.t 29) 1), zi 6 (.alo [(.int .i64 0), (.int .i64 0), (.int .i64 0), (.str []), .nils]), zn (.st 5 (.agg [.id, .id, .id, .id, (.sl 5)]) (.t 6) (.t 32)), zm 7 33]
def qbap : IC := .reg false [zm 34 7, zv 35 (.un .not (.t 34)), zm 36 35, zw 36 false 37 (.mov (.t 0)), ⟨some (36, false), some 38, .call (.c (.fn 43 [] [])) [((.t 37), .id), ((.c (.str [41])), .id)]⟩, zw 36 false 39 (.un .not (.t 38)), zv 40 (.pick (.t 36) (.c (.bool true)) (.t 39))]
def qbde : IC := .reg false [zv 41 (.bld [(.int .i64 0), (.int .i64 0), (.int .i64 0), (.str []), .nils] []), zn (.st 5 (.agg [.id, .id, .id, .id, (.sl 5)]) (.t 2) (.t 41)), zv 3 (.mov (.c (.bool false)))]
def qbfl : IC := .reg false [zm 42 0, zi 43 (.call (.c (.fn 16 [] [])) [((.t 42), .id)])]
def qbas : IC := .reg false [zv 44 (.ld true 5 (.t 6)), zn (.st 5 (.agg [.id, .id, .id, .id, (.sl 5)]) (.t 2) (.t 44)), zv 3 (.mov (.c (.bool true)))]
def k0r : IC := (.seq qbja (.seq (.seq qbo8 (.seq qbox (.cond (.t 13) (.seq qbpu (.seq qbm2 .ret)) .skip))) (.seq (.seq qbmu (.cond (.t 19) (.seq qbmr .ret) .skip)) (.seq (.seq qbj7 (.cond (.t 25) (.seq qbj1 .ret) .skip)) (.seq qblg (.seq qbix (.seq (.seq qbap (.cond (.t 40) (.seq qbde .ret) .skip)) (.seq qbfl (.seq qbas .ret)))))))))
@[go_sem] def s0r : List (RV × Co) := [(.c true 5 2, (.agg [.id, .id, .id, .id, (.sl 5)])), (.t 3, .id)]
theorem c0r : cFun Try.prog 57 = some (45, k0r, s0r) := by kernel_rfl

def qbkn : IC := .reg false [zv 2 (.mov (.c (.bool false)))]
def qbm6 : IC := .reg false [zm 6 0, zi 7 (.call (.c (.fn 64 [] [])) [((.t 6), .id)]), zm 5 7, zv 8 (.ext (.t 5) 0), zv 9 (.ext (.t 5) 1), zi 3 (.alo [(.int .i64 0), (.int .i64 0), (.int .i64 0), (.str []), .nils]), zn (.st 5 (.agg [.id, .id, .id, .id, (.sl 5)]) (.t 3) (.t 8)), zm 4 9]
def qbnw : IC := .reg false [zm 10 4, zm 11 10, zw 11 false 12 (.mov (.t 0)), ⟨some (11, false), some 13, .call (.c (.fn 41 [] [])) [((.t 12), .id), ((.c (.str [40])), .id)]⟩, zv 14 (.pick (.t 11) (.c (.bool true)) (.t 13)), zm 2 14]
def k0q : IC := (.seq qbkn (.seq qbm6 (.seq qbnw .ret)))
@[go_sem] def s0q : List (RV × Co) := [(.t 2, .id)]
theorem c0q : cFun Try.prog 58 = some (15, k0q, s0q) := by kernel_rfl

def qbgs : IC := .reg false [zv 2 (.mov (.c (.bool false)))]
def qbb1 : IC := .reg false [zm 3 0, zv 4 (.bin .geq .no (.t 3) (.c (.int .u8 65))), zm 5 4, zw 5 true 6 (.mov (.t 0)), zw 5 true 7 (.bin .leq .no (.t 6) (.c (.int .u8 90))), zv 8 (.pick (.t 5) (.t 7) (.c (.bool false))), zm 2 8]
def k0ce : IC := (.seq qbgs (.seq qbb1 .ret))
@[go_sem] def s0ce : List (RV × Co) := [(.t 2, .id)]
theorem c0ce : cFun Try.prog 59 = some (9, k0ce, s0ce) := by kernel_rfl

def qbhh : IC := .reg false [zv 2 (.mov (.c (.bool false)))]
def qbil : IC := .reg false [zm 5 0, zv 6 (.len true (.t 5)), zv 7 (.mov (.c (.int .i64 0)))]
def qba5 : IC := .reg false [zv 8 (.bin .lss .no (.t 7) (.t 6))]
def qbgz : IC := .reg false [zm 9 7, zm 3 9]
def qbdi : IC := .reg false [zm 10 0, zm 11 3, zv 12 (.idx (.t 10) (.t 11)), zm 4 12]
def qbgd : IC := .reg false [zm 13 4, zi 14 (.call (.c (.fn 65 [] [])) [((.t 13), .id)]), zv 15 (.un .not (.t 14)), zm 16 15, zw 16 true 17 (.mov (.t 4)), ⟨some (16, true), some 18, .call (.c (.fn 59 [] [])) [((.t 17), .id)]⟩, zw 16 true 19 (.un .not (.t 18)), zv 20 (.pick (.t 16) (.t 19) (.c (.bool false))), zm 21 20, zw 21 true 22 (.mov (.t 4)), zw 21 true 23 (.bin .lss .no (.t 22) (.c (.int .u8 48))), zw 21 true 24 (.mov (.t 23)), zw 24 false 25 (.mov (.t 4)), zw 24 false 26 (.bin .gtr .no (.t 25) (.c (.int .u8 57))), zw 21 true 27 (.pick (.t 24) (.c (.bool true)) (.t 26)), zv 28 (.pick (.t 21) (.t 27) (.c (.bool false))), zm 29 28, zw 29 true 30 (.mov (.t 4)), zw 29 true 31 (.bin .neq .no (.t 30) (.c (.int .u8 39))), zv 32 (.pick (.t 29) (.t 31) (.c (.bool false)))]
def qbh7 : IC := .reg false [zv 2 (.mov (.c (.bool false)))]
def qbfm : IC := .reg false [zv 33 (.bin .add .no (.t 7) (.c (.int .i64 1))), zm 7 33]
def qbg0 : IC := (.seq qba5 (.seq (.cond (.t 8) .skip (.exit 0)) (.seq (.block 1 (.seq qbgz (.seq qbdi (.seq qbgd (.cond (.t 32) (.seq qbh7 .ret) .skip))))) qbfm)))
def q31 : IC := .reg false [zv 2 (.mov (.c (.bool true)))]
def k0cf : IC := (.seq qbhh (.seq (.seq qbil (.block 0 (.loop qbg0))) (.seq q31 .ret)))
@[go_sem] def s0cf : List (RV × Co) := [(.t 2, .id)]
theorem c0cf : cFun Try.prog 60 = some (34, k0cf, s0cf) := by kernel_rfl

def qbjn : IC := .reg false [zv 2 (.mov (.c .nils)), zv 3 (.mov (.c (.bool false)))]
def qbi6 : IC := .reg false [zm 9 0, zi 10 (.call (.c (.fn 66 [] [])) [((.t 9), .id), ((.c (.str [61, 62])), .id)]), zv 11 (.un .not (.t 10))]
def qbl7 : IC := .reg false [zm 12 0, zi 13 (.call (.c (.fn 67 [] [])) [((.t 12), .id)]), zv 14 (.un .not (.t 13)), zv 2 (.mov (.c .nils)), zm 3 14]
def qbmy : IC := .reg false [zv 4 (.mov (.c .nils))]
def qbnv : IC := .reg false [zm 15 0, zi 16 (.call (.c (.fn 24 [] [])) [((.t 15), .id), ((.c (.str [40])), .id)]), zm 5 16]
def qbny : IC := .reg false [zm 17 5, zv 18 (.un .not (.t 17)), zm 19 18, zw 19 false 20 (.mov (.t 0)), ⟨some (19, false), some 21, .call (.c (.fn 41 [] [])) [((.t 20), .id), ((.c (.str [41])), .id)]⟩, zw 19 false 22 (.un .not (.t 21)), zv 23 (.pick (.t 19) (.c (.bool true)) (.t 22)), zm 6 23]
def qbjh : IC := .reg false [zm 24 6]
def qbpr : IC := .reg false [zm 26 0, zi 27 (.call (.c (.fn 68 [] [])) [((.t 26), .id)]), zm 25 27, zv 28 (.ext (.t 25) 0), zv 29 (.ext (.t 25) 1), zi 7 (.alo [(.int .i64 0), (.int .i64 0), (.int .i64 0), (.str []), .nils]), zn (.st 5 (.agg [.id, .id, .id, .id, (.sl 5)]) (.t 7) (.t 28)), zm 8 29]
def qbps : IC := .reg false [zm 30 8, zv 31 (.un .not (.t 30))]
def qbeh : IC := .reg false [zv 2 (.mov (.c .nils)), zv 3 (.mov (.c (.bool false)))]
def qbb9 : IC := .reg false [zm 32 4, zv 33 (.ld true 5 (.t 7)), zv 34 (.bsl 5 [((.t 33), (.agg [.id, .id, .id, .id, (.sl 5)]))]), zi 35 (.app 5 (.agg [(.int .i64 0), (.int .i64 0), (.int .i64 0), (.str []), .nils]) 64 (.sl 5) (.t 32) (.t 34)), zm 4 35]
def q93 : IC := .reg false [zm 36 5, zm 37 36, zw 37 true 38 (.mov (.t 0)), ⟨some (37, true), some 39, .call (.c (.fn 24 [] [])) [((.t 38), .id), ((.c (.str [44])), .id)]⟩, zv 40 (.pick (.t 37) (.t 39) (.c (.bool false))), zm 6 40]
def qbok : IC := (.seq (.seq qbjh (.cond (.t 24) .skip (.exit 0))) (.block 1 (.seq qbpr (.seq (.seq qbps (.cond (.t 31) (.seq qbeh .ret) .skip)) (.seq qbb9 q93)))))
def qbf2 : IC := .reg false [zm 41 5, zm 42 41, zw 42 true 43 (.mov (.t 0)), ⟨some (42, true), some 44, .call (.c (.fn 43 [] [])) [((.t 43), .id), ((.c (.str [41])), .id)]⟩, zw 42 true 45 (.un .not (.t 44)), zv 46 (.pick (.t 42) (.t 45) (.c (.bool false))), zm 47 46, zw 47 false 48 (.mov (.t 0)), ⟨some (47, false), some 49, .call (.c (.fn 43 [] [])) [((.t 48), .id), ((.c (.str [61, 62])), .id)]⟩, zw 47 false 50 (.un .not (.t 49)), zv 51 (.pick (.t 47) (.c (.bool true)) (.t 50))]
def qbhd : IC := .reg false [zv 2 (.mov (.c .nils)), zv 3 (.mov (.c (.bool false)))]
def q8r : IC := .reg false [zm 52 4, zm 2 52, zv 3 (.mov (.c (.bool true)))]
def k0u : IC := (.seq qbjn (.seq (.seq qbi6 (.cond (.t 11) (.seq qbl7 .ret) .skip)) (.seq qbmy (.seq qbnv (.seq (.seq qbny (.block 0 (.loop qbok))) (.seq (.seq qbf2 (.cond (.t 51) (.seq qbhd .ret) .skip)) (.seq q8r .ret)))))))
@[go_sem] def s0u : List (RV × Co) := [(.t 2, (.sl 5)), (.t 3, .id)]
theorem c0u : cFun Try.prog 61 = some (53, k0u, s0u) := by kernel_rfl

def qbgv : IC := .reg false [zi 2 (.alo [(.int .i64 0), (.int .i64 0), (.int .i64 0), (.str []), .nils]), zv 3 (.mov (.c (.bool false)))]
def qbig : IC := .reg false [zm 8 0, zi 9 (.call (.c (.fn 14 [] [])) [((.t 8), .id)]), zv 10 (.un .not (.t 9))]
def qbcs : IC := .reg false [zv 11 (.bld [(.int .i64 0), (.int .i64 0), (.int .i64 0), (.str []), .nils] []), zn (.st 5 (.agg [.id, .id, .id, .id, (.sl 5)]) (.t 2) (.t 11)), zv 3 (.mov (.c (.bool false)))]
def qbd4 : IC := .reg false [zm 13 0, zi 14 (.call (.c (.fn 69 [] [])) [((.t 13), .id)]), zm 12 14, zv 15 (.ext (.t 12) 0), zv 16 (.ext (.t 12) 1), zi 4 (.alo [(.int .i64 0), (.int .i64 0), (.int .i64 0), (.str []), .nils]), zn (.st 5 (.agg [.id, .id, .id, .id, (.sl 5)]) (.t 4) (.t 15)), zm 5 16]
def qbf6 : IC := .reg false [zm 17 5, zm 18 17, zw 18 true 19 (.mov (.t 0)), ⟨some (18, true), some 20, .call (.c (.fn 24 [] [])) [((.t 19), .id), ((.c (.str [45, 62])), .id)]⟩, zv 21 (.pick (.t 18) (.t 20) (.c (.bool false)))]
def q9z : IC := .reg false [zm 23 0, zi 24 (.call (.c (.fn 62 [] [])) [((.t 23), .id)]), zm 22 24, zv 25 (.ext (.t 22) 0), zv 26 (.ext (.t 22) 1), zi 6 (.alo [(.int .i64 0), (.int .i64 0), (.int .i64 0), (.str []), .nils]), zn (.st 5 (.agg [.id, .id, .id, .id, (.sl 5)]) (.t 6) (.t 25)), zm 7 26]
def qbfu : IC := .reg false [zv 27 (.fad (.t 4) 1), zv 28 (.ld false 1 (.t 27)), zv 29 (.ld true 5 (.t 4)), zv 30 (.ld true 5 (.t 6)), zv 31 (.bsl 5 [((.t 29), (.agg [.id, .id, .id, .id, (.sl 5)])), ((.t 30), (.agg [.id, .id, .id, .id, (.sl 5)]))]), zv 32 (.bld [(.int .i64 0), (.int .i64 0), (.int .i64 0), (.str []), .nils] [(0, 1, (.c (.int .i64 2))), (1, 1, (.t 28)), (3, 1, (.c (.str [45, 62]))), (4, 1, (.t 31))]), zm 33 7, zn (.st 5 (.agg [.id, .id, .id, .id, (.sl 5)]) (.t 4) (.t 32)), zm 5 33]
def qbg5 : IC := .reg false [zm 34 0, zi 35 (.call (.c (.fn 16 [] [])) [((.t 34), .id)])]
def qbg3 : IC := .reg false [zm 36 0, zv 37 (.ld true 5 (.t 4)), zm 38 5, zi 39 (.call (.c (.fn 63 [] [])) [((.t 36), .id), ((.t 37), (.agg [.id, .id, .id, .id, (.sl 5)])), ((.t 38), .id)]), zv 40 (.ext (.t 39) 0), zv 41 (.ext (.t 39) 1), zn (.st 5 (.agg [.id, .id, .id, .id, (.sl 5)]) (.t 2) (.t 40)), zm 3 41]
def k0bb : IC := (.seq qbgv (.seq (.seq qbig (.cond (.t 10) (.seq qbcs .ret) .skip)) (.seq qbd4 (.seq (.seq qbf6 (.cond (.t 21) (.seq q9z qbfu) .skip)) (.seq qbg5 (.seq qbg3 .ret))))))
@[go_sem] def s0bb : List (RV × Co) := [(.c true 5 2, (.agg [.id, .id, .id, .id, (.sl 5)])), (.t 3, .id)]
theorem c0bb : cFun Try.prog 62 = some (42, k0bb, s0bb) := by kernel_rfl

def qbl3 : IC := .reg false [zi 4 (.box (.t 1)), zi 6 (.alo [(.int .i64 0), (.int .i64 0), (.int .i64 0), (.str []), .nils]), zv 7 (.mov (.c (.bool false)))]
def qblr : IC := .reg false [zm 8 2, zv 9 (.un .not (.t 8))]
def qbkw : IC := .reg false [zv 10 (.bld [(.int .i64 0), (.int .i64 0), (.int .i64 0), (.str []), .nils] []), zn (.st 5 (.agg [.id, .id, .id, .id, (.sl 5)]) (.t 6) (.t 10)), zv 7 (.mov (.c (.bool false)))]
def qbjd : IC := .reg false [zv 11 (.ld true 5 (.t 4)), zn (.st 5 (.agg [.id, .id, .id, .id, (.sl 5)]) (.t 6) (.t 11)), zv 7 (.mov (.c (.bool true)))]
def k0x : IC := (.seq qbl3 (.seq (.seq qblr (.cond (.t 9) (.seq qbkw .ret) .skip)) (.seq qbjd .ret)))
@[go_sem] def s0x : List (RV × Co) := [(.c true 5 6, (.agg [.id, .id, .id, .id, (.sl 5)])), (.t 7, .id)]
theorem c0x : cFun Try.prog 63 = some (12, k0x, s0x) := by kernel_rfl

def qboo : IC := .reg false [zi 2 (.alo [(.int .i64 0), (.int .i64 0), (.int .i64 0), (.str []), .nils]), zv 3 (.mov (.c (.bool false)))]
def qblp : IC := .reg false [zm 6 0, zi 7 (.call (.c (.fn 23 [] [])) [((.t 6), .id)]), zi 4 (.alo [(.int .i64 0), (.int .i64 0), (.int .i64 0), (.str [])]), zn (.st 4 .id (.t 4) (.t 7))]
def qbnl : IC := .reg false [zv 8 (.fad (.t 4) 1), zv 9 (.ld false 1 (.t 8)), zv 10 (.fad (.t 4) 3), zv 11 (.ld false 1 (.t 10)), zv 12 (.bld [(.int .i64 0), (.int .i64 0), (.int .i64 0), (.str []), .nils] [(1, 1, (.t 9)), (3, 1, (.t 11))]), zi 5 (.alo [(.int .i64 0), (.int .i64 0), (.int .i64 0), (.str []), .nils]), zn (.st 5 (.agg [.id, .id, .id, .id, (.sl 5)]) (.t 5) (.t 12))]
def qbqa : IC := .reg false [zv 15 (.fad (.t 4) 0), zv 16 (.ld false 1 (.t 15)), zv 17 (.bin .eql .no (.t 16) (.c (.int .i64 1))), zm 14 17]
def qbmi : IC := .reg false [zv 18 (.fad (.t 5) 0), zn (.st 1 .id (.t 18) (.c (.int .i64 11)))]
def qboi : IC := .reg false [zv 20 (.fad (.t 4) 0), zv 21 (.ld false 1 (.t 20)), zv 22 (.bin .eql .no (.t 21) (.c (.int .i64 2))), zm 19 22]
def qbpa : IC := .reg false [zv 23 (.fad (.t 5) 0), zn (.st 1 .id (.t 23) (.c (.int .i64 14)))]
def qbqu : IC := .reg false [zv 25 (.fad (.t 4) 0), zv 26 (.ld false 1 (.t 25)), zv 27 (.bin .eql .no (.t 26) (.c (.int .i64 3))), zm 24 27]
def qbnb : IC := .drw [zp (zv 28 (.fad (.t 4) 2)), zp (zv 29 (.ld false 1 (.t 28))), zp (zv 30 (.fad (.t 5) 0)), (zn (.st 1 .id (.t 30) (.c (.int .i64 13))), [1]), zp (zv 31 (.fad (.t 5) 2)), (zn (.st 1 .id (.t 31) (.t 29)), []), zp (zv 32 (.fad (.t 5) 3)), (zn (.st 1 .id (.t 32) (.c (.str []))), [])]
def qbpq : IC := .reg false [zm 34 0, zi 35 (.call (.c (.fn 41 [] [])) [((.t 34), .id), ((.c (.str [95])), .id)]), zm 33 35]
def q9r : IC := .reg false [zv 36 (.fad (.t 5) 0), zn (.st 1 .id (.t 36) (.c (.int .i64 12))), zv 37 (.fad (.t 5) 3), zn (.st 1 .id (.t 37) (.c (.str [])))]
def qbhk : IC := .reg false [zv 13 (.bld [(.int .i64 0), (.int .i64 0), (.int .i64 0), (.str []), .nils] []), zn (.st 5 (.agg [.id, .id, .id, .id, (.sl 5)]) (.t 2) (.t 13)), zv 3 (.mov (.c (.bool false)))]
def qbis : IC := .reg false [zv 38 (.ld true 5 (.t 5)), zn (.st 5 (.agg [.id, .id, .id, .id, (.sl 5)]) (.t 2) (.t 38)), zv 3 (.mov (.c (.bool true)))]
def k0p : IC := (.seq qboo (.seq qblp (.seq qbnl (.seq (.block 0 (.seq qbqa (.cond (.t 14) qbmi (.seq qboi (.cond (.t 19) qbpa (.seq qbqu (.cond (.t 24) qbnb (.seq qbpq (.cond (.t 33) q9r (.seq qbhk .ret)))))))))) (.seq qbis .ret)))))
@[go_sem] def s0p : List (RV × Co) := [(.c true 5 2, (.agg [.id, .id, .id, .id, (.sl 5)])), (.t 3, .id)]
theorem c0p : cFun Try.prog 64 = some (39, k0p, s0p) := by kernel_rfl

def q97 : IC := .reg false [zv 2 (.mov (.c (.bool false)))]
def q83 : IC := .reg false [zm 3 0, zv 4 (.bin .geq .no (.t 3) (.c (.int .u8 97))), zm 5 4, zw 5 true 6 (.mov (.t 0)), zw 5 true 7 (.bin .leq .no (.t 6) (.c (.int .u8 122))), zv 8 (.pick (.t 5) (.t 7) (.c (.bool false))), zm 9 8, zw 9 false 10 (.mov (.t 0)), zw 9 false 11 (.bin .eql .no (.t 10) (.c (.int .u8 95))), zv 12 (.pick (.t 9) (.c (.bool true)) (.t 11)), zm 2 12]
def k0cd : IC := (.seq q97 (.seq q83 .ret))
@[go_sem] def s0cd : List (RV × Co) := [(.t 2, .id)]
theorem c0cd : cFun Try.prog 65 = some (13, k0cd, s0cd) := by kernel_rfl

def qbhw : IC := .reg false [zv 4 (.mov (.c (.bool false)))]
def q96 : IC := .reg false [zm 8 0, zi 9 (.call (.c (.fn 21 [] [])) [((.t 8), .id)])]
def qbbe : IC := .reg false [zv 4 (.mov (.c (.bool false)))]
def qbcc : IC := .reg false [zv 5 (.mov (.c (.int .i64 0)))]
def qbd2 : IC := .drw [zp (zm 10 0), zp (zv 11 (.nck (.t 10))), zp (zv 12 (.fad (.t 11) 0)), zp (zv 13 (.ld false 1 (.t 12))), zp (zm 14 0), zp (zv 15 (.nck (.t 14))), zp (zv 16 (.fad (.t 15) 5)), zp (zv 17 (.ld false 1 (.t 16))), zp (zv 18 (.slv 4 (.t 13) (some (.t 17)) none none)), zp (zv 19 (.len false (.t 18))), zp (zv 20 (.mov (.c (.int .i64 0))))]
def qbat : IC := .reg false [zv 21 (.bin .lss .no (.t 20) (.t 19))]
def qbfr : IC := .reg false [zv 22 (.iad 4 (.t 18) (.t 20)), zv 23 (.ld true 4 (.t 22)), zi 7 (.alo [(.int .i64 0), (.int .i64 0), (.int .i64 0), (.str [])]), zn (.st 4 .id (.t 7) (.t 23))]
def q8y : IC := .reg false [zv 25 (.ld true 4 (.t 7)), zv 26 (.bsl 1 [((.c (.str [40])), .id), ((.c (.str [123])), .id)]), zi 27 (.call (.c (.fn 54 [] [])) [((.t 25), .id), ((.t 26), (.sl 1))]), zm 24 27]
def qbdy : IC := .reg false [zm 28 5, zv 29 (.bin .add .no (.t 28) (.c (.int .i64 1))), zm 5 29]
def q63 : IC := .reg false [zv 31 (.ld true 4 (.t 7)), zv 32 (.bsl 1 [((.c (.str [41])), .id), ((.c (.str [125])), .id)]), zi 33 (.call (.c (.fn 54 [] [])) [((.t 31), .id), ((.t 32), (.sl 1))]), zm 30 33]
def q5t : IC := .reg false [zm 34 5, zv 35 (.bin .sub .no (.t 34) (.c (.int .i64 1))), zm 5 35]
def q32 : IC := .reg false [zm 36 5, zv 37 (.bin .lss .no (.t 36) (.c (.int .i64 0)))]
def q3y : IC := .reg false [zv 4 (.mov (.c (.bool false)))]
def q5f : IC := .reg false [zm 39 5, zv 40 (.bin .gtr .no (.t 39) (.c (.int .i64 0))), zm 38 40]
def q4w : IC := .reg false [zv 42 (.ld true 4 (.t 7)), zv 43 (.bsl 1 [((.c (.str [59])), .id)]), zi 44 (.call (.c (.fn 54 [] [])) [((.t 42), .id), ((.t 43), (.sl 1))]), zm 41 44]
def q3j : IC := .reg false [zv 4 (.mov (.c (.bool false)))]
def q3l : IC := .reg false [zv 46 (.ld true 4 (.t 7)), zm 47 1, zv 48 (.bsl 1 [((.t 47), .id)]), zi 49 (.call (.c (.fn 54 [] [])) [((.t 46), .id), ((.t 48), (.sl 1))]), zm 45 49]
def q4u : IC := .reg false [zv 4 (.mov (.c (.bool true)))]
def q4s : IC := .reg false [zv 50 (.bin .add .no (.t 20) (.c (.int .i64 1))), zm 20 50]
def qbim : IC := (.seq qbat (.seq (.cond (.t 21) .skip (.exit 0)) (.seq (.block 1 (.seq qbfr (.block 2 (.seq q8y (.cond (.t 24) qbdy (.seq q63 (.cond (.t 30) (.seq q5t (.seq q32 (.cond (.t 37) (.seq q3y .ret) .skip))) (.seq q5f (.cond (.t 38) .skip (.seq q4w (.cond (.t 41) (.seq q3j .ret) (.seq q3l (.cond (.t 45) (.seq q4u .ret) .skip))))))))))))) q4s)))
def q6r : IC := .reg false [zv 4 (.mov (.c (.bool false)))]
def k0co : IC := (.seq qbhw (.seq (.seq q96 (.cond (.t 9) (.seq qbbe .ret) .skip)) (.seq qbcc (.seq (.seq qbd2 (.block 0 (.loop qbim))) (.seq q6r .ret)))))
@[go_sem] def s0co : List (RV × Co) := [(.t 4, .id)]
theorem c0co : cFun Try.prog 66 = some (51, k0co, s0co) := by kernel_rfl

def qbrh : IC := .reg false [zv 2 (.mov (.c (.bool false)))]
def qbjo : IC := .reg false [zm 6 0, zi 7 (.call (.c (.fn 11 [] [])) [((.t 6), .id)]), zm 5 7, zv 8 (.ext (.t 5) 0), zv 9 (.ext (.t 5) 1), zm 3 8, zm 4 9]
def qbrc : IC := .reg false [zm 10 4, zv 11 (.bin .neq .no (.t 10) (.c (.int .i64 0))), zm 12 11, zw 12 true 13 (.mov (.t 4)), zw 12 true 14 (.bin .neq .no (.t 13) (.c (.int .i64 5))), zw 12 true 15 (.mov (.t 14)), zw 15 false 16 (.mov (.t 0)), ⟨some (15, false), some 17, .call (.c (.fn 23 [] [])) [((.t 16), .id)]⟩, zw 15 false 18 (.fld false 1 0 (.t 17)), zw 15 false 19 (.bin .eql .no (.t 18) (.c (.int .i64 0))), zw 12 true 20 (.pick (.t 15) (.c (.bool true)) (.t 19)), zv 21 (.pick (.t 12) (.t 20) (.c (.bool false))), zm 2 21]
def k0v : IC := (.seq qbrh (.seq qbjo (.seq qbrc .ret)))
@[go_sem] def s0v : List (RV × Co) := [(.t 2, .id)]
theorem c0v : cFun Try.prog 67 = some (22, k0v, s0v) := by kernel_rfl

def qblm : IC := .reg false [zi 2 (.alo [(.int .i64 0), (.int .i64 0), (.int .i64 0), (.str []), .nils]), zv 3 (.mov (.c (.bool false)))]
def qbql : IC := .reg false [zm 8 0, zi 9 (.call (.c (.fn 55 [] [])) [((.t 8), .id), ((.c (.int .i64 2)), .id)]), zm 7 9, zv 10 (.ext (.t 7) 0), zv 11 (.ext (.t 7) 1), zi 4 (.alo [(.int .i64 0), (.int .i64 0), (.int .i64 0), (.str [])]), zn (.st 4 .id (.t 4) (.t 10)), zm 5 11]
def qbq5 : IC := .reg false [zm 12 5, zv 13 (.un .not (.t 12))]
def qbn2 : IC := .reg false [zv 14 (.bld [(.int .i64 0), (.int .i64 0), (.int .i64 0), (.str []), .nils] []), zn (.st 5 (.agg [.id, .id, .id, .id, (.sl 5)]) (.t 2) (.t 14)), zv 3 (.mov (.c (.bool false)))]
def qbjc : IC := .reg false [zm 16 0, zi 17 (.call (.c (.fn 70 [] [])) [((.t 16), .id)]), zm 15 17, zv 18 (.ext (.t 15) 0), zv 19 (.ext (.t 15) 1), zi 6 (.alo [(.int .i64 0), (.int .i64 0), (.int .i64 0), (.str []), .nils]), zn (.st 5 (.agg [.id, .id, .id, .id, (.sl 5)]) (.t 6) (.t 18)), zm 5 19]
def qbms : IC := .reg false [zm 20 0, zv 21 (.fad (.t 4) 1), zv 22 (.ld false 1 (.t 21)), zv 23 (.fad (.t 4) 3), zv 24 (.ld false 1 (.t 23)), zv 25 (.ld true 5 (.t 6)), zv 26 (.bsl 5 [((.t 25), (.agg [.id, .id, .id, .id, (.sl 5)]))]), zv 27 (.bld [(.int .i64 0), (.int .i64 0), (.int .i64 0), (.str []), .nils] [(0, 1, (.c (.int .i64 3))), (1, 1, (.t 22)), (3, 1, (.t 24)), (4, 1, (.t 26))]), zm 28 5, zi 29 (.call (.c (.fn 63 [] [])) [((.t 20), .id), ((.t 27), (.agg [.id, .id, .id, .id, (.sl 5)])), ((.t 28), .id)]), zv 30 (.ext (.t 29) 0), zv 31 (.ext (.t 29) 1), zn (.st 5 (.agg [.id, .id, .id, .id, (.sl 5)]) (.t 2) (.t 30)), zm 3 31]
def k0w : IC := (.seq qblm (.seq qbql (.seq (.seq qbq5 (.cond (.t 13) (.seq qbn2 .ret) .skip)) (.seq qbjc (.seq qbms .ret)))))
@[go_sem] def s0w : List (RV × Co) := [(.c true 5 2, (.agg [.id, .id, .id, .id, (.sl 5)])), (.t 3, .id)]
theorem c0w : cFun Try.prog 68 = some (32, k0w, s0w) := by kernel_rfl

def qbc9 : IC := .reg false [zi 2 (.alo [(.int .i64 0), (.int .i64 0), (.int .i64 0), (.str []), .nils]), zv 3 (.mov (.c (.bool false)))]
def qbcy : IC := .reg false [zm 8 0, zi 9 (.call (.c (.fn 23 [] [])) [((.t 8), .id)]), zv 10 (.fld false 1 0 (.t 9)), zv 11 (.bin .neq .no (.t 10) (.c (.int .i64 2)))]
def q9d : IC := .reg false [zm 12 0, zi 13 (.call (.c (.fn 70 [] [])) [((.t 12), .id)]), zv 14 (.ext (.t 13) 0), zv 15 (.ext (.t 13) 1), zn (.st 5 (.agg [.id, .id, .id, .id, (.sl 5)]) (.t 2) (.t 14)), zm 3 15]
def q8o : IC := .reg false [zm 16 0, zi 17 (.call (.c (.fn 42 [] [])) [((.t 16), .id)]), zi 4 (.alo [(.int .i64 0), (.int .i64 0), (.int .i64 0), (.str [])]), zn (.st 4 .id (.t 4) (.t 17))]
def qbio : IC := .reg false [zv 18 (.fad (.t 4) 1), zv 19 (.ld false 1 (.t 18)), zv 20 (.fad (.t 4) 3), zv 21 (.ld false 1 (.t 20)), zv 22 (.bld [(.int .i64 0), (.int .i64 0), (.int .i64 0), (.str []), .nils] [(0, 1, (.c (.int .i64 2))), (1, 1, (.t 19)), (3, 1, (.t 21))]), zi 5 (.alo [(.int .i64 0), (.int .i64 0), (.int .i64 0), (.str []), .nils]), zn (.st 5 (.agg [.id, .id, .id, .id, (.sl 5)]) (.t 5) (.t 22))]
def qbcu : IC := .reg false [zm 23 0, zi 24 (.call (.c (.fn 71 [] [])) [((.t 23), .id)])]
def qbct : IC := .reg false [zm 26 0, zi 27 (.call (.c (.fn 70 [] [])) [((.t 26), .id)]), zm 25 27, zv 28 (.ext (.t 25) 0), zv 29 (.ext (.t 25) 1), zi 6 (.alo [(.int .i64 0), (.int .i64 0), (.int .i64 0), (.str []), .nils]), zn (.st 5 (.agg [.id, .id, .id, .id, (.sl 5)]) (.t 6) (.t 28)), zm 7 29]
def qba7 : IC := .reg false [zm 30 7, zv 31 (.un .not (.t 30))]
def qbaa : IC := .reg false [zv 32 (.bld [(.int .i64 0), (.int .i64 0), (.int .i64 0), (.str []), .nils] []), zn (.st 5 (.agg [.id, .id, .id, .id, (.sl 5)]) (.t 2) (.t 32)), zv 3 (.mov (.c (.bool false)))]
def q6a : IC := .reg false [zv 33 (.fad (.t 5) 4), zv 34 (.ld false 1 (.t 33)), zv 35 (.ld true 5 (.t 6)), zv 36 (.bsl 5 [((.t 35), (.agg [.id, .id, .id, .id, (.sl 5)]))]), zi 37 (.app 5 (.agg [(.int .i64 0), (.int .i64 0), (.int .i64 0), (.str []), .nils]) 64 (.sl 5) (.t 34) (.t 36)), zv 38 (.fad (.t 5) 4), zn (.st 1 (.sl 5) (.t 38) (.t 37))]
def qbdb : IC := (.seq (.seq qbcu (.cond (.t 24) .skip (.exit 0))) (.block 1 (.seq qbct (.seq (.seq qba7 (.cond (.t 31) (.seq qbaa .ret) .skip)) q6a))))
def q4z : IC := .reg false [zv 39 (.ld true 5 (.t 5)), zn (.st 5 (.agg [.id, .id, .id, .id, (.sl 5)]) (.t 2) (.t 39)), zv 3 (.mov (.c (.bool true)))]
def k0ba : IC := (.seq qbc9 (.seq (.seq qbcy (.cond (.t 11) (.seq q9d .ret) .skip)) (.seq q8o (.seq qbio (.seq (.block 0 (.loop qbdb)) (.seq q4z .ret))))))
@[go_sem] def s0ba : List (RV × Co) := [(.c true 5 2, (.agg [.id, .id, .id, .id, (.sl 5)])), (.t 3, .id)]
theorem c0ba : cFun Try.prog 69 = some (40, k0ba, s0ba) := by kernel_rfl

def qbk7 : IC := .reg false [zi 2 (.alo [(.int .i64 0), (.int .i64 0), (.int .i64 0), (.str []), .nils]), zv 3 (.mov (.c (.bool false)))]
def qbnk : IC := .reg false [zm 7 0, zi 8 (.call (.c (.fn 23 [] [])) [((.t 7), .id)]), zi 4 (.alo [(.int .i64 0), (.int .i64 0), (.int .i64 0), (.str [])]), zn (.st 4 .id (.t 4) (.t 8))]
def qbly : IC := .reg false [zv 10 (.fad (.t 4) 0), zv 11 (.ld false 1 (.t 10)), zv 12 (.bin .eql .no (.t 11) (.c (.int .i64 1))), zm 9 12]
def qbj2 : IC := .reg false [zm 13 0, zi 14 (.call (.c (.fn 42 [] [])) [((.t 13), .id)])]
def qbqf : IC := .reg false [zv 15 (.fad (.t 4) 1), zv 16 (.ld false 1 (.t 15)), zv 17 (.fad (.t 4) 3), zv 18 (.ld false 1 (.t 17)), zv 19 (.bld [(.int .i64 0), (.int .i64 0), (.int .i64 0), (.str []), .nils] [(0, 1, (.c (.int .i64 1))), (1, 1, (.t 16)), (3, 1, (.t 18))]), zn (.st 5 (.agg [.id, .id, .id, .id, (.sl 5)]) (.t 2) (.t 19)), zv 3 (.mov (.c (.bool true)))]
def qblx : IC := .reg false [zv 21 (.fad (.t 4) 0), zv 22 (.ld false 1 (.t 21)), zv 23 (.bin .eql .no (.t 22) (.c (.int .i64 2))), zm 20 23]
def qbk9 : IC := .reg false [zm 24 0, zi 25 (.call (.c (.fn 42 [] [])) [((.t 24), .id)])]
def qboe : IC := .reg false [zv 26 (.fad (.t 4) 1), zv 27 (.ld false 1 (.t 26)), zv 28 (.fad (.t 4) 3), zv 29 (.ld false 1 (.t 28)), zv 30 (.bld [(.int .i64 0), (.int .i64 0), (.int .i64 0), (.str []), .nils] [(0, 1, (.c (.int .i64 2))), (1, 1, (.t 27)), (3, 1, (.t 29))]), zn (.st 5 (.agg [.id, .id, .id, .id, (.sl 5)]) (.t 2) (.t 30)), zv 3 (.mov (.c (.bool true)))]
def qbk2 : IC := .reg false [zm 32 0, zi 33 (.call (.c (.fn 41 [] [])) [((.t 32), .id), ((.c (.str [40])), .id)]), zv 34 (.un .not (.t 33)), zm 31 34]
def qbkj : IC := .reg false [zv 35 (.bld [(.int .i64 0), (.int .i64 0), (.int .i64 0), (.str []), .nils] []), zm 36 0, zi 37 (.call (.c (.fn 22 [] [])) [((.t 36), .id), ((.c (.int .i64 5)), .id)]), zn (.st 5 (.agg [.id, .id, .id, .id, (.sl 5)]) (.t 2) (.t 35)), zm 3 37]
def qbdc : IC := .reg false [zm 38 0, zi 39 (.call (.c (.fn 14 [] [])) [((.t 38), .id)]), zv 40 (.un .not (.t 39))]
def qbbt : IC := .reg false [zv 41 (.bld [(.int .i64 0), (.int .i64 0), (.int .i64 0), (.str []), .nils] []), zn (.st 5 (.agg [.id, .id, .id, .id, (.sl 5)]) (.t 2) (.t 41)), zv 3 (.mov (.c (.bool false)))]
def qbbj : IC := .reg false [zm 42 0, zi 43 (.call (.c (.fn 42 [] [])) [((.t 42), .id)])]
def q9c : IC := .reg false [zm 45 0, zi 46 (.call (.c (.fn 62 [] [])) [((.t 45), .id)]), zm 44 46, zv 47 (.ext (.t 44) 0), zv 48 (.ext (.t 44) 1), zi 5 (.alo [(.int .i64 0), (.int .i64 0), (.int .i64 0), (.str []), .nils]), zn (.st 5 (.agg [.id, .id, .id, .id, (.sl 5)]) (.t 5) (.t 47)), zm 6 48]
def qbbr : IC := .reg false [zm 49 6, zm 50 49, zw 50 true 51 (.mov (.t 0)), ⟨some (50, true), some 52, .call (.c (.fn 43 [] [])) [((.t 51), .id), ((.c (.str [41])), .id)]⟩, zv 53 (.pick (.t 50) (.t 52) (.c (.bool false))), zm 6 53]
def qbh4 : IC := .reg false [zm 54 0, zi 55 (.call (.c (.fn 16 [] [])) [((.t 54), .id)])]
def qbab : IC := .reg false [zm 56 0, zv 57 (.ld true 5 (.t 5)), zm 58 6, zi 59 (.call (.c (.fn 63 [] [])) [((.t 56), .id), ((.t 57), (.agg [.id, .id, .id, .id, (.sl 5)])), ((.t 58), .id)]), zv 60 (.ext (.t 59) 0), zv 61 (.ext (.t 59) 1), zn (.st 5 (.agg [.id, .id, .id, .id, (.sl 5)]) (.t 2) (.t 60)), zm 3 61]
def k0z : IC := (.seq qbk7 (.seq (.seq qbnk (.block 0 (.seq qbly (.cond (.t 9) (.seq qbj2 (.seq qbqf .ret)) (.seq qblx (.cond (.t 20) (.seq qbk9 (.seq qboe .ret)) (.seq qbk2 (.cond (.t 31) (.seq qbkj .ret) .skip)))))))) (.seq (.seq qbdc (.cond (.t 40) (.seq qbbt .ret) .skip)) (.seq qbbj (.seq q9c (.seq qbbr (.seq qbh4 (.seq qbab .ret))))))))
@[go_sem] def s0z : List (RV × Co) := [(.c true 5 2, (.agg [.id, .id, .id, .id, (.sl 5)])), (.t 3, .id)]
theorem c0z : cFun Try.prog 70 = some (62, k0z, s0z) := by kernel_rfl

def qbqt : IC := .reg false [zv 2 (.mov (.c (.bool false)))]
def qbpk : IC := .reg false [zm 4 0, zi 5 (.call (.c (.fn 23 [] [])) [((.t 4), .id)]), zv 6 (.fld false 1 0 (.t 5)), zm 3 6]
def qbqb : IC := .reg false [zm 7 3, zv 8 (.bin .eql .no (.t 7) (.c (.int .i64 1))), zm 9 8, zw 9 false 10 (.mov (.t 3)), zw 9 false 11 (.bin .eql .no (.t 10) (.c (.int .i64 2))), zv 12 (.pick (.t 9) (.c (.bool true)) (.t 11)), zm 13 12, zw 13 false 14 (.mov (.t 0)), ⟨some (13, false), some 15, .call (.c (.fn 41 [] [])) [((.t 14), .id), ((.c (.str [40])), .id)]⟩, zv 16 (.pick (.t 13) (.c (.bool true)) (.t 15)), zm 2 16]
def k0y : IC := (.seq qbqt (.seq qbpk (.seq qbqb .ret)))
@[go_sem] def s0y : List (RV × Co) := [(.t 2, .id)]
theorem c0y : cFun Try.prog 71 = some (17, k0y, s0y) := by kernel_rfl

end Go.Proofs.Ytmekebfgmjaenaa
