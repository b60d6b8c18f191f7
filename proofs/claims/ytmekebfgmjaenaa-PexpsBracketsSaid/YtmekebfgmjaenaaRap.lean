/- A text of this proof. -/
import Derived.Test.YtmekebfgmjaenaaRae
import Derived.Test.YtmekebfgmjaenaaProg
/- The compiled code of the functions. -/
namespace Go.Proofs.Ytmekebfgmjaenaa
open Go Go.V
@[reducible] def zm (d s : Nat) : GI := ⟨none, some d, .v (.mov (.t s))⟩
@[reducible] def zv (d : Nat) (x : IV) : GI := ⟨none, some d, .v x⟩
@[reducible] def zi (d : Nat) (i : I) : GI := ⟨none, some d, i⟩
@[reducible] def zn (i : I) : GI := ⟨none, none, i⟩
@[reducible] def zw (j : Nat) (b : Bool) (d : Nat) (x : IV) : GI := ⟨some (j, b), some d, .v x⟩
@[reducible] def zp (g : GI) : GI × List Nat := (g, [])
def qbmk : IC := .reg false [zv 2 (.mov (.c (.bool false)))]
def qblr : IC := .reg false [zm 9 0, zv 10 (.len true (.t 9)), zv 11 (.bin .gtr .no (.t 10) (.c (.int .i64 2000)))]
def qbo6 : IC := .reg false [zi 12 (.call (.c (.fn 5 [] [])) []), zm 2 12]
def qbk1 : IC := .reg false [zm 14 0, zi 15 (.call (.c (.fn 6 [] [])) [((.t 14), .id)]), zm 13 15, zv 16 (.ext (.t 13) 0), zv 17 (.ext (.t 13) 1), zv 18 (.ext (.t 13) 2), zi 3 (.alo [(.int .i64 0), (.int .i64 0), (.int .i64 0), (.str []), .nils]), zn (.st 5 (.agg [.id, .id, .id, .id, (.sl 5)]) (.t 3) (.t 16)), zm 4 17, zm 5 18]
def qbpi : IC := .reg false [zm 20 0, zv 21 (.bin .add .no (.c (.str [40])) (.t 20)), zv 22 (.bin .add .no (.t 21) (.c (.str [10, 41]))), zi 23 (.call (.c (.fn 6 [] [])) [((.t 22), .id)]), zm 19 23, zv 24 (.ext (.t 19) 0), zv 25 (.ext (.t 19) 1), zv 26 (.ext (.t 19) 2), zi 6 (.alo [(.int .i64 0), (.int .i64 0), (.int .i64 0), (.str []), .nils]), zn (.st 5 (.agg [.id, .id, .id, .id, (.sl 5)]) (.t 6) (.t 24)), zm 7 25, zm 8 26]
def qbkf : IC := .reg false [zm 27 5, zv 28 (.bin .neq .no (.t 27) (.c (.int .i64 0))), zm 29 28, zw 29 false 30 (.mov (.t 8)), zw 29 false 31 (.bin .neq .no (.t 30) (.c (.int .i64 0))), zv 32 (.pick (.t 29) (.c (.bool true)) (.t 31)), zm 33 32, zw 33 false 34 (.ld true 5 (.t 3)), zw 33 false 35 (.ld true 5 (.t 6)), ⟨some (33, false), some 36, .call (.c (.fn 7 [] [])) [((.t 34), (.agg [.id, .id, .id, .id, (.sl 5)])), ((.t 35), (.agg [.id, .id, .id, .id, (.sl 5)]))]⟩, zv 37 (.pick (.t 33) (.c (.bool true)) (.t 36)), zm 38 37, zw 38 true 39 (.mov (.t 5)), zw 38 true 40 (.bin .neq .no (.t 39) (.c (.int .i64 0))), zw 38 true 41 (.mov (.t 40)), zw 41 false 42 (.mov (.t 8)), zw 41 false 43 (.bin .eql .no (.t 42) (.c (.int .i64 0))), zw 38 true 44 (.pick (.t 41) (.c (.bool true)) (.t 43)), zw 38 true 45 (.mov (.t 44)), zw 45 false 46 (.mov (.t 8)), zw 45 false 47 (.bin .eql .no (.t 46) (.c (.int .i64 2))), zw 38 true 48 (.pick (.t 45) (.c (.bool true)) (.t 47)), zv 49 (.pick (.t 38) (.t 48) (.c (.bool false))), zm 50 49, ⟨some (50, true), some 51, .call (.c (.fn 5 [] [])) []⟩, zv 52 (.pick (.t 50) (.t 51) (.c (.bool false))), zm 2 52]
def k0a : IC := (.seq qbmk (.seq (.seq qblr (.cond (.t 11) (.seq qbo6 .ret) .skip)) (.seq qbk1 (.seq qbpi (.seq qbkf .ret)))))
@[go_sem] def s0a : List (RV × Co) := [(.t 2, .id)]
theorem c0a : cFun Try.prog 4 = some (53, k0a, s0a) := by kernel_rfl

def qbcg : IC := .reg false [zv 0 (.mov (.c (.bool false)))]
def qbd1 : IC := .reg false [zi 11 (.call (.c (.fn 6 [] [])) [((.c (.str [102, 32, 120, 32, 49])), .id)]), zm 10 11, zv 12 (.ext (.t 10) 0), zv 13 (.ext (.t 10) 1), zv 14 (.ext (.t 10) 2), zi 1 (.alo [(.int .i64 0), (.int .i64 0), (.int .i64 0), (.str []), .nils]), zn (.st 5 (.agg [.id, .id, .id, .id, (.sl 5)]) (.t 1) (.t 12)), zm 2 13, zm 3 14]
def qbcu : IC := .reg false [zi 16 (.call (.c (.fn 6 [] [])) [((.c (.str [92, 32, 120, 32, 121, 32, 45, 62, 32, 108, 101, 116, 32, 123, 32, 103, 32, 122, 32, 61, 32, 122, 59, 32, 125, 32, 105, 110, 32, 99, 97, 115, 101, 32, 120, 32, 111, 102, 32, 123, 32, 75, 32, 97, 32, 45, 62, 32, 105, 102, 32, 97, 32, 116, 104, 101, 110, 32, 121, 32, 101, 108, 115, 101, 32, 50, 32, 125])), .id)]), zm 15 16, zv 17 (.ext (.t 15) 0), zv 18 (.ext (.t 15) 1), zv 19 (.ext (.t 15) 2), zi 4 (.alo [(.int .i64 0), (.int .i64 0), (.int .i64 0), (.str []), .nils]), zn (.st 5 (.agg [.id, .id, .id, .id, (.sl 5)]) (.t 4) (.t 17)), zm 5 18, zm 6 19]
def qba7 : IC := .reg false [zi 21 (.call (.c (.fn 6 [] [])) [((.c (.str [108, 101, 116, 32, 123, 32, 125, 32, 105, 110, 32, 120])), .id)]), zm 20 21, zv 22 (.ext (.t 20) 0), zv 23 (.ext (.t 20) 1), zv 24 (.ext (.t 20) 2), zi 7 (.alo [(.int .i64 0), (.int .i64 0), (.int .i64 0), (.str []), .nils]), zn (.st 5 (.agg [.id, .id, .id, .id, (.sl 5)]) (.t 7) (.t 22)), zm 8 23, zm 9 24]
def qbda : IC := .reg false [zv 25 (.fad (.t 1) 4), zv 26 (.ld false 1 (.t 25)), zv 27 (.len false (.t 26)), zv 28 (.bin .neq .no (.t 27) (.c (.int .i64 2))), zm 29 28, zw 29 false 30 (.fad (.t 4) 4), zw 29 false 31 (.ld false 1 (.t 30)), zw 29 false 32 (.len false (.t 31)), zw 29 false 33 (.bin .neq .no (.t 32) (.c (.int .i64 1))), zv 34 (.pick (.t 29) (.c (.bool true)) (.t 33))]
def qbat : IC := .reg false [zv 0 (.mov (.c (.bool false)))]
def qbdu : IC := .reg false [zv 35 (.fad (.t 1) 0), zv 36 (.ld false 1 (.t 35)), zv 37 (.bin .eql .no (.t 36) (.c (.int .i64 24))), zm 38 37, zw 38 true 39 (.fad (.t 1) 4), zw 38 true 40 (.ld false 1 (.t 39)), zw 38 true 41 (.iad 5 (.t 40) (.c (.int .i64 1))), zw 38 true 42 (.fad (.t 41) 2), zw 38 true 43 (.ld false 1 (.t 42)), zw 38 true 44 (.bin .eql .no (.t 43) (.c (.int .i64 1))), zv 45 (.pick (.t 38) (.t 44) (.c (.bool false))), zm 46 45, zw 46 true 47 (.fad (.t 1) 4), zw 46 true 48 (.ld false 1 (.t 47)), zw 46 true 49 (.iad 5 (.t 48) (.c (.int .i64 0))), zw 46 true 50 (.fad (.t 49) 0), zw 46 true 51 (.ld false 1 (.t 50)), zw 46 true 52 (.bin .eql .no (.t 51) (.c (.int .i64 24))), zv 53 (.pick (.t 46) (.t 52) (.c (.bool false))), zm 54 53, zw 54 true 55 (.mov (.t 2)), zw 54 true 56 (.bin .eql .no (.t 55) (.c (.int .i64 0))), zv 57 (.pick (.t 54) (.t 56) (.c (.bool false))), zm 58 57, zw 58 true 59 (.mov (.t 3)), zw 58 true 60 (.bin .eql .no (.t 59) (.c (.int .i64 0))), zv 61 (.pick (.t 58) (.t 60) (.c (.bool false))), zm 62 61, zw 62 true 63 (.fad (.t 4) 0), zw 62 true 64 (.ld false 1 (.t 63)), zw 62 true 65 (.bin .eql .no (.t 64) (.c (.int .i64 25))), zv 66 (.pick (.t 62) (.t 65) (.c (.bool false))), zm 67 66, zw 67 true 68 (.fad (.t 4) 3), zw 67 true 69 (.ld false 1 (.t 68)), zw 67 true 70 (.bin .eql .no (.t 69) (.c (.str [120]))), zv 71 (.pick (.t 67) (.t 70) (.c (.bool false))), zm 72 71, zw 72 true 73 (.fad (.t 4) 4), zw 72 true 74 (.ld false 1 (.t 73)), zw 72 true 75 (.iad 5 (.t 74) (.c (.int .i64 0))), zw 72 true 76 (.fad (.t 75) 3), zw 72 true 77 (.ld false 1 (.t 76)), zw 72 true 78 (.bin .eql .no (.t 77) (.c (.str [121]))), zv 79 (.pick (.t 72) (.t 78) (.c (.bool false))), zm 80 79, zw 80 true 81 (.mov (.t 6)), zw 80 true 82 (.bin .eql .no (.t 81) (.c (.int .i64 0))), zv 83 (.pick (.t 80) (.t 82) (.c (.bool false))), zm 84 83, zw 84 true 85 (.mov (.t 8)), zw 84 true 86 (.bin .eql .no (.t 85) (.c (.int .i64 6))), zv 87 (.pick (.t 84) (.t 86) (.c (.bool false))), zm 88 87, zw 88 true 89 (.mov (.t 9)), zw 88 true 90 (.bin .eql .no (.t 89) (.c (.int .i64 5))), zv 91 (.pick (.t 88) (.t 90) (.c (.bool false))), zm 0 91]
def k0cp : IC := (.seq qbcg (.seq qbd1 (.seq qbcu (.seq qba7 (.seq (.seq qbda (.cond (.t 34) (.seq qbat .ret) .skip)) (.seq qbdu .ret))))))
@[go_sem] def s0cp : List (RV × Co) := [(.t 0, .id)]
theorem c0cp : cFun Try.prog 5 = some (92, k0cp, s0cp) := by kernel_rfl

def qble : IC := .reg false [zi 2 (.alo [(.int .i64 0), (.int .i64 0), (.int .i64 0), (.str []), .nils]), zv 3 (.mov (.c (.int .i64 0))), zv 4 (.mov (.c (.int .i64 0)))]
def qboe : IC := .reg false [zm 14 0, zi 15 (.call (.c (.fn 8 [] [])) [((.t 14), .id)]), zm 13 15, zv 16 (.ext (.t 13) 0), zv 17 (.ext (.t 13) 1), zv 18 (.ext (.t 13) 2), zm 5 16, zm 6 17, zm 7 18]
def qbk5 : IC := .reg false [zm 19 7, zv 20 (.bin .neq .no (.t 19) (.c (.int .i64 0)))]
def qbjs : IC := .reg false [zv 21 (.bld [(.int .i64 0), (.int .i64 0), (.int .i64 0), (.str []), .nils] []), zm 22 6, zm 23 7, zn (.st 5 (.agg [.id, .id, .id, .id, (.sl 5)]) (.t 2) (.t 21)), zm 3 22, zm 4 23]
def qbid : IC := .reg false [zm 24 5, zi 25 (.call (.c (.fn 9 [] [])) [((.t 24), (.sl 4))]), zm 8 25]
def qbn6 : IC := .reg false [zm 27 8, zi 28 (.call (.c (.fn 10 [] [])) [((.t 27), .id)]), zm 26 28, zv 29 (.ext (.t 26) 0), zv 30 (.ext (.t 26) 1), zi 9 (.alo [(.int .i64 0), (.int .i64 0), (.int .i64 0), (.str []), .nils]), zn (.st 5 (.agg [.id, .id, .id, .id, (.sl 5)]) (.t 9) (.t 29)), zm 10 30]
def qbm1 : IC := .reg false [zm 32 8, zi 33 (.call (.c (.fn 11 [] [])) [((.t 32), .id)]), zm 31 33, zv 34 (.ext (.t 31) 0), zv 35 (.ext (.t 31) 1), zm 11 34, zm 12 35]
def qblo : IC := .reg false [zm 36 12, zv 37 (.bin .neq .no (.t 36) (.c (.int .i64 0)))]
def qbpf : IC := .reg false [zv 38 (.bld [(.int .i64 0), (.int .i64 0), (.int .i64 0), (.str []), .nils] []), zm 39 11, zm 40 12, zn (.st 5 (.agg [.id, .id, .id, .id, (.sl 5)]) (.t 2) (.t 38)), zm 3 39, zm 4 40]
def qblu : IC := .reg false [zv 41 (.ld true 5 (.t 9)), zi 42 (.call (.c (.fn 12 [] [])) [((.t 41), (.agg [.id, .id, .id, .id, (.sl 5)]))]), zv 43 (.bin .gtr .no (.t 42) (.c (.int .i64 100)))]
def q9l : IC := .drw [(zv 44 (.bld [(.int .i64 0), (.int .i64 0), (.int .i64 0), (.str []), .nils] []), []), zp (zv 45 (.fad (.t 9) 1)), zp (zv 46 (.ld false 1 (.t 45))), (zn (.st 5 (.agg [.id, .id, .id, .id, (.sl 5)]) (.t 2) (.t 44)), [2]), zp (zm 3 46), zp (zv 4 (.mov (.c (.int .i64 2))))]
def q83 : IC := .reg false [zv 47 (.ld true 5 (.t 9)), zn (.st 5 (.agg [.id, .id, .id, .id, (.sl 5)]) (.t 2) (.t 47)), zv 3 (.mov (.c (.int .i64 0))), zv 4 (.mov (.c (.int .i64 0)))]
def k0c : IC := (.seq qble (.seq qboe (.seq (.seq qbk5 (.cond (.t 20) (.seq qbjs .ret) .skip)) (.seq qbid (.seq qbn6 (.seq (.seq qbm1 (.seq qblo (.cond (.t 37) (.seq qbpf .ret) .skip))) (.seq (.seq qblu (.cond (.t 43) (.seq q9l .ret) .skip)) (.seq q83 .ret))))))))
@[go_sem] def s0c : List (RV × Co) := [(.c true 5 2, (.agg [.id, .id, .id, .id, (.sl 5)])), (.t 3, .id), (.t 4, .id)]
theorem c0c : cFun Try.prog 6 = some (48, k0c, s0c) := by kernel_rfl

def q8n : IC := .reg false [zi 2 (.box (.t 0)), zi 3 (.box (.t 1)), zv 4 (.mov (.c (.bool false)))]
def qbc0 : IC := .reg false [zv 6 (.fad (.t 2) 0), zv 7 (.ld false 1 (.t 6)), zv 8 (.fad (.t 3) 0), zv 9 (.ld false 1 (.t 8)), zv 10 (.bin .neq .no (.t 7) (.t 9)), zm 11 10, zw 11 false 12 (.fad (.t 2) 3), zw 11 false 13 (.ld false 1 (.t 12)), zw 11 false 14 (.fad (.t 3) 3), zw 11 false 15 (.ld false 1 (.t 14)), zw 11 false 16 (.bin .neq .no (.t 13) (.t 15)), zv 17 (.pick (.t 11) (.c (.bool true)) (.t 16)), zm 18 17, zw 18 false 19 (.fad (.t 2) 2), zw 18 false 20 (.ld false 1 (.t 19)), zw 18 false 21 (.fad (.t 3) 2), zw 18 false 22 (.ld false 1 (.t 21)), zw 18 false 23 (.bin .neq .no (.t 20) (.t 22)), zv 24 (.pick (.t 18) (.c (.bool true)) (.t 23)), zm 25 24, zw 25 false 26 (.fad (.t 2) 4), zw 25 false 27 (.ld false 1 (.t 26)), zw 25 false 28 (.len false (.t 27)), zw 25 false 29 (.fad (.t 3) 4), zw 25 false 30 (.ld false 1 (.t 29)), zw 25 false 31 (.len false (.t 30)), zw 25 false 32 (.bin .neq .no (.t 28) (.t 31)), zv 33 (.pick (.t 25) (.c (.bool true)) (.t 32))]
def qbe5 : IC := .reg false [zv 4 (.mov (.c (.bool false)))]
def q7r : IC := .reg false [zv 34 (.fad (.t 2) 4), zv 35 (.ld false 1 (.t 34)), zv 36 (.len false (.t 35)), zv 37 (.mov (.c (.int .i64 0)))]
def qbgi : IC := .reg false [zv 38 (.bin .lss .no (.t 37) (.t 36))]
def qbgc : IC := .reg false [zm 39 37, zm 5 39]
def q74 : IC := .drw [zp (zv 40 (.fad (.t 2) 4)), zp (zv 41 (.ld false 1 (.t 40))), zp (zm 42 5), zp (zv 43 (.iad 5 (.t 41) (.t 42))), zp (zv 44 (.ld true 5 (.t 43))), zp (zv 45 (.fad (.t 3) 4)), zp (zv 46 (.ld false 1 (.t 45))), zp (zm 47 5), zp (zv 48 (.iad 5 (.t 46) (.t 47))), zp (zv 49 (.ld true 5 (.t 48))), (zi 50 (.call (.c (.fn 7 [] [])) [((.t 44), (.agg [.id, .id, .id, .id, (.sl 5)])), ((.t 49), (.agg [.id, .id, .id, .id, (.sl 5)]))]), []), zp (zv 51 (.un .not (.t 50)))]
def q9f : IC := .reg false [zv 4 (.mov (.c (.bool false)))]
def qbh5 : IC := .reg false [zv 52 (.bin .add .no (.t 37) (.c (.int .i64 1))), zm 37 52]
def qbhv : IC := (.seq qbgi (.seq (.cond (.t 38) .skip (.exit 0)) (.seq (.block 1 (.seq qbgc (.seq q74 (.cond (.t 51) (.seq q9f .ret) .skip)))) qbh5)))
def q5c : IC := .reg false [zv 4 (.mov (.c (.bool true)))]
def k0ci : IC := (.seq q8n (.seq (.seq qbc0 (.cond (.t 33) (.seq qbe5 .ret) .skip)) (.seq (.seq q7r (.block 0 (.loop qbhv))) (.seq q5c .ret))))
@[go_sem] def s0ci : List (RV × Co) := [(.t 4, .id)]
theorem c0ci : cFun Try.prog 7 = some (53, k0ci, s0ci) := by kernel_rfl

def qbc7 : IC := .reg false [zi 2 (.alo [.nils]), zi 3 (.alo [(.int .i64 0)]), zi 4 (.alo [(.int .i64 0)])]
def qbfq : IC := .reg false [zm 8 0, zv 9 (.len true (.t 8)), zv 10 (.bin .gtr .no (.t 9) (.c (.int .i64 1048576)))]
def qbc6 : IC := .reg false [zn (.st 1 (.sl 4) (.t 2) (.c .nils)), zn (.st 1 .id (.t 3) (.c (.int .i64 0))), zn (.st 1 .id (.t 4) (.c (.int .i64 2)))]
def qbhy : IC := .reg false [zi 5 (.alo [.nils])]
def qbd0 : IC := .reg false [zm 11 0, zi 12 (.call (.c (.fn 13 [] [])) [((.t 11), .id)])]
def q85 : IC := .reg false [zm 15 7, zv 16 (.bin .neq .no (.t 15) (.c (.int .i64 0)))]
def q7x : IC := .drw [zp (zv 17 (.fad (.t 6) 1)), zp (zv 18 (.ld false 1 (.t 17))), zp (zm 19 7), (zn (.st 1 (.sl 4) (.t 2) (.c .nils)), [1]), (zn (.st 1 .id (.t 3) (.t 18)), []), (zn (.st 1 .id (.t 4) (.t 19)), [])]
def q9z : IC := .reg false [zv 20 (.ld false 1 (.t 5)), zv 21 (.ld true 4 (.t 6)), zv 22 (.bsl 4 [((.t 21), .id)]), zi 23 (.app 4 (.agg [(.int .i64 0), (.int .i64 0), (.int .i64 0), (.str [])]) 40 (.sl 4) (.t 20) (.t 22)), zn (.st 1 (.sl 4) (.t 5) (.t 23))]
def qu8 : IC := (.block 1 (.seq (.seq q85 (.cond (.t 16) (.seq q7x .ret) .skip)) q9z))
def qq9 : IC := .reg false [zi 6 (.alo [(.int .i64 0), (.int .i64 0), (.int .i64 0), (.str [])]), zn (.st 4 .id (.t 6) (.t 13))]
def qql : IC := .reg false [zm 7 14]
def q60 : IC := .reg false [zv 24 (.ld false 1 (.t 5)), zm 25 0, zv 26 (.len true (.t 25)), zv 27 (.bld [(.int .i64 0), (.int .i64 0), (.int .i64 0), (.str [])] [(0, 1, (.c (.int .i64 0))), (1, 1, (.t 26))]), zv 28 (.bsl 4 [((.t 27), .id)]), zi 29 (.app 4 (.agg [(.int .i64 0), (.int .i64 0), (.int .i64 0), (.str [])]) 40 (.sl 4) (.t 24) (.t 28)), zn (.st 1 (.sl 4) (.t 2) (.t 29)), zn (.st 1 .id (.t 3) (.c (.int .i64 0))), zn (.st 1 .id (.t 4) (.c (.int .i64 0)))]
def k0bp : IC := (.seq qbc7 (.seq (.seq qbfq (.cond (.t 10) (.seq qbc6 .ret) .skip)) (.seq qbhy (.seq (.seq qbd0 (.block 0 (.rng (.t 12) [13, 14] (.seq qq9 qql) qu8))) (.seq q60 .ret)))))
@[go_sem] def s0bp : List (RV × Co) := [(.c false 1 2, (.sl 4)), (.c false 1 3, .id), (.c false 1 4, .id)]
theorem c0bp : cFun Try.prog 8 = some (30, k0bp, s0bp) := by kernel_rfl

def qbch : IC := .reg false [zv 2 (.mov (.c .nilp))]
def qbgs : IC := .reg false [zv 6 (.bld [.nils, (.int .i64 0), (.int .i64 0), (.int .i64 0), (.str []), (.int .i64 0), (.int .i64 0), (.int .i64 0), (.int .i64 0)] []), zi 7 (.box (.t 6)), zm 3 7]
def qbhf : IC := .reg false [zm 8 0, zv 9 (.len false (.t 8)), zv 10 (.mov (.c (.int .i64 0)))]
def qbg0 : IC := .reg false [zv 11 (.bin .lss .no (.t 10) (.t 9))]
def qbgx : IC := .reg false [zv 12 (.iad 4 (.t 8) (.t 10)), zv 13 (.ld true 4 (.t 12)), zi 5 (.alo [(.int .i64 0), (.int .i64 0), (.int .i64 0), (.str [])]), zn (.st 4 .id (.t 5) (.t 13))]
def qbfb : IC := .reg false [zv 14 (.fad (.t 5) 0), zv 15 (.ld false 1 (.t 14)), zv 16 (.bin .eql .no (.t 15) (.c (.int .i64 0)))]
def qbhl : IC := .reg false [zm 17 3, zv 18 (.fad (.t 5) 1), zv 19 (.ld false 1 (.t 18)), zv 20 (.nck (.t 17)), zv 21 (.fad (.t 20) 1), zv 22 (.fad (.t 21) 1), zn (.st 1 .id (.t 22) (.t 19))]
def qbd6 : IC := .drw [zp (zm 23 3), zp (zm 24 3), zp (zv 25 (.nck (.t 24))), zp (zv 26 (.fad (.t 25) 0)), zp (zv 27 (.ld false 1 (.t 26))), zp (zv 28 (.ld true 4 (.t 5))), (zv 29 (.bsl 4 [((.t 28), .id)]), []), (zi 30 (.app 4 (.agg [(.int .i64 0), (.int .i64 0), (.int .i64 0), (.str [])]) 40 (.sl 4) (.t 27) (.t 29)), []), zp (zv 31 (.nck (.t 23))), zp (zv 32 (.fad (.t 31) 0)), (zn (.st 1 (.sl 4) (.t 32) (.t 30)), [])]
def qbhu : IC := .reg false [zv 33 (.bin .add .no (.t 10) (.c (.int .i64 1))), zm 10 33]
def q9m : IC := (.seq qbg0 (.seq (.cond (.t 11) .skip (.exit 0)) (.seq (.block 1 (.seq qbgx (.seq (.seq qbfb (.cond (.t 16) (.seq qbhl (.exit 0)) .skip)) qbd6))) qbhu)))
def q3d : IC := .reg false [zm 34 3, zm 2 34]
def k0bc : IC := (.seq qbch (.seq qbgs (.seq (.seq qbhf (.block 0 (.loop q9m))) (.seq q3d .ret))))
@[go_sem] def s0bc : List (RV × Co) := [(.t 2, .id)]
theorem c0bc : cFun Try.prog 9 = some (35, k0bc, s0bc) := by kernel_rfl

def qbif : IC := .reg false [zi 2 (.alo [(.int .i64 0), (.int .i64 0), (.int .i64 0), (.str []), .nils]), zv 3 (.mov (.c (.bool false)))]
def qbnc : IC := .reg false [zm 6 0, zi 7 (.call (.c (.fn 14 [] [])) [((.t 6), .id)]), zv 8 (.un .not (.t 7))]
def qbo5 : IC := .reg false [zv 9 (.bld [(.int .i64 0), (.int .i64 0), (.int .i64 0), (.str []), .nils] []), zn (.st 5 (.agg [.id, .id, .id, .id, (.sl 5)]) (.t 2) (.t 9)), zv 3 (.mov (.c (.bool false)))]
def qbo2 : IC := .reg false [zm 11 0, zi 12 (.call (.c (.fn 15 [] [])) [((.t 11), .id)]), zm 10 12, zv 13 (.ext (.t 10) 0), zv 14 (.ext (.t 10) 1), zi 4 (.alo [(.int .i64 0), (.int .i64 0), (.int .i64 0), (.str []), .nils]), zn (.st 5 (.agg [.id, .id, .id, .id, (.sl 5)]) (.t 4) (.t 13)), zm 5 14]
def qbju : IC := .reg false [zm 15 0, zi 16 (.call (.c (.fn 16 [] [])) [((.t 15), .id)])]
def qbic : IC := .reg false [zm 17 5, zv 18 (.un .not (.t 17))]
def qbj7 : IC := .reg false [zv 19 (.bld [(.int .i64 0), (.int .i64 0), (.int .i64 0), (.str []), .nils] []), zn (.st 5 (.agg [.id, .id, .id, .id, (.sl 5)]) (.t 2) (.t 19)), zv 3 (.mov (.c (.bool false)))]
def qbjq : IC := .reg false [zv 20 (.ld true 5 (.t 4)), zn (.st 5 (.agg [.id, .id, .id, .id, (.sl 5)]) (.t 2) (.t 20)), zv 3 (.mov (.c (.bool true)))]
def k0b : IC := (.seq qbif (.seq (.seq qbnc (.cond (.t 8) (.seq qbo5 .ret) .skip)) (.seq qbo2 (.seq qbju (.seq (.seq qbic (.cond (.t 18) (.seq qbj7 .ret) .skip)) (.seq qbjq .ret))))))
@[go_sem] def s0b : List (RV × Co) := [(.c true 5 2, (.agg [.id, .id, .id, .id, (.sl 5)])), (.t 3, .id)]
theorem c0b : cFun Try.prog 10 = some (21, k0b, s0b) := by kernel_rfl

def qbex : IC := .reg false [zv 2 (.mov (.c (.int .i64 0))), zv 3 (.mov (.c (.int .i64 0)))]
def qbdd : IC := .reg false [zm 5 0, zv 6 (.bin .eql .ptr (.t 5) (.c .nilp)), zm 4 6]
def qbeh : IC := .reg false [zv 2 (.mov (.c (.int .i64 0))), zv 3 (.mov (.c (.int .i64 1)))]
def q8x : IC := .reg false [zm 8 0, zv 9 (.nck (.t 8)), zv 10 (.fad (.t 9) 7), zv 11 (.ld false 1 (.t 10)), zv 12 (.bin .neq .no (.t 11) (.c (.int .i64 0))), zm 7 12]
def qbfv : IC := .drw [zp (zm 13 0), zp (zv 14 (.nck (.t 13))), zp (zv 15 (.fad (.t 14) 8)), zp (zv 16 (.ld false 1 (.t 15))), zp (zm 17 0), zp (zv 18 (.nck (.t 17))), zp (zv 19 (.fad (.t 18) 7)), zp (zv 20 (.ld false 1 (.t 19))), zp (zm 2 16), zp (zm 3 20)]
def qbd3 : IC := .drw [zp (zm 22 0), zp (zv 23 (.nck (.t 22))), zp (zv 24 (.fad (.t 23) 5)), zp (zv 25 (.ld false 1 (.t 24))), zp (zm 26 0), zp (zv 27 (.nck (.t 26))), zp (zv 28 (.fad (.t 27) 0)), zp (zv 29 (.ld false 1 (.t 28))), zp (zv 30 (.len false (.t 29))), zp (zv 31 (.bin .lss .no (.t 25) (.t 30))), zp (zm 21 31)]
def qbam : IC := .drw [zp (zm 32 0), zp (zv 33 (.nck (.t 32))), zp (zv 34 (.fad (.t 33) 0)), zp (zv 35 (.ld false 1 (.t 34))), zp (zm 36 0), zp (zv 37 (.nck (.t 36))), zp (zv 38 (.fad (.t 37) 5)), zp (zv 39 (.ld false 1 (.t 38))), zp (zv 40 (.iad 4 (.t 35) (.t 39))), zp (zv 41 (.fad (.t 40) 1)), zp (zv 42 (.ld false 1 (.t 41))), zp (zm 2 42), zp (zv 3 (.mov (.c (.int .i64 5))))]
def qbbk : IC := .reg false [zm 43 0, zv 44 (.nck (.t 43)), zv 45 (.fad (.t 44) 1), zv 46 (.fad (.t 45) 1), zv 47 (.ld false 1 (.t 46)), zm 2 47, zv 3 (.mov (.c (.int .i64 0)))]
def k0bn : IC := (.seq qbex (.seq (.block 0 (.seq qbdd (.cond (.t 4) (.seq qbeh .ret) (.seq q8x (.cond (.t 7) (.seq qbfv .ret) (.seq qbd3 (.cond (.t 21) (.seq qbam .ret) .skip))))))) (.seq qbbk .ret)))
@[go_sem] def s0bn : List (RV × Co) := [(.t 2, .id), (.t 3, .id)]
theorem c0bn : cFun Try.prog 11 = some (48, k0bn, s0bn) := by kernel_rfl

def qbb5 : IC := .reg false [zi 1 (.box (.t 0)), zv 2 (.mov (.c (.int .i64 0)))]
def qbby : IC := .reg false [zi 3 (.alo [(.int .i64 0)]), zn (.st 1 .id (.t 3) (.c (.int .i64 0)))]
def qbhm : IC := .reg false [zv 5 (.ld true 5 (.t 1)), zi 6 (.call (.c (.fn 17 [] [])) [((.t 5), (.agg [.id, .id, .id, .id, (.sl 5)])), ((.c (.int .i64 1)), .id)])]
def qbdw : IC := .reg false [zv 9 (.ld false 1 (.t 3)), zm 10 4, zv 11 (.mm true (.t 9) (.t 10)), zn (.st 1 .id (.t 3) (.t 11))]
def qz6 : IC := (.block 1 qbdw)
def q0e : IC := .reg false [zm 4 7]
def qbbd : IC := .reg false [zv 12 (.ld false 1 (.t 3)), zm 2 12]
def k0cm : IC := (.seq qbb5 (.seq qbby (.seq (.seq qbhm (.block 0 (.rng (.t 6) [7, 8] q0e qz6))) (.seq qbbd .ret))))
@[go_sem] def s0cm : List (RV × Co) := [(.t 2, .id)]
theorem c0cm : cFun Try.prog 12 = some (13, k0cm, s0cm) := by kernel_rfl

def qbed : IC := .reg false [zi 1 (.box (.t 0)), zv 2 (.mov (.c .nilf))]
def q7y : IC := .reg false [zv 3 (.mfn 18 [] [(.t 1)]), zm 2 3]
def k0bo : IC := (.seq qbed (.seq q7y .ret))
@[go_sem] def s0bo : List (RV × Co) := [(.t 2, .id)]
theorem c0bo : cFun Try.prog 13 = some (4, k0bo, s0bo) := by kernel_rfl

def qbbp : IC := .reg false [zv 2 (.mov (.c (.bool false)))]
def qbae : IC := .reg false [zm 3 0, zi 4 (.call (.c (.fn 21 [] [])) [((.t 3), .id)]), zm 5 4, zw 5 false 6 (.mov (.t 0)), zw 5 false 7 (.nck (.t 6)), zw 5 false 8 (.fad (.t 7) 6), zw 5 false 9 (.ld false 1 (.t 8)), zw 5 false 10 (.bin .geq .no (.t 9) (.c (.int .i64 200))), zv 11 (.pick (.t 5) (.c (.bool true)) (.t 10))]
def qbfu : IC := .reg false [zm 12 0, zi 13 (.call (.c (.fn 22 [] [])) [((.t 12), .id), ((.c (.int .i64 2)), .id)]), zm 2 13]
def qbep : IC := .reg false [zm 14 0, zv 15 (.nck (.t 14)), zv 16 (.fad (.t 15) 6), zv 17 (.ld false 1 (.t 16)), zv 18 (.bin .add .no (.t 17) (.c (.int .i64 1))), zv 19 (.nck (.t 14)), zv 20 (.fad (.t 19) 6), zn (.st 1 .id (.t 20) (.t 18))]
def qbe3 : IC := .reg false [zv 2 (.mov (.c (.bool true)))]
def k0bl : IC := (.seq qbbp (.seq (.seq qbae (.cond (.t 11) (.seq qbfu .ret) .skip)) (.seq qbep (.seq qbe3 .ret))))
@[go_sem] def s0bl : List (RV × Co) := [(.t 2, .id)]
theorem c0bl : cFun Try.prog 14 = some (21, k0bl, s0bl) := by kernel_rfl

def qbia : IC := .reg false [zi 2 (.alo [(.int .i64 0), (.int .i64 0), (.int .i64 0), (.str []), .nils]), zv 3 (.mov (.c (.bool false)))]
def qbpy : IC := .reg false [zm 5 0, zi 6 (.call (.c (.fn 23 [] [])) [((.t 5), .id)]), zv 7 (.fld false 1 1 (.t 6)), zv 8 (.bld [(.int .i64 0), (.int .i64 0), (.int .i64 0), (.str []), .nils] [(1, 1, (.t 7))]), zi 4 (.alo [(.int .i64 0), (.int .i64 0), (.int .i64 0), (.str []), .nils]), zn (.st 5 (.agg [.id, .id, .id, .id, (.sl 5)]) (.t 4) (.t 8))]
def qbl2 : IC := .reg false [zm 10 0, zi 11 (.call (.c (.fn 24 [] [])) [((.t 10), .id), ((.c (.str [92])), .id)]), zm 9 11]
def qbnh : IC := .reg false [zm 12 0, zi 13 (.call (.c (.fn 23 [] [])) [((.t 12), .id)]), zv 14 (.fld false 1 0 (.t 13)), zv 15 (.bin .neq .no (.t 14) (.c (.int .i64 1)))]
def qbls : IC := .drw [zp (zv 16 (.ld true 5 (.t 4))), zp (zm 17 0), (zi 18 (.call (.c (.fn 22 [] [])) [((.t 17), .id), ((.c (.int .i64 5)), .id)]), [0]), (zn (.st 5 (.agg [.id, .id, .id, .id, (.sl 5)]) (.t 2) (.t 16)), []), zp (zm 3 18)]
def qbit : IC := .reg false [zm 19 0, zi 20 (.call (.c (.fn 25 [] [])) [((.t 19), .id), ((.c (.str [45, 62])), .id)]), zv 21 (.ext (.t 20) 0), zv 22 (.ext (.t 20) 1), zn (.st 5 (.agg [.id, .id, .id, .id, (.sl 5)]) (.t 2) (.t 21)), zm 3 22]
def qbn9 : IC := .reg false [zm 24 0, zi 25 (.call (.c (.fn 24 [] [])) [((.t 24), .id), ((.c (.str [108, 101, 116])), .id)]), zm 23 25]
def qbpx : IC := .reg false [zm 26 0, zv 27 (.ld true 5 (.t 4)), zi 28 (.call (.c (.fn 26 [] [])) [((.t 26), .id), ((.t 27), (.agg [.id, .id, .id, .id, (.sl 5)]))]), zv 29 (.ext (.t 28) 0), zv 30 (.ext (.t 28) 1), zn (.st 5 (.agg [.id, .id, .id, .id, (.sl 5)]) (.t 2) (.t 29)), zm 3 30]
def qbnx : IC := .reg false [zm 32 0, zi 33 (.call (.c (.fn 24 [] [])) [((.t 32), .id), ((.c (.str [99, 97, 115, 101])), .id)]), zm 31 33]
def qbo0 : IC := .reg false [zm 34 0, zv 35 (.ld true 5 (.t 4)), zi 36 (.call (.c (.fn 27 [] [])) [((.t 34), .id), ((.t 35), (.agg [.id, .id, .id, .id, (.sl 5)]))]), zv 37 (.ext (.t 36) 0), zv 38 (.ext (.t 36) 1), zn (.st 5 (.agg [.id, .id, .id, .id, (.sl 5)]) (.t 2) (.t 37)), zm 3 38]
def qbf7 : IC := .reg false [zm 40 0, zi 41 (.call (.c (.fn 24 [] [])) [((.t 40), .id), ((.c (.str [105, 102])), .id)]), zm 39 41]
def qbfz : IC := .reg false [zm 42 0, zv 43 (.ld true 5 (.t 4)), zi 44 (.call (.c (.fn 28 [] [])) [((.t 42), .id), ((.t 43), (.agg [.id, .id, .id, .id, (.sl 5)]))]), zv 45 (.ext (.t 44) 0), zv 46 (.ext (.t 44) 1), zn (.st 5 (.agg [.id, .id, .id, .id, (.sl 5)]) (.t 2) (.t 45)), zm 3 46]
def qba9 : IC := .reg false [zm 47 0, zi 48 (.call (.c (.fn 29 [] [])) [((.t 47), .id)]), zv 49 (.ext (.t 48) 0), zv 50 (.ext (.t 48) 1), zn (.st 5 (.agg [.id, .id, .id, .id, (.sl 5)]) (.t 2) (.t 49)), zm 3 50]
def k0g : IC := (.seq qbia (.seq qbpy (.seq (.block 0 (.seq qbl2 (.cond (.t 9) (.seq (.seq qbnh (.cond (.t 15) (.seq qbls .ret) .skip)) (.seq qbit .ret)) (.seq qbn9 (.cond (.t 23) (.seq qbpx .ret) (.seq qbnx (.cond (.t 31) (.seq qbo0 .ret) (.seq qbf7 (.cond (.t 39) (.seq qbfz .ret) .skip))))))))) (.seq qba9 .ret))))
@[go_sem] def s0g : List (RV × Co) := [(.c true 5 2, (.agg [.id, .id, .id, .id, (.sl 5)])), (.t 3, .id)]
theorem c0g : cFun Try.prog 15 = some (51, k0g, s0g) := by kernel_rfl

def qbg3 : IC := .reg false [zm 2 0, zi 3 (.call (.c (.fn 21 [] [])) [((.t 2), .id)]), zv 4 (.un .not (.t 3)), zm 5 4, zw 5 true 6 (.mov (.t 0)), zw 5 true 7 (.nck (.t 6)), zw 5 true 8 (.fad (.t 7) 6), zw 5 true 9 (.ld false 1 (.t 8)), zw 5 true 10 (.bin .gtr .no (.t 9) (.c (.int .i64 0))), zv 11 (.pick (.t 5) (.t 10) (.c (.bool false)))]
def q96 : IC := .reg false [zm 12 0, zv 13 (.nck (.t 12)), zv 14 (.fad (.t 13) 6), zv 15 (.ld false 1 (.t 14)), zv 16 (.bin .sub .no (.t 15) (.c (.int .i64 1))), zv 17 (.nck (.t 12)), zv 18 (.fad (.t 17) 6), zn (.st 1 .id (.t 18) (.t 16))]
def k0bm : IC := (.seq qbg3 (.cond (.t 11) q96 .skip))
@[go_sem] def s0bm : List (RV × Co) := []
theorem c0bm : cFun Try.prog 16 = some (19, k0bm, s0bm) := by kernel_rfl

def qbfl : IC := .reg false [zi 2 (.box (.t 0)), zi 3 (.box (.t 1)), zv 4 (.mov (.c .nilf))]
def q7v : IC := .reg false [zv 5 (.mfn 30 [] [(.t 2), (.t 3)]), zm 4 5]
def k0cl : IC := (.seq qbfl (.seq q7v .ret))
@[go_sem] def s0cl : List (RV × Co) := [(.t 4, .id)]
theorem c0cl : cFun Try.prog 17 = some (6, k0cl, s0cl) := by kernel_rfl

def qbbo : IC := .reg false [zv 6 (.ld false 1 (.t 1)), zi 7 (.call (.c (.fn 19 [] [])) [((.t 6), .id)]), zm 3 7]
def qbbj : IC := .reg false [zm 8 3, zv 9 (.ld false 1 (.t 1)), zv 10 (.len true (.t 9)), zv 11 (.bin .lss .no (.t 8) (.t 10))]
def q7s : IC := .reg false [zv 13 (.ld false 1 (.t 1)), zm 14 3, zv 15 (.sls (.t 13) (some (.t 14)) none), zi 16 (.call (.c (.fn 20 [] [])) [((.t 15), .id)]), zm 12 16, zv 17 (.ext (.t 12) 0), zv 18 (.ext (.t 12) 1), zi 4 (.alo [(.int .i64 0), (.int .i64 0), (.int .i64 0), (.str [])]), zn (.st 4 .id (.t 4) (.t 17)), zm 5 18]
def q9i : IC := .reg false [zm 19 3, zv 20 (.fad (.t 4) 1), zn (.st 1 .id (.t 20) (.t 19))]
def q75 : IC := .reg false [zm 21 0, zv 22 (.ld true 4 (.t 4)), zm 23 5, zi 24 (.call (.t 21) [((.t 22), .id), ((.t 23), .id)]), zv 25 (.un .not (.t 24))]
def q87 : IC := .reg false [zm 26 3, zv 27 (.fad (.t 4) 3), zv 28 (.ld false 1 (.t 27)), zv 29 (.len true (.t 28)), zv 30 (.bin .add .no (.t 26) (.t 29)), zm 3 30]
def q8b : IC := .reg false [zm 31 3, zv 32 (.ld false 1 (.t 1)), zm 33 3, zv 34 (.sls (.t 32) (some (.t 33)) none), zi 35 (.call (.c (.fn 19 [] [])) [((.t 34), .id)]), zv 36 (.bin .add .no (.t 31) (.t 35)), zm 3 36]
def q9u : IC := (.seq (.seq qbbj (.cond (.t 11) .skip (.exit 0))) (.block 1 (.seq q7s (.seq q9i (.seq (.seq q75 (.cond (.t 25) .ret .skip)) (.seq q87 q8b))))))
def k0bq : IC := (.seq qbbo (.block 0 (.loop q9u)))
@[go_sem] def s0bq : List (RV × Co) := []
theorem c0bq : cFun Try.prog 18 = some (37, k0bq, s0bq) := by kernel_rfl

def q8s : IC := .reg false [zv 2 (.mov (.c (.int .i64 0)))]
def qbf5 : IC := .reg false [zv 3 (.mov (.c (.int .i64 0)))]
def qbfr : IC := .reg false [zm 5 0, zm 6 3, zv 7 (.sls (.t 5) (some (.t 6)) none), zi 8 (.call (.c (.fn 32 [] [])) [((.t 7), .id), ((.c (.fn 33 [] [])), .id)]), zm 4 8]
def qbab : IC := .reg false [zm 9 0, zm 10 3, zm 11 4, zv 12 (.bin .add .no (.t 10) (.t 11)), zv 13 (.sls (.t 9) (some (.t 12)) none), zi 14 (.call (.c (.fn 34 [] [])) [((.t 13), .id), ((.c (.str [45, 45])), .id)])]
def qbgz : IC := .reg false [zm 15 4, zm 16 0, zm 17 3, zm 18 4, zv 19 (.bin .add .no (.t 17) (.t 18)), zv 20 (.sls (.t 16) (some (.t 19)) none), zi 21 (.call (.c (.fn 32 [] [])) [((.t 20), .id), ((.c (.fn 35 [] [])), .id)]), zv 22 (.bin .add .no (.t 15) (.t 21)), zm 4 22]
def q88 : IC := .reg false [zm 23 4, zv 24 (.bin .eql .no (.t 23) (.c (.int .i64 0)))]
def q97 : IC := .reg false [zm 25 3, zm 2 25]
def qbdr : IC := .reg false [zm 26 3, zm 27 4, zv 28 (.bin .add .no (.t 26) (.t 27)), zm 3 28]
def q98 : IC := (.block 1 (.seq qbfr (.seq (.seq qbab (.cond (.t 14) qbgz .skip)) (.seq (.seq q88 (.cond (.t 24) (.seq q97 .ret) .skip)) qbdr))))
def k0cb : IC := (.seq q8s (.seq qbf5 (.block 0 (.loop q98))))
@[go_sem] def s0cb : List (RV × Co) := [(.t 2, .id)]
theorem c0cb : cFun Try.prog 19 = some (29, k0cb, s0cb) := by kernel_rfl

def q9h : IC := .reg false [zi 2 (.alo [(.int .i64 0), (.int .i64 0), (.int .i64 0), (.str [])]), zv 3 (.mov (.c (.int .i64 0)))]
def qbf4 : IC := .reg false [zm 9 0, zv 10 (.idx (.t 9) (.c (.int .i64 0))), zm 4 10]
def qbg7 : IC := .reg false [zm 12 4, zi 13 (.call (.c (.fn 36 [] [])) [((.t 12), .id)]), zm 11 13]
def qbgl : IC := .reg false [zm 14 0, zm 15 0, zi 16 (.call (.c (.fn 32 [] [])) [((.t 15), .id), ((.c (.fn 36 [] [])), .id)]), zv 17 (.sls (.t 14) none (some (.t 16))), zm 5 17]
def qbd8 : IC := .reg false [zm 19 5, zi 20 (.call (.c (.fn 37 [] [])) [((.t 19), .id)]), zm 18 20, zv 21 (.ext (.t 18) 0), zv 22 (.ext (.t 18) 1), zm 6 21, zm 7 22]
def qbhn : IC := .reg false [zm 23 6, zm 24 5, zv 25 (.bld [(.int .i64 0), (.int .i64 0), (.int .i64 0), (.str [])] [(0, 1, (.c (.int .i64 3))), (2, 1, (.t 23)), (3, 1, (.t 24))]), zm 26 7, zn (.st 4 .id (.t 2) (.t 25)), zm 3 26]
def q8o : IC := .reg false [zm 28 4, zi 29 (.call (.c (.fn 38 [] [])) [((.t 28), .id)]), zm 30 29, zw 30 true 31 (.mov (.t 4)), zw 30 true 32 (.bin .neq .no (.t 31) (.c (.int .u8 39))), zv 33 (.pick (.t 30) (.t 32) (.c (.bool false))), zm 27 33]
def qbe4 : IC := .reg false [zm 34 0, zm 35 0, zi 36 (.call (.c (.fn 32 [] [])) [((.t 35), .id), ((.c (.fn 38 [] [])), .id)]), zv 37 (.sls (.t 34) none (some (.t 36))), zi 38 (.call (.c (.fn 39 [] [])) [((.t 37), .id)]), zn (.st 4 .id (.t 2) (.t 38)), zv 3 (.mov (.c (.int .i64 0)))]
def q72 : IC := .reg false [zm 39 0, zi 40 (.call (.c (.fn 40 [] [])) [((.t 39), .id)]), zm 8 40]
def qbcj : IC := .reg false [zm 41 8, zv 42 (.bin .eql .no (.t 41) (.c (.int .i64 0)))]
def q5h : IC := .reg false [zv 43 (.bld [(.int .i64 0), (.int .i64 0), (.int .i64 0), (.str [])] []), zn (.st 4 .id (.t 2) (.t 43)), zv 3 (.mov (.c (.int .i64 3)))]
def q4k : IC := .reg false [zm 44 0, zm 45 8, zv 46 (.sls (.t 44) none (some (.t 45))), zv 47 (.bld [(.int .i64 0), (.int .i64 0), (.int .i64 0), (.str [])] [(0, 1, (.c (.int .i64 5))), (3, 1, (.t 46))]), zn (.st 4 .id (.t 2) (.t 47)), zv 3 (.mov (.c (.int .i64 0)))]
def k0bt : IC := (.seq q9h (.seq (.seq qbf4 (.block 0 (.seq qbg7 (.cond (.t 11) (.seq qbgl (.seq qbd8 (.seq qbhn .ret))) (.seq q8o (.cond (.t 27) (.seq qbe4 .ret) .skip)))))) (.seq q72 (.seq (.seq qbcj (.cond (.t 42) (.seq q5h .ret) .skip)) (.seq q4k .ret)))))
@[go_sem] def s0bt : List (RV × Co) := [(.c true 4 2, .id), (.t 3, .id)]
theorem c0bt : cFun Try.prog 20 = some (48, k0bt, s0bt) := by kernel_rfl

def qbdi : IC := .reg false [zv 2 (.mov (.c (.bool false)))]
def qbbz : IC := .reg false [zm 3 0, zv 4 (.bin .eql .ptr (.t 3) (.c .nilp)), zm 5 4, zw 5 false 6 (.mov (.t 0)), zw 5 false 7 (.nck (.t 6)), zw 5 false 8 (.fad (.t 7) 7), zw 5 false 9 (.ld false 1 (.t 8)), zw 5 false 10 (.bin .neq .no (.t 9) (.c (.int .i64 0))), zv 11 (.pick (.t 5) (.c (.bool true)) (.t 10)), zm 2 11]
def k0bd : IC := (.seq qbdi (.seq qbbz .ret))
@[go_sem] def s0bd : List (RV × Co) := [(.t 2, .id)]
theorem c0bd : cFun Try.prog 21 = some (12, k0bd, s0bd) := by kernel_rfl

def qbei : IC := .reg false [zv 4 (.mov (.c (.bool false)))]
def qbff : IC := .reg false [zm 5 0, zi 6 (.call (.c (.fn 21 [] [])) [((.t 5), .id)]), zv 7 (.un .not (.t 6))]
def qbfs : IC := .reg false [zm 8 1, zv 9 (.bin .eql .no (.t 8) (.c (.int .i64 0)))]
def qbeo : IC := .reg false [zv 1 (.mov (.c (.int .i64 1)))]
def q8a : IC := .reg false [zm 10 0, zm 11 0, zi 12 (.call (.c (.fn 23 [] [])) [((.t 11), .id)]), zv 13 (.fld false 1 1 (.t 12)), zv 14 (.nck (.t 10)), zv 15 (.fad (.t 14) 8), zn (.st 1 .id (.t 15) (.t 13))]
def qbgm : IC := .reg false [zm 16 0, zm 17 1, zv 18 (.nck (.t 16)), zv 19 (.fad (.t 18) 7), zn (.st 1 .id (.t 19) (.t 17))]
def qbhs : IC := .reg false [zv 4 (.mov (.c (.bool false)))]
def k0bi : IC := (.seq qbei (.seq (.seq qbff (.cond (.t 7) (.seq (.seq qbfs (.cond (.t 9) qbeo .skip)) (.seq q8a qbgm)) .skip)) (.seq qbhs .ret)))
@[go_sem] def s0bi : List (RV × Co) := [(.t 4, .id)]
theorem c0bi : cFun Try.prog 22 = some (20, k0bi, s0bi) := by kernel_rfl

def qbgh : IC := .reg false [zi 2 (.alo [(.int .i64 0), (.int .i64 0), (.int .i64 0), (.str [])])]
def qbcx : IC := .reg false [zm 4 0, zi 5 (.call (.c (.fn 21 [] [])) [((.t 4), .id)]), zm 3 5]
def qbe1 : IC := .reg false [zv 6 (.bld [(.int .i64 0), (.int .i64 0), (.int .i64 0), (.str [])] []), zn (.st 4 .id (.t 2) (.t 6))]
def qban : IC := .drw [zp (zm 8 0), zp (zv 9 (.nck (.t 8))), zp (zv 10 (.fad (.t 9) 5)), zp (zv 11 (.ld false 1 (.t 10))), zp (zm 12 0), zp (zv 13 (.nck (.t 12))), zp (zv 14 (.fad (.t 13) 0)), zp (zv 15 (.ld false 1 (.t 14))), zp (zv 16 (.len false (.t 15))), zp (zv 17 (.bin .lss .no (.t 11) (.t 16))), zp (zm 7 17)]
def q8e : IC := .drw [zp (zm 18 0), zp (zv 19 (.nck (.t 18))), zp (zv 20 (.fad (.t 19) 0)), zp (zv 21 (.ld false 1 (.t 20))), zp (zm 22 0), zp (zv 23 (.nck (.t 22))), zp (zv 24 (.fad (.t 23) 5)), zp (zv 25 (.ld false 1 (.t 24))), zp (zv 26 (.iad 4 (.t 21) (.t 25))), zp (zv 27 (.ld true 4 (.t 26))), (zn (.st 4 .id (.t 2) (.t 27)), [])]
def qbg5 : IC := .reg false [zm 28 0, zv 29 (.nck (.t 28)), zv 30 (.fad (.t 29) 1), zv 31 (.ld true 4 (.t 30)), zn (.st 4 .id (.t 2) (.t 31))]
def k0be : IC := (.seq qbgh (.seq (.block 0 (.seq qbcx (.cond (.t 3) (.seq qbe1 .ret) (.seq qban (.cond (.t 7) (.seq q8e .ret) .skip))))) (.seq qbg5 .ret)))
@[go_sem] def s0be : List (RV × Co) := [(.c true 4 2, .id)]
theorem c0be : cFun Try.prog 23 = some (32, k0be, s0be) := by kernel_rfl

def qbhg : IC := .reg false [zv 4 (.mov (.c (.bool false)))]
def qbf0 : IC := .reg false [zm 5 0, zm 6 1, zi 7 (.call (.c (.fn 41 [] [])) [((.t 5), .id), ((.t 6), .id)]), zv 8 (.un .not (.t 7))]
def qbc3 : IC := .reg false [zv 4 (.mov (.c (.bool false)))]
def qbg8 : IC := .reg false [zm 9 0, zi 10 (.call (.c (.fn 42 [] [])) [((.t 9), .id)])]
def qbe2 : IC := .reg false [zv 4 (.mov (.c (.bool true)))]
def k0bj : IC := (.seq qbhg (.seq (.seq qbf0 (.cond (.t 8) (.seq qbc3 .ret) .skip)) (.seq qbg8 (.seq qbe2 .ret))))
@[go_sem] def s0bj : List (RV × Co) := [(.t 4, .id)]
theorem c0bj : cFun Try.prog 24 = some (11, k0bj, s0bj) := by kernel_rfl

def qbnz : IC := .reg false [zi 4 (.alo [(.int .i64 0), (.int .i64 0), (.int .i64 0), (.str []), .nils]), zv 5 (.mov (.c (.bool false)))]
def qbn8 : IC := .reg false [zm 9 0, zi 10 (.call (.c (.fn 23 [] [])) [((.t 9), .id)]), zv 11 (.fld false 1 0 (.t 10)), zv 12 (.bin .neq .no (.t 11) (.c (.int .i64 1)))]
def qblj : IC := .reg false [zm 13 0, zm 14 1, zi 15 (.call (.c (.fn 43 [] [])) [((.t 13), .id), ((.t 14), .id)]), zv 16 (.un .not (.t 15))]
def qbjm : IC := .reg false [zv 17 (.bld [(.int .i64 0), (.int .i64 0), (.int .i64 0), (.str []), .nils] []), zn (.st 5 (.agg [.id, .id, .id, .id, (.sl 5)]) (.t 4) (.t 17)), zv 5 (.mov (.c (.bool false)))]
def qboa : IC := .reg false [zm 18 0, zi 19 (.call (.c (.fn 10 [] [])) [((.t 18), .id)]), zv 20 (.ext (.t 19) 0), zv 21 (.ext (.t 19) 1), zn (.st 5 (.agg [.id, .id, .id, .id, (.sl 5)]) (.t 4) (.t 20)), zm 5 21]
def qbpz : IC := .reg false [zm 22 0, zi 23 (.call (.c (.fn 42 [] [])) [((.t 22), .id)]), zi 6 (.alo [(.int .i64 0), (.int .i64 0), (.int .i64 0), (.str [])]), zn (.st 4 .id (.t 6) (.t 23))]
def qbij : IC := .reg false [zm 25 0, zm 26 1, zi 27 (.call (.c (.fn 25 [] [])) [((.t 25), .id), ((.t 26), .id)]), zm 24 27, zv 28 (.ext (.t 24) 0), zv 29 (.ext (.t 24) 1), zi 7 (.alo [(.int .i64 0), (.int .i64 0), (.int .i64 0), (.str []), .nils]), zn (.st 5 (.agg [.id, .id, .id, .id, (.sl 5)]) (.t 7) (.t 28)), zm 8 29]
def qbkx : IC := .reg false [zv 30 (.fad (.t 6) 1), zv 31 (.ld false 1 (.t 30)), zv 32 (.fad (.t 6) 3), zv 33 (.ld false 1 (.t 32)), zv 34 (.ld true 5 (.t 7)), zv 35 (.bsl 5 [((.t 34), (.agg [.id, .id, .id, .id, (.sl 5)]))]), zv 36 (.bld [(.int .i64 0), (.int .i64 0), (.int .i64 0), (.str []), .nils] [(0, 1, (.c (.int .i64 25))), (1, 1, (.t 31)), (3, 1, (.t 33)), (4, 1, (.t 35))]), zm 37 8, zn (.st 5 (.agg [.id, .id, .id, .id, (.sl 5)]) (.t 4) (.t 36)), zm 5 37]
def k0k : IC := (.seq qbnz (.seq (.seq qbn8 (.cond (.t 12) (.seq (.seq qblj (.cond (.t 16) (.seq qbjm .ret) .skip)) (.seq qboa .ret)) .skip)) (.seq qbpz (.seq qbij (.seq qbkx .ret)))))
@[go_sem] def s0k : List (RV × Co) := [(.c true 5 4, (.agg [.id, .id, .id, .id, (.sl 5)])), (.t 5, .id)]
theorem c0k : cFun Try.prog 25 = some (38, k0k, s0k) := by kernel_rfl

def qbie : IC := .reg false [zi 2 (.box (.t 0)), zi 3 (.box (.t 1)), zi 4 (.alo [(.int .i64 0), (.int .i64 0), (.int .i64 0), (.str []), .nils]), zv 5 (.mov (.c (.bool false)))]
def qbp6 : IC := .reg false [zv 10 (.ld false 1 (.t 2)), zv 11 (.mfn 45 [] [(.t 2)]), zi 12 (.call (.c (.fn 44 [] [])) [((.t 10), .id), ((.t 11), .id)]), zm 9 12, zv 13 (.ext (.t 9) 0), zv 14 (.ext (.t 9) 1), zm 6 13, zm 7 14]
def qbno : IC := .reg false [zm 15 7, zv 16 (.un .not (.t 15)), zm 17 16, zw 17 false 18 (.ld false 1 (.t 2)), ⟨some (17, false), some 19, .call (.c (.fn 43 [] [])) [((.t 18), .id), ((.c (.str [105, 110])), .id)]⟩, zw 17 false 20 (.un .not (.t 19)), zv 21 (.pick (.t 17) (.c (.bool true)) (.t 20))]
def qbje : IC := .reg false [zv 22 (.ld true 5 (.t 3)), zn (.st 5 (.agg [.id, .id, .id, .id, (.sl 5)]) (.t 4) (.t 22)), zv 5 (.mov (.c (.bool false)))]
def qbm3 : IC := .reg false [zv 24 (.ld false 1 (.t 2)), zi 25 (.call (.c (.fn 10 [] [])) [((.t 24), .id)]), zm 23 25, zv 26 (.ext (.t 23) 0), zv 27 (.ext (.t 23) 1), zi 8 (.alo [(.int .i64 0), (.int .i64 0), (.int .i64 0), (.str []), .nils]), zn (.st 5 (.agg [.id, .id, .id, .id, (.sl 5)]) (.t 8) (.t 26)), zm 7 27]
def qblq : IC := .reg false [zm 28 6, zv 29 (.ld true 5 (.t 8)), zv 30 (.bsl 5 [((.t 29), (.agg [.id, .id, .id, .id, (.sl 5)]))]), zi 31 (.app 5 (.agg [(.int .i64 0), (.int .i64 0), (.int .i64 0), (.str []), .nils]) 64 (.sl 5) (.t 28) (.t 30)), zv 32 (.fad (.t 3) 0), zn (.st 1 .id (.t 32) (.c (.int .i64 26))), zv 33 (.fad (.t 3) 4), zn (.st 1 (.sl 5) (.t 33) (.t 31))]
def qblc : IC := .reg false [zv 34 (.ld true 5 (.t 3)), zm 35 7, zn (.st 5 (.agg [.id, .id, .id, .id, (.sl 5)]) (.t 4) (.t 34)), zm 5 35]
def k0d : IC := (.seq qbie (.seq qbp6 (.seq (.seq qbno (.cond (.t 21) (.seq qbje .ret) .skip)) (.seq qbm3 (.seq qblq (.seq qblc .ret))))))
@[go_sem] def s0d : List (RV × Co) := [(.c true 5 4, (.agg [.id, .id, .id, .id, (.sl 5)])), (.t 5, .id)]
theorem c0d : cFun Try.prog 26 = some (36, k0d, s0d) := by kernel_rfl

def qbko : IC := .reg false [zi 2 (.box (.t 0)), zi 3 (.box (.t 1)), zi 4 (.alo [(.int .i64 0), (.int .i64 0), (.int .i64 0), (.str []), .nils]), zv 5 (.mov (.c (.bool false)))]
def qbmh : IC := .reg false [zv 10 (.ld false 1 (.t 2)), zi 11 (.call (.c (.fn 10 [] [])) [((.t 10), .id)]), zm 9 11, zv 12 (.ext (.t 9) 0), zv 13 (.ext (.t 9) 1), zi 6 (.alo [(.int .i64 0), (.int .i64 0), (.int .i64 0), (.str []), .nils]), zn (.st 5 (.agg [.id, .id, .id, .id, (.sl 5)]) (.t 6) (.t 12)), zm 7 13]
def qbi6 : IC := .reg false [zm 14 7, zv 15 (.un .not (.t 14)), zm 16 15, zw 16 false 17 (.ld false 1 (.t 2)), ⟨some (16, false), some 18, .call (.c (.fn 43 [] [])) [((.t 17), .id), ((.c (.str [111, 102])), .id)]⟩, zw 16 false 19 (.un .not (.t 18)), zv 20 (.pick (.t 16) (.c (.bool true)) (.t 19))]
def qbkt : IC := .reg false [zv 21 (.ld true 5 (.t 3)), zn (.st 5 (.agg [.id, .id, .id, .id, (.sl 5)]) (.t 4) (.t 21)), zv 5 (.mov (.c (.bool false)))]
def qbja : IC := .reg false [zv 23 (.ld false 1 (.t 2)), zv 24 (.mfn 47 [] [(.t 2)]), zi 25 (.call (.c (.fn 44 [] [])) [((.t 23), .id), ((.t 24), .id)]), zm 22 25, zv 26 (.ext (.t 22) 0), zv 27 (.ext (.t 22) 1), zm 8 26, zm 7 27]
def qbmc : IC := .reg false [zv 28 (.ld true 5 (.t 6)), zv 29 (.bsl 5 [((.t 28), (.agg [.id, .id, .id, .id, (.sl 5)]))]), zm 30 8, zi 31 (.app 5 (.agg [(.int .i64 0), (.int .i64 0), (.int .i64 0), (.str []), .nils]) 64 (.sl 5) (.t 29) (.t 30)), zv 32 (.fad (.t 3) 0), zn (.st 1 .id (.t 32) (.c (.int .i64 27))), zv 33 (.fad (.t 3) 4), zn (.st 1 (.sl 5) (.t 33) (.t 31))]
def qbpj : IC := .reg false [zv 34 (.ld true 5 (.t 3)), zm 35 7, zn (.st 5 (.agg [.id, .id, .id, .id, (.sl 5)]) (.t 4) (.t 34)), zm 5 35]
def k0e : IC := (.seq qbko (.seq qbmh (.seq (.seq qbi6 (.cond (.t 20) (.seq qbkt .ret) .skip)) (.seq qbja (.seq qbmc (.seq qbpj .ret))))))
@[go_sem] def s0e : List (RV × Co) := [(.c true 5 4, (.agg [.id, .id, .id, .id, (.sl 5)])), (.t 5, .id)]
theorem c0e : cFun Try.prog 27 = some (36, k0e, s0e) := by kernel_rfl

def qbir : IC := .reg false [zi 3 (.box (.t 1)), zi 4 (.alo [(.int .i64 0), (.int .i64 0), (.int .i64 0), (.str []), .nils]), zv 5 (.mov (.c (.bool false)))]
def qbkm : IC := .reg false [zv 10 (.fad (.t 3) 0), zn (.st 1 .id (.t 10) (.c (.int .i64 28)))]
def qbps : IC := .reg false [zv 11 (.bld [(.str []), (.str []), (.str [])] [(0, 1, (.c (.str []))), (1, 1, (.c (.str [116, 104, 101, 110]))), (2, 1, (.c (.str [101, 108, 115, 101])))]), zv 12 (.mov (.c (.int .i64 0)))]
def qbn2 : IC := .reg false [zv 13 (.bin .lss .no (.t 12) (.c (.int .i64 3)))]
def qbl9 : IC := .reg false [zv 14 (.ida false 1 3 (.t 11) (.t 12)), zm 7 14]
def qbn1 : IC := .reg false [zm 15 7, zv 16 (.bin .neq .no (.t 15) (.c (.str []))), zm 17 16, zw 17 true 18 (.mov (.t 0)), zw 17 true 19 (.mov (.t 7)), ⟨some (17, true), some 20, .call (.c (.fn 43 [] [])) [((.t 18), .id), ((.t 19), .id)]⟩, zw 17 true 21 (.un .not (.t 20)), zv 22 (.pick (.t 17) (.t 21) (.c (.bool false)))]
def qbh8 : IC := .reg false [zv 23 (.ld true 5 (.t 3)), zn (.st 5 (.agg [.id, .id, .id, .id, (.sl 5)]) (.t 4) (.t 23)), zv 5 (.mov (.c (.bool false)))]
def qbkk : IC := .reg false [zm 25 0, zi 26 (.call (.c (.fn 10 [] [])) [((.t 25), .id)]), zm 24 26, zv 27 (.ext (.t 24) 0), zv 28 (.ext (.t 24) 1), zi 8 (.alo [(.int .i64 0), (.int .i64 0), (.int .i64 0), (.str []), .nils]), zn (.st 5 (.agg [.id, .id, .id, .id, (.sl 5)]) (.t 8) (.t 27)), zm 9 28]
def qblh : IC := .reg false [zm 29 9, zv 30 (.un .not (.t 29))]
def qbfg : IC := .reg false [zv 31 (.ld true 5 (.t 3)), zn (.st 5 (.agg [.id, .id, .id, .id, (.sl 5)]) (.t 4) (.t 31)), zv 5 (.mov (.c (.bool false)))]
def qbb3 : IC := .reg false [zv 32 (.fad (.t 3) 4), zv 33 (.ld false 1 (.t 32)), zv 34 (.ld true 5 (.t 8)), zv 35 (.bsl 5 [((.t 34), (.agg [.id, .id, .id, .id, (.sl 5)]))]), zi 36 (.app 5 (.agg [(.int .i64 0), (.int .i64 0), (.int .i64 0), (.str []), .nils]) 64 (.sl 5) (.t 33) (.t 35)), zv 37 (.fad (.t 3) 4), zn (.st 1 (.sl 5) (.t 37) (.t 36))]
def qbfw : IC := .reg false [zv 38 (.bin .add .no (.t 12) (.c (.int .i64 1))), zm 12 38]
def qbol : IC := (.seq qbn2 (.seq (.cond (.t 13) .skip (.exit 0)) (.seq (.block 1 (.seq qbl9 (.seq (.seq qbn1 (.cond (.t 22) (.seq qbh8 .ret) .skip)) (.seq qbkk (.seq (.seq qblh (.cond (.t 30) (.seq qbfg .ret) .skip)) qbb3))))) qbfw)))
def qbgv : IC := .reg false [zv 39 (.ld true 5 (.t 3)), zn (.st 5 (.agg [.id, .id, .id, .id, (.sl 5)]) (.t 4) (.t 39)), zv 5 (.mov (.c (.bool true)))]
def k0f : IC := (.seq qbir (.seq qbkm (.seq (.seq qbps (.block 0 (.loop qbol))) (.seq qbgv .ret))))
@[go_sem] def s0f : List (RV × Co) := [(.c true 5 4, (.agg [.id, .id, .id, .id, (.sl 5)])), (.t 5, .id)]
theorem c0f : cFun Try.prog 28 = some (40, k0f, s0f) := by kernel_rfl

def qbp3 : IC := .reg false [zi 2 (.alo [(.int .i64 0), (.int .i64 0), (.int .i64 0), (.str []), .nils]), zv 3 (.mov (.c (.bool false)))]
def qblk : IC := .reg false [zm 10 0, zi 11 (.call (.c (.fn 49 [] [])) [((.t 10), .id)]), zm 9 11, zv 12 (.ext (.t 9) 0), zv 13 (.ext (.t 9) 1), zi 4 (.alo [(.int .i64 0), (.int .i64 0), (.int .i64 0), (.str []), .nils]), zn (.st 5 (.agg [.id, .id, .id, .id, (.sl 5)]) (.t 4) (.t 12)), zm 5 13]
def qbmm : IC := .reg false [zm 14 5]
def qbjd : IC := .reg false [zm 16 0, zi 17 (.call (.c (.fn 50 [] [])) [((.t 16), .id)]), zm 15 17, zv 18 (.ext (.t 15) 0), zv 19 (.ext (.t 15) 1), zi 6 (.alo [(.int .i64 0), (.int .i64 0), (.int .i64 0), (.str []), .nils]), zn (.st 5 (.agg [.id, .id, .id, .id, (.sl 5)]) (.t 6) (.t 18)), zm 7 19]
def qbki : IC := .reg false [zm 20 7, zv 21 (.un .not (.t 20)), zm 22 21, zw 22 true 23 (.mov (.t 0)), ⟨some (22, true), some 24, .call (.c (.fn 41 [] [])) [((.t 23), .id), ((.c (.str [40])), .id)]⟩, zw 22 true 25 (.un .not (.t 24)), zv 26 (.pick (.t 22) (.t 25) (.c (.bool false)))]
def qbnq : IC := .reg false [zi 8 (.alo [(.int .i64 0), (.int .i64 0), (.int .i64 0), (.str []), .nils])]
def qbj4 : IC := .reg false [zm 28 0, zi 29 (.call (.c (.fn 49 [] [])) [((.t 28), .id)]), zm 27 29, zv 30 (.ext (.t 27) 0), zv 31 (.ext (.t 27) 1), zn (.st 5 (.agg [.id, .id, .id, .id, (.sl 5)]) (.t 8) (.t 30)), zm 5 31]
def qbnv : IC := .reg false [zv 32 (.fad (.t 4) 1), zv 33 (.ld false 1 (.t 32)), zv 34 (.ld true 5 (.t 4)), zv 35 (.ld true 5 (.t 8)), zv 36 (.bsl 5 [((.t 34), (.agg [.id, .id, .id, .id, (.sl 5)])), ((.t 35), (.agg [.id, .id, .id, .id, (.sl 5)]))]), zv 37 (.bld [(.int .i64 0), (.int .i64 0), (.int .i64 0), (.str []), .nils] [(0, 1, (.c (.int .i64 24))), (1, 1, (.t 33)), (4, 1, (.t 36))]), zn (.st 5 (.agg [.id, .id, .id, .id, (.sl 5)]) (.t 4) (.t 37))]
def qboh : IC := (.seq (.seq qbmm (.cond (.t 14) .skip (.exit 0))) (.block 1 (.seq (.seq qbjd (.seq qbki (.cond (.t 26) (.exit 0) .skip))) (.seq qbnq (.seq qbj4 qbnv)))))
def qbds : IC := .reg false [zv 38 (.ld true 5 (.t 4)), zm 39 5, zn (.st 5 (.agg [.id, .id, .id, .id, (.sl 5)]) (.t 2) (.t 38)), zm 3 39]
def k0o : IC := (.seq qbp3 (.seq qblk (.seq (.block 0 (.loop qboh)) (.seq qbds .ret))))
@[go_sem] def s0o : List (RV × Co) := [(.c true 5 2, (.agg [.id, .id, .id, .id, (.sl 5)])), (.t 3, .id)]
theorem c0o : cFun Try.prog 29 = some (40, k0o, s0o) := by kernel_rfl

def qbbi : IC := .reg false [zv 4 (.ld true 5 (.t 1)), zv 5 (.ld false 1 (.t 2)), zm 6 0, zi 7 (.call (.c (.fn 31 [] [])) [((.t 4), (.agg [.id, .id, .id, .id, (.sl 5)])), ((.t 5), .id), ((.t 6), .id)])]
def k0ck : IC := qbbi
@[go_sem] def s0ck : List (RV × Co) := []
theorem c0ck : cFun Try.prog 30 = some (8, k0ck, s0ck) := by kernel_rfl

def qbbg : IC := .reg false [zi 3 (.box (.t 0)), zv 6 (.mov (.c (.bool false)))]
def q8q : IC := .reg false [zm 9 2, zm 10 1, zv 11 (.ld true 5 (.t 3)), zi 12 (.call (.t 9) [((.t 10), .id), ((.t 11), (.agg [.id, .id, .id, .id, (.sl 5)]))]), zv 13 (.un .not (.t 12))]
def qbcn : IC := .reg false [zv 6 (.mov (.c (.bool false)))]
def q8l : IC := .reg false [zv 14 (.fad (.t 3) 4), zv 15 (.ld false 1 (.t 14)), zv 16 (.len false (.t 15)), zv 17 (.mov (.c (.int .i64 0)))]
def qbes : IC := .reg false [zv 18 (.bin .lss .no (.t 17) (.t 16))]
def qbct : IC := .reg false [zv 19 (.iad 5 (.t 15) (.t 17)), zv 20 (.ld true 5 (.t 19)), zi 8 (.alo [(.int .i64 0), (.int .i64 0), (.int .i64 0), (.str []), .nils]), zn (.st 5 (.agg [.id, .id, .id, .id, (.sl 5)]) (.t 8) (.t 20))]
def qbcm : IC := .reg false [zv 21 (.ld true 5 (.t 8)), zm 22 1, zv 23 (.bin .add .no (.t 22) (.c (.int .i64 1))), zm 24 2, zi 25 (.call (.c (.fn 31 [] [])) [((.t 21), (.agg [.id, .id, .id, .id, (.sl 5)])), ((.t 23), .id), ((.t 24), .id)]), zv 26 (.un .not (.t 25))]
def qber : IC := .reg false [zv 6 (.mov (.c (.bool false)))]
def q9o : IC := .reg false [zv 27 (.bin .add .no (.t 17) (.c (.int .i64 1))), zm 17 27]
def qbdp : IC := (.seq qbes (.seq (.cond (.t 18) .skip (.exit 0)) (.seq (.block 1 (.seq qbct (.seq qbcm (.cond (.t 26) (.seq qber .ret) .skip)))) q9o)))
def q6c : IC := .reg false [zv 6 (.mov (.c (.bool true)))]
def k0cj : IC := (.seq qbbg (.seq (.seq q8q (.cond (.t 13) (.seq qbcn .ret) .skip)) (.seq (.seq q8l (.block 0 (.loop qbdp))) (.seq q6c .ret))))
@[go_sem] def s0cj : List (RV × Co) := [(.t 6, .id)]
theorem c0cj : cFun Try.prog 31 = some (28, k0cj, s0cj) := by kernel_rfl

def q9a : IC := .reg false [zv 4 (.mov (.c (.int .i64 0)))]
def qbhe : IC := .reg false [zm 6 0, zv 7 (.len true (.t 6)), zv 8 (.mov (.c (.int .i64 0)))]
def q99 : IC := .reg false [zv 9 (.bin .lss .no (.t 8) (.t 7))]
def qbf3 : IC := .reg false [zm 10 8, zm 5 10]
def qbbr : IC := .reg false [zm 11 1, zm 12 0, zm 13 5, zv 14 (.idx (.t 12) (.t 13)), zi 15 (.call (.t 11) [((.t 14), .id)]), zv 16 (.un .not (.t 15))]
def qbgt : IC := .reg false [zm 17 5, zm 4 17]
def qbgg : IC := .reg false [zv 18 (.bin .add .no (.t 8) (.c (.int .i64 1))), zm 8 18]
def qbee : IC := (.seq q99 (.seq (.cond (.t 9) .skip (.exit 0)) (.seq (.block 1 (.seq qbf3 (.seq qbbr (.cond (.t 16) (.seq qbgt .ret) .skip)))) qbgg)))
def qbc4 : IC := .reg false [zm 19 0, zv 20 (.len true (.t 19)), zm 4 20]
def k0by : IC := (.seq q9a (.seq (.seq qbhe (.block 0 (.loop qbee))) (.seq qbc4 .ret)))
@[go_sem] def s0by : List (RV × Co) := [(.t 4, .id)]
theorem c0by : cFun Try.prog 32 = some (21, k0by, s0by) := by kernel_rfl

def qbdh : IC := .reg false [zv 2 (.mov (.c (.bool false)))]
def qbfp : IC := .reg false [zm 3 0, zv 4 (.bin .eql .no (.t 3) (.c (.int .u8 9))), zm 5 4, zw 5 false 6 (.mov (.t 0)), zw 5 false 7 (.bin .eql .no (.t 6) (.c (.int .u8 10))), zv 8 (.pick (.t 5) (.c (.bool true)) (.t 7)), zm 9 8, zw 9 false 10 (.mov (.t 0)), zw 9 false 11 (.bin .eql .no (.t 10) (.c (.int .u8 13))), zv 12 (.pick (.t 9) (.c (.bool true)) (.t 11)), zm 13 12, zw 13 false 14 (.mov (.t 0)), zw 13 false 15 (.bin .eql .no (.t 14) (.c (.int .u8 32))), zv 16 (.pick (.t 13) (.c (.bool true)) (.t 15)), zm 2 16]
def k0bw : IC := (.seq qbdh (.seq qbfp .ret))
@[go_sem] def s0bw : List (RV × Co) := [(.t 2, .id)]
theorem c0bw : cFun Try.prog 33 = some (17, k0bw, s0bw) := by kernel_rfl

def qbgr : IC := .reg false [zv 4 (.mov (.c (.bool false)))]
def qba3 : IC := .reg false [zm 5 0, zm 6 1, zi 7 (.call (.c (.fn 51 [] [])) [((.t 5), .id), ((.t 6), .id)]), zm 4 7]
def k0ca : IC := (.seq qbgr (.seq qba3 .ret))
@[go_sem] def s0ca : List (RV × Co) := [(.t 4, .id)]
theorem c0ca : cFun Try.prog 34 = some (8, k0ca, s0ca) := by kernel_rfl

def q8f : IC := .reg false [zv 2 (.mov (.c (.bool false)))]
def q9p : IC := .reg false [zm 3 0, zv 4 (.bin .neq .no (.t 3) (.c (.int .u8 10))), zm 2 4]
def k0bx : IC := (.seq q8f (.seq q9p .ret))
@[go_sem] def s0bx : List (RV × Co) := [(.t 2, .id)]
theorem c0bx : cFun Try.prog 35 = some (5, k0bx, s0bx) := by kernel_rfl

def qbb2 : IC := .reg false [zv 2 (.mov (.c (.bool false)))]
def q9n : IC := .reg false [zm 3 0, zv 4 (.bin .geq .no (.t 3) (.c (.int .u8 48))), zm 5 4, zw 5 true 6 (.mov (.t 0)), zw 5 true 7 (.bin .leq .no (.t 6) (.c (.int .u8 57))), zv 8 (.pick (.t 5) (.t 7) (.c (.bool false))), zm 2 8]
def k0bu : IC := (.seq qbb2 (.seq q9n .ret))
@[go_sem] def s0bu : List (RV × Co) := [(.t 2, .id)]
theorem c0bu : cFun Try.prog 36 = some (9, k0bu, s0bu) := by kernel_rfl

def qbao : IC := .reg false [zv 2 (.mov (.c (.int .i64 0))), zv 3 (.mov (.c (.int .i64 0)))]
def qbfx : IC := .reg false [zm 8 0, zv 9 (.len true (.t 8)), zv 10 (.mov (.c (.int .i64 0)))]
def q9q : IC := .reg false [zv 11 (.bin .lss .no (.t 10) (.t 9))]
def q84 : IC := .reg false [zm 12 10, zm 4 12]
def qbc2 : IC := .reg false [zm 13 0, zm 14 4, zv 15 (.idx (.t 13) (.t 14)), zv 16 (.bin .lss .no (.t 15) (.c (.int .u8 48))), zm 17 16, zw 17 false 18 (.mov (.t 0)), zw 17 false 19 (.mov (.t 4)), zw 17 false 20 (.idx (.t 18) (.t 19)), zw 17 false 21 (.bin .gtr .no (.t 20) (.c (.int .u8 57))), zv 22 (.pick (.t 17) (.c (.bool true)) (.t 21))]
def q8u : IC := .reg false [zv 2 (.mov (.c (.int .i64 0))), zv 3 (.mov (.c (.int .i64 5)))]
def q94 : IC := .reg false [zv 23 (.bin .add .no (.t 10) (.c (.int .i64 1))), zm 10 23]
def qbh6 : IC := (.seq q9q (.seq (.cond (.t 11) .skip (.exit 0)) (.seq (.block 1 (.seq q84 (.seq qbc2 (.cond (.t 22) (.seq q8u .ret) .skip)))) q94)))
def q9g : IC := .reg false [zm 24 0, zv 25 (.bin .eql .no (.t 24) (.c (.str [])))]
def q44 : IC := .reg false [zv 2 (.mov (.c (.int .i64 0))), zv 3 (.mov (.c (.int .i64 5)))]
def q4o : IC := .reg false [zv 5 (.mov (.c (.int .i64 0))), zv 6 (.mov (.c (.int .i64 0)))]
def q4v : IC := .reg false [zm 26 0, zm 27 6, zv 28 (.idx (.t 26) (.t 27)), zv 29 (.bin .sub .no (.t 28) (.c (.int .u8 48))), zv 30 (.cvi .i64 (.t 29)), zm 7 30]
def q6p : IC := .reg false [zm 31 5, zm 32 7, zv 33 (.bin .sub .no (.c (.int .i64 9223372036854775807)) (.t 32)), zv 34 (.bin .quo .no (.t 33) (.c (.int .i64 10))), zv 35 (.bin .gtr .no (.t 31) (.t 34))]
def q3y : IC := .reg false [zv 2 (.mov (.c (.int .i64 0))), zv 3 (.mov (.c (.int .i64 4)))]
def q3b : IC := .reg false [zm 36 5, zv 37 (.bin .mul .no (.c (.int .i64 10)) (.t 36)), zm 38 7, zv 39 (.bin .add .no (.t 37) (.t 38)), zm 5 39]
def q5m : IC := .reg false [zm 40 6, zv 41 (.bin .add .no (.t 40) (.c (.int .i64 1))), zm 6 41]
def q6z : IC := .reg false [zm 42 6, zm 43 0, zv 44 (.len true (.t 43)), zv 45 (.bin .lss .no (.t 42) (.t 44))]
def q57 : IC := .reg false [zm 46 5, zm 2 46, zv 3 (.mov (.c (.int .i64 0)))]
def k0cc : IC := (.seq qbao (.scope (.seq (.seq qbfx (.block 0 (.loop qbh6))) (.seq (.seq q9g (.cond (.t 25) (.seq q44 .ret) .skip)) (.seq q4o (.seq (.label 0) (.seq q4v (.seq (.seq q6p (.cond (.t 35) (.seq q3y .ret) .skip)) (.seq q3b (.seq (.seq q5m (.seq q6z (.cond (.t 45) (.goto 0) .skip))) (.seq q57 .ret)))))))))))
@[go_sem] def s0cc : List (RV × Co) := [(.t 2, .id), (.t 3, .id)]
theorem c0cc : cFun Try.prog 37 = some (47, k0cc, s0cc) := by kernel_rfl

def qbcc : IC := .reg false [zv 2 (.mov (.c (.bool false)))]
def qbeb : IC := .reg false [zm 3 0, zv 4 (.bin .geq .no (.t 3) (.c (.int .u8 97))), zm 5 4, zw 5 true 6 (.mov (.t 0)), zw 5 true 7 (.bin .leq .no (.t 6) (.c (.int .u8 122))), zv 8 (.pick (.t 5) (.t 7) (.c (.bool false))), zm 9 8, zw 9 false 10 (.mov (.t 0)), zw 9 false 11 (.bin .geq .no (.t 10) (.c (.int .u8 65))), zw 9 false 12 (.mov (.t 11)), zw 12 true 13 (.mov (.t 0)), zw 12 true 14 (.bin .leq .no (.t 13) (.c (.int .u8 90))), zw 9 false 15 (.pick (.t 12) (.t 14) (.c (.bool false))), zv 16 (.pick (.t 9) (.c (.bool true)) (.t 15)), zm 17 16, zw 17 false 18 (.mov (.t 0)), zw 17 false 19 (.bin .eql .no (.t 18) (.c (.int .u8 95))), zv 20 (.pick (.t 17) (.c (.bool true)) (.t 19)), zm 21 20, zw 21 false 22 (.mov (.t 0)), zw 21 false 23 (.bin .eql .no (.t 22) (.c (.int .u8 39))), zv 24 (.pick (.t 21) (.c (.bool true)) (.t 23)), zm 25 24, zw 25 false 26 (.mov (.t 0)), ⟨some (25, false), some 27, .call (.c (.fn 36 [] [])) [((.t 26), .id)]⟩, zv 28 (.pick (.t 25) (.c (.bool true)) (.t 27)), zm 2 28]
def k0bv : IC := (.seq qbcc (.seq qbeb .ret))
@[go_sem] def s0bv : List (RV × Co) := [(.t 2, .id)]
theorem c0bv : cFun Try.prog 38 = some (29, k0bv, s0bv) := by kernel_rfl

def qbhc : IC := .reg false [zi 2 (.alo [(.int .i64 0), (.int .i64 0), (.int .i64 0), (.str [])])]
def q73 : IC := .reg false [zm 4 0, zv 5 (.bld [(.int .i64 0), (.int .i64 0), (.int .i64 0), (.str [])] [(0, 1, (.c (.int .i64 1))), (3, 1, (.t 4))]), zi 3 (.alo [(.int .i64 0), (.int .i64 0), (.int .i64 0), (.str [])]), zn (.st 4 .id (.t 3) (.t 5))]
def qbe9 : IC := .reg false [zm 7 0, zv 8 (.bin .eql .no (.t 7) (.c (.str [95]))), zm 6 8]
def qbfn : IC := .reg false [zv 9 (.fad (.t 3) 0), zn (.st 1 .id (.t 9) (.c (.int .i64 5)))]
def qbaw : IC := .reg false [zm 11 0, zi 12 (.call (.c (.fn 52 [] [])) [((.t 11), .id)]), zm 10 12]
def qba4 : IC := .reg false [zv 13 (.fad (.t 3) 0), zn (.st 1 .id (.t 13) (.c (.int .i64 4)))]
def qbec : IC := .reg false [zm 15 0, zi 16 (.call (.c (.fn 53 [] [])) [((.t 15), .id)]), zm 14 16]
def q7w : IC := .reg false [zv 17 (.fad (.t 3) 0), zn (.st 1 .id (.t 17) (.c (.int .i64 2)))]
def q8j : IC := .reg false [zv 18 (.ld true 4 (.t 3)), zn (.st 4 .id (.t 2) (.t 18))]
def k0br : IC := (.seq qbhc (.seq q73 (.seq (.block 0 (.seq qbe9 (.cond (.t 6) qbfn (.seq qbaw (.cond (.t 10) qba4 (.seq qbec (.cond (.t 14) q7w .skip))))))) (.seq q8j .ret))))
@[go_sem] def s0br : List (RV × Co) := [(.c true 4 2, .id)]
theorem c0br : cFun Try.prog 39 = some (19, k0br, s0br) := by kernel_rfl

def qbbv : IC := .reg false [zv 2 (.mov (.c (.int .i64 0)))]
def qbhz : IC := .reg false [zv 5 (.bld [(.str []), (.str []), (.str []), (.str []), (.str []), (.str []), (.str []), (.str []), (.str []), (.str []), (.str []), (.str [])] [(0, 1, (.c (.str [45, 62]))), (1, 1, (.c (.str [61, 62]))), (2, 1, (.c (.str [58, 58]))), (3, 1, (.c (.str [40]))), (4, 1, (.c (.str [41]))), (5, 1, (.c (.str [123]))), (6, 1, (.c (.str [125]))), (7, 1, (.c (.str [59]))), (8, 1, (.c (.str [44]))), (9, 1, (.c (.str [61]))), (10, 1, (.c (.str [124]))), (11, 1, (.c (.str [92])))]), zv 6 (.mov (.c (.int .i64 0)))]
def q9e : IC := .reg false [zv 7 (.bin .lss .no (.t 6) (.c (.int .i64 12)))]
def q76 : IC := .reg false [zv 8 (.ida false 1 12 (.t 5) (.t 6)), zm 4 8]
def qbbe : IC := .reg false [zm 9 0, zm 10 4, zi 11 (.call (.c (.fn 34 [] [])) [((.t 9), .id), ((.t 10), .id)])]
def qbfo : IC := .reg false [zm 12 4, zv 13 (.len true (.t 12)), zm 2 13]
def qbdl : IC := .reg false [zv 14 (.bin .add .no (.t 6) (.c (.int .i64 1))), zm 6 14]
def q9t : IC := (.seq q9e (.seq (.cond (.t 7) .skip (.exit 0)) (.seq (.block 1 (.seq q76 (.seq qbbe (.cond (.t 11) (.seq qbfo .ret) .skip)))) qbdl)))
def qbdk : IC := .reg false [zv 2 (.mov (.c (.int .i64 0)))]
def k0bs : IC := (.seq qbbv (.seq (.seq qbhz (.block 0 (.loop q9t))) (.seq qbdk .ret)))
@[go_sem] def s0bs : List (RV × Co) := [(.t 2, .id)]
theorem c0bs : cFun Try.prog 40 = some (15, k0bs, s0bs) := by kernel_rfl

def qbd5 : IC := .reg false [zv 4 (.mov (.c (.bool false)))]
def qbb7 : IC := .reg false [zm 5 0, zi 6 (.call (.c (.fn 21 [] [])) [((.t 5), .id)]), zv 7 (.un .not (.t 6)), zm 8 7, zw 8 true 9 (.mov (.t 0)), ⟨some (8, true), some 10, .call (.c (.fn 23 [] [])) [((.t 9), .id)]⟩, zw 8 true 11 (.mov (.t 1)), zw 8 true 12 (.bsl 1 [((.t 11), .id)]), ⟨some (8, true), some 13, .call (.c (.fn 54 [] [])) [((.t 10), .id), ((.t 12), (.sl 1))]⟩, zv 14 (.pick (.t 8) (.t 13) (.c (.bool false))), zm 4 14]
def k0bh : IC := (.seq qbd5 (.seq qbb7 .ret))
@[go_sem] def s0bh : List (RV × Co) := [(.t 4, .id)]
theorem c0bh : cFun Try.prog 41 = some (15, k0bh, s0bh) := by kernel_rfl

def qbhd : IC := .reg false [zi 2 (.alo [(.int .i64 0), (.int .i64 0), (.int .i64 0), (.str [])])]
def qba5 : IC := .reg false [zm 4 0, zi 5 (.call (.c (.fn 23 [] [])) [((.t 4), .id)]), zi 3 (.alo [(.int .i64 0), (.int .i64 0), (.int .i64 0), (.str [])]), zn (.st 4 .id (.t 3) (.t 5))]
def qbf8 : IC := .drw [zp (zm 6 0), (zi 7 (.call (.c (.fn 21 [] [])) [((.t 6), .id)]), []), zp (zv 8 (.un .not (.t 7))), zp (zm 9 8), zp (zw 9 true 10 (.mov (.t 0))), zp (zw 9 true 11 (.nck (.t 10))), zp (zw 9 true 12 (.fad (.t 11) 5)), zp (zw 9 true 13 (.ld false 1 (.t 12))), zp (zw 9 true 14 (.mov (.t 0))), zp (zw 9 true 15 (.nck (.t 14))), zp (zw 9 true 16 (.fad (.t 15) 0)), zp (zw 9 true 17 (.ld false 1 (.t 16))), zp (zw 9 true 18 (.len false (.t 17))), zp (zw 9 true 19 (.bin .lss .no (.t 13) (.t 18))), zp (zv 20 (.pick (.t 9) (.t 19) (.c (.bool false))))]
def qbdc : IC := .reg false [zm 21 0, zv 22 (.nck (.t 21)), zv 23 (.fad (.t 22) 5), zv 24 (.ld false 1 (.t 23)), zv 25 (.bin .add .no (.t 24) (.c (.int .i64 1))), zv 26 (.nck (.t 21)), zv 27 (.fad (.t 26) 5), zn (.st 1 .id (.t 27) (.t 25))]
def qbfh : IC := .reg false [zv 28 (.ld true 4 (.t 3)), zn (.st 4 .id (.t 2) (.t 28))]
def k0bg : IC := (.seq qbhd (.seq qba5 (.seq (.seq qbf8 (.cond (.t 20) qbdc .skip)) (.seq qbfh .ret))))
@[go_sem] def s0bg : List (RV × Co) := [(.c true 4 2, .id)]
theorem c0bg : cFun Try.prog 42 = some (29, k0bg, s0bg) := by kernel_rfl

def qbf9 : IC := .reg false [zv 4 (.mov (.c (.bool false)))]
def qbbb : IC := .reg false [zm 5 0, zm 6 1, zi 7 (.call (.c (.fn 24 [] [])) [((.t 5), .id), ((.t 6), .id)]), zm 8 7, zw 8 false 9 (.mov (.t 0)), ⟨some (8, false), some 10, .call (.c (.fn 22 [] [])) [((.t 9), .id), ((.c (.int .i64 5)), .id)]⟩, zv 11 (.pick (.t 8) (.c (.bool true)) (.t 10)), zm 4 11]
def k0bk : IC := (.seq qbf9 (.seq qbbb .ret))
@[go_sem] def s0bk : List (RV × Co) := [(.t 4, .id)]
theorem c0bk : cFun Try.prog 43 = some (12, k0bk, s0bk) := by kernel_rfl

def qbm5 : IC := .reg false [zv 4 (.mov (.c .nils)), zv 5 (.mov (.c (.bool false)))]
def qbp2 : IC := .reg false [zm 9 0, zi 10 (.call (.c (.fn 43 [] [])) [((.t 9), .id), ((.c (.str [123])), .id)]), zv 11 (.un .not (.t 10))]
def qbl0 : IC := .reg false [zv 4 (.mov (.c .nils)), zv 5 (.mov (.c (.bool false)))]
def qbi4 : IC := .reg false [zv 6 (.mov (.c .nils))]
def qbkn : IC := .reg false [zm 13 1, zi 14 (.call (.t 13) []), zm 12 14, zv 15 (.ext (.t 12) 0), zv 16 (.ext (.t 12) 1), zi 7 (.alo [(.int .i64 0), (.int .i64 0), (.int .i64 0), (.str []), .nils]), zn (.st 5 (.agg [.id, .id, .id, .id, (.sl 5)]) (.t 7) (.t 15)), zm 8 16]
def qbob : IC := .reg false [zm 17 8, zv 18 (.un .not (.t 17))]
def qbmw : IC := .reg false [zv 4 (.mov (.c .nils)), zv 5 (.mov (.c (.bool false)))]
def qbjb : IC := .reg false [zm 19 6, zv 20 (.ld true 5 (.t 7)), zv 21 (.bsl 5 [((.t 20), (.agg [.id, .id, .id, .id, (.sl 5)]))]), zi 22 (.app 5 (.agg [(.int .i64 0), (.int .i64 0), (.int .i64 0), (.str []), .nils]) 64 (.sl 5) (.t 19) (.t 21)), zm 6 22]
def q7p : IC := .reg false [zm 23 0, zi 24 (.call (.c (.fn 24 [] [])) [((.t 23), .id), ((.c (.str [59])), .id)]), zv 25 (.un .not (.t 24)), zm 26 25, zw 26 false 27 (.mov (.t 0)), ⟨some (26, false), some 28, .call (.c (.fn 41 [] [])) [((.t 27), .id), ((.c (.str [125])), .id)]⟩, zv 29 (.pick (.t 26) (.c (.bool true)) (.t 28))]
def q95 : IC := .reg false [zm 30 6, zm 31 0, zi 32 (.call (.c (.fn 43 [] [])) [((.t 31), .id), ((.c (.str [125])), .id)]), zm 4 30, zm 5 32]
def q69 : IC := (.block 1 (.seq qbkn (.seq (.seq qbob (.cond (.t 18) (.seq qbmw .ret) .skip)) (.seq qbjb (.seq q7p (.cond (.t 29) (.seq q95 .ret) .skip))))))
def k0j : IC := (.seq qbm5 (.seq (.seq qbp2 (.cond (.t 11) (.seq qbl0 .ret) .skip)) (.seq qbi4 (.block 0 (.loop q69)))))
@[go_sem] def s0j : List (RV × Co) := [(.t 4, (.sl 5)), (.t 5, .id)]
theorem c0j : cFun Try.prog 44 = some (33, k0j, s0j) := by kernel_rfl

def qbig : IC := .reg false [zi 1 (.alo [(.int .i64 0), (.int .i64 0), (.int .i64 0), (.str []), .nils]), zv 2 (.mov (.c (.bool false)))]
def qbna : IC := .reg false [zv 3 (.ld false 1 (.t 0)), zi 4 (.call (.c (.fn 46 [] [])) [((.t 3), .id)]), zv 5 (.ext (.t 4) 0), zv 6 (.ext (.t 4) 1), zn (.st 5 (.agg [.id, .id, .id, .id, (.sl 5)]) (.t 1) (.t 5)), zm 2 6]
def k0h : IC := (.seq qbig (.seq qbna .ret))
@[go_sem] def s0h : List (RV × Co) := [(.c true 5 1, (.agg [.id, .id, .id, .id, (.sl 5)])), (.t 2, .id)]
theorem c0h : cFun Try.prog 45 = some (7, k0h, s0h) := by kernel_rfl

def qbmz : IC := .reg false [zi 2 (.alo [(.int .i64 0), (.int .i64 0), (.int .i64 0), (.str []), .nils]), zv 3 (.mov (.c (.bool false)))]
def qbmd : IC := .reg false [zm 9 0, zi 10 (.call (.c (.fn 55 [] [])) [((.t 9), .id), ((.c (.int .i64 1)), .id)]), zm 8 10, zv 11 (.ext (.t 8) 0), zv 12 (.ext (.t 8) 1), zi 4 (.alo [(.int .i64 0), (.int .i64 0), (.int .i64 0), (.str [])]), zn (.st 4 .id (.t 4) (.t 11)), zm 5 12]
def qbpp : IC := .reg false [zm 13 5, zv 14 (.un .not (.t 13))]
def qbpc : IC := .reg false [zv 15 (.bld [(.int .i64 0), (.int .i64 0), (.int .i64 0), (.str []), .nils] []), zn (.st 5 (.agg [.id, .id, .id, .id, (.sl 5)]) (.t 2) (.t 15)), zv 3 (.mov (.c (.bool false)))]
def qbms : IC := .reg false [zv 16 (.fad (.t 4) 1), zv 17 (.ld false 1 (.t 16)), zv 18 (.fad (.t 4) 3), zv 19 (.ld false 1 (.t 18)), zv 20 (.bld [(.int .i64 0), (.int .i64 0), (.int .i64 0), (.str []), .nils] [(0, 1, (.c (.int .i64 31))), (1, 1, (.t 17)), (3, 1, (.t 19))]), zi 6 (.alo [(.int .i64 0), (.int .i64 0), (.int .i64 0), (.str []), .nils]), zn (.st 5 (.agg [.id, .id, .id, .id, (.sl 5)]) (.t 6) (.t 20))]
def qbpu : IC := .reg false [zi 7 (.alo [(.int .i64 0), (.int .i64 0), (.int .i64 0), (.str []), .nils])]
def qbj5 : IC := .reg false [zm 21 0, zi 22 (.call (.c (.fn 24 [] [])) [((.t 21), .id), ((.c (.str [58, 58])), .id)])]
def qbmg : IC := .reg false [zv 23 (.fad (.t 6) 0), zn (.st 1 .id (.t 23) (.c (.int .i64 32)))]
def qbm4 : IC := .reg false [zm 25 0, zi 26 (.call (.c (.fn 56 [] [])) [((.t 25), .id)]), zm 24 26, zv 27 (.ext (.t 24) 0), zv 28 (.ext (.t 24) 1), zn (.st 5 (.agg [.id, .id, .id, .id, (.sl 5)]) (.t 7) (.t 27)), zm 5 28]
def qbi8 : IC := .reg false [zm 30 0, zi 31 (.call (.c (.fn 25 [] [])) [((.t 30), .id), ((.c (.str [61])), .id)]), zm 29 31, zv 32 (.ext (.t 29) 0), zv 33 (.ext (.t 29) 1), zn (.st 5 (.agg [.id, .id, .id, .id, (.sl 5)]) (.t 7) (.t 32)), zm 5 33]
def q7t : IC := .reg false [zm 34 5, zv 35 (.un .not (.t 34))]
def qbdj : IC := .reg false [zv 36 (.bld [(.int .i64 0), (.int .i64 0), (.int .i64 0), (.str []), .nils] []), zn (.st 5 (.agg [.id, .id, .id, .id, (.sl 5)]) (.t 2) (.t 36)), zv 3 (.mov (.c (.bool false)))]
def qbbt : IC := .reg false [zv 37 (.ld true 5 (.t 7)), zv 38 (.bsl 5 [((.t 37), (.agg [.id, .id, .id, .id, (.sl 5)]))]), zv 39 (.fad (.t 6) 4), zn (.st 1 (.sl 5) (.t 39) (.t 38))]
def qbfc : IC := .reg false [zv 40 (.ld true 5 (.t 6)), zn (.st 5 (.agg [.id, .id, .id, .id, (.sl 5)]) (.t 2) (.t 40)), zv 3 (.mov (.c (.bool true)))]
def k0l : IC := (.seq qbmz (.seq qbmd (.seq (.seq qbpp (.cond (.t 14) (.seq qbpc .ret) .skip)) (.seq qbms (.seq qbpu (.seq (.seq qbj5 (.cond (.t 22) (.seq qbmg qbm4) qbi8)) (.seq (.seq q7t (.cond (.t 35) (.seq qbdj .ret) .skip)) (.seq qbbt (.seq qbfc .ret)))))))))
@[go_sem] def s0l : List (RV × Co) := [(.c true 5 2, (.agg [.id, .id, .id, .id, (.sl 5)])), (.t 3, .id)]
theorem c0l : cFun Try.prog 46 = some (41, k0l, s0l) := by kernel_rfl

def qbl8 : IC := .reg false [zi 1 (.alo [(.int .i64 0), (.int .i64 0), (.int .i64 0), (.str []), .nils]), zv 2 (.mov (.c (.bool false)))]
def qbmx : IC := .reg false [zv 7 (.ld false 1 (.t 0)), zi 8 (.call (.c (.fn 48 [] [])) [((.t 7), .id)]), zm 6 8, zv 9 (.ext (.t 6) 0), zv 10 (.ext (.t 6) 1), zi 3 (.alo [(.int .i64 0), (.int .i64 0), (.int .i64 0), (.str []), .nils]), zn (.st 5 (.agg [.id, .id, .id, .id, (.sl 5)]) (.t 3) (.t 9)), zm 4 10]
def qbnl : IC := .reg false [zm 11 4, zv 12 (.un .not (.t 11)), zm 13 12, zw 13 false 14 (.ld false 1 (.t 0)), ⟨some (13, false), some 15, .call (.c (.fn 43 [] [])) [((.t 14), .id), ((.c (.str [45, 62])), .id)]⟩, zw 13 false 16 (.un .not (.t 15)), zv 17 (.pick (.t 13) (.c (.bool true)) (.t 16))]
def qboy : IC := .reg false [zv 18 (.ld true 5 (.t 3)), zn (.st 5 (.agg [.id, .id, .id, .id, (.sl 5)]) (.t 1) (.t 18)), zv 2 (.mov (.c (.bool false)))]
def qbmu : IC := .reg false [zv 20 (.ld false 1 (.t 0)), zi 21 (.call (.c (.fn 10 [] [])) [((.t 20), .id)]), zm 19 21, zv 22 (.ext (.t 19) 0), zv 23 (.ext (.t 19) 1), zi 5 (.alo [(.int .i64 0), (.int .i64 0), (.int .i64 0), (.str []), .nils]), zn (.st 5 (.agg [.id, .id, .id, .id, (.sl 5)]) (.t 5) (.t 22)), zm 4 23]
def qbin : IC := .reg false [zv 24 (.fad (.t 3) 1), zv 25 (.ld false 1 (.t 24)), zv 26 (.ld true 5 (.t 3)), zv 27 (.ld true 5 (.t 5)), zv 28 (.bsl 5 [((.t 26), (.agg [.id, .id, .id, .id, (.sl 5)])), ((.t 27), (.agg [.id, .id, .id, .id, (.sl 5)]))]), zv 29 (.bld [(.int .i64 0), (.int .i64 0), (.int .i64 0), (.str []), .nils] [(0, 1, (.c (.int .i64 15))), (1, 1, (.t 25)), (4, 1, (.t 28))]), zm 30 4, zn (.st 5 (.agg [.id, .id, .id, .id, (.sl 5)]) (.t 1) (.t 29)), zm 2 30]
def k0i : IC := (.seq qbl8 (.seq qbmx (.seq (.seq qbnl (.cond (.t 17) (.seq qboy .ret) .skip)) (.seq qbmu (.seq qbin .ret)))))
@[go_sem] def s0i : List (RV × Co) := [(.c true 5 1, (.agg [.id, .id, .id, .id, (.sl 5)])), (.t 2, .id)]
theorem c0i : cFun Try.prog 47 = some (31, k0i, s0i) := by kernel_rfl

def qbky : IC := .reg false [zi 2 (.alo [(.int .i64 0), (.int .i64 0), (.int .i64 0), (.str []), .nils]), zv 3 (.mov (.c (.bool false)))]
def qbp0 : IC := .reg false [zm 8 0, zi 9 (.call (.c (.fn 14 [] [])) [((.t 8), .id)]), zv 10 (.un .not (.t 9))]
def qbpe : IC := .reg false [zv 11 (.bld [(.int .i64 0), (.int .i64 0), (.int .i64 0), (.str []), .nils] []), zn (.st 5 (.agg [.id, .id, .id, .id, (.sl 5)]) (.t 2) (.t 11)), zv 3 (.mov (.c (.bool false)))]
def qbjo : IC := .reg false [zm 12 0, zi 13 (.call (.c (.fn 23 [] [])) [((.t 12), .id)]), zv 14 (.fld false 1 0 (.t 13)), zv 15 (.bin .eql .no (.t 14) (.c (.int .i64 2))), zm 4 15]
def qbll : IC := .reg false [zm 17 0, zi 18 (.call (.c (.fn 57 [] [])) [((.t 17), .id)]), zm 16 18, zv 19 (.ext (.t 16) 0), zv 20 (.ext (.t 16) 1), zi 5 (.alo [(.int .i64 0), (.int .i64 0), (.int .i64 0), (.str []), .nils]), zn (.st 5 (.agg [.id, .id, .id, .id, (.sl 5)]) (.t 5) (.t 19)), zm 6 20]
def qbmq : IC := .reg false [zm 21 6, zm 22 21, zw 22 true 23 (.mov (.t 4)), zv 24 (.pick (.t 22) (.t 23) (.c (.bool false))), zm 25 24, zw 25 true 26 (.mov (.t 0)), ⟨some (25, true), some 27, .call (.c (.fn 58 [] [])) [((.t 26), .id)]⟩, zv 28 (.pick (.t 25) (.t 27) (.c (.bool false)))]
def qbm2 : IC := .reg false [zi 7 (.alo [(.int .i64 0), (.int .i64 0), (.int .i64 0), (.str []), .nils])]
def qbm7 : IC := .reg false [zm 30 0, zi 31 (.call (.c (.fn 57 [] [])) [((.t 30), .id)]), zm 29 31, zv 32 (.ext (.t 29) 0), zv 33 (.ext (.t 29) 1), zn (.st 5 (.agg [.id, .id, .id, .id, (.sl 5)]) (.t 7) (.t 32)), zm 6 33]
def qbka : IC := .reg false [zm 34 6]
def qbc1 : IC := .reg false [zv 35 (.fad (.t 5) 4), zv 36 (.ld false 1 (.t 35)), zv 37 (.ld true 5 (.t 7)), zv 38 (.bsl 5 [((.t 37), (.agg [.id, .id, .id, .id, (.sl 5)]))]), zi 39 (.app 5 (.agg [(.int .i64 0), (.int .i64 0), (.int .i64 0), (.str []), .nils]) 64 (.sl 5) (.t 36) (.t 38)), zv 40 (.fad (.t 5) 4), zn (.st 1 (.sl 5) (.t 40) (.t 39))]
def qbl6 : IC := (.seq (.seq qbmq (.cond (.t 28) .skip (.exit 0))) (.block 1 (.seq qbm2 (.seq qbm7 (.seq qbka (.cond (.t 34) qbc1 .skip))))))
def qbe6 : IC := .reg false [zm 41 0, zi 42 (.call (.c (.fn 16 [] [])) [((.t 41), .id)])]
def qbg1 : IC := .reg false [zm 43 6, zv 44 (.un .not (.t 43))]
def qbac : IC := .reg false [zv 45 (.bld [(.int .i64 0), (.int .i64 0), (.int .i64 0), (.str []), .nils] []), zn (.st 5 (.agg [.id, .id, .id, .id, (.sl 5)]) (.t 2) (.t 45)), zv 3 (.mov (.c (.bool false)))]
def q86 : IC := .reg false [zv 46 (.ld true 5 (.t 5)), zn (.st 5 (.agg [.id, .id, .id, .id, (.sl 5)]) (.t 2) (.t 46)), zv 3 (.mov (.c (.bool true)))]
def k0s : IC := (.seq qbky (.seq (.seq qbp0 (.cond (.t 10) (.seq qbpe .ret) .skip)) (.seq qbjo (.seq qbll (.seq (.block 0 (.loop qbl6)) (.seq qbe6 (.seq (.seq qbg1 (.cond (.t 44) (.seq qbac .ret) .skip)) (.seq q86 .ret))))))))
@[go_sem] def s0s : List (RV × Co) := [(.c true 5 2, (.agg [.id, .id, .id, .id, (.sl 5)])), (.t 3, .id)]
theorem c0s : cFun Try.prog 48 = some (47, k0s, s0s) := by kernel_rfl

def qbnm : IC := .reg false [zi 2 (.alo [(.int .i64 0), (.int .i64 0), (.int .i64 0), (.str []), .nils]), zv 3 (.mov (.c (.bool false)))]
def qbkg : IC := .reg false [zm 9 0, zi 10 (.call (.c (.fn 50 [] [])) [((.t 9), .id)]), zm 8 10, zv 11 (.ext (.t 8) 0), zv 12 (.ext (.t 8) 1), zi 4 (.alo [(.int .i64 0), (.int .i64 0), (.int .i64 0), (.str []), .nils]), zn (.st 5 (.agg [.id, .id, .id, .id, (.sl 5)]) (.t 4) (.t 11)), zm 5 12]
def qbo9 : IC := .reg false [zm 13 5]
def qbj2 : IC := .reg false [zm 14 0, zi 15 (.call (.c (.fn 42 [] [])) [((.t 14), .id)])]
def qbpt : IC := .reg false [zv 16 (.ld true 5 (.t 4)), zn (.st 5 (.agg [.id, .id, .id, .id, (.sl 5)]) (.t 2) (.t 16)), zv 3 (.mov (.c (.bool true)))]
def qbln : IC := .reg false [zm 17 0, zi 18 (.call (.c (.fn 41 [] [])) [((.t 17), .id), ((.c (.str [40])), .id)]), zv 19 (.un .not (.t 18))]
def qbi7 : IC := .reg false [zv 20 (.bld [(.int .i64 0), (.int .i64 0), (.int .i64 0), (.str []), .nils] []), zm 21 0, zi 22 (.call (.c (.fn 22 [] [])) [((.t 21), .id), ((.c (.int .i64 5)), .id)]), zn (.st 5 (.agg [.id, .id, .id, .id, (.sl 5)]) (.t 2) (.t 20)), zm 3 22]
def qbk8 : IC := .reg false [zm 23 0, zi 24 (.call (.c (.fn 14 [] [])) [((.t 23), .id)]), zv 25 (.un .not (.t 24))]
def qbj8 : IC := .reg false [zv 26 (.bld [(.int .i64 0), (.int .i64 0), (.int .i64 0), (.str []), .nils] []), zn (.st 5 (.agg [.id, .id, .id, .id, (.sl 5)]) (.t 2) (.t 26)), zv 3 (.mov (.c (.bool false)))]
def qbp7 : IC := .reg false [zm 27 0, zi 28 (.call (.c (.fn 42 [] [])) [((.t 27), .id)])]
def q79 : IC := .reg false [zm 30 0, zi 31 (.call (.c (.fn 10 [] [])) [((.t 30), .id)]), zm 29 31, zv 32 (.ext (.t 29) 0), zv 33 (.ext (.t 29) 1), zi 6 (.alo [(.int .i64 0), (.int .i64 0), (.int .i64 0), (.str []), .nils]), zn (.st 5 (.agg [.id, .id, .id, .id, (.sl 5)]) (.t 6) (.t 32)), zm 7 33]
def qbad : IC := .reg false [zm 34 7, zv 35 (.un .not (.t 34)), zm 36 35, zw 36 false 37 (.mov (.t 0)), ⟨some (36, false), some 38, .call (.c (.fn 43 [] [])) [((.t 37), .id), ((.c (.str [41])), .id)]⟩, zw 36 false 39 (.un .not (.t 38)), zv 40 (.pick (.t 36) (.c (.bool true)) (.t 39))]
def qbfe : IC := .reg false [zv 41 (.bld [(.int .i64 0), (.int .i64 0), (.int .i64 0), (.str []), .nils] []), zn (.st 5 (.agg [.id, .id, .id, .id, (.sl 5)]) (.t 2) (.t 41)), zv 3 (.mov (.c (.bool false)))]
def qbhh : IC := .reg false [zm 42 0, zi 43 (.call (.c (.fn 16 [] [])) [((.t 42), .id)])]
def qbgk : IC := .reg false [zv 44 (.ld true 5 (.t 6)), zn (.st 5 (.agg [.id, .id, .id, .id, (.sl 5)]) (.t 2) (.t 44)), zv 3 (.mov (.c (.bool true)))]
def k0n : IC := (.seq qbnm (.seq (.seq qbkg (.seq qbo9 (.cond (.t 13) (.seq qbj2 (.seq qbpt .ret)) .skip))) (.seq (.seq qbln (.cond (.t 19) (.seq qbi7 .ret) .skip)) (.seq (.seq qbk8 (.cond (.t 25) (.seq qbj8 .ret) .skip)) (.seq qbp7 (.seq q79 (.seq (.seq qbad (.cond (.t 40) (.seq qbfe .ret) .skip)) (.seq qbhh (.seq qbgk .ret)))))))))
@[go_sem] def s0n : List (RV × Co) := [(.c true 5 2, (.agg [.id, .id, .id, .id, (.sl 5)])), (.t 3, .id)]
theorem c0n : cFun Try.prog 49 = some (45, k0n, s0n) := by kernel_rfl

def qbi3 : IC := .reg false [zi 2 (.alo [(.int .i64 0), (.int .i64 0), (.int .i64 0), (.str []), .nils]), zv 3 (.mov (.c (.bool false)))]
def qboo : IC := .reg false [zm 5 0, zi 6 (.call (.c (.fn 23 [] [])) [((.t 5), .id)]), zi 4 (.alo [(.int .i64 0), (.int .i64 0), (.int .i64 0), (.str [])]), zn (.st 4 .id (.t 4) (.t 6))]
def qbh7 : IC := .reg false [zv 7 (.fad (.t 4) 0), zv 8 (.ld false 1 (.t 7))]
def qbne : IC := .reg false [zv 10 (.bin .eql .no (.t 8) (.c (.int .i64 1))), zm 9 10]
def qbos : IC := .reg false [zv 11 (.fad (.t 4) 1), zv 12 (.ld false 1 (.t 11)), zv 13 (.fad (.t 4) 3), zv 14 (.ld false 1 (.t 13)), zv 15 (.bld [(.int .i64 0), (.int .i64 0), (.int .i64 0), (.str []), .nils] [(0, 1, (.c (.int .i64 21))), (1, 1, (.t 12)), (3, 1, (.t 14))]), zn (.st 5 (.agg [.id, .id, .id, .id, (.sl 5)]) (.t 2) (.t 15)), zv 3 (.mov (.c (.bool true)))]
def qbnr : IC := .reg false [zv 17 (.bin .eql .no (.t 8) (.c (.int .i64 2))), zm 16 17]
def qbod : IC := .reg false [zv 18 (.fad (.t 4) 1), zv 19 (.ld false 1 (.t 18)), zv 20 (.fad (.t 4) 3), zv 21 (.ld false 1 (.t 20)), zv 22 (.bld [(.int .i64 0), (.int .i64 0), (.int .i64 0), (.str []), .nils] [(0, 1, (.c (.int .i64 22))), (1, 1, (.t 19)), (3, 1, (.t 21))]), zn (.st 5 (.agg [.id, .id, .id, .id, (.sl 5)]) (.t 2) (.t 22)), zv 3 (.mov (.c (.bool true)))]
def qbpk : IC := .reg false [zv 24 (.bin .eql .no (.t 8) (.c (.int .i64 3))), zm 23 24]
def qbkz : IC := .reg false [zv 25 (.fad (.t 4) 1), zv 26 (.ld false 1 (.t 25)), zv 27 (.fad (.t 4) 2), zv 28 (.ld false 1 (.t 27)), zv 29 (.bld [(.int .i64 0), (.int .i64 0), (.int .i64 0), (.str []), .nils] [(0, 1, (.c (.int .i64 23))), (1, 1, (.t 26)), (2, 1, (.t 28))]), zn (.st 5 (.agg [.id, .id, .id, .id, (.sl 5)]) (.t 2) (.t 29)), zv 3 (.mov (.c (.bool true)))]
def qbjj : IC := .reg false [zv 30 (.bld [(.int .i64 0), (.int .i64 0), (.int .i64 0), (.str []), .nils] []), zn (.st 5 (.agg [.id, .id, .id, .id, (.sl 5)]) (.t 2) (.t 30)), zv 3 (.mov (.c (.bool false)))]
def k0m : IC := (.seq qbi3 (.seq qboo (.seq (.seq qbh7 (.block 0 (.seq qbne (.cond (.t 9) (.seq qbos .ret) (.seq qbnr (.cond (.t 16) (.seq qbod .ret) (.seq qbpk (.cond (.t 23) (.seq qbkz .ret) .skip)))))))) (.seq qbjj .ret))))
@[go_sem] def s0m : List (RV × Co) := [(.c true 5 2, (.agg [.id, .id, .id, .id, (.sl 5)])), (.t 3, .id)]
theorem c0m : cFun Try.prog 50 = some (31, k0m, s0m) := by kernel_rfl

def qbb1 : IC := .reg false [zv 4 (.mov (.c (.bool false)))]
def qbgq : IC := .reg false [zm 5 0, zv 6 (.len true (.t 5)), zm 7 1, zv 8 (.len true (.t 7)), zv 9 (.bin .geq .no (.t 6) (.t 8)), zm 10 9, zw 10 true 11 (.mov (.t 0)), zw 10 true 12 (.mov (.t 1)), zw 10 true 13 (.len true (.t 12)), zw 10 true 14 (.sls (.t 11) none (some (.t 13))), zw 10 true 15 (.mov (.t 1)), zw 10 true 16 (.bin .eql .no (.t 14) (.t 15)), zv 17 (.pick (.t 10) (.t 16) (.c (.bool false))), zm 4 17]
def k0bz : IC := (.seq qbb1 (.seq qbgq .ret))
@[go_sem] def s0bz : List (RV × Co) := [(.t 4, .id)]
theorem c0bz : cFun Try.prog 51 = some (18, k0bz, s0bz) := by kernel_rfl

def qbho : IC := .reg false [zv 2 (.mov (.c (.bool false)))]
def q9y : IC := .reg false [zv 3 (.mov (.c (.bool false)))]
def qbej : IC := .reg false [zv 6 (.bld [(.str []), (.str []), (.str []), (.str []), (.str []), (.str []), (.str []), (.str []), (.str []), (.str []), (.str [])] [(0, 1, (.c (.str [100, 97, 116, 97]))), (1, 1, (.c (.str [99, 108, 97, 115, 115]))), (2, 1, (.c (.str [105, 110, 115, 116, 97, 110, 99, 101]))), (3, 1, (.c (.str [119, 104, 101, 114, 101]))), (4, 1, (.c (.str [108, 101, 116]))), (5, 1, (.c (.str [105, 110]))), (6, 1, (.c (.str [99, 97, 115, 101]))), (7, 1, (.c (.str [111, 102]))), (8, 1, (.c (.str [105, 102]))), (9, 1, (.c (.str [116, 104, 101, 110]))), (10, 1, (.c (.str [101, 108, 115, 101])))]), zv 7 (.mov (.c (.int .i64 0)))]
def qbbc : IC := .reg false [zv 8 (.bin .lss .no (.t 7) (.c (.int .i64 11)))]
def qbh2 : IC := .reg false [zv 9 (.ida false 1 11 (.t 6) (.t 7)), zm 5 9]
def qbe8 : IC := .reg false [zm 10 5, zm 11 0, zv 12 (.bin .neq .no (.t 10) (.t 11))]
def qbdz : IC := .reg false [zv 3 (.mov (.c (.bool true)))]
def qbal : IC := .reg false [zv 13 (.bin .add .no (.t 7) (.c (.int .i64 1))), zm 7 13]
def q8i : IC := (.seq qbbc (.seq (.cond (.t 8) .skip (.exit 0)) (.seq (.block 1 (.seq qbh2 (.seq (.seq qbe8 (.cond (.t 12) (.exit 1) .skip)) (.seq qbdz (.exit 0))))) qbal)))
def q6t : IC := .reg false [zm 14 3, zm 2 14]
def k0cg : IC := (.seq qbho (.scope (.seq q9y (.seq (.label 0) (.seq (.seq qbej (.block 0 (.loop q8i))) (.seq q6t .ret))))))
@[go_sem] def s0cg : List (RV × Co) := [(.t 2, .id)]
theorem c0cg : cFun Try.prog 52 = some (15, k0cg, s0cg) := by kernel_rfl

def qbgo : IC := .reg false [zv 2 (.mov (.c (.bool false)))]
def qbbl : IC := .reg false [zm 3 0, zv 4 (.bin .neq .no (.t 3) (.c (.str []))), zm 5 4, zw 5 true 6 (.mov (.t 0)), zw 5 true 7 (.idx (.t 6) (.c (.int .i64 0))), ⟨some (5, true), some 8, .call (.c (.fn 59 [] [])) [((.t 7), .id)]⟩, zv 9 (.pick (.t 5) (.t 8) (.c (.bool false))), zm 10 9, zw 10 true 11 (.mov (.t 0)), ⟨some (10, true), some 12, .call (.c (.fn 60 [] [])) [((.t 11), .id)]⟩, zv 13 (.pick (.t 10) (.t 12) (.c (.bool false))), zm 2 13]
def k0ch : IC := (.seq qbgo (.seq qbbl .ret))
@[go_sem] def s0ch : List (RV × Co) := [(.t 2, .id)]
theorem c0ch : cFun Try.prog 53 = some (14, k0ch, s0ch) := by kernel_rfl

def qbak : IC := .reg false [zi 2 (.box (.t 0)), zv 4 (.mov (.c (.bool false)))]
def qbgw : IC := .reg false [zv 7 (.fad (.t 2) 0), zv 8 (.ld false 1 (.t 7)), zv 9 (.bin .neq .no (.t 8) (.c (.int .i64 4))), zm 10 9, zw 10 true 11 (.fad (.t 2) 0), zw 10 true 12 (.ld false 1 (.t 11)), zw 10 true 13 (.bin .neq .no (.t 12) (.c (.int .i64 5))), zv 14 (.pick (.t 10) (.t 13) (.c (.bool false)))]
def qbai : IC := .reg false [zv 4 (.mov (.c (.bool false)))]
def qbas : IC := .reg false [zm 15 1, zv 16 (.len false (.t 15)), zv 17 (.mov (.c (.int .i64 0)))]
def qbce : IC := .reg false [zv 18 (.bin .lss .no (.t 17) (.t 16))]
def qbhq : IC := .reg false [zv 19 (.iad 1 (.t 15) (.t 17)), zv 20 (.ld false 1 (.t 19)), zm 6 20]
def qbg6 : IC := .reg false [zv 21 (.fad (.t 2) 3), zv 22 (.ld false 1 (.t 21)), zm 23 6, zv 24 (.bin .eql .no (.t 22) (.t 23))]
def qbfi : IC := .reg false [zv 4 (.mov (.c (.bool true)))]
def q7u : IC := .reg false [zv 25 (.bin .add .no (.t 17) (.c (.int .i64 1))), zm 17 25]
def k0bf_l4 : IC := (.seq qbce (.seq (.cond (.t 18) .skip (.exit 0)) (.seq (.block 1 (.seq qbhq (.seq qbg6 (.cond (.t 24) (.seq qbfi .ret) .skip)))) q7u)))
def k0bf_r11 : IC := .reg false [zv 4 (.mov (.c (.bool false)))]
def k0bf : IC := (.seq qbak (.seq (.seq qbgw (.cond (.t 14) (.seq qbai .ret) .skip)) (.seq (.seq qbas (.block 0 (.loop k0bf_l4))) (.seq k0bf_r11 .ret))))
@[go_sem] def s0bf : List (RV × Co) := [(.t 4, .id)]
theorem c0bf : cFun Try.prog 54 = some (26, k0bf, s0bf) := by kernel_rfl

def qbbs : IC := .reg false [zi 4 (.alo [(.int .i64 0), (.int .i64 0), (.int .i64 0), (.str [])]), zv 5 (.mov (.c (.bool false)))]
def q9x : IC := .reg false [zm 6 0, zi 7 (.call (.c (.fn 21 [] [])) [((.t 6), .id)]), zm 8 7, zw 8 false 9 (.mov (.t 0)), ⟨some (8, false), some 10, .call (.c (.fn 23 [] [])) [((.t 9), .id)]⟩, zw 8 false 11 (.fld false 1 0 (.t 10)), zw 8 false 12 (.mov (.t 1)), zw 8 false 13 (.bin .neq .no (.t 11) (.t 12)), zv 14 (.pick (.t 8) (.c (.bool true)) (.t 13))]
def qbfa : IC := .reg false [zv 15 (.bld [(.int .i64 0), (.int .i64 0), (.int .i64 0), (.str [])] []), zm 16 0, zi 17 (.call (.c (.fn 22 [] [])) [((.t 16), .id), ((.c (.int .i64 5)), .id)]), zn (.st 4 .id (.t 4) (.t 15)), zm 5 17]
def qbdn : IC := .reg false [zm 18 0, zi 19 (.call (.c (.fn 42 [] [])) [((.t 18), .id)]), zn (.st 4 .id (.t 4) (.t 19)), zv 5 (.mov (.c (.bool true)))]
def k0cn : IC := (.seq qbbs (.seq (.seq q9x (.cond (.t 14) (.seq qbfa .ret) .skip)) (.seq qbdn .ret)))
@[go_sem] def s0cn : List (RV × Co) := [(.c true 4 4, .id), (.t 5, .id)]
theorem c0cn : cFun Try.prog 55 = some (20, k0cn, s0cn) := by kernel_rfl

def qbom : IC := .reg false [zi 2 (.alo [(.int .i64 0), (.int .i64 0), (.int .i64 0), (.str []), .nils]), zv 3 (.mov (.c (.bool false)))]
def qbiz : IC := .reg false [zm 8 0, zi 9 (.call (.c (.fn 23 [] [])) [((.t 8), .id)]), zv 10 (.fld false 1 1 (.t 9)), zv 11 (.bld [(.int .i64 0), (.int .i64 0), (.int .i64 0), (.str []), .nils] [(0, 1, (.c (.int .i64 4))), (1, 1, (.t 10))]), zi 4 (.alo [(.int .i64 0), (.int .i64 0), (.int .i64 0), (.str []), .nils]), zn (.st 5 (.agg [.id, .id, .id, .id, (.sl 5)]) (.t 4) (.t 11))]
def qbn3 : IC := .reg false [zm 13 0, zi 14 (.call (.c (.fn 61 [] [])) [((.t 13), .id)]), zm 12 14, zv 15 (.ext (.t 12) 0), zv 16 (.ext (.t 12) 1), zm 5 15, zm 6 16]
def qbmn : IC := .reg false [zm 17 6, zv 18 (.un .not (.t 17))]
def qbji : IC := .reg false [zv 19 (.bld [(.int .i64 0), (.int .i64 0), (.int .i64 0), (.str []), .nils] []), zn (.st 5 (.agg [.id, .id, .id, .id, (.sl 5)]) (.t 2) (.t 19)), zv 3 (.mov (.c (.bool false)))]
def qbmb : IC := .reg false [zm 21 0, zi 22 (.call (.c (.fn 62 [] [])) [((.t 21), .id)]), zm 20 22, zv 23 (.ext (.t 20) 0), zv 24 (.ext (.t 20) 1), zi 7 (.alo [(.int .i64 0), (.int .i64 0), (.int .i64 0), (.str []), .nils]), zn (.st 5 (.agg [.id, .id, .id, .id, (.sl 5)]) (.t 7) (.t 23)), zm 6 24]
def qbok : IC := .reg false [zm 25 5, zv 26 (.ld true 5 (.t 7)), zv 27 (.bsl 5 [((.t 26), (.agg [.id, .id, .id, .id, (.sl 5)]))]), zi 28 (.app 5 (.agg [(.int .i64 0), (.int .i64 0), (.int .i64 0), (.str []), .nils]) 64 (.sl 5) (.t 25) (.t 27)), zv 29 (.fad (.t 4) 4), zn (.st 1 (.sl 5) (.t 29) (.t 28))]
def qbma : IC := .reg false [zm 30 0, zv 31 (.ld true 5 (.t 4)), zm 32 6, zi 33 (.call (.c (.fn 63 [] [])) [((.t 30), .id), ((.t 31), (.agg [.id, .id, .id, .id, (.sl 5)])), ((.t 32), .id)]), zv 34 (.ext (.t 33) 0), zv 35 (.ext (.t 33) 1), zn (.st 5 (.agg [.id, .id, .id, .id, (.sl 5)]) (.t 2) (.t 34)), zm 3 35]
def k0t : IC := (.seq qbom (.seq qbiz (.seq qbn3 (.seq (.seq qbmn (.cond (.t 18) (.seq qbji .ret) .skip)) (.seq qbmb (.seq qbok (.seq qbma .ret)))))))
@[go_sem] def s0t : List (RV × Co) := [(.c true 5 2, (.agg [.id, .id, .id, .id, (.sl 5)])), (.t 3, .id)]
theorem c0t : cFun Try.prog 56 = some (36, k0t, s0t) := by kernel_rfl

def qbj1 : IC := .reg false [zi 2 (.alo [(.int .i64 0), (.int .i64 0), (.int .i64 0), (.str []), .nils]), zv 3 (.mov (.c (.bool false)))]
def qbiv : IC := .reg false [zm 9 0, zi 10 (.call (.c (.fn 64 [] [])) [((.t 9), .id)]), zm 8 10, zv 11 (.ext (.t 8) 0), zv 12 (.ext (.t 8) 1), zi 4 (.alo [(.int .i64 0), (.int .i64 0), (.int .i64 0), (.str []), .nils]), zn (.st 5 (.agg [.id, .id, .id, .id, (.sl 5)]) (.t 4) (.t 11)), zm 5 12]
def qbk6 : IC := .reg false [zm 13 5]
def qbl3 : IC := .reg false [zm 14 0, zi 15 (.call (.c (.fn 42 [] [])) [((.t 14), .id)])]
def qbkr : IC := .reg false [zv 16 (.ld true 5 (.t 4)), zn (.st 5 (.agg [.id, .id, .id, .id, (.sl 5)]) (.t 2) (.t 16)), zv 3 (.mov (.c (.bool true)))]
def qbix : IC := .reg false [zm 17 0, zi 18 (.call (.c (.fn 41 [] [])) [((.t 17), .id), ((.c (.str [40])), .id)]), zv 19 (.un .not (.t 18))]
def qbnd : IC := .reg false [zv 20 (.bld [(.int .i64 0), (.int .i64 0), (.int .i64 0), (.str []), .nils] []), zm 21 0, zi 22 (.call (.c (.fn 22 [] [])) [((.t 21), .id), ((.c (.int .i64 5)), .id)]), zn (.st 5 (.agg [.id, .id, .id, .id, (.sl 5)]) (.t 2) (.t 20)), zm 3 22]
def qbik : IC := .reg false [zm 23 0, zi 24 (.call (.c (.fn 14 [] [])) [((.t 23), .id)]), zv 25 (.un .not (.t 24))]
def qbks : IC := .reg false [zv 26 (.bld [(.int .i64 0), (.int .i64 0), (.int .i64 0), (.str []), .nils] []), zn (.st 5 (.agg [.id, .id, .id, .id, (.sl 5)]) (.t 2) (.t 26)), zv 3 (.mov (.c (.bool false)))]
def qblz : IC := .reg false [zm 27 0, zi 28 (.call (.c (.fn 42 [] [])) [((.t 27), .id)])]
def qbdm : IC := .reg false [zm 30 0, zi 31 (.call (.c (.fn 48 [] [])) [((.t 30), .id)]), zm 29 31, zv 32 (.ext (.t 29) 0), zv 33 (.ext (.t 29) 1), zi 6 (.alo [(.int .i64 0), (.int .i64 0), (.int .i64 0), (.str []), .nils]), zn (.st 5 (.agg [.id, .id, .id, .id, (.sl 5)]) (.t 6) (.t 32)), zm 7 33]
def qben : IC := .reg false [zm 34 7, zv 35 (.un .not (.t 34)), zm 36 35, zw 36 false 37 (.mov (.t 0)), ⟨some (36, false), some 38, .call (.c (.fn 43 [] [])) [((.t 37), .id), ((.c (.str [41])), .id)]⟩, zw 36 false 39 (.un .not (.t 38)), zv 40 (.pick (.t 36) (.c (.bool true)) (.t 39))]
def qbau : IC := .reg false [zv 41 (.bld [(.int .i64 0), (.int .i64 0), (.int .i64 0), (.str []), .nils] []), zn (.st 5 (.agg [.id, .id, .id, .id, (.sl 5)]) (.t 2) (.t 41)), zv 3 (.mov (.c (.bool false)))]
def qbc5 : IC := .reg false [zm 42 0, zi 43 (.call (.c (.fn 16 [] [])) [((.t 42), .id)])]
def qbf2 : IC := .reg false [zv 44 (.ld true 5 (.t 6)), zn (.st 5 (.agg [.id, .id, .id, .id, (.sl 5)]) (.t 2) (.t 44)), zv 3 (.mov (.c (.bool true)))]
def k0r : IC := (.seq qbj1 (.seq (.seq qbiv (.seq qbk6 (.cond (.t 13) (.seq qbl3 (.seq qbkr .ret)) .skip))) (.seq (.seq qbix (.cond (.t 19) (.seq qbnd .ret) .skip)) (.seq (.seq qbik (.cond (.t 25) (.seq qbks .ret) .skip)) (.seq qblz (.seq qbdm (.seq (.seq qben (.cond (.t 40) (.seq qbau .ret) .skip)) (.seq qbc5 (.seq qbf2 .ret)))))))))
@[go_sem] def s0r : List (RV × Co) := [(.c true 5 2, (.agg [.id, .id, .id, .id, (.sl 5)])), (.t 3, .id)]
theorem c0r : cFun Try.prog 57 = some (45, k0r, s0r) := by kernel_rfl

def qbpd : IC := .reg false [zv 2 (.mov (.c (.bool false)))]
def qbih : IC := .reg false [zm 6 0, zi 7 (.call (.c (.fn 64 [] [])) [((.t 6), .id)]), zm 5 7, zv 8 (.ext (.t 5) 0), zv 9 (.ext (.t 5) 1), zi 3 (.alo [(.int .i64 0), (.int .i64 0), (.int .i64 0), (.str []), .nils]), zn (.st 5 (.agg [.id, .id, .id, .id, (.sl 5)]) (.t 3) (.t 8)), zm 4 9]
def qbmo : IC := .reg false [zm 10 4, zm 11 10, zw 11 false 12 (.mov (.t 0)), ⟨some (11, false), some 13, .call (.c (.fn 41 [] [])) [((.t 12), .id), ((.c (.str [40])), .id)]⟩, zv 14 (.pick (.t 11) (.c (.bool true)) (.t 13)), zm 2 14]
def k0q : IC := (.seq qbpd (.seq qbih (.seq qbmo .ret)))
@[go_sem] def s0q : List (RV × Co) := [(.t 2, .id)]
theorem c0q : cFun Try.prog 58 = some (15, k0q, s0q) := by kernel_rfl

def qbcd : IC := .reg false [zv 2 (.mov (.c (.bool false)))]
def qbb8 : IC := .reg false [zm 3 0, zv 4 (.bin .geq .no (.t 3) (.c (.int .u8 65))), zm 5 4, zw 5 true 6 (.mov (.t 0)), zw 5 true 7 (.bin .leq .no (.t 6) (.c (.int .u8 90))), zv 8 (.pick (.t 5) (.t 7) (.c (.bool false))), zm 2 8]
def k0ce : IC := (.seq qbcd (.seq qbb8 .ret))
@[go_sem] def s0ce : List (RV × Co) := [(.t 2, .id)]
theorem c0ce : cFun Try.prog 59 = some (9, k0ce, s0ce) := by kernel_rfl

def q8c : IC := .reg false [zv 2 (.mov (.c (.bool false)))]
def qbey : IC := .reg false [zm 5 0, zv 6 (.len true (.t 5)), zv 7 (.mov (.c (.int .i64 0)))]
def q9j : IC := .reg false [zv 8 (.bin .lss .no (.t 7) (.t 6))]
def qbb9 : IC := .reg false [zm 9 7, zm 3 9]
def qbcf : IC := .reg false [zm 10 0, zm 11 3, zv 12 (.idx (.t 10) (.t 11)), zm 4 12]
def qbb0 : IC := .reg false [zm 13 4, zi 14 (.call (.c (.fn 65 [] [])) [((.t 13), .id)]), zv 15 (.un .not (.t 14)), zm 16 15, zw 16 true 17 (.mov (.t 4)), ⟨some (16, true), some 18, .call (.c (.fn 59 [] [])) [((.t 17), .id)]⟩, zw 16 true 19 (.un .not (.t 18)), zv 20 (.pick (.t 16) (.t 19) (.c (.bool false))), zm 21 20, zw 21 true 22 (.mov (.t 4)), zw 21 true 23 (.bin .lss .no (.t 22) (.c (.int .u8 48))), zw 21 true 24 (.mov (.t 23)), zw 24 false 25 (.mov (.t 4)), zw 24 false 26 (.bin .gtr .no (.t 25) (.c (.int .u8 57))), zw 21 true 27 (.pick (.t 24) (.c (.bool true)) (.t 26)), zv 28 (.pick (.t 21) (.t 27) (.c (.bool false))), zm 29 28, zw 29 true 30 (.mov (.t 4)), zw 29 true 31 (.bin .neq .no (.t 30) (.c (.int .u8 39))), zv 32 (.pick (.t 29) (.t 31) (.c (.bool false)))]
def q8r : IC := .reg false [zv 2 (.mov (.c (.bool false)))]
def qbgj : IC := .reg false [zv 33 (.bin .add .no (.t 7) (.c (.int .i64 1))), zm 7 33]
def qbdf : IC := (.seq q9j (.seq (.cond (.t 8) .skip (.exit 0)) (.seq (.block 1 (.seq qbb9 (.seq qbcf (.seq qbb0 (.cond (.t 32) (.seq q8r .ret) .skip))))) qbgj)))
def q27 : IC := .reg false [zv 2 (.mov (.c (.bool true)))]
def k0cf : IC := (.seq q8c (.seq (.seq qbey (.block 0 (.loop qbdf))) (.seq q27 .ret)))
@[go_sem] def s0cf : List (RV × Co) := [(.t 2, .id)]
theorem c0cf : cFun Try.prog 60 = some (34, k0cf, s0cf) := by kernel_rfl

def qbis : IC := .reg false [zv 2 (.mov (.c .nils)), zv 3 (.mov (.c (.bool false)))]
def qbkd : IC := .reg false [zm 9 0, zi 10 (.call (.c (.fn 66 [] [])) [((.t 9), .id), ((.c (.str [61, 62])), .id)]), zv 11 (.un .not (.t 10))]
def qbmy : IC := .reg false [zm 12 0, zi 13 (.call (.c (.fn 67 [] [])) [((.t 12), .id)]), zv 14 (.un .not (.t 13)), zv 2 (.mov (.c .nils)), zm 3 14]
def qbn0 : IC := .reg false [zv 4 (.mov (.c .nils))]
def qbml : IC := .reg false [zm 15 0, zi 16 (.call (.c (.fn 24 [] [])) [((.t 15), .id), ((.c (.str [40])), .id)]), zm 5 16]
def qbil : IC := .reg false [zm 17 5, zv 18 (.un .not (.t 17)), zm 19 18, zw 19 false 20 (.mov (.t 0)), ⟨some (19, false), some 21, .call (.c (.fn 41 [] [])) [((.t 20), .id), ((.c (.str [41])), .id)]⟩, zw 19 false 22 (.un .not (.t 21)), zv 23 (.pick (.t 19) (.c (.bool true)) (.t 22)), zm 6 23]
def qbjc : IC := .reg false [zm 24 6]
def qbn5 : IC := .reg false [zm 26 0, zi 27 (.call (.c (.fn 68 [] [])) [((.t 26), .id)]), zm 25 27, zv 28 (.ext (.t 25) 0), zv 29 (.ext (.t 25) 1), zi 7 (.alo [(.int .i64 0), (.int .i64 0), (.int .i64 0), (.str []), .nils]), zn (.st 5 (.agg [.id, .id, .id, .id, (.sl 5)]) (.t 7) (.t 28)), zm 8 29]
def qbpb : IC := .reg false [zm 30 8, zv 31 (.un .not (.t 30))]
def qbha : IC := .reg false [zv 2 (.mov (.c .nils)), zv 3 (.mov (.c (.bool false)))]
def qba2 : IC := .reg false [zm 32 4, zv 33 (.ld true 5 (.t 7)), zv 34 (.bsl 5 [((.t 33), (.agg [.id, .id, .id, .id, (.sl 5)]))]), zi 35 (.app 5 (.agg [(.int .i64 0), (.int .i64 0), (.int .i64 0), (.str []), .nils]) 64 (.sl 5) (.t 32) (.t 34)), zm 4 35]
def qbh1 : IC := .reg false [zm 36 5, zm 37 36, zw 37 true 38 (.mov (.t 0)), ⟨some (37, true), some 39, .call (.c (.fn 24 [] [])) [((.t 38), .id), ((.c (.str [44])), .id)]⟩, zv 40 (.pick (.t 37) (.t 39) (.c (.bool false))), zm 6 40]
def qbpm : IC := (.seq (.seq qbjc (.cond (.t 24) .skip (.exit 0))) (.block 1 (.seq qbn5 (.seq (.seq qbpb (.cond (.t 31) (.seq qbha .ret) .skip)) (.seq qba2 qbh1)))))
def qbb6 : IC := .reg false [zm 41 5, zm 42 41, zw 42 true 43 (.mov (.t 0)), ⟨some (42, true), some 44, .call (.c (.fn 43 [] [])) [((.t 43), .id), ((.c (.str [41])), .id)]⟩, zw 42 true 45 (.un .not (.t 44)), zv 46 (.pick (.t 42) (.t 45) (.c (.bool false))), zm 47 46, zw 47 false 48 (.mov (.t 0)), ⟨some (47, false), some 49, .call (.c (.fn 43 [] [])) [((.t 48), .id), ((.c (.str [61, 62])), .id)]⟩, zw 47 false 50 (.un .not (.t 49)), zv 51 (.pick (.t 47) (.c (.bool true)) (.t 50))]
def qbdy : IC := .reg false [zv 2 (.mov (.c .nils)), zv 3 (.mov (.c (.bool false)))]
def qba8 : IC := .reg false [zm 52 4, zm 2 52, zv 3 (.mov (.c (.bool true)))]
def k0u : IC := (.seq qbis (.seq (.seq qbkd (.cond (.t 11) (.seq qbmy .ret) .skip)) (.seq qbn0 (.seq qbml (.seq (.seq qbil (.block 0 (.loop qbpm))) (.seq (.seq qbb6 (.cond (.t 51) (.seq qbdy .ret) .skip)) (.seq qba8 .ret)))))))
@[go_sem] def s0u : List (RV × Co) := [(.t 2, (.sl 5)), (.t 3, .id)]
theorem c0u : cFun Try.prog 61 = some (53, k0u, s0u) := by kernel_rfl

def qbg2 : IC := .reg false [zi 2 (.alo [(.int .i64 0), (.int .i64 0), (.int .i64 0), (.str []), .nils]), zv 3 (.mov (.c (.bool false)))]
def qbhw : IC := .reg false [zm 8 0, zi 9 (.call (.c (.fn 14 [] [])) [((.t 8), .id)]), zv 10 (.un .not (.t 9))]
def qbcl : IC := .reg false [zv 11 (.bld [(.int .i64 0), (.int .i64 0), (.int .i64 0), (.str []), .nils] []), zn (.st 5 (.agg [.id, .id, .id, .id, (.sl 5)]) (.t 2) (.t 11)), zv 3 (.mov (.c (.bool false)))]
def qbea : IC := .reg false [zm 13 0, zi 14 (.call (.c (.fn 69 [] [])) [((.t 13), .id)]), zm 12 14, zv 15 (.ext (.t 12) 0), zv 16 (.ext (.t 12) 1), zi 4 (.alo [(.int .i64 0), (.int .i64 0), (.int .i64 0), (.str []), .nils]), zn (.st 5 (.agg [.id, .id, .id, .id, (.sl 5)]) (.t 4) (.t 15)), zm 5 16]
def q9s : IC := .reg false [zm 17 5, zm 18 17, zw 18 true 19 (.mov (.t 0)), ⟨some (18, true), some 20, .call (.c (.fn 24 [] [])) [((.t 19), .id), ((.c (.str [45, 62])), .id)]⟩, zv 21 (.pick (.t 18) (.t 20) (.c (.bool false)))]
def qbhp : IC := .reg false [zm 23 0, zi 24 (.call (.c (.fn 62 [] [])) [((.t 23), .id)]), zm 22 24, zv 25 (.ext (.t 22) 0), zv 26 (.ext (.t 22) 1), zi 6 (.alo [(.int .i64 0), (.int .i64 0), (.int .i64 0), (.str []), .nils]), zn (.st 5 (.agg [.id, .id, .id, .id, (.sl 5)]) (.t 6) (.t 25)), zm 7 26]
def q82 : IC := .reg false [zv 27 (.fad (.t 4) 1), zv 28 (.ld false 1 (.t 27)), zv 29 (.ld true 5 (.t 4)), zv 30 (.ld true 5 (.t 6)), zv 31 (.bsl 5 [((.t 29), (.agg [.id, .id, .id, .id, (.sl 5)])), ((.t 30), (.agg [.id, .id, .id, .id, (.sl 5)]))]), zv 32 (.bld [(.int .i64 0), (.int .i64 0), (.int .i64 0), (.str []), .nils] [(0, 1, (.c (.int .i64 2))), (1, 1, (.t 28)), (3, 1, (.c (.str [45, 62]))), (4, 1, (.t 31))]), zm 33 7, zn (.st 5 (.agg [.id, .id, .id, .id, (.sl 5)]) (.t 4) (.t 32)), zm 5 33]
def qbdx : IC := .reg false [zm 34 0, zi 35 (.call (.c (.fn 16 [] [])) [((.t 34), .id)])]
def qbcr : IC := .reg false [zm 36 0, zv 37 (.ld true 5 (.t 4)), zm 38 5, zi 39 (.call (.c (.fn 63 [] [])) [((.t 36), .id), ((.t 37), (.agg [.id, .id, .id, .id, (.sl 5)])), ((.t 38), .id)]), zv 40 (.ext (.t 39) 0), zv 41 (.ext (.t 39) 1), zn (.st 5 (.agg [.id, .id, .id, .id, (.sl 5)]) (.t 2) (.t 40)), zm 3 41]
def k0bb : IC := (.seq qbg2 (.seq (.seq qbhw (.cond (.t 10) (.seq qbcl .ret) .skip)) (.seq qbea (.seq (.seq q9s (.cond (.t 21) (.seq qbhp q82) .skip)) (.seq qbdx (.seq qbcr .ret))))))
@[go_sem] def s0bb : List (RV × Co) := [(.c true 5 2, (.agg [.id, .id, .id, .id, (.sl 5)])), (.t 3, .id)]
theorem c0bb : cFun Try.prog 62 = some (42, k0bb, s0bb) := by kernel_rfl

def qbj9 : IC := .reg false [zi 4 (.box (.t 1)), zi 6 (.alo [(.int .i64 0), (.int .i64 0), (.int .i64 0), (.str []), .nils]), zv 7 (.mov (.c (.bool false)))]
def qbjg : IC := .reg false [zm 8 2, zv 9 (.un .not (.t 8))]
def qbkl : IC := .reg false [zv 10 (.bld [(.int .i64 0), (.int .i64 0), (.int .i64 0), (.str []), .nils] []), zn (.st 5 (.agg [.id, .id, .id, .id, (.sl 5)]) (.t 6) (.t 10)), zv 7 (.mov (.c (.bool false)))]
def qbpo : IC := .reg false [zv 11 (.ld true 5 (.t 4)), zn (.st 5 (.agg [.id, .id, .id, .id, (.sl 5)]) (.t 6) (.t 11)), zv 7 (.mov (.c (.bool true)))]
def k0x : IC := (.seq qbj9 (.seq (.seq qbjg (.cond (.t 9) (.seq qbkl .ret) .skip)) (.seq qbpo .ret)))
@[go_sem] def s0x : List (RV × Co) := [(.c true 5 6, (.agg [.id, .id, .id, .id, (.sl 5)])), (.t 7, .id)]
theorem c0x : cFun Try.prog 63 = some (12, k0x, s0x) := by kernel_rfl

def qbjy : IC := .reg false [zi 2 (.alo [(.int .i64 0), (.int .i64 0), (.int .i64 0), (.str []), .nils]), zv 3 (.mov (.c (.bool false)))]
def qbjf : IC := .reg false [zm 6 0, zi 7 (.call (.c (.fn 23 [] [])) [((.t 6), .id)]), zi 4 (.alo [(.int .i64 0), (.int .i64 0), (.int .i64 0), (.str [])]), zn (.st 4 .id (.t 4) (.t 7))]
def qbox : IC := .reg false [zv 8 (.fad (.t 4) 1), zv 9 (.ld false 1 (.t 8)), zv 10 (.fad (.t 4) 3), zv 11 (.ld false 1 (.t 10)), zv 12 (.bld [(.int .i64 0), (.int .i64 0), (.int .i64 0), (.str []), .nils] [(1, 1, (.t 9)), (3, 1, (.t 11))]), zi 5 (.alo [(.int .i64 0), (.int .i64 0), (.int .i64 0), (.str []), .nils]), zn (.st 5 (.agg [.id, .id, .id, .id, (.sl 5)]) (.t 5) (.t 12))]
def qbpw : IC := .reg false [zv 15 (.fad (.t 4) 0), zv 16 (.ld false 1 (.t 15)), zv 17 (.bin .eql .no (.t 16) (.c (.int .i64 1))), zm 14 17]
def qbly : IC := .reg false [zv 18 (.fad (.t 5) 0), zn (.st 1 .id (.t 18) (.c (.int .i64 11)))]
def qbp4 : IC := .reg false [zv 20 (.fad (.t 4) 0), zv 21 (.ld false 1 (.t 20)), zv 22 (.bin .eql .no (.t 21) (.c (.int .i64 2))), zm 19 22]
def qbl5 : IC := .reg false [zv 23 (.fad (.t 5) 0), zn (.st 1 .id (.t 23) (.c (.int .i64 14)))]
def qbi1 : IC := .reg false [zv 25 (.fad (.t 4) 0), zv 26 (.ld false 1 (.t 25)), zv 27 (.bin .eql .no (.t 26) (.c (.int .i64 3))), zm 24 27]
def qbow : IC := .drw [zp (zv 28 (.fad (.t 4) 2)), zp (zv 29 (.ld false 1 (.t 28))), zp (zv 30 (.fad (.t 5) 0)), (zn (.st 1 .id (.t 30) (.c (.int .i64 13))), [1]), zp (zv 31 (.fad (.t 5) 2)), (zn (.st 1 .id (.t 31) (.t 29)), []), zp (zv 32 (.fad (.t 5) 3)), (zn (.st 1 .id (.t 32) (.c (.str []))), [])]
def qboq : IC := .reg false [zm 34 0, zi 35 (.call (.c (.fn 41 [] [])) [((.t 34), .id), ((.c (.str [95])), .id)]), zm 33 35]
def qbev : IC := .reg false [zv 36 (.fad (.t 5) 0), zn (.st 1 .id (.t 36) (.c (.int .i64 12))), zv 37 (.fad (.t 5) 3), zn (.st 1 .id (.t 37) (.c (.str [])))]
def qbfj : IC := .reg false [zv 13 (.bld [(.int .i64 0), (.int .i64 0), (.int .i64 0), (.str []), .nils] []), zn (.st 5 (.agg [.id, .id, .id, .id, (.sl 5)]) (.t 2) (.t 13)), zv 3 (.mov (.c (.bool false)))]
def q9v : IC := .reg false [zv 38 (.ld true 5 (.t 5)), zn (.st 5 (.agg [.id, .id, .id, .id, (.sl 5)]) (.t 2) (.t 38)), zv 3 (.mov (.c (.bool true)))]
def k0p : IC := (.seq qbjy (.seq qbjf (.seq qbox (.seq (.block 0 (.seq qbpw (.cond (.t 14) qbly (.seq qbp4 (.cond (.t 19) qbl5 (.seq qbi1 (.cond (.t 24) qbow (.seq qboq (.cond (.t 33) qbev (.seq qbfj .ret)))))))))) (.seq q9v .ret)))))
@[go_sem] def s0p : List (RV × Co) := [(.c true 5 2, (.agg [.id, .id, .id, .id, (.sl 5)])), (.t 3, .id)]
theorem c0p : cFun Try.prog 64 = some (39, k0p, s0p) := by kernel_rfl

def qbgp : IC := .reg false [zv 2 (.mov (.c (.bool false)))]
def qbh4 : IC := .reg false [zm 3 0, zv 4 (.bin .geq .no (.t 3) (.c (.int .u8 97))), zm 5 4, zw 5 true 6 (.mov (.t 0)), zw 5 true 7 (.bin .leq .no (.t 6) (.c (.int .u8 122))), zv 8 (.pick (.t 5) (.t 7) (.c (.bool false))), zm 9 8, zw 9 false 10 (.mov (.t 0)), zw 9 false 11 (.bin .eql .no (.t 10) (.c (.int .u8 95))), zv 12 (.pick (.t 9) (.c (.bool true)) (.t 11)), zm 2 12]
def k0cd : IC := (.seq qbgp (.seq qbh4 .ret))
@[go_sem] def s0cd : List (RV × Co) := [(.t 2, .id)]
theorem c0cd : cFun Try.prog 65 = some (13, k0cd, s0cd) := by kernel_rfl

def qbca : IC := .reg false [zv 4 (.mov (.c (.bool false)))]
def qbe7 : IC := .reg false [zm 8 0, zi 9 (.call (.c (.fn 21 [] [])) [((.t 8), .id)])]
def qbci : IC := .reg false [zv 4 (.mov (.c (.bool false)))]
def qbbu : IC := .reg false [zv 5 (.mov (.c (.int .i64 0)))]
def q8m : IC := .drw [zp (zm 10 0), zp (zv 11 (.nck (.t 10))), zp (zv 12 (.fad (.t 11) 0)), zp (zv 13 (.ld false 1 (.t 12))), zp (zm 14 0), zp (zv 15 (.nck (.t 14))), zp (zv 16 (.fad (.t 15) 5)), zp (zv 17 (.ld false 1 (.t 16))), zp (zv 18 (.slv 4 (.t 13) (some (.t 17)) none none)), zp (zv 19 (.len false (.t 18))), zp (zv 20 (.mov (.c (.int .i64 0))))]
def q81 : IC := .reg false [zv 21 (.bin .lss .no (.t 20) (.t 19))]
def qbb4 : IC := .reg false [zv 22 (.iad 4 (.t 18) (.t 20)), zv 23 (.ld true 4 (.t 22)), zi 7 (.alo [(.int .i64 0), (.int .i64 0), (.int .i64 0), (.str [])]), zn (.st 4 .id (.t 7) (.t 23))]
def qbel : IC := .reg false [zv 25 (.ld true 4 (.t 7)), zv 26 (.bsl 1 [((.c (.str [40])), .id), ((.c (.str [123])), .id)]), zi 27 (.call (.c (.fn 54 [] [])) [((.t 25), .id), ((.t 26), (.sl 1))]), zm 24 27]
def qbfy : IC := .reg false [zm 28 5, zv 29 (.bin .add .no (.t 28) (.c (.int .i64 1))), zm 5 29]
def q43 : IC := .reg false [zv 31 (.ld true 4 (.t 7)), zv 32 (.bsl 1 [((.c (.str [41])), .id), ((.c (.str [125])), .id)]), zi 33 (.call (.c (.fn 54 [] [])) [((.t 31), .id), ((.t 32), (.sl 1))]), zm 30 33]
def q38 : IC := .reg false [zm 34 5, zv 35 (.bin .sub .no (.t 34) (.c (.int .i64 1))), zm 5 35]
def q6u : IC := .reg false [zm 36 5, zv 37 (.bin .lss .no (.t 36) (.c (.int .i64 0)))]
def q4f : IC := .reg false [zv 4 (.mov (.c (.bool false)))]
def q6j : IC := .reg false [zm 39 5, zv 40 (.bin .gtr .no (.t 39) (.c (.int .i64 0))), zm 38 40]
def q39 : IC := .reg false [zv 42 (.ld true 4 (.t 7)), zv 43 (.bsl 1 [((.c (.str [59])), .id)]), zi 44 (.call (.c (.fn 54 [] [])) [((.t 42), .id), ((.t 43), (.sl 1))]), zm 41 44]
def q52 : IC := .reg false [zv 4 (.mov (.c (.bool false)))]
def q6e : IC := .reg false [zv 46 (.ld true 4 (.t 7)), zm 47 1, zv 48 (.bsl 1 [((.t 47), .id)]), zi 49 (.call (.c (.fn 54 [] [])) [((.t 46), .id), ((.t 48), (.sl 1))]), zm 45 49]
def q58 : IC := .reg false [zv 4 (.mov (.c (.bool true)))]
def q5k : IC := .reg false [zv 50 (.bin .add .no (.t 20) (.c (.int .i64 1))), zm 20 50]
def qba1 : IC := (.seq q81 (.seq (.cond (.t 21) .skip (.exit 0)) (.seq (.block 1 (.seq qbb4 (.block 2 (.seq qbel (.cond (.t 24) qbfy (.seq q43 (.cond (.t 30) (.seq q38 (.seq q6u (.cond (.t 37) (.seq q4f .ret) .skip))) (.seq q6j (.cond (.t 38) .skip (.seq q39 (.cond (.t 41) (.seq q52 .ret) (.seq q6e (.cond (.t 45) (.seq q58 .ret) .skip))))))))))))) q5k)))
def q3i : IC := .reg false [zv 4 (.mov (.c (.bool false)))]
def k0co : IC := (.seq qbca (.seq (.seq qbe7 (.cond (.t 9) (.seq qbci .ret) .skip)) (.seq qbbu (.seq (.seq q8m (.block 0 (.loop qba1))) (.seq q3i .ret)))))
@[go_sem] def s0co : List (RV × Co) := [(.t 4, .id)]
theorem c0co : cFun Try.prog 66 = some (51, k0co, s0co) := by kernel_rfl

def qbni : IC := .reg false [zv 2 (.mov (.c (.bool false)))]
def qblm : IC := .reg false [zm 6 0, zi 7 (.call (.c (.fn 11 [] [])) [((.t 6), .id)]), zm 5 7, zv 8 (.ext (.t 5) 0), zv 9 (.ext (.t 5) 1), zm 3 8, zm 4 9]
def qbph : IC := .reg false [zm 10 4, zv 11 (.bin .neq .no (.t 10) (.c (.int .i64 0))), zm 12 11, zw 12 true 13 (.mov (.t 4)), zw 12 true 14 (.bin .neq .no (.t 13) (.c (.int .i64 5))), zw 12 true 15 (.mov (.t 14)), zw 15 false 16 (.mov (.t 0)), ⟨some (15, false), some 17, .call (.c (.fn 23 [] [])) [((.t 16), .id)]⟩, zw 15 false 18 (.fld false 1 0 (.t 17)), zw 15 false 19 (.bin .eql .no (.t 18) (.c (.int .i64 0))), zw 12 true 20 (.pick (.t 15) (.c (.bool true)) (.t 19)), zv 21 (.pick (.t 12) (.t 20) (.c (.bool false))), zm 2 21]
def k0v : IC := (.seq qbni (.seq qblm (.seq qbph .ret)))
@[go_sem] def s0v : List (RV × Co) := [(.t 2, .id)]
theorem c0v : cFun Try.prog 67 = some (22, k0v, s0v) := by kernel_rfl

def qbmf : IC := .reg false [zi 2 (.alo [(.int .i64 0), (.int .i64 0), (.int .i64 0), (.str []), .nils]), zv 3 (.mov (.c (.bool false)))]
def qbk9 : IC := .reg false [zm 8 0, zi 9 (.call (.c (.fn 55 [] [])) [((.t 8), .id), ((.c (.int .i64 2)), .id)]), zm 7 9, zv 10 (.ext (.t 7) 0), zv 11 (.ext (.t 7) 1), zi 4 (.alo [(.int .i64 0), (.int .i64 0), (.int .i64 0), (.str [])]), zn (.st 4 .id (.t 4) (.t 10)), zm 5 11]
def qbns : IC := .reg false [zm 12 5, zv 13 (.un .not (.t 12))]
def qbjk : IC := .reg false [zv 14 (.bld [(.int .i64 0), (.int .i64 0), (.int .i64 0), (.str []), .nils] []), zn (.st 5 (.agg [.id, .id, .id, .id, (.sl 5)]) (.t 2) (.t 14)), zv 3 (.mov (.c (.bool false)))]
def qbog : IC := .reg false [zm 16 0, zi 17 (.call (.c (.fn 70 [] [])) [((.t 16), .id)]), zm 15 17, zv 18 (.ext (.t 15) 0), zv 19 (.ext (.t 15) 1), zi 6 (.alo [(.int .i64 0), (.int .i64 0), (.int .i64 0), (.str []), .nils]), zn (.st 5 (.agg [.id, .id, .id, .id, (.sl 5)]) (.t 6) (.t 18)), zm 5 19]
def qbj3 : IC := .reg false [zm 20 0, zv 21 (.fad (.t 4) 1), zv 22 (.ld false 1 (.t 21)), zv 23 (.fad (.t 4) 3), zv 24 (.ld false 1 (.t 23)), zv 25 (.ld true 5 (.t 6)), zv 26 (.bsl 5 [((.t 25), (.agg [.id, .id, .id, .id, (.sl 5)]))]), zv 27 (.bld [(.int .i64 0), (.int .i64 0), (.int .i64 0), (.str []), .nils] [(0, 1, (.c (.int .i64 3))), (1, 1, (.t 22)), (3, 1, (.t 24)), (4, 1, (.t 26))]), zm 28 5, zi 29 (.call (.c (.fn 63 [] [])) [((.t 20), .id), ((.t 27), (.agg [.id, .id, .id, .id, (.sl 5)])), ((.t 28), .id)]), zv 30 (.ext (.t 29) 0), zv 31 (.ext (.t 29) 1), zn (.st 5 (.agg [.id, .id, .id, .id, (.sl 5)]) (.t 2) (.t 30)), zm 3 31]
def k0w : IC := (.seq qbmf (.seq qbk9 (.seq (.seq qbns (.cond (.t 13) (.seq qbjk .ret) .skip)) (.seq qbog (.seq qbj3 .ret)))))
@[go_sem] def s0w : List (RV × Co) := [(.c true 5 2, (.agg [.id, .id, .id, .id, (.sl 5)])), (.t 3, .id)]
theorem c0w : cFun Try.prog 68 = some (32, k0w, s0w) := by kernel_rfl

def qbcb : IC := .reg false [zi 2 (.alo [(.int .i64 0), (.int .i64 0), (.int .i64 0), (.str []), .nils]), zv 3 (.mov (.c (.bool false)))]
def q92 : IC := .reg false [zm 8 0, zi 9 (.call (.c (.fn 23 [] [])) [((.t 8), .id)]), zv 10 (.fld false 1 0 (.t 9)), zv 11 (.bin .neq .no (.t 10) (.c (.int .i64 2)))]
def qbaa : IC := .reg false [zm 12 0, zi 13 (.call (.c (.fn 70 [] [])) [((.t 12), .id)]), zv 14 (.ext (.t 13) 0), zv 15 (.ext (.t 13) 1), zn (.st 5 (.agg [.id, .id, .id, .id, (.sl 5)]) (.t 2) (.t 14)), zm 3 15]
def q89 : IC := .reg false [zm 16 0, zi 17 (.call (.c (.fn 42 [] [])) [((.t 16), .id)]), zi 4 (.alo [(.int .i64 0), (.int .i64 0), (.int .i64 0), (.str [])]), zn (.st 4 .id (.t 4) (.t 17))]
def qbew : IC := .reg false [zv 18 (.fad (.t 4) 1), zv 19 (.ld false 1 (.t 18)), zv 20 (.fad (.t 4) 3), zv 21 (.ld false 1 (.t 20)), zv 22 (.bld [(.int .i64 0), (.int .i64 0), (.int .i64 0), (.str []), .nils] [(0, 1, (.c (.int .i64 2))), (1, 1, (.t 19)), (3, 1, (.t 21))]), zi 5 (.alo [(.int .i64 0), (.int .i64 0), (.int .i64 0), (.str []), .nils]), zn (.st 5 (.agg [.id, .id, .id, .id, (.sl 5)]) (.t 5) (.t 22))]
def qbcz : IC := .reg false [zm 23 0, zi 24 (.call (.c (.fn 71 [] [])) [((.t 23), .id)])]
def q71 : IC := .reg false [zm 26 0, zi 27 (.call (.c (.fn 70 [] [])) [((.t 26), .id)]), zm 25 27, zv 28 (.ext (.t 25) 0), zv 29 (.ext (.t 25) 1), zi 6 (.alo [(.int .i64 0), (.int .i64 0), (.int .i64 0), (.str []), .nils]), zn (.st 5 (.agg [.id, .id, .id, .id, (.sl 5)]) (.t 6) (.t 28)), zm 7 29]
def qbay : IC := .reg false [zm 30 7, zv 31 (.un .not (.t 30))]
def q7z : IC := .reg false [zv 32 (.bld [(.int .i64 0), (.int .i64 0), (.int .i64 0), (.str []), .nils] []), zn (.st 5 (.agg [.id, .id, .id, .id, (.sl 5)]) (.t 2) (.t 32)), zv 3 (.mov (.c (.bool false)))]
def q22 : IC := .reg false [zv 33 (.fad (.t 5) 4), zv 34 (.ld false 1 (.t 33)), zv 35 (.ld true 5 (.t 6)), zv 36 (.bsl 5 [((.t 35), (.agg [.id, .id, .id, .id, (.sl 5)]))]), zi 37 (.app 5 (.agg [(.int .i64 0), (.int .i64 0), (.int .i64 0), (.str []), .nils]) 64 (.sl 5) (.t 34) (.t 36)), zv 38 (.fad (.t 5) 4), zn (.st 1 (.sl 5) (.t 38) (.t 37))]
def qbg4 : IC := (.seq (.seq qbcz (.cond (.t 24) .skip (.exit 0))) (.block 1 (.seq q71 (.seq (.seq qbay (.cond (.t 31) (.seq q7z .ret) .skip)) q22))))
def q3c : IC := .reg false [zv 39 (.ld true 5 (.t 5)), zn (.st 5 (.agg [.id, .id, .id, .id, (.sl 5)]) (.t 2) (.t 39)), zv 3 (.mov (.c (.bool true)))]
def k0ba : IC := (.seq qbcb (.seq (.seq q92 (.cond (.t 11) (.seq qbaa .ret) .skip)) (.seq q89 (.seq qbew (.seq (.block 0 (.loop qbg4)) (.seq q3c .ret))))))
@[go_sem] def s0ba : List (RV × Co) := [(.c true 5 2, (.agg [.id, .id, .id, .id, (.sl 5)])), (.t 3, .id)]
theorem c0ba : cFun Try.prog 69 = some (40, k0ba, s0ba) := by kernel_rfl

def qbnn : IC := .reg false [zi 2 (.alo [(.int .i64 0), (.int .i64 0), (.int .i64 0), (.str []), .nils]), zv 3 (.mov (.c (.bool false)))]
def qbiy : IC := .reg false [zm 7 0, zi 8 (.call (.c (.fn 23 [] [])) [((.t 7), .id)]), zi 4 (.alo [(.int .i64 0), (.int .i64 0), (.int .i64 0), (.str [])]), zn (.st 4 .id (.t 4) (.t 8))]
def qbii : IC := .reg false [zv 10 (.fad (.t 4) 0), zv 11 (.ld false 1 (.t 10)), zv 12 (.bin .eql .no (.t 11) (.c (.int .i64 1))), zm 9 12]
def qbkv : IC := .reg false [zm 13 0, zi 14 (.call (.c (.fn 42 [] [])) [((.t 13), .id)])]
def qbng : IC := .reg false [zv 15 (.fad (.t 4) 1), zv 16 (.ld false 1 (.t 15)), zv 17 (.fad (.t 4) 3), zv 18 (.ld false 1 (.t 17)), zv 19 (.bld [(.int .i64 0), (.int .i64 0), (.int .i64 0), (.str []), .nils] [(0, 1, (.c (.int .i64 1))), (1, 1, (.t 16)), (3, 1, (.t 18))]), zn (.st 5 (.agg [.id, .id, .id, .id, (.sl 5)]) (.t 2) (.t 19)), zv 3 (.mov (.c (.bool true)))]
def qbli : IC := .reg false [zv 21 (.fad (.t 4) 0), zv 22 (.ld false 1 (.t 21)), zv 23 (.bin .eql .no (.t 22) (.c (.int .i64 2))), zm 20 23]
def qbi9 : IC := .reg false [zm 24 0, zi 25 (.call (.c (.fn 42 [] [])) [((.t 24), .id)])]
def qbku : IC := .reg false [zv 26 (.fad (.t 4) 1), zv 27 (.ld false 1 (.t 26)), zv 28 (.fad (.t 4) 3), zv 29 (.ld false 1 (.t 28)), zv 30 (.bld [(.int .i64 0), (.int .i64 0), (.int .i64 0), (.str []), .nils] [(0, 1, (.c (.int .i64 2))), (1, 1, (.t 27)), (3, 1, (.t 29))]), zn (.st 5 (.agg [.id, .id, .id, .id, (.sl 5)]) (.t 2) (.t 30)), zv 3 (.mov (.c (.bool true)))]
def qbkh : IC := .reg false [zm 32 0, zi 33 (.call (.c (.fn 41 [] [])) [((.t 32), .id), ((.c (.str [40])), .id)]), zv 34 (.un .not (.t 33)), zm 31 34]
def qboc : IC := .reg false [zv 35 (.bld [(.int .i64 0), (.int .i64 0), (.int .i64 0), (.str []), .nils] []), zm 36 0, zi 37 (.call (.c (.fn 22 [] [])) [((.t 36), .id), ((.c (.int .i64 5)), .id)]), zn (.st 5 (.agg [.id, .id, .id, .id, (.sl 5)]) (.t 2) (.t 35)), zm 3 37]
def qbaq : IC := .reg false [zm 38 0, zi 39 (.call (.c (.fn 14 [] [])) [((.t 38), .id)]), zv 40 (.un .not (.t 39))]
def qbgu : IC := .reg false [zv 41 (.bld [(.int .i64 0), (.int .i64 0), (.int .i64 0), (.str []), .nils] []), zn (.st 5 (.agg [.id, .id, .id, .id, (.sl 5)]) (.t 2) (.t 41)), zv 3 (.mov (.c (.bool false)))]
def qba0 : IC := .reg false [zm 42 0, zi 43 (.call (.c (.fn 42 [] [])) [((.t 42), .id)])]
def qbav : IC := .reg false [zm 45 0, zi 46 (.call (.c (.fn 62 [] [])) [((.t 45), .id)]), zm 44 46, zv 47 (.ext (.t 44) 0), zv 48 (.ext (.t 44) 1), zi 5 (.alo [(.int .i64 0), (.int .i64 0), (.int .i64 0), (.str []), .nils]), zn (.st 5 (.agg [.id, .id, .id, .id, (.sl 5)]) (.t 5) (.t 47)), zm 6 48]
def qbck : IC := .reg false [zm 49 6, zm 50 49, zw 50 true 51 (.mov (.t 0)), ⟨some (50, true), some 52, .call (.c (.fn 43 [] [])) [((.t 51), .id), ((.c (.str [41])), .id)]⟩, zv 53 (.pick (.t 50) (.t 52) (.c (.bool false))), zm 6 53]
def qbde : IC := .reg false [zm 54 0, zi 55 (.call (.c (.fn 16 [] [])) [((.t 54), .id)])]
def qbbw : IC := .reg false [zm 56 0, zv 57 (.ld true 5 (.t 5)), zm 58 6, zi 59 (.call (.c (.fn 63 [] [])) [((.t 56), .id), ((.t 57), (.agg [.id, .id, .id, .id, (.sl 5)])), ((.t 58), .id)]), zv 60 (.ext (.t 59) 0), zv 61 (.ext (.t 59) 1), zn (.st 5 (.agg [.id, .id, .id, .id, (.sl 5)]) (.t 2) (.t 60)), zm 3 61]
def k0z : IC := (.seq qbnn (.seq (.seq qbiy (.block 0 (.seq qbii (.cond (.t 9) (.seq qbkv (.seq qbng .ret)) (.seq qbli (.cond (.t 20) (.seq qbi9 (.seq qbku .ret)) (.seq qbkh (.cond (.t 31) (.seq qboc .ret) .skip)))))))) (.seq (.seq qbaq (.cond (.t 40) (.seq qbgu .ret) .skip)) (.seq qba0 (.seq qbav (.seq qbck (.seq qbde (.seq qbbw .ret))))))))
@[go_sem] def s0z : List (RV × Co) := [(.c true 5 2, (.agg [.id, .id, .id, .id, (.sl 5)])), (.t 3, .id)]
theorem c0z : cFun Try.prog 70 = some (62, k0z, s0z) := by kernel_rfl

def qbjw : IC := .reg false [zv 2 (.mov (.c (.bool false)))]
def qbov : IC := .reg false [zm 4 0, zi 5 (.call (.c (.fn 23 [] [])) [((.t 4), .id)]), zv 6 (.fld false 1 0 (.t 5)), zm 3 6]
def qbon : IC := .reg false [zm 7 3, zv 8 (.bin .eql .no (.t 7) (.c (.int .i64 1))), zm 9 8, zw 9 false 10 (.mov (.t 3)), zw 9 false 11 (.bin .eql .no (.t 10) (.c (.int .i64 2))), zv 12 (.pick (.t 9) (.c (.bool true)) (.t 11)), zm 13 12, zw 13 false 14 (.mov (.t 0)), ⟨some (13, false), some 15, .call (.c (.fn 41 [] [])) [((.t 14), .id), ((.c (.str [40])), .id)]⟩, zv 16 (.pick (.t 13) (.c (.bool true)) (.t 15)), zm 2 16]
def k0y : IC := (.seq qbjw (.seq qbov (.seq qbon .ret)))
@[go_sem] def s0y : List (RV × Co) := [(.t 2, .id)]
theorem c0y : cFun Try.prog 71 = some (17, k0y, s0y) := by kernel_rfl

end Go.Proofs.Ytmekebfgmjaenaa
