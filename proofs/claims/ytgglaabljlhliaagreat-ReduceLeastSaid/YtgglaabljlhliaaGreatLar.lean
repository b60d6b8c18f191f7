/- A text of this proof. -/
import Derived.Test.YtgglaabljlhliaaGreatLai
import Derived.Test.YtgglaabljlhliaaGreatProg
set_option linter.unusedVariables false
set_option linter.unusedSimpArgs false
/- The compiled code of the functions. -/
namespace Go.Proofs.YtgglaabljlhliaaGreat
open Go Go.V
@[reducible] def zm (d s:Nat):GI:=⟨none,some d,.v (.mov (.t s))⟩
@[reducible] def zv (d:Nat) (x:IV):GI:=⟨none,some d,.v x⟩
@[reducible] def zi (d:Nat) (i:I):GI:=⟨none,some d,i⟩
@[reducible] def zn (i:I):GI:=⟨none,none,i⟩
@[reducible] def zw (j:Nat) (b:Bool) (d:Nat) (x:IV):GI:=⟨some (j,b),some d,.v x⟩
@[reducible] def zp (g:GI):GI×List Nat:=(g,[])
@[reducible] def zN:Co:=.agg [.id,.id,.id,.id,(.sl 5)]
@[reducible] def zC:Co:=.agg [(.sl 4),.id,.id,.id,.id,.id,.id,.id]
@[reducible] def zaN:I:=.alo [(.int .i64 0),(.int .i64 0),(.int .i64 0),(.str []),.nils]
@[reducible] def zaC:I:=.alo [.nils,(.int .i64 0),(.int .i64 0),(.int .i64 0),(.str []),(.int .i64 0),(.int .i64 0),(.int .i64 0)]
@[reducible] def zaT:I:=.alo [(.int .i64 0),(.int .i64 0),(.int .i64 0),(.str [])]
@[reducible] def zZ:AV:=.agg [(.int .i64 0),(.int .i64 0),(.int .i64 0),(.str []),.nils]
@[reducible] def zc (n:Int):Opd:=.c (.int .i64 n)
@[reducible] def zf:IV:=.mov (.c (.bool false))
@[reducible] def zr (l:List GI):IC:=.reg false l
@[reducible] def zk (f:FuncId) (l:List (Opd×Co)):I:=.call (.c (.fn f [] [])) l
@[reducible] def zA (n:Nat):Opd×Co:=(.t n,zN)
@[reducible] def zI (n:Nat):Opd×Co:=(.t n,.id)
@[reducible] def zx (n k:Nat):IV:=.ext (.t n) k
@[reducible] def zl (n k:Nat):IV:=.ld true n (.t k)
@[reducible] def zg (n k:Nat):IV:=.ld false n (.t k)
@[reducible] def zd (n k:Nat):IV:=.fad (.t n) k
@[reducible] def zq (a b:Opd):IV:=.bin .eql .no a b
@[reducible] def zo (n:Nat):IV:=.mov (.t n)
@[reducible] def zj (j:Nat) (b:Bool) (d:Nat) (i:I):GI:=⟨some (j,b),some d,i⟩
def qbtp:IC:=zr [zi 2 (.box (.t 0)),zv 4 zf]
def qbud:IC:=zr [zv 15 (zl 3 2),zm 16 1,zi 17 (zk 14 [((.t 15),(.agg [(.sl 3),(.sl 3),(.sl 4)])),((.t 16),(.sl 4))]),zv 18 (.un .not (.t 17))]
def qbjr:IC:=zr [zi 19 (zk 15 []),zm 4 19]
def qbuo:IC:=zr [zv 21 (zl 3 2),zm 22 1,zi 23 (zk 16 [((.t 21),(.agg [(.sl 3),(.sl 3),(.sl 4)])),((.t 22),(.sl 4))]),zm 20 23,zv 24 (zx 20 0),zv 25 (zx 20 1),zv 26 (zx 20 2),zv 27 (zx 20 3),zm 5 24,zm 6 25,zm 7 26,zm 8 27]
def qbo5:IC:=zr [zm 28 8,zv 29 (.bin .neq .no (.t 28) (zc 0))]
def qbq2:IC:=zr [zm 30 5,zv 31 (.len false (.t 30)),zv 32 (zq (.t 31) (zc 0)),zm 33 32,zj 33 true 34 (zk 15 []),zv 35 (.pick (.t 33) (.t 34) (.c (.bool false))),zm 4 35]
def q0e:IC:=zr [zv 9 (.mov (zc 0))]
def qbhj:IC:=zr [zm 36 9,zm 37 5,zv 38 (.len false (.t 37)),zv 39 (.bin .lss .no (.t 36) (.t 38))]
def qbwa:IC:=.drw [zp (zm 42 5),zp (zm 43 9),zp (zv 44 (.slv 4 (.t 42) none (some (.t 43)) none)),(zi 45 (.app 4 (.agg [(.str []),(.str []),(.int .i64 0),.nils]) 64 (.sl 4) (.c .nils) (.t 44)),[]),zp (zm 46 5),zp (zm 47 9),zp (zv 48 (.bin .add .no (.t 47) (zc 1))),(zv 49 (.slv 4 (.t 46) (some (.t 48)) none none),[3]),(zi 50 (.app 4 (.agg [(.str []),(.str []),(.int .i64 0),.nils]) 64 (.sl 4) (.t 45) (.t 49)),[]),zp (zm 10 50)]
def q60:IC:=.drw [zp (zv 51 (zl 3 2)),zp (zm 52 10),zp (zm 53 5),zp (zm 54 9),zp (zm 55 9),zp (zv 56 (.bin .add .no (.t 55) (zc 1))),zp (zv 57 (.slv 4 (.t 53) (some (.t 54)) (some (.t 56)) none)),(zi 58 (zk 17 [((.t 51),(.agg [(.sl 3),(.sl 3),(.sl 4)])),((.t 52),(.sl 4)),((.t 57),(.sl 4))]),[])]
def qbdd:IC:=zr [zv 4 zf]
def q65:IC:=zr [zm 40 9,zv 41 (.bin .add .no (.t 40) (zc 1)),zm 9 41]
def q2c:IC:=(.seq (.seq qbhj (.cond (.t 39) .skip (.exit 0))) (.seq (.block 1 (.seq qbwa (.seq q60 (.cond (.t 58) (.seq qbdd .ret) .skip)))) q65))
def q7n:IC:=zr [zv 60 (zl 3 2),zm 61 5,zi 62 (zk 16 [((.t 60),(.agg [(.sl 3),(.sl 3),(.sl 4)])),((.t 61),(.sl 4))]),zm 59 62,zv 63 (zx 59 0),zv 64 (zx 59 1),zv 65 (zx 59 2),zv 66 (zx 59 3),zm 11 63,zm 12 64,zm 13 65,zm 14 66]
def q7u:IC:=zr [zm 67 14,zv 68 (zq (.t 67) (zc 0)),zm 69 68,zw 69 true 70 (zo 11),zw 69 true 71 (zo 5),zj 69 true 72 (zk 18 [((.t 70),(.sl 4)),((.t 71),(.sl 4))]),zv 73 (.pick (.t 69) (.t 72) (.c (.bool false))),zm 74 73,zj 74 true 75 (zk 15 []),zv 76 (.pick (.t 74) (.t 75) (.c (.bool false))),zm 4 76]
def k0cw:IC:=(.seq qbtp (.seq (.seq qbud (.cond (.t 18) (.seq qbjr .ret) .skip)) (.seq qbuo (.seq (.seq qbo5 (.cond (.t 29) (.seq qbq2 .ret) .skip)) (.seq (.seq q0e (.block 0 (.loop q2c))) (.seq q7n (.seq q7u .ret)))))))
@[go_sem] def s0cw:List (RV×Co):=[(.t 4,.id)]
theorem c0cw:cFun Tryz.prog 5 = some (77,k0cw,s0cw):=by kernel_rfl

def qbho:IC:=zr [zi 3 (.box (.t 0)),zi 5 (.box (.t 2)),zi 6 (.alo [(.int .i64 0),(.int .i64 0),.nils,.nils]),zv 7 (.mov (zc 0))]
def qbtb:IC:=zr [zv 8 (zl 4 5),zi 9 (zk 26 [((.t 8),(.agg [.id,.id,.id,(.sl 3)]))]),zm 10 9,zw 10 false 11 (zo 1),zj 10 false 12 (zk 27 [((.t 11),(.sl 4)),((.c (.fn 26 [] [])),.id)]),zv 13 (.pick (.t 10) (.c (.bool true)) (.t 12)),zm 14 13,zw 14 false 15 (zl 3 3),zj 14 false 16 (zk 28 [((.t 15),(.agg [(.sl 3),(.sl 3),(.sl 4)]))]),zw 14 false 17 (.un .not (.t 16)),zv 18 (.pick (.t 14) (.c (.bool true)) (.t 17))]
def qbqm:IC:=zr [zv 19 (.bld [(.int .i64 0),(.int .i64 0),.nils,.nils] []),zn (.st 4 (.agg [.id,.id,(.sl 3),(.sl 4)]) (.t 6) (.t 19)),zv 7 (.mov (zc 1))]
def qbqx:IC:=zr [zv 20 (zl 3 3),zm 21 1,zv 22 (zl 4 5),zi 23 (zk 29 [((.t 20),(.agg [(.sl 3),(.sl 3),(.sl 4)])),((.t 21),(.sl 4)),((.t 22),(.agg [.id,.id,.id,(.sl 3)]))]),zv 24 (zx 23 0),zv 25 (zx 23 1),zn (.st 4 (.agg [.id,.id,(.sl 3),(.sl 4)]) (.t 6) (.t 24)),zm 7 25]
def k0dl:IC:=(.seq qbho (.seq (.seq qbtb (.cond (.t 18) (.seq qbqm .ret) .skip)) (.seq qbqx .ret)))
@[go_sem] def s0dl:List (RV×Co):=[(.c true 4 6,(.agg [.id,.id,(.sl 3),(.sl 4)])),(.t 7,.id)]
theorem c0dl:cFun Tryz.prog 8 = some (26,k0dl,s0dl):=by kernel_rfl

def qbsu:IC:=zr [zi 1 (.box (.t 0)),zv 2 (.mov (zc 0))]
def qbnu:IC:=zr [zv 3 (.mov (zc 1))]
def qbwu:IC:=zr [zv 4 (.mov (zc 0))]
def qbps:IC:=zr [zm 5 4,zv 6 (zd 1 2),zv 7 (zg 1 6),zv 8 (.len false (.t 7)),zv 9 (.bin .lss .no (.t 5) (.t 8))]
def qbko:IC:=zr [zm 12 3,zv 13 (zd 1 2),zv 14 (zg 1 13),zm 15 4,zv 16 (.iad 3 (.t 14) (.t 15)),zv 17 (zl 3 16),zi 18 (zk 11 [((.t 17),(.agg [.id,.id,(.sl 3)]))]),zv 19 (.bin .add .no (.t 12) (.t 18)),zm 3 19]
def qblf:IC:=zr [zm 10 4,zv 11 (.bin .add .no (.t 10) (zc 1)),zm 4 11]
def qbw1:IC:=(.seq (.seq qbps (.cond (.t 9) .skip (.exit 0))) (.seq (.block 1 qbko) qblf))
def qblh:IC:=zr [zm 20 3,zm 2 20]
def k0bn:IC:=(.seq qbsu (.seq qbnu (.seq (.seq qbwu (.block 0 (.loop qbw1))) (.seq qblh .ret))))
@[go_sem] def s0bn:List (RV×Co):=[(.t 2,.id)]
theorem c0bn:cFun Tryz.prog 11 = some (21,k0bn,s0bn):=by kernel_rfl

def qbsc:IC:=zr [zi 2 (.box (.t 0)),zv 4 zf]
def qbgr:IC:=zr [zv 6 (zl 3 2),zi 7 (zk 19 [((.t 6),(.agg [(.sl 3),(.sl 3),(.sl 4)]))]),zv 8 (zq (.t 7) (zc 0)),zm 9 8,zw 9 false 10 (zo 1),zw 9 false 11 (.len false (.t 10)),zw 9 false 12 (.bin .gtr .no (.t 11) (zc 8)),zv 13 (.pick (.t 9) (.c (.bool true)) (.t 12)),zm 14 13,zw 14 false 15 (zo 1),zj 14 false 16 (zk 20 [((.t 15),(.sl 4))]),zw 14 false 17 (zq (.t 16) (zc 0)),zv 18 (.pick (.t 14) (.c (.bool true)) (.t 17))]
def qbvg:IC:=zr [zv 4 zf]
def qbmp:IC:=zr [zv 5 (.mov (zc 0))]
def qbkx:IC:=zr [zm 19 5,zm 20 1,zv 21 (.len false (.t 20)),zv 22 (.bin .lss .no (.t 19) (.t 21))]
def qbgz:IC:=zr [zm 25 1,zm 26 5,zv 27 (.iad 4 (.t 25) (.t 26)),zv 28 (zd 27 1),zv 29 (zl 3 28),zi 30 (zk 21 [((.t 29),(.agg [.id,.id,(.sl 3)]))]),zv 31 (.bin .gtr .no (.t 30) (zc 6))]
def qbt9:IC:=zr [zv 4 zf]
def qbhn:IC:=zr [zm 23 5,zv 24 (.bin .add .no (.t 23) (zc 1)),zm 5 24]
def qbkw:IC:=(.seq (.seq qbkx (.cond (.t 22) .skip (.exit 0))) (.seq (.block 1 (.seq qbgz (.cond (.t 31) (.seq qbt9 .ret) .skip))) qbhn))
def q8c:IC:=zr [zv 4 (.mov (.c (.bool true)))]
def k0cx:IC:=(.seq qbsc (.seq (.seq qbgr (.cond (.t 18) (.seq qbvg .ret) .skip)) (.seq (.seq qbmp (.block 0 (.loop qbkw))) (.seq q8c .ret))))
@[go_sem] def s0cx:List (RV×Co):=[(.t 4,.id)]
theorem c0cx:cFun Tryz.prog 14 = some (32,k0cx,s0cx):=by kernel_rfl

def qbmo:IC:=zr [zv 0 zf]
def qbg2:IC:=zr [zv 14 (.bld [(.str []),.nils,.nils] [(0,1,(.c (.str [69,113])))]),zv 15 (.bsl 1 [((.c (.str [69,113])),.id)]),zv 16 (.bld [(.str []),.nils,.nils] [(0,1,(.c (.str [79,114,100]))),(1,1,(.t 15))]),zv 17 (.bsl 3 [((.t 14),(.agg [.id,(.sl 1),(.sl 5)])),((.t 16),(.agg [.id,(.sl 1),(.sl 5)]))]),zv 18 (.bld [(.str []),(.str []),(.int .i64 0),.nils] [(0,1,(.c (.str [69,113])))]),zv 19 (.bsl 4 [((.t 18),(.agg [.id,.id,.id,(.sl 3)]))]),zv 20 (.bld [(.str []),(.str []),(.int .i64 0),.nils] [(0,1,(.c (.str [69,113]))),(1,1,(.c (.str [76]))),(2,1,(zc 1)),(3,1,(.t 19))]),zv 21 (.bsl 4 [((.t 20),(.agg [.id,.id,.id,(.sl 4)]))]),zv 22 (.bld [.nils,.nils,.nils] [(1,1,(.t 17)),(2,1,(.t 21))]),zi 1 (.alo [.nils,.nils,.nils]),zn (.st 3 (.agg [(.sl 3),(.sl 3),(.sl 4)]) (.t 1) (.t 22))]
def qbvv:IC:=zr [zi 24 (zk 22 [((.c (.str [76,32,97])),.id)]),zm 23 24,zv 25 (zx 23 0),zv 26 (zx 23 1),zi 2 (.alo [(.str []),(.int .i64 0),.nils]),zn (.st 3 (.agg [.id,.id,(.sl 3)]) (.t 2) (.t 25)),zm 3 26]
def qbr7:IC:=zr [zv 27 (.bld [(.str []),(.str []),(.int .i64 0),.nils] [(0,1,(.c (.str [79,114,100])))]),zv 28 (zl 3 2),zv 29 (.bld [(.str []),(.str []),(.int .i64 0),.nils] [(0,1,(.c (.str [69,113]))),(1,3,(.t 28))]),zv 30 (.bld [(.str []),(.str []),(.int .i64 0),.nils] [(0,1,(.c (.str [69,113])))]),zv 31 (.bsl 4 [((.t 27),(.agg [.id,.id,.id,(.sl 3)])),((.t 29),(.agg [.id,.id,.id,(.sl 3)])),((.t 30),(.agg [.id,.id,.id,(.sl 3)]))]),zm 4 31]
def qbjp:IC:=zr [zv 33 (zl 3 1),zm 34 4,zi 35 (zk 16 [((.t 33),(.agg [(.sl 3),(.sl 3),(.sl 4)])),((.t 34),(.sl 4))]),zm 32 35,zv 36 (zx 32 0),zv 37 (zx 32 1),zv 38 (zx 32 2),zv 39 (zx 32 3),zm 5 36,zm 6 37,zm 7 38,zm 8 39]
def qbvq:IC:=.drw [zp (zv 41 (zl 3 1)),zp (zm 42 4),zp (zv 43 (.iad 4 (.t 42) (zc 1))),zp (zv 44 (zl 4 43)),(zi 45 (zk 33 [((.t 41),(.agg [(.sl 3),(.sl 3),(.sl 4)])),((.t 44),(.agg [.id,.id,.id,(.sl 3)]))]),[]),zp (zm 40 45),zp (zv 46 (zx 40 0)),zp (zv 47 (zx 40 1)),zp (zm 9 46),zp (zm 10 47)]
def qbme:IC:=.drw [zp (zv 49 (zl 3 1)),zp (zm 50 4),zp (zv 51 (.iad 4 (.t 50) (zc 0))),zp (zv 52 (zl 4 51)),zp (zv 53 (zl 3 2)),(zv 54 (.bld [(.str []),(.str []),(.int .i64 0),.nils] [(0,1,(.c (.str [79,114,100]))),(1,3,(.t 53))]),[]),(zv 55 (.bsl 4 [((.t 52),(.agg [.id,.id,.id,(.sl 3)])),((.t 54),(.agg [.id,.id,.id,(.sl 3)]))]),[]),(zi 56 (zk 34 [((.t 49),(.agg [(.sl 3),(.sl 3),(.sl 4)])),((.t 55),(.sl 4))]),[]),zp (zm 48 56),zp (zv 57 (zx 48 0)),zp (zv 58 (zx 48 1)),zp (zv 59 (zx 48 2)),zp (zm 11 57),zp (zm 12 58),zp (zm 13 59)]
def qblk:IC:=zr [zm 60 6,zv 61 (.len false (.t 60)),zv 62 (.bin .neq .no (.t 61) (zc 3))]
def qbhc:IC:=zr [zv 0 zf]
def qbl8:IC:=zr [zm 63 5,zv 64 (.len false (.t 63)),zv 65 (zq (.t 64) (zc 1)),zm 66 65,zw 66 true 67 (zo 5),zw 66 true 68 (.iad 4 (.t 67) (zc 0)),zw 66 true 69 (zd 68 0),zw 66 true 70 (zg 1 69),zw 66 true 71 (zq (.t 70) (.c (.str [79,114,100]))),zv 72 (.pick (.t 66) (.t 71) (.c (.bool false))),zm 73 72,zw 73 true 74 (zo 7),zw 73 true 75 (zq (.t 74) (zc 0)),zv 76 (.pick (.t 73) (.t 75) (.c (.bool false))),zm 77 76,zw 77 true 78 (zo 8),zw 77 true 79 (zq (.t 78) (zc 0)),zv 80 (.pick (.t 77) (.t 79) (.c (.bool false))),zm 81 80,zw 81 true 82 (zo 6),zw 81 true 83 (.iad 4 (.t 82) (zc 1)),zw 81 true 84 (zl 4 83),zj 81 true 85 (zk 25 [((.t 84),(.agg [.id,.id,(.sl 3),(.sl 4)]))]),zw 81 true 86 (zq (.t 85) (.c (.str [64,48,40,35,48,46,48,41]))),zv 87 (.pick (.t 81) (.t 86) (.c (.bool false))),zm 88 87,zw 88 true 89 (zo 9),zw 88 true 90 (.len false (.t 89)),zw 88 true 91 (zq (.t 90) (zc 1)),zv 92 (.pick (.t 88) (.t 91) (.c (.bool false))),zm 93 92,zw 93 true 94 (zo 9),zw 93 true 95 (.iad 4 (.t 94) (zc 0)),zw 93 true 96 (zd 95 0),zw 93 true 97 (zg 1 96),zw 93 true 98 (zq (.t 97) (.c (.str [69,113]))),zv 99 (.pick (.t 93) (.t 98) (.c (.bool false))),zm 100 99,zw 100 true 101 (zo 10),zw 100 true 102 (zq (.t 101) (zc 0)),zv 103 (.pick (.t 100) (.t 102) (.c (.bool false))),zm 104 103,zw 104 true 105 (zo 12),zw 104 true 106 (zq (.t 105) (zc 1)),zv 107 (.pick (.t 104) (.t 106) (.c (.bool false))),zm 108 107,zw 108 true 109 (zo 13),zw 108 true 110 (zq (.t 109) (zc 16)),zv 111 (.pick (.t 108) (.t 110) (.c (.bool false))),zm 112 111,zw 112 true 113 (zl 3 1),zw 112 true 114 (zo 4),zj 112 true 115 (zk 35 [((.t 113),(.agg [(.sl 3),(.sl 3),(.sl 4)])),((.t 114),(.sl 4))]),zw 112 true 116 (.len false (.t 115)),zw 112 true 117 (zq (.t 116) (zc 2)),zv 118 (.pick (.t 112) (.t 117) (.c (.bool false))),zm 0 118]
def k0cy:IC:=(.seq qbmo (.seq qbg2 (.seq qbvv (.seq qbr7 (.seq qbjp (.seq qbvq (.seq qbme (.seq (.seq qblk (.cond (.t 62) (.seq qbhc .ret) .skip)) (.seq qbl8 .ret)))))))))
@[go_sem] def s0cy:List (RV×Co):=[(.t 0,.id)]
theorem c0cy:cFun Tryz.prog 15 = some (119,k0cy,s0cy):=by kernel_rfl

def qbju:IC:=zr [zi 2 (.box (.t 0)),zv 4 (.mov (.c .nils)),zv 5 (.mov (.c .nils)),zv 6 (.mov (zc 0)),zv 7 (.mov (zc 0))]
def qbnt:IC:=zr [zv 13 (zl 3 2),zm 14 1,zi 15 (zk 34 [((.t 13),(.agg [(.sl 3),(.sl 3),(.sl 4)])),((.t 14),(.sl 4))]),zm 12 15,zv 16 (zx 12 0),zv 17 (zx 12 1),zv 18 (zx 12 2),zm 8 16,zm 9 17,zm 10 18]
def qbi8:IC:=zr [zm 19 10,zv 20 (.bin .neq .no (.t 19) (zc 0))]
def qbwm:IC:=zr [zm 21 9,zm 22 10,zv 4 (.mov (.c .nils)),zv 5 (.mov (.c .nils)),zm 6 21,zm 7 22]
def q1q:IC:=zr [zv 23 (zl 3 2),zm 24 8,zi 25 (zk 35 [((.t 23),(.agg [(.sl 3),(.sl 3),(.sl 4)])),((.t 24),(.sl 4))]),zm 8 25]
def qbma:IC:=zr [zv 27 (zl 3 2),zm 28 8,zm 29 1,zi 30 (zk 24 [((.t 27),(.agg [(.sl 3),(.sl 3),(.sl 4)])),((.t 28),(.sl 4)),((.t 29),(.sl 4))]),zm 26 30,zv 31 (zx 26 0),zv 32 (zx 26 1),zv 33 (zx 26 2),zm 11 31,zm 9 32,zm 10 33]
def qbip:IC:=zr [zm 34 10,zv 35 (.bin .neq .no (.t 34) (zc 0))]
def qbe2:IC:=zr [zm 36 9,zm 37 10,zv 4 (.mov (.c .nils)),zv 5 (.mov (.c .nils)),zm 6 36,zm 7 37]
def qbt7:IC:=zr [zm 38 8,zm 39 11,zm 4 38,zm 5 39,zv 6 (.mov (zc 0)),zv 7 (.mov (zc 0))]
def k0da:IC:=(.seq qbju (.seq qbnt (.seq (.seq qbi8 (.cond (.t 20) (.seq qbwm .ret) .skip)) (.seq q1q (.seq qbma (.seq (.seq qbip (.cond (.t 35) (.seq qbe2 .ret) .skip)) (.seq qbt7 .ret)))))))
@[go_sem] def s0da:List (RV×Co):=[(.t 4,(.sl 4)),(.t 5,(.sl 4)),(.t 6,.id),(.t 7,.id)]
theorem c0da:cFun Tryz.prog 16 = some (40,k0da,s0da):=by kernel_rfl

def qbpw:IC:=zr [zi 3 (.box (.t 0)),zv 6 zf]
def qbi7:IC:=zr [zv 11 (zl 3 3),zm 12 1,zm 13 2,zi 14 (zk 24 [((.t 11),(.agg [(.sl 3),(.sl 3),(.sl 4)])),((.t 12),(.sl 4)),((.t 13),(.sl 4))]),zm 10 14,zv 15 (zx 10 0),zv 16 (zx 10 1),zv 17 (zx 10 2),zm 7 15,zm 8 16,zm 9 17]
def qbsh:IC:=zr [zm 18 9,zv 19 (zq (.t 18) (zc 0)),zm 6 19]
def k0dj:IC:=(.seq qbpw (.seq qbi7 (.seq qbsh .ret)))
@[go_sem] def s0dj:List (RV×Co):=[(.t 6,.id)]
theorem c0dj:cFun Tryz.prog 17 = some (20,k0dj,s0dj):=by kernel_rfl

def qbll:IC:=zr [zv 4 zf]
def qblc:IC:=zr [zm 6 0,zv 7 (.len false (.t 6)),zm 8 1,zv 9 (.len false (.t 8)),zv 10 (.bin .neq .no (.t 7) (.t 9))]
def qbuk:IC:=zr [zv 4 zf]
def qbk2:IC:=zr [zv 5 (.mov (zc 0))]
def qbrv:IC:=zr [zm 11 5,zm 12 0,zv 13 (.len false (.t 12)),zv 14 (.bin .lss .no (.t 11) (.t 13))]
def qbtm:IC:=.drw [zp (zm 17 0),zp (zm 18 5),zp (zv 19 (.iad 4 (.t 17) (.t 18))),zp (zv 20 (zl 4 19)),zp (zm 21 1),zp (zm 22 5),zp (zv 23 (.iad 4 (.t 21) (.t 22))),zp (zv 24 (zl 4 23)),(zi 25 (zk 36 [((.t 20),(.agg [.id,.id,.id,(.sl 3)])),((.t 24),(.agg [.id,.id,.id,(.sl 3)]))]),[]),zp (zv 26 (.un .not (.t 25)))]
def qbr4:IC:=zr [zv 4 zf]
def qbm9:IC:=zr [zm 15 5,zv 16 (.bin .add .no (.t 15) (zc 1)),zm 5 16]
def qbwf:IC:=(.seq (.seq qbrv (.cond (.t 14) .skip (.exit 0))) (.seq (.block 1 (.seq qbtm (.cond (.t 26) (.seq qbr4 .ret) .skip))) qbm9))
def qbac:IC:=zr [zv 4 (.mov (.c (.bool true)))]
def k0cl:IC:=(.seq qbll (.seq (.seq qblc (.cond (.t 10) (.seq qbuk .ret) .skip)) (.seq (.seq qbk2 (.block 0 (.loop qbwf))) (.seq qbac .ret))))
@[go_sem] def s0cl:List (RV×Co):=[(.t 4,.id)]
theorem c0cl:cFun Tryz.prog 18 = some (27,k0cl,s0cl):=by kernel_rfl

def qbjq:IC:=zr [zi 1 (.box (.t 0)),zv 2 (.mov (zc 0))]
def qbkd:IC:=zr [zv 3 (zd 1 1),zv 4 (zg 1 3),zi 5 (zk 37 [((.t 4),(.sl 3))]),zv 6 (zq (.t 5) (zc 0)),zm 7 6,zw 7 false 8 (zd 1 2),zw 7 false 9 (zg 1 8),zj 7 false 10 (zk 38 [((.t 9),(.sl 4))]),zw 7 false 11 (zq (.t 10) (zc 0)),zv 12 (.pick (.t 7) (.c (.bool true)) (.t 11))]
def qbtk:IC:=zr [zv 2 (.mov (zc 0))]
def qbo3:IC:=zr [zv 2 (.mov (zc 1))]
def k0ee:IC:=(.seq qbjq (.seq (.seq qbkd (.cond (.t 12) (.seq qbtk .ret) .skip)) (.seq qbo3 .ret)))
@[go_sem] def s0ee:List (RV×Co):=[(.t 2,.id)]
theorem c0ee:cFun Tryz.prog 19 = some (13,k0ee,s0ee):=by kernel_rfl

def qbru:IC:=zr [zv 2 (.mov (zc 0))]
def qbfh:IC:=zr [zm 5 0,zv 6 (.len false (.t 5)),zv 7 (.bin .gtr .no (.t 6) (zc 30))]
def qbwt:IC:=zr [zv 2 (.mov (zc 0))]
def qbg7:IC:=zr [zv 3 (.mov (.c .nils))]
def qboe:IC:=zr [zv 4 (.mov (zc 0))]
def qbry:IC:=zr [zm 8 4,zm 9 0,zv 10 (.len false (.t 9)),zv 11 (.bin .lss .no (.t 8) (.t 10))]
def qbr5:IC:=zr [zm 14 3,zm 15 0,zm 16 4,zv 17 (.iad 4 (.t 15) (.t 16)),zv 18 (zd 17 1),zv 19 (zl 3 18),zv 20 (.bsl 3 [((.t 19),(.agg [.id,.id,(.sl 3)]))]),zi 21 (.app 3 (.agg [(.str []),(.int .i64 0),.nils]) 48 (.sl 3) (.t 14) (.t 20)),zm 3 21]
def qblz:IC:=zr [zm 12 4,zv 13 (.bin .add .no (.t 12) (zc 1)),zm 4 13]
def qbil:IC:=(.seq (.seq qbry (.cond (.t 11) .skip (.exit 0))) (.seq (.block 1 qbr5) qblz))
def qbar:IC:=zr [zm 22 3,zi 23 (zk 39 [((.t 22),(.sl 3))]),zm 2 23]
def k0co:IC:=(.seq qbru (.seq (.seq qbfh (.cond (.t 7) (.seq qbwt .ret) .skip)) (.seq qbg7 (.seq (.seq qboe (.block 0 (.loop qbil))) (.seq qbar .ret)))))
@[go_sem] def s0co:List (RV×Co):=[(.t 2,.id)]
theorem c0co:cFun Tryz.prog 20 = some (24,k0co,s0co):=by kernel_rfl

def qbwy:IC:=zr [zi 1 (.box (.t 0)),zv 2 (.mov (zc 0))]
def qbwl:IC:=zr [zv 3 (.mov (zc 0))]
def qbuq:IC:=zr [zv 4 (.mov (zc 0))]
def qbjd:IC:=zr [zm 5 4,zv 6 (zd 1 2),zv 7 (zg 1 6),zv 8 (.len false (.t 7)),zv 9 (.bin .lss .no (.t 5) (.t 8))]
def qbnp:IC:=zr [zm 12 3,zv 13 (zd 1 2),zv 14 (zg 1 13),zm 15 4,zv 16 (.iad 3 (.t 14) (.t 15)),zv 17 (zl 3 16),zi 18 (zk 21 [((.t 17),(.agg [.id,.id,(.sl 3)]))]),zv 19 (.mm true (.t 12) (.t 18)),zm 3 19]
def qbhs:IC:=zr [zm 10 4,zv 11 (.bin .add .no (.t 10) (zc 1)),zm 4 11]
def qbp2:IC:=(.seq (.seq qbjd (.cond (.t 9) .skip (.exit 0))) (.seq (.block 1 qbnp) qbhs))
def qbf6:IC:=zr [zm 20 3,zv 21 (.bin .add .no (.t 20) (zc 1)),zm 2 21]
def k0bo:IC:=(.seq qbwy (.seq qbwl (.seq (.seq qbuq (.block 0 (.loop qbp2))) (.seq qbf6 .ret))))
@[go_sem] def s0bo:List (RV×Co):=[(.t 2,.id)]
theorem c0bo:cFun Tryz.prog 21 = some (22,k0bo,s0bo):=by kernel_rfl

def qbrg:IC:=zr [zi 2 (.alo [(.str []),(.int .i64 0),.nils]),zv 3 (.mov (zc 0))]
def qbpy:IC:=zr [zm 6 0,zv 7 (.bld [(.str []),(.int .i64 0),(.bool false)] [(0,1,(.t 6))]),zi 8 (.box (.t 7)),zm 4 8]
def qbgs:IC:=zr [zm 9 4,zi 10 (zk 40 [zI 9]),zi 5 (.alo [(.str []),(.int .i64 0),.nils]),zn (.st 3 (.agg [.id,.id,(.sl 3)]) (.t 5) (.t 10))]
def qblu:IC:=zr [zm 11 4,zv 12 (.nck (.t 11)),zv 13 (zd 12 2),zv 14 (zg 1 13),zm 15 14,zw 15 false 16 (zo 4),zw 15 false 17 (.nck (.t 16)),zw 15 false 18 (zd 17 0),zw 15 false 19 (zg 1 18),zw 15 false 20 (.bin .neq .no (.t 19) (.c (.str []))),zv 21 (.pick (.t 15) (.c (.bool true)) (.t 20)),zm 22 21,zw 22 false 23 (zl 3 5),zj 22 false 24 (zk 41 [((.t 23),(.agg [.id,.id,(.sl 3)]))]),zw 22 false 25 (zo 0),zw 22 false 26 (.bin .neq .no (.t 24) (.t 25)),zv 27 (.pick (.t 22) (.c (.bool true)) (.t 26))]
def qbjs:IC:=zr [zv 28 (.bld [(.str []),(.int .i64 0),.nils] []),zn (.st 3 (.agg [.id,.id,(.sl 3)]) (.t 2) (.t 28)),zv 3 (.mov (zc 5))]
def qbiw:IC:=zr [zv 29 (zl 3 5),zn (.st 3 (.agg [.id,.id,(.sl 3)]) (.t 2) (.t 29)),zv 3 (.mov (zc 0))]
def k0eh:IC:=(.seq qbrg (.seq qbpy (.seq qbgs (.seq (.seq qblu (.cond (.t 27) (.seq qbjs .ret) .skip)) (.seq qbiw .ret)))))
@[go_sem] def s0eh:List (RV×Co):=[(.c true 3 2,(.agg [.id,.id,(.sl 3)])),(.t 3,.id)]
theorem c0eh:cFun Tryz.prog 22 = some (30,k0eh,s0eh):=by kernel_rfl

def qb5n:IC:=zr [zi 3 (.box (.t 0)),zi 5 (.box (.t 2)),zi 6 (.alo [(.int .i64 0),(.int .i64 0),.nils,.nils]),zv 7 zf]
def qb1w:IC:=zr [zm 15 1,zv 16 (.len false (.t 15)),zv 17 (.mov (zc 0))]
def qb3a:IC:=zr [zv 18 (.bin .lss .no (.t 17) (.t 16))]
def qb3p:IC:=zr [zm 19 17,zv 20 (.iad 4 (.t 15) (.t 17)),zv 21 (zl 4 20),zi 9 (.alo [(.str []),(.str []),(.int .i64 0),.nils]),zm 8 19,zn (.st 4 (.agg [.id,.id,.id,(.sl 3)]) (.t 9) (.t 21))]
def qbzg:IC:=zr [zv 22 (zd 9 1),zv 23 (zl 3 22),zv 24 (zd 5 1),zv 25 (zl 3 24),zi 26 (zk 42 [((.t 23),(.agg [.id,.id,(.sl 3)])),((.t 25),(.agg [.id,.id,(.sl 3)]))]),zv 27 (.un .not (.t 26))]
def qbx1:IC:=zr [zv 29 (zd 3 1),zv 30 (zg 1 29),zv 31 (zd 9 0),zv 32 (zg 1 31),zv 33 (zd 5 0),zv 34 (zg 1 33),zi 35 (zk 43 [((.t 30),(.sl 3)),zI 32,zI 34]),zm 28 35,zv 36 (zx 28 0),zv 37 (zx 28 1),zm 10 36,zm 11 37]
def qb1u:IC:=zr [zm 38 11,zv 39 (.un .not (.t 38))]
def qb0c:IC:=zr [zm 40 8,zv 41 (.bld [(.int .i64 0),(.int .i64 0),.nils,.nils] [(0,1,(zc 1)),(1,1,(.t 40))]),zi 12 (.alo [(.int .i64 0),(.int .i64 0),.nils,.nils]),zn (.st 4 (.agg [.id,.id,(.sl 3),(.sl 4)]) (.t 12) (.t 41))]
def qb1q:IC:=zr [zm 42 10,zv 43 (.len false (.t 42)),zv 44 (.mov (zc 0))]
def qbo4:IC:=zr [zv 45 (.bin .lss .no (.t 44) (.t 43))]
def qbis:IC:=zr [zv 46 (.iad 1 (.t 42) (.t 44)),zv 47 (zg 1 46),zm 14 47]
def qbii:IC:=zr [zm 48 14,zv 49 (zl 4 12),zv 50 (.bsl 4 [((.t 49),(.agg [.id,.id,(.sl 3),(.sl 4)]))]),zv 51 (.bld [(.int .i64 0),(.int .i64 0),.nils,.nils] [(0,1,(zc 2)),(1,1,(.t 48)),(3,1,(.t 50))]),zn (.st 4 (.agg [.id,.id,(.sl 3),(.sl 4)]) (.t 12) (.t 51))]
def q5h:IC:=zr [zv 52 (.bin .add .no (.t 44) (zc 1)),zm 44 52]
def q5f:IC:=(.seq qbo4 (.seq (.cond (.t 45) .skip (.exit 2)) (.seq (.block 3 (.seq qbis qbii)) q5h)))
def qbls:IC:=zr [zv 53 (zl 4 12),zn (.st 4 (.agg [.id,.id,(.sl 3),(.sl 4)]) (.t 6) (.t 53)),zv 7 (.mov (.c (.bool true)))]
def qbrt:IC:=zr [zv 54 (.bin .add .no (.t 17) (zc 1)),zm 17 54]
def qb3r:IC:=(.seq qb3a (.seq (.cond (.t 18) .skip (.exit 0)) (.seq (.block 1 (.seq qb3p (.seq (.seq qbzg (.cond (.t 27) (.exit 1) .skip)) (.seq qbx1 (.seq (.seq qb1u (.cond (.t 39) (.exit 1) .skip)) (.seq qb0c (.seq (.seq qb1q (.block 2 (.loop q5f))) (.seq qbls .ret)))))))) qbrt)))
def qbxc:IC:=zr [zv 55 (.bld [(.int .i64 0),(.int .i64 0),.nils,.nils] []),zn (.st 4 (.agg [.id,.id,(.sl 3),(.sl 4)]) (.t 6) (.t 55)),zv 7 zf]
def k0a:IC:=(.seq qb5n (.seq (.seq qb1w (.block 0 (.loop qb3r))) (.seq qbxc .ret)))
@[go_sem] def s0a:List (RV×Co):=[(.c true 4 6,(.agg [.id,.id,(.sl 3),(.sl 4)])),(.t 7,.id)]
theorem c0a:cFun Tryz.prog 23 = some (56,k0a,s0a):=by kernel_rfl

def qbn3:IC:=zr [zi 3 (.box (.t 0)),zv 6 (.mov (.c .nils)),zv 7 (.mov (zc 0)),zv 8 (.mov (zc 0))]
def qbua:IC:=zr [zv 9 (.mov (.c .nils))]
def qbfp:IC:=zr [zm 14 2,zv 15 (.len false (.t 14)),zv 16 (.mov (zc 0))]
def qbvn:IC:=zr [zv 17 (.bin .lss .no (.t 16) (.t 15))]
def qbtr:IC:=zr [zm 18 16,zv 19 (.iad 4 (.t 14) (.t 16)),zv 20 (zl 4 19),zi 11 (.alo [(.str []),(.str []),(.int .i64 0),.nils]),zm 10 18,zn (.st 4 (.agg [.id,.id,.id,(.sl 3)]) (.t 11) (.t 20))]
def qbjb:IC:=zr [zv 22 (zl 3 3),zm 23 1,zv 24 (zl 4 11),zi 25 (zk 8 [((.t 22),(.agg [(.sl 3),(.sl 3),(.sl 4)])),((.t 23),(.sl 4)),((.t 24),(.agg [.id,.id,.id,(.sl 3)]))]),zm 21 25,zv 26 (zx 21 0),zv 27 (zx 21 1),zi 12 (.alo [(.int .i64 0),(.int .i64 0),.nils,.nils]),zn (.st 4 (.agg [.id,.id,(.sl 3),(.sl 4)]) (.t 12) (.t 26)),zm 13 27]
def qbqg:IC:=zr [zm 28 13,zv 29 (.bin .neq .no (.t 28) (zc 0))]
def qbog:IC:=zr [zm 30 10,zm 31 13,zv 6 (.mov (.c .nils)),zm 7 30,zm 8 31]
def qbwp:IC:=zr [zm 32 9,zv 33 (zl 4 12),zv 34 (.bsl 4 [((.t 33),(.agg [.id,.id,(.sl 3),(.sl 4)]))]),zi 35 (.app 4 (.agg [(.int .i64 0),(.int .i64 0),.nils,.nils]) 64 (.sl 4) (.t 32) (.t 34)),zm 9 35]
def q7e:IC:=zr [zv 36 (.bin .add .no (.t 16) (zc 1)),zm 16 36]
def qbe4:IC:=(.seq qbvn (.seq (.cond (.t 17) .skip (.exit 0)) (.seq (.block 1 (.seq qbtr (.seq qbjb (.seq (.seq qbqg (.cond (.t 29) (.seq qbog .ret) .skip)) qbwp)))) q7e)))
def q7r:IC:=zr [zm 37 9,zm 6 37,zv 7 (.mov (zc 0)),zv 8 (.mov (zc 0))]
def k0di:IC:=(.seq qbn3 (.seq qbua (.seq (.seq qbfp (.block 0 (.loop qbe4))) (.seq q7r .ret))))
@[go_sem] def s0di:List (RV×Co):=[(.t 6,(.sl 4)),(.t 7,.id),(.t 8,.id)]
theorem c0di:cFun Tryz.prog 24 = some (38,k0di,s0di):=by kernel_rfl

def qbhi:IC:=zr [zi 1 (.box (.t 0)),zv 2 (.mov (.c (.str [])))]
def qbe1:IC:=zr [zv 8 (zd 1 0),zv 9 (zg 1 8),zv 10 (zq (.t 9) (zc 1)),zm 7 10]
def q42:IC:=zr [zv 11 (zd 1 1),zv 12 (zg 1 11),zi 13 (zk 44 [zI 12]),zv 14 (.bin .add .no (.c (.str [35])) (.t 13)),zm 2 14]
def qbqc:IC:=zr [zv 16 (zd 1 0),zv 17 (zg 1 16),zv 18 (zq (.t 17) (zc 2)),zm 19 18,zw 19 true 20 (zd 1 3),zw 19 true 21 (zg 1 20),zw 19 true 22 (.len false (.t 21)),zw 19 true 23 (zq (.t 22) (zc 1)),zv 24 (.pick (.t 19) (.t 23) (.c (.bool false))),zm 15 24]
def q2u:IC:=.drw [zp (zv 25 (zd 1 3)),zp (zv 26 (zg 1 25)),zp (zv 27 (.iad 4 (.t 26) (zc 0))),zp (zv 28 (zl 4 27)),(zi 29 (zk 25 [((.t 28),(.agg [.id,.id,(.sl 3),(.sl 4)]))]),[]),(zv 30 (.bin .add .no (.t 29) (.c (.str [46]))),[]),zp (zv 31 (zd 1 1)),(zv 32 (zg 1 31),[4]),(zi 33 (zk 44 [zI 32]),[]),zp (zv 34 (.bin .add .no (.t 30) (.t 33))),zp (zm 2 34)]
def qbve:IC:=zr [zv 36 (zd 1 0),zv 37 (zg 1 36),zv 38 (.bin .neq .no (.t 37) (zc 3)),zm 35 38]
def q2v:IC:=zr [zv 2 (.mov (.c (.str [63])))]
def q1z:IC:=zr [zv 39 (zd 1 1),zv 40 (zg 1 39),zi 41 (zk 44 [zI 40]),zv 42 (.bin .add .no (.c (.str [64])) (.t 41)),zm 3 42]
def qbjv:IC:=zr [zv 43 (zd 1 3),zv 44 (zg 1 43),zv 45 (.len false (.t 44)),zv 46 (zq (.t 45) (zc 0))]
def q1w:IC:=zr [zm 47 3,zm 2 47]
def qba0:IC:=zr [zv 48 (zd 1 3),zv 49 (zg 1 48),zv 50 (.len false (.t 49)),zi 51 (.mks 1 (.str []) 16 (.t 50) (.t 50)),zm 4 51]
def q8y:IC:=zr [zv 52 (zd 1 3),zv 53 (zg 1 52),zv 54 (.len false (.t 53)),zv 55 (.mov (zc 0))]
def qbc5:IC:=zr [zv 56 (.bin .lss .no (.t 55) (.t 54))]
def q7t:IC:=zr [zm 57 55,zv 58 (.iad 4 (.t 53) (.t 55)),zv 59 (zl 4 58),zi 6 (.alo [(.int .i64 0),(.int .i64 0),.nils,.nils]),zm 5 57,zn (.st 4 (.agg [.id,.id,(.sl 3),(.sl 4)]) (.t 6) (.t 59))]
def q9o:IC:=zr [zm 60 4,zm 61 5,zv 62 (zl 4 6),zi 63 (zk 25 [((.t 62),(.agg [.id,.id,(.sl 3),(.sl 4)]))]),zv 64 (.iad 1 (.t 60) (.t 61)),zn (.st 1 .id (.t 64) (.t 63))]
def q6q:IC:=zr [zv 65 (.bin .add .no (.t 55) (zc 1)),zm 55 65]
def q7k:IC:=(.seq qbc5 (.seq (.cond (.t 56) .skip (.exit 1)) (.seq (.block 2 (.seq q7t q9o)) q6q)))
def q83:IC:=zr [zm 66 3,zv 67 (.bin .add .no (.t 66) (.c (.str [40]))),zm 68 4,zi 69 (zk 45 [((.t 68),(.sl 1)),((.c (.str [44,32])),.id)]),zv 70 (.bin .add .no (.t 67) (.t 69)),zv 71 (.bin .add .no (.t 70) (.c (.str [41]))),zm 2 71]
def k0ec:IC:=(.seq qbhi (.seq (.block 0 (.seq qbe1 (.cond (.t 7) (.seq q42 .ret) (.seq qbqc (.cond (.t 15) (.seq q2u .ret) (.seq qbve (.cond (.t 35) (.seq q2v .ret) .skip))))))) (.seq q1z (.seq (.seq qbjv (.cond (.t 46) (.seq q1w .ret) .skip)) (.seq qba0 (.seq (.seq q8y (.block 1 (.loop q7k))) (.seq q83 .ret)))))))
@[go_sem] def s0ec:List (RV×Co):=[(.t 2,.id)]
theorem c0ec:cFun Tryz.prog 25 = some (72,k0ec,s0ec):=by kernel_rfl

def qbno:IC:=zr [zi 1 (.box (.t 0)),zv 2 zf]
def qbmv:IC:=zr [zv 3 (zl 4 1),zi 4 (zk 46 [((.t 3),(.agg [.id,.id,.id,(.sl 3)]))]),zv 5 (.un .not (.t 4)),zm 2 5]
def k0dr:IC:=(.seq qbno (.seq qbmv .ret))
@[go_sem] def s0dr:List (RV×Co):=[(.t 2,.id)]
theorem c0dr:cFun Tryz.prog 26 = some (6,k0dr,s0dr):=by kernel_rfl

def qbh1:IC:=zr [zv 4 zf]
def qbpg:IC:=zr [zm 5 0,zm 6 1,zi 7 (zk 47 [((.t 5),(.sl 4)),zI 6]),zv 8 (.bin .geq .no (.t 7) (zc 0)),zm 4 8]
def k0ct:IC:=(.seq qbh1 (.seq qbpg .ret))
@[go_sem] def s0ct:List (RV×Co):=[(.t 4,.id)]
theorem c0ct:cFun Tryz.prog 27 = some (9,k0ct,s0ct):=by kernel_rfl

def qbxa:IC:=zr [zi 1 (.box (.t 0)),zv 2 zf]
def qbhr:IC:=zr [zv 6 (zd 1 1),zv 7 (zg 1 6),zi 8 (zk 48 [((.t 7),(.sl 3))]),zm 5 8,zv 9 (zx 5 0),zv 10 (zx 5 1),zm 3 9,zm 4 10]
def qbml:IC:=zr [zm 11 4,zv 12 (zq (.t 11) (zc 0)),zm 13 12,zw 13 true 14 (zd 1 2),zw 13 true 15 (zg 1 14),zj 13 true 16 (zk 49 [((.t 15),(.sl 4)),((.c (.fn 50 [] [])),.id)]),zw 13 true 17 (.un .not (.t 16)),zv 18 (.pick (.t 13) (.t 17) (.c (.bool false))),zm 2 18]
def k0dv:IC:=(.seq qbxa (.seq qbhr (.seq qbml .ret)))
@[go_sem] def s0dv:List (RV×Co):=[(.t 2,.id)]
theorem c0dv:cFun Tryz.prog 28 = some (19,k0dv,s0dv):=by kernel_rfl

def qbeu:IC:=zr [zi 3 (.box (.t 0)),zi 5 (.box (.t 2)),zi 6 (.alo [(.int .i64 0),(.int .i64 0),.nils,.nils]),zi 7 (.alo [(.int .i64 0)])]
def qbgb:IC:=.dfr [zv 8 (.mfn 52 [] [(.t 6),(.t 7)])] (.t 8)
def qbqw:IC:=zr [zv 10 (zl 3 3),zm 11 1,zv 12 (zl 4 5),zi 13 (zk 53 [((.t 10),(.agg [(.sl 3),(.sl 3),(.sl 4)])),((.t 11),(.sl 4)),((.t 12),(.agg [.id,.id,.id,(.sl 3)]))]),zm 9 13,zv 14 (zx 9 0),zv 15 (zx 9 1),zn (.st 4 (.agg [.id,.id,(.sl 3),(.sl 4)]) (.t 6) (.t 14))]
def q1r:IC:=zr [zv 16 (zl 4 6),zn (.st 4 (.agg [.id,.id,(.sl 3),(.sl 4)]) (.t 6) (.t 16)),zn (.st 1 .id (.t 7) (zc 0))]
def k0dk:IC:=(.seq qbeu (.seq qbgb (.seq qbqw (.seq q1r .ret))))
@[go_sem] def s0dk:List (RV×Co):=[(.c true 4 6,(.agg [.id,.id,(.sl 3),(.sl 4)])),(.c false 1 7,.id)]
theorem c0dk:cFun Tryz.prog 29 = some (17,k0dk,s0dk):=by kernel_rfl

def qbj6:IC:=zr [zi 2 (.box (.t 0)),zi 3 (.box (.t 1)),zv 4 (.mov (.c .nils)),zv 5 (.mov (zc 0))]
def qbqk:IC:=zr [zv 8 (zl 4 3),zi 9 (zk 46 [((.t 8),(.agg [.id,.id,.id,(.sl 3)]))]),zv 10 (.un .not (.t 9)),zm 11 10,zw 11 false 12 (zl 3 2),zj 11 false 13 (zk 57 [((.t 12),(.agg [(.sl 3),(.sl 3),(.sl 4)]))]),zw 11 false 14 (.un .not (.t 13)),zv 15 (.pick (.t 11) (.c (.bool true)) (.t 14))]
def qbhm:IC:=zr [zv 4 (.mov (.c .nils)),zv 5 (.mov (zc 1))]
def q1p:IC:=zr [zv 16 (zl 3 2),zv 17 (.bld [.nils,.nils,.nils,.nils,.nils] [(0,3,(.t 16))]),zi 18 (.box (.t 17)),zm 6 18]
def q55:IC:=zr [zm 19 6,zv 20 (zl 4 3),zi 21 (zk 58 [zI 19,((.t 20),(.agg [.id,.id,.id,(.sl 3)]))]),zm 7 21]
def qbqh:IC:=zr [zm 22 7,zv 23 (.bin .neq .no (.t 22) (zc 0))]
def qbwk:IC:=zr [zm 24 7,zv 4 (.mov (.c .nils)),zm 5 24]
def q1u:IC:=zr [zm 25 6,zv 26 (.nck (.t 25)),zv 27 (zd 26 3),zv 28 (zg 1 27),zm 4 28,zv 5 (.mov (zc 0))]
def k0df:IC:=(.seq qbj6 (.seq (.seq qbqk (.cond (.t 15) (.seq qbhm .ret) .skip)) (.seq q1p (.seq (.seq q55 (.seq qbqh (.cond (.t 23) (.seq qbwk .ret) .skip))) (.seq q1u .ret)))))
@[go_sem] def s0df:List (RV×Co):=[(.t 4,(.sl 4)),(.t 5,.id)]
theorem c0df:cFun Tryz.prog 33 = some (29,k0df,s0df):=by kernel_rfl

def qbvj:IC:=zr [zi 2 (.box (.t 0)),zv 4 (.mov (.c .nils)),zv 5 (.mov (zc 0)),zv 6 (.mov (zc 0))]
def qbf2:IC:=zr [zv 7 (.mov (.c .nils))]
def qbk0:IC:=zr [zm 12 1,zv 13 (.len false (.t 12)),zv 14 (.mov (zc 0))]
def qbvo:IC:=zr [zv 15 (.bin .lss .no (.t 14) (.t 13))]
def qbjz:IC:=zr [zm 16 14,zv 17 (.iad 4 (.t 12) (.t 14)),zv 18 (zl 4 17),zi 9 (.alo [(.str []),(.str []),(.int .i64 0),.nils]),zm 8 16,zn (.st 4 (.agg [.id,.id,.id,(.sl 3)]) (.t 9) (.t 18))]
def qbem:IC:=zr [zv 20 (zl 3 2),zv 21 (zl 4 9),zi 22 (zk 33 [((.t 20),(.agg [(.sl 3),(.sl 3),(.sl 4)])),((.t 21),(.agg [.id,.id,.id,(.sl 3)]))]),zm 19 22,zv 23 (zx 19 0),zv 24 (zx 19 1),zm 10 23,zm 11 24]
def qbtd:IC:=zr [zm 25 11,zv 26 (.bin .neq .no (.t 25) (zc 0))]
def qbsd:IC:=zr [zm 27 8,zm 28 11,zv 4 (.mov (.c .nils)),zm 5 27,zm 6 28]
def qbpj:IC:=zr [zm 29 7,zm 30 10,zi 31 (.app 4 (.agg [(.str []),(.str []),(.int .i64 0),.nils]) 64 (.sl 4) (.t 29) (.t 30)),zi 32 (zk 59 [((.t 31),(.sl 4))]),zm 7 32]
def q69:IC:=zr [zv 33 (.bin .add .no (.t 14) (zc 1)),zm 14 33]
def qbhu:IC:=(.seq qbvo (.seq (.cond (.t 15) .skip (.exit 0)) (.seq (.block 1 (.seq qbjz (.seq qbem (.seq (.seq qbtd (.cond (.t 26) (.seq qbsd .ret) .skip)) qbpj)))) q69)))
def q9g:IC:=zr [zm 34 7,zm 4 34,zv 5 (.mov (zc 0)),zv 6 (.mov (zc 0))]
def k0dd:IC:=(.seq qbvj (.seq qbf2 (.seq (.seq qbk0 (.block 0 (.loop qbhu))) (.seq q9g .ret))))
@[go_sem] def s0dd:List (RV×Co):=[(.t 4,(.sl 4)),(.t 5,.id),(.t 6,.id)]
theorem c0dd:cFun Tryz.prog 34 = some (35,k0dd,s0dd):=by kernel_rfl

def qbn0:IC:=zr [zi 2 (.box (.t 0)),zv 4 (.mov (.c .nils))]
def qbmr:IC:=zr [zm 8 1,zi 9 (zk 59 [((.t 8),(.sl 4))]),zm 1 9]
def qbie:IC:=zr [zv 5 (.mov (.c .nils))]
def qbts:IC:=zr [zm 10 1,zv 11 (.len false (.t 10)),zv 12 (.mov (zc 0))]
def qbiv:IC:=zr [zv 13 (.bin .lss .no (.t 12) (.t 11))]
def qbh2:IC:=zr [zv 14 (.iad 4 (.t 10) (.t 12)),zv 15 (zl 4 14),zi 7 (.alo [(.str []),(.str []),(.int .i64 0),.nils]),zn (.st 4 (.agg [.id,.id,.id,(.sl 3)]) (.t 7) (.t 15))]
def qbfx:IC:=zr [zv 16 (zl 3 2),zm 17 1,zv 18 (zl 4 7),zi 19 (zk 60 [((.t 16),(.agg [(.sl 3),(.sl 3),(.sl 4)])),((.t 17),(.sl 4)),((.t 18),(.agg [.id,.id,.id,(.sl 3)]))]),zv 20 (.un .not (.t 19))]
def qbvc:IC:=zr [zm 21 5,zv 22 (zl 4 7),zv 23 (.bsl 4 [((.t 22),(.agg [.id,.id,.id,(.sl 3)]))]),zi 24 (.app 4 (.agg [(.str []),(.str []),(.int .i64 0),.nils]) 64 (.sl 4) (.t 21) (.t 23)),zm 5 24]
def qbs3:IC:=zr [zv 25 (.bin .add .no (.t 12) (zc 1)),zm 12 25]
def qbjy:IC:=(.seq qbiv (.seq (.cond (.t 13) .skip (.exit 0)) (.seq (.block 1 (.seq qbh2 (.seq qbfx (.cond (.t 20) qbvc .skip)))) qbs3)))
def q6w:IC:=zr [zm 26 5,zm 4 26]
def k0cz:IC:=(.seq qbn0 (.seq qbmr (.seq qbie (.seq (.seq qbts (.block 0 (.loop qbjy))) (.seq q6w .ret)))))
@[go_sem] def s0cz:List (RV×Co):=[(.t 4,(.sl 4))]
theorem c0cz:cFun Tryz.prog 35 = some (27,k0cz,s0cz):=by kernel_rfl

def qbe7:IC:=zr [zi 2 (.box (.t 0)),zi 3 (.box (.t 1)),zv 4 zf]
def qbr3:IC:=zr [zv 5 (zd 2 0),zv 6 (zg 1 5),zv 7 (zd 3 0),zv 8 (zg 1 7),zv 9 (zq (.t 6) (.t 8)),zm 10 9,zw 10 true 11 (zd 2 1),zw 10 true 12 (zl 3 11),zw 10 true 13 (zd 3 1),zw 10 true 14 (zl 3 13),zj 10 true 15 (zk 61 [((.t 12),(.agg [.id,.id,(.sl 3)])),((.t 14),(.agg [.id,.id,(.sl 3)]))]),zv 16 (.pick (.t 10) (.t 15) (.c (.bool false))),zm 4 16]
def k0cq:IC:=(.seq qbe7 (.seq qbr3 .ret))
@[go_sem] def s0cq:List (RV×Co):=[(.t 4,.id)]
theorem c0cq:cFun Tryz.prog 36 = some (17,k0cq,s0cq):=by kernel_rfl

def qbr6:IC:=zr [zv 2 (.mov (zc 0))]
def qbjn:IC:=zr [zm 4 0,zv 5 (.len false (.t 4)),zv 6 (.bin .gtr .no (.t 5) (zc 9))]
def qbia:IC:=zr [zv 2 (.mov (zc 0))]
def qbj2:IC:=zr [zv 3 (.mov (zc 0))]
def qbn1:IC:=zr [zm 7 3,zm 8 0,zv 9 (.len false (.t 8)),zv 10 (.bin .lss .no (.t 7) (.t 9))]
def qbvk:IC:=zr [zm 13 0,zm 14 3,zv 15 (.iad 3 (.t 13) (.t 14)),zv 16 (zd 15 1),zv 17 (zg 1 16),zv 18 (.len false (.t 17)),zv 19 (.bin .gtr .no (.t 18) (zc 9))]
def qbvi:IC:=zr [zv 2 (.mov (zc 0))]
def qbkj:IC:=zr [zm 11 3,zv 12 (.bin .add .no (.t 11) (zc 1)),zm 3 12]
def qbgx:IC:=(.seq (.seq qbn1 (.cond (.t 10) .skip (.exit 0))) (.seq (.block 1 (.seq qbvk (.cond (.t 19) (.seq qbvi .ret) .skip))) qbkj))
def q8f:IC:=zr [zv 2 (.mov (zc 1))]
def k0ed:IC:=(.seq qbr6 (.seq (.seq qbjn (.cond (.t 6) (.seq qbia .ret) .skip)) (.seq (.seq qbj2 (.block 0 (.loop qbgx))) (.seq q8f .ret))))
@[go_sem] def s0ed:List (RV×Co):=[(.t 2,.id)]
theorem c0ed:cFun Tryz.prog 37 = some (20,k0ed,s0ed):=by kernel_rfl

def qbp9:IC:=zr [zv 2 (.mov (zc 0))]
def qbjf:IC:=zr [zm 4 0,zv 5 (.len false (.t 4)),zv 6 (.bin .gtr .no (.t 5) (zc 12))]
def qbv9:IC:=zr [zv 2 (.mov (zc 0))]
def qbqr:IC:=zr [zv 3 (.mov (zc 0))]
def qbkl:IC:=zr [zm 7 3,zm 8 0,zv 9 (.len false (.t 8)),zv 10 (.bin .lss .no (.t 7) (.t 9))]
def qbk3:IC:=zr [zm 13 0,zm 14 3,zv 15 (.iad 4 (.t 13) (.t 14)),zv 16 (zd 15 3),zv 17 (zg 1 16),zi 18 (zk 20 [((.t 17),(.sl 4))]),zv 19 (zq (.t 18) (zc 0)),zm 20 19,zw 20 false 21 (zo 0),zw 20 false 22 (zo 3),zw 20 false 23 (.iad 4 (.t 21) (.t 22)),zw 20 false 24 (zd 23 2),zw 20 false 25 (zg 1 24),zw 20 false 26 (.bin .gtr .no (.t 25) (zc 200)),zv 27 (.pick (.t 20) (.c (.bool true)) (.t 26))]
def qbwb:IC:=zr [zv 2 (.mov (zc 0))]
def qbw6:IC:=zr [zm 11 3,zv 12 (.bin .add .no (.t 11) (zc 1)),zm 3 12]
def qbez:IC:=(.seq (.seq qbkl (.cond (.t 10) .skip (.exit 0))) (.seq (.block 1 (.seq qbk3 (.cond (.t 27) (.seq qbwb .ret) .skip))) qbw6))
def qbax:IC:=zr [zv 2 (.mov (zc 1))]
def k0ef:IC:=(.seq qbp9 (.seq (.seq qbjf (.cond (.t 6) (.seq qbv9 .ret) .skip)) (.seq (.seq qbqr (.block 0 (.loop qbez))) (.seq qbax .ret))))
@[go_sem] def s0ef:List (RV×Co):=[(.t 2,.id)]
theorem c0ef:cFun Tryz.prog 38 = some (28,k0ef,s0ef):=by kernel_rfl

def qbta:IC:=zr [zv 2 (.mov (zc 0))]
def qbrs:IC:=zr [zv 3 (.mov (zc 20000))]
def qbue:IC:=zr [zv 4 (.mov (zc 0))]
def qblg:IC:=zr [zm 5 4,zm 6 0,zv 7 (.len false (.t 6)),zv 8 (.bin .lss .no (.t 5) (.t 7))]
def qbw4:IC:=zr [zm 11 0,zm 12 4,zv 13 (.iad 3 (.t 11) (.t 12)),zv 14 (zl 3 13),zm 15 3,zi 16 (zk 62 [((.t 14),(.agg [.id,.id,(.sl 3)])),zI 15,((zc 300),.id)]),zm 3 16]
def qbki:IC:=zr [zm 9 4,zv 10 (.bin .add .no (.t 9) (zc 1)),zm 4 10]
def qbqu:IC:=(.seq (.seq qblg (.cond (.t 8) .skip (.exit 0))) (.seq (.block 1 qbw4) qbki))
def qbi4:IC:=zr [zm 17 3,zv 18 (.bin .lss .no (.t 17) (zc 0))]
def qbsy:IC:=zr [zv 2 (.mov (zc 0))]
def q8h:IC:=zr [zv 2 (.mov (zc 1))]
def k0bq:IC:=(.seq qbta (.seq qbrs (.seq (.seq qbue (.block 0 (.loop qbqu))) (.seq (.seq qbi4 (.cond (.t 18) (.seq qbsy .ret) .skip)) (.seq q8h .ret)))))
@[go_sem] def s0bq:List (RV×Co):=[(.t 2,.id)]
theorem c0bq:cFun Tryz.prog 39 = some (19,k0bq,s0bq):=by kernel_rfl

def qbqy:IC:=zr [zi 1 (.box (.t 0)),zi 2 (.alo [(.str []),(.int .i64 0),.nils])]
def qbeo:IC:=zr [zv 4 (zg 1 1),zv 5 (.nck (.t 4)),zv 6 (zd 5 1),zv 7 (zg 1 6),zv 8 (.bin .add .no (.t 7) (zc 1)),zv 9 (.nck (.t 4)),zv 10 (zd 9 1),zn (.st 1 .id (.t 10) (.t 8))]
def qboz:IC:=zr [zv 11 (zg 1 1),zv 12 (.nck (.t 11)),zv 13 (zd 12 1),zv 14 (zg 1 13),zv 15 (.bin .gtr .no (.t 14) (zc 200))]
def qbel:IC:=zr [zv 16 (zg 1 1),zv 17 (.nck (.t 16)),zv 18 (zd 17 2),zn (.st 1 .id (.t 18) (.c (.bool true)))]
def qbhd:IC:=.dfr [zv 19 (.mfn 63 [] [(.t 1)])] (.t 19)
def qbt8:IC:=zr [zv 20 (zg 1 1),zv 21 (.nck (.t 20)),zv 22 (zd 21 2),zv 23 (zg 1 22)]
def qbf0:IC:=zr [zv 24 (.bld [(.str []),(.int .i64 0),.nils] []),zn (.st 3 (.agg [.id,.id,(.sl 3)]) (.t 2) (.t 24))]
def qbiu:IC:=zr [zv 25 (zg 1 1),zi 26 (zk 64 [zI 25]),zi 3 (.alo [(.str []),(.int .i64 0),.nils]),zn (.st 3 (.agg [.id,.id,(.sl 3)]) (.t 3) (.t 26))]
def qbgk:IC:=zr [zv 27 (zg 1 1),zv 28 (.nck (.t 27)),zv 29 (zd 28 2),zv 30 (zg 1 29),zv 31 (.un .not (.t 30)),zm 32 31,zw 32 true 33 (zg 1 1),zw 32 true 34 (.nck (.t 33)),zw 32 true 35 (zd 34 0),zw 32 true 36 (zg 1 35),zj 32 true 37 (zk 65 [zI 36,((.c (.str [32,45,62,32])),.id)]),zw 32 true 38 (.un .not (.t 37)),zv 39 (.pick (.t 32) (.t 38) (.c (.bool false))),zm 40 39,zw 40 true 41 (zg 1 1),zj 40 true 42 (zk 66 [zI 41,((.c (.str [32])),.id)]),zv 43 (.pick (.t 40) (.t 42) (.c (.bool false)))]
def q6z:IC:=.drw [zp (zv 44 (zd 3 2)),zp (zv 45 (zg 1 44)),(zi 46 (zk 67 [((.t 45),(.sl 3))]),[]),(zv 47 (zg 1 1),[2]),(zi 48 (zk 64 [zI 47]),[]),(zv 49 (.bsl 3 [((.t 48),(.agg [.id,.id,(.sl 3)]))]),[]),(zi 50 (.app 3 (.agg [(.str []),(.int .i64 0),.nils]) 48 (.sl 3) (.t 46) (.t 49)),[]),zp (zv 51 (zd 3 2)),(zn (.st 1 (.sl 3) (.t 51) (.t 50)),[])]
def qoi:IC:=(.seq (.seq qbgk (.cond (.t 43) .skip (.exit 0))) (.block 1 q6z))
def qbb0:IC:=zr [zv 52 (zg 1 1),zv 53 (.nck (.t 52)),zv 54 (zd 53 2),zv 55 (zg 1 54),zv 56 (.un .not (.t 55)),zm 57 56,zw 57 true 58 (zg 1 1),zj 57 true 59 (zk 66 [zI 58,((.c (.str [32,45,62,32])),.id)]),zv 60 (.pick (.t 57) (.t 59) (.c (.bool false)))]
def qbcz:IC:=.drw [zp (zv 61 (zl 3 3)),zp (zv 62 (zg 1 1)),(zi 63 (zk 40 [zI 62]),[0]),(zv 64 (.bsl 3 [((.t 61),(.agg [.id,.id,(.sl 3)])),((.t 63),(.agg [.id,.id,(.sl 3)]))]),[]),(zv 65 (.bld [(.str []),(.int .i64 0),.nils] [(0,1,(.c (.str [45,62]))),(2,1,(.t 64))]),[]),(zn (.st 3 (.agg [.id,.id,(.sl 3)]) (.t 2) (.t 65)),[])]
def qbbl:IC:=zr [zv 66 (zl 3 3),zn (.st 3 (.agg [.id,.id,(.sl 3)]) (.t 2) (.t 66))]
def k0eg:IC:=(.seq qbqy (.seq (.seq qbeo (.seq qboz (.cond (.t 15) qbel .skip))) (.seq qbhd (.seq (.seq qbt8 (.cond (.t 23) (.seq qbf0 .ret) .skip)) (.seq qbiu (.seq (.block 0 (.loop qoi)) (.seq (.seq qbb0 (.cond (.t 60) (.seq qbcz .ret) .skip)) (.seq qbbl .ret))))))))
@[go_sem] def s0eg:List (RV×Co):=[(.c true 3 2,(.agg [.id,.id,(.sl 3)]))]
theorem c0eg:cFun Tryz.prog 40 = some (67,k0eg,s0eg):=by kernel_rfl

def qbi6:IC:=zr [zi 1 (.box (.t 0)),zv 2 (.mov (.c (.str [])))]
def qbsa:IC:=zr [zv 3 (zl 3 1),zi 4 (zk 68 [((.t 3),(.agg [.id,.id,(.sl 3)]))]),zv 5 (.un .not (.t 4))]
def qbrc:IC:=zr [zv 2 (.mov (.c (.str [])))]
def qbix:IC:=zr [zv 6 (zl 3 1),zi 7 (zk 69 [((.t 6),(.agg [.id,.id,(.sl 3)]))]),zm 2 7]
def k0bg:IC:=(.seq qbi6 (.seq (.seq qbsa (.cond (.t 5) (.seq qbrc .ret) .skip)) (.seq qbix .ret)))
@[go_sem] def s0bg:List (RV×Co):=[(.t 2,.id)]
theorem c0bg:cFun Tryz.prog 41 = some (8,k0bg,s0bg):=by kernel_rfl

def qbik:IC:=zr [zi 2 (.box (.t 0)),zi 3 (.box (.t 1)),zv 4 zf]
def qbrk:IC:=.drw [zp (zv 6 (zl 3 2)),(zi 7 (zk 70 [((.t 6),(.agg [.id,.id,(.sl 3)]))]),[]),(zv 8 (zl 3 3),[1]),(zi 9 (zk 70 [((.t 8),(.agg [.id,.id,(.sl 3)]))]),[]),(zv 10 (.bin .neq (.cells [.str,(.int .i64),(.int .i64)]) (.t 7) (.t 9)),[])]
def qbkv:IC:=zr [zv 4 zf]
def qbhb:IC:=zr [zv 11 (zd 2 2),zv 12 (zg 1 11),zv 13 (.len false (.t 12)),zv 14 (.mov (zc 0))]
def qbrd:IC:=zr [zv 15 (.bin .lss .no (.t 14) (.t 13))]
def qbu6:IC:=zr [zm 16 14,zm 5 16]
def qbsb:IC:=.drw [zp (zv 17 (zd 2 2)),zp (zv 18 (zg 1 17)),zp (zm 19 5),zp (zv 20 (.iad 3 (.t 18) (.t 19))),zp (zv 21 (zl 3 20)),zp (zv 22 (zd 3 2)),zp (zv 23 (zg 1 22)),zp (zm 24 5),zp (zv 25 (.iad 3 (.t 23) (.t 24))),zp (zv 26 (zl 3 25)),(zi 27 (zk 42 [((.t 21),(.agg [.id,.id,(.sl 3)])),((.t 26),(.agg [.id,.id,(.sl 3)]))]),[]),zp (zv 28 (.un .not (.t 27)))]
def qbid:IC:=zr [zv 4 zf]
def qbvz:IC:=zr [zv 29 (.bin .add .no (.t 14) (zc 1)),zm 14 29]
def qboo:IC:=(.seq qbrd (.seq (.cond (.t 15) .skip (.exit 0)) (.seq (.block 1 (.seq qbu6 (.seq qbsb (.cond (.t 28) (.seq qbid .ret) .skip)))) qbvz)))
def q6t:IC:=zr [zv 4 (.mov (.c (.bool true)))]
def k0bu:IC:=(.seq qbik (.seq (.seq qbrk (.cond (.t 10) (.seq qbkv .ret) .skip)) (.seq (.seq qbhb (.block 0 (.loop qboo))) (.seq q6t .ret))))
@[go_sem] def s0bu:List (RV×Co):=[(.t 4,.id)]
theorem c0bu:cFun Tryz.prog 42 = some (30,k0bu,s0bu):=by kernel_rfl

def qb0p:IC:=zr [zv 6 (.mov (.c .nils)),zv 7 zf]
def qb4d:IC:=zr [zm 16 0,zm 17 1,zi 18 (zk 71 [((.t 16),(.sl 3)),zI 17]),zm 19 0,zm 20 2,zi 21 (zk 71 [((.t 19),(.sl 3)),zI 20]),zm 8 18,zm 9 21]
def qb3g:IC:=zr [zm 22 8,zv 23 (.bin .lss .no (.t 22) (zc 0)),zm 24 23,zw 24 false 25 (zo 9),zw 24 false 26 (.bin .lss .no (.t 25) (zc 0)),zv 27 (.pick (.t 24) (.c (.bool true)) (.t 26)),zm 28 27,zw 28 false 29 (zo 0),zj 28 false 30 (zk 72 [((.t 29),(.sl 3))]),zw 28 false 31 (.un .not (.t 30)),zv 32 (.pick (.t 28) (.c (.bool true)) (.t 31))]
def qb2x:IC:=zr [zv 6 (.mov (.c .nils)),zv 7 zf]
def qbef:IC:=zr [zm 33 0,zv 34 (.len false (.t 33)),zi 35 (.mks 1 (.bool false) 1 (.t 34) (.t 34)),zm 10 35]
def qb31:IC:=zr [zm 36 8,zv 37 (.bld [(.int .i64 0),.nils] [(0,1,(.t 36))]),zv 38 (.bsl 2 [((.t 37),(.agg [.id,(.sl 1)]))]),zm 11 38]
def qb32:IC:=zr [zv 12 (.mov (zc 0))]
def qb30:IC:=zr [zm 39 12,zm 40 11,zv 41 (.len false (.t 40)),zv 42 (.bin .lss .no (.t 39) (.t 41))]
def qb57:IC:=zr [zm 45 11,zm 46 12,zv 47 (.iad 2 (.t 45) (.t 46)),zv 48 (zl 2 47),zi 13 (.alo [(.int .i64 0),.nils]),zn (.st 2 (.agg [.id,(.sl 1)]) (.t 13) (.t 48))]
def qbpd:IC:=zr [zv 49 (zd 13 0),zv 50 (zg 1 49),zm 51 9,zv 52 (zq (.t 50) (.t 51))]
def qbfe:IC:=zr [zv 53 (zd 13 1),zv 54 (zg 1 53),zm 6 54,zv 7 (.mov (.c (.bool true)))]
def qbsw:IC:=zr [zm 55 10,zv 56 (zd 13 0),zv 57 (zg 1 56),zv 58 (.iad 1 (.t 55) (.t 57)),zv 59 (zg 1 58)]
def qbtt:IC:=zr [zm 60 10,zv 61 (zd 13 0),zv 62 (zg 1 61),zv 63 (.iad 1 (.t 60) (.t 62)),zn (.st 1 .id (.t 63) (.c (.bool true)))]
def qblx:IC:=zr [zm 64 0,zv 65 (zd 13 0),zv 66 (zg 1 65),zv 67 (.iad 3 (.t 64) (.t 66)),zv 68 (zd 67 1),zv 69 (zg 1 68),zv 70 (.len false (.t 69)),zv 71 (.mov (zc 0))]
def qbwc:IC:=zr [zv 72 (.bin .lss .no (.t 71) (.t 70))]
def qbl3:IC:=zr [zm 73 71,zv 74 (.iad 1 (.t 69) (.t 71)),zv 75 (zg 1 74),zm 14 73,zm 15 75]
def qbsf:IC:=.drw [zp (zm 76 11),zp (zm 77 0),zp (zm 78 15),(zi 79 (zk 71 [((.t 77),(.sl 3)),zI 78]),[]),zp (zv 80 (zd 13 1)),(zv 81 (zg 1 80),[3]),(zi 82 (zk 73 [((.t 81),(.sl 1))]),[]),zp (zm 83 14),(zv 84 (.bsl 1 [zI 83]),[3,6]),zp (zi 85 (.app 1 (.int .i64 0) 8 (.sl 1) (.t 82) (.t 84))),(zv 86 (.bld [(.int .i64 0),.nils] [(0,1,(.t 79)),(1,1,(.t 85))]),[]),(zv 87 (.bsl 2 [((.t 86),(.agg [.id,(.sl 1)]))]),[]),(zi 88 (.app 2 (.agg [(.int .i64 0),.nils]) 32 (.sl 2) (.t 76) (.t 87)),[]),zp (zm 11 88)]
def qbp4:IC:=zr [zv 89 (.bin .add .no (.t 71) (zc 1)),zm 71 89]
def q5g:IC:=(.seq qbwc (.seq (.cond (.t 72) .skip (.exit 2)) (.seq (.block 3 (.seq qbl3 qbsf)) qbp4)))
def qbti:IC:=zr [zm 43 12,zv 44 (.bin .add .no (.t 43) (zc 1)),zm 12 44]
def qb2l:IC:=(.seq (.seq qb30 (.cond (.t 42) .skip (.exit 0))) (.seq (.block 1 (.seq qb57 (.seq (.seq qbpd (.cond (.t 52) (.seq qbfe .ret) .skip)) (.seq (.seq qbsw (.cond (.t 59) (.exit 1) .skip)) (.seq qbtt (.seq qblx (.block 2 (.loop q5g)))))))) qbti))
def qbr9:IC:=zr [zv 6 (.mov (.c .nils)),zv 7 zf]
def k0c:IC:=(.seq qb0p (.seq qb4d (.seq (.seq qb3g (.cond (.t 32) (.seq qb2x .ret) .skip)) (.seq qbef (.seq qb31 (.seq (.seq qb32 (.block 0 (.loop qb2l))) (.seq qbr9 .ret)))))))
@[go_sem] def s0c:List (RV×Co):=[(.t 6,(.sl 1)),(.t 7,.id)]
theorem c0c:cFun Tryz.prog 43 = some (90,k0c,s0c):=by kernel_rfl

def qbpi:IC:=zr [zv 2 (.mov (.c (.str [])))]
def qbol:IC:=zr [zm 6 0,zv 7 (.cvi .u64 (.t 6)),zm 3 7]
def qbj9:IC:=zr [zm 8 0,zv 9 (.bin .lss .no (.t 8) (zc 0))]
def qbv7:IC:=zr [zm 10 3,zv 11 (.un .neg (.t 10)),zm 3 11]
def qbjw:IC:=zr [zi 4 (.alo [(.int .u8 0),(.int .u8 0),(.int .u8 0),(.int .u8 0),(.int .u8 0),(.int .u8 0),(.int .u8 0),(.int .u8 0),(.int .u8 0),(.int .u8 0),(.int .u8 0),(.int .u8 0),(.int .u8 0),(.int .u8 0),(.int .u8 0),(.int .u8 0),(.int .u8 0),(.int .u8 0),(.int .u8 0),(.int .u8 0)])]
def qbjg:IC:=zr [zv 5 (.mov (zc 20))]
def qbly:IC:=zr [zm 12 5,zv 13 (.bin .sub .no (.t 12) (zc 1)),zm 5 13]
def qbs5:IC:=zr [zm 14 5,zm 15 3,zv 16 (.bin .rem .no (.t 15) (.c (.int .u64 10))),zv 17 (.bin .add .no (.c (.int .u64 48)) (.t 16)),zv 18 (.cvi .u8 (.t 17)),zv 19 (.aad 1 20 (.t 4) (.t 14)),zn (.st 1 .id (.t 19) (.t 18))]
def qbuy:IC:=zr [zm 20 3,zv 21 (.bin .quo .no (.t 20) (.c (.int .u64 10))),zm 3 21]
def qbad:IC:=zr [zm 22 3,zv 23 (zq (.t 22) (.c (.int .u64 0)))]
def qblp:IC:=(.block 1 (.seq qbly (.seq qbs5 (.seq qbuy (.seq qbad (.cond (.t 23) (.exit 0) .skip))))))
def qbda:IC:=zr [zm 24 0,zv 25 (.bin .lss .no (.t 24) (zc 0))]
def q84:IC:=zr [zm 26 5,zv 27 (.sla 20 (.t 4) (.t 26)),zv 28 (.cbs (.t 27)),zv 29 (.bin .add .no (.c (.str [45])) (.t 28)),zm 2 29]
def q7f:IC:=zr [zm 30 5,zv 31 (.sla 20 (.t 4) (.t 30)),zv 32 (.cbs (.t 31)),zm 2 32]
def k0cj:IC:=(.seq qbpi (.seq qbol (.seq (.seq qbj9 (.cond (.t 9) qbv7 .skip)) (.seq qbjw (.seq qbjg (.seq (.block 0 (.loop qblp)) (.seq (.seq qbda (.cond (.t 25) (.seq q84 .ret) .skip)) (.seq q7f .ret))))))))
@[go_sem] def s0cj:List (RV×Co):=[(.t 2,.id)]
theorem c0cj:cFun Tryz.prog 44 = some (33,k0cj,s0cj):=by kernel_rfl

def qbn9:IC:=zr [zi 1 (.box (.t 0)),zv 2 zf]
def qblj:IC:=zr [zv 3 (zd 1 0),zv 4 (zg 1 3),zi 5 (zk 77 [zI 4]),zm 6 5,zw 6 true 7 (zd 1 1),zw 6 true 8 (zl 3 7),zj 6 true 9 (zk 68 [((.t 8),(.agg [.id,.id,(.sl 3)]))]),zv 10 (.pick (.t 6) (.t 9) (.c (.bool false))),zm 2 10]
def k0cn:IC:=(.seq qbn9 (.seq qblj .ret))
@[go_sem] def s0cn:List (RV×Co):=[(.t 2,.id)]
theorem c0cn:cFun Tryz.prog 46 = some (11,k0cn,s0cn):=by kernel_rfl

def qbqz:IC:=zr [zv 4 (.mov (zc 0))]
def qbfj:IC:=zr [zm 6 0,zv 7 (.len false (.t 6)),zv 8 (.mov (zc 0))]
def qbs1:IC:=zr [zv 9 (.bin .lss .no (.t 8) (.t 7))]
def qbxk:IC:=zr [zm 10 8,zm 5 10]
def qbxb:IC:=zr [zm 11 1,zm 12 0,zm 13 5,zv 14 (.iad 4 (.t 12) (.t 13)),zv 15 (zl 4 14),zi 16 (.call (.t 11) [((.t 15),(.agg [.id,.id,.id,(.sl 3)]))])]
def qble:IC:=zr [zm 17 5,zm 4 17]
def qbe8:IC:=zr [zv 18 (.bin .add .no (.t 8) (zc 1)),zm 8 18]
def qbrq:IC:=(.seq qbs1 (.seq (.cond (.t 9) .skip (.exit 0)) (.seq (.block 1 (.seq qbxk (.seq qbxb (.cond (.t 16) (.seq qble .ret) .skip)))) qbe8)))
def qbi5:IC:=zr [zv 4 (.mov (zc (-1)))]
def k0cs:IC:=(.seq qbqz (.seq (.seq qbfj (.block 0 (.loop qbrq))) (.seq qbi5 .ret)))
@[go_sem] def s0cs:List (RV×Co):=[(.t 4,.id)]
theorem c0cs:cFun Tryz.prog 47 = some (19,k0cs,s0cs):=by kernel_rfl

def qb03:IC:=zr [zv 2 (.mov (zc 0)),zv 3 (.mov (zc 0))]
def qb6e:IC:=zr [zm 8 0,zv 9 (.len false (.t 8)),zv 10 (.mov (zc 0))]
def qb2i:IC:=zr [zv 11 (.bin .lss .no (.t 10) (.t 9))]
def qb3b:IC:=zr [zm 12 10,zm 4 12]
def qb2v:IC:=zr [zm 13 0,zm 14 0,zm 15 4,zv 16 (.iad 3 (.t 14) (.t 15)),zv 17 (zd 16 0),zv 18 (zg 1 17),zi 19 (zk 71 [((.t 13),(.sl 3)),zI 18]),zm 20 4,zv 21 (.bin .lss .no (.t 19) (.t 20))]
def qb5m:IC:=zr [zm 22 4,zm 2 22,zv 3 (.mov (zc 6))]
def qb0x:IC:=zr [zv 23 (.bin .add .no (.t 10) (zc 1)),zm 10 23]
def qb4w:IC:=(.seq qb2i (.seq (.cond (.t 11) .skip (.exit 0)) (.seq (.block 1 (.seq qb3b (.seq qb2v (.cond (.t 21) (.seq qb5m .ret) .skip)))) qb0x)))
def qbd5:IC:=zr [zm 24 0,zv 25 (.len false (.t 24)),zv 26 (.mov (zc 0))]
def qbih:IC:=zr [zv 27 (.bin .lss .no (.t 26) (.t 25))]
def qbws:IC:=zr [zm 28 26,zm 5 28]
def qbr2:IC:=zr [zm 29 0,zm 30 0,zm 31 5,zv 32 (.iad 3 (.t 30) (.t 31)),zv 33 (zl 3 32),zi 34 (zk 78 [((.t 29),(.sl 3)),((.t 33),(.agg [.id,(.sl 1),(.sl 5)]))]),zv 35 (.un .not (.t 34))]
def qbnw:IC:=zr [zm 36 5,zm 2 36,zv 3 (.mov (zc 7))]
def qbij:IC:=zr [zv 37 (.bin .add .no (.t 26) (zc 1)),zm 26 37]
def qbns:IC:=(.seq qbih (.seq (.cond (.t 27) .skip (.exit 2)) (.seq (.block 3 (.seq qbws (.seq qbr2 (.cond (.t 35) (.seq qbnw .ret) .skip)))) qbij)))
def q5k:IC:=zr [zm 38 0,zi 39 (zk 79 [((.t 38),(.sl 3))]),zm 6 39]
def qbi9:IC:=zr [zm 40 0,zv 41 (.len false (.t 40)),zv 42 (.mov (zc 0))]
def qbrn:IC:=zr [zv 43 (.bin .lss .no (.t 42) (.t 41))]
def qbsg:IC:=zr [zm 44 42,zm 7 44]
def qbm4:IC:=zr [zm 45 0,zv 46 (.len false (.t 45)),zm 47 6,zm 48 7,zi 49 (zk 81 [zI 46,((.t 47),(.sl 2)),zI 48]),zm 50 7,zi 51 (zk 80 [((.t 49),(.sl 1)),zI 50])]
def qbgc:IC:=zr [zm 52 7,zm 2 52,zv 3 (.mov (zc 9))]
def qbnq:IC:=zr [zv 53 (.bin .add .no (.t 42) (zc 1)),zm 42 53]
def qbi2:IC:=(.seq qbrn (.seq (.cond (.t 43) .skip (.exit 4)) (.seq (.block 5 (.seq qbsg (.seq qbm4 (.cond (.t 51) (.seq qbgc .ret) .skip)))) qbnq)))
def qbg9:IC:=zr [zv 2 (.mov (zc 0)),zv 3 (.mov (zc 0))]
def k0e:IC:=(.seq qb03 (.seq (.seq qb6e (.block 0 (.loop qb4w))) (.seq (.seq qbd5 (.block 2 (.loop qbns))) (.seq q5k (.seq (.seq qbi9 (.block 4 (.loop qbi2))) (.seq qbg9 .ret))))))
@[go_sem] def s0e:List (RV×Co):=[(.t 2,.id),(.t 3,.id)]
theorem c0e:cFun Tryz.prog 48 = some (54,k0e,s0e):=by kernel_rfl

def qbmy:IC:=zr [zv 4 zf]
def qbkm:IC:=zr [zm 5 0,zm 6 1,zi 7 (zk 82 [((.t 5),(.sl 4)),zI 6]),zv 8 (.bin .geq .no (.t 7) (zc 0)),zm 4 8]
def k0dt:IC:=(.seq qbmy (.seq qbkm .ret))
@[go_sem] def s0dt:List (RV×Co):=[(.t 4,.id)]
theorem c0dt:cFun Tryz.prog 49 = some (9,k0dt,s0dt):=by kernel_rfl

def qbxd:IC:=zr [zi 1 (.box (.t 0)),zv 2 zf]
def qbg6:IC:=zr [zv 3 (zl 4 1),zi 4 (zk 51 [((.t 3),(.agg [.id,.id,.id,(.sl 4)]))]),zv 5 (.bin .neq .no (.t 4) (zc 0)),zm 2 5]
def k0du:IC:=(.seq qbxd (.seq qbg6 .ret))
@[go_sem] def s0du:List (RV×Co):=[(.t 2,.id)]
theorem c0du:cFun Tryz.prog 50 = some (6,k0du,s0du):=by kernel_rfl

def qb1n:IC:=zr [zi 1 (.box (.t 0)),zv 2 (.mov (zc 0))]
def qb5k:IC:=zr [zv 6 (zd 1 0),zv 7 (zg 1 6),zi 8 (zk 77 [zI 7]),zm 9 8,zw 9 true 10 (zd 1 1),zw 9 true 11 (zg 1 10),zj 9 true 12 (zk 77 [zI 11]),zw 9 true 13 (zo 12),zw 13 false 14 (zd 1 1),zw 13 false 15 (zg 1 14),zw 13 false 16 (zq (.t 15) (.c (.str [45,62]))),zw 13 false 17 (zo 16),zw 17 true 18 (zd 1 2),zw 17 true 19 (zg 1 18),zw 17 true 20 (zq (.t 19) (zc 2)),zw 13 false 21 (.pick (.t 17) (.t 20) (.c (.bool false))),zw 9 true 22 (.pick (.t 13) (.c (.bool true)) (.t 21)),zv 23 (.pick (.t 9) (.t 22) (.c (.bool false))),zm 24 23,zw 24 true 25 (zd 1 2),zw 24 true 26 (zg 1 25),zw 24 true 27 (.bin .geq .no (.t 26) (zc 0)),zv 28 (.pick (.t 24) (.t 27) (.c (.bool false))),zm 29 28,zw 29 true 30 (zd 1 2),zw 29 true 31 (zg 1 30),zw 29 true 32 (.bin .leq .no (.t 31) (zc 100)),zv 33 (.pick (.t 29) (.t 32) (.c (.bool false))),zm 3 33]
def qb2p:IC:=zr [zv 34 (zd 1 3),zv 35 (zg 1 34),zv 36 (.len false (.t 35)),zv 37 (.mov (zc 0))]
def qbyw:IC:=zr [zv 38 (.bin .lss .no (.t 37) (.t 36))]
def qb1p:IC:=zr [zv 39 (.iad 4 (.t 35) (.t 37)),zv 40 (zl 4 39),zi 5 (.alo [(.str []),(.str []),(.int .i64 0),.nils]),zn (.st 4 (.agg [.id,.id,.id,(.sl 3)]) (.t 5) (.t 40))]
def qb4c:IC:=zr [zm 41 3,zm 42 41,zw 42 true 43 (zl 4 5),zw 42 true 44 (zd 1 2),zw 42 true 45 (zg 1 44),zj 42 true 46 (zk 83 [((.t 43),(.agg [.id,.id,.id,(.sl 3)])),zI 45]),zv 47 (.pick (.t 42) (.t 46) (.c (.bool false))),zm 3 47]
def qbys:IC:=zr [zv 48 (.bin .add .no (.t 37) (zc 1)),zm 37 48]
def qby6:IC:=(.seq qbyw (.seq (.cond (.t 38) .skip (.exit 0)) (.seq (.block 1 (.seq qb1p qb4c)) qbys)))
def qb1a:IC:=zr [zm 49 3,zv 50 (.un .not (.t 49))]
def qbt6:IC:=zr [zv 2 (.mov (zc 10))]
def qbtj:IC:=zr [zv 2 (.mov (zc 0))]
def k0p:IC:=(.seq qb1n (.seq qb5k (.seq (.seq qb2p (.block 0 (.loop qby6))) (.seq (.seq qb1a (.cond (.t 50) (.seq qbt6 .ret) .skip)) (.seq qbtj .ret)))))
@[go_sem] def s0p:List (RV×Co):=[(.t 2,.id)]
theorem c0p:cFun Tryz.prog 51 = some (51,k0p,s0p):=by kernel_rfl

def qbte:IC:=zr [zi 3 (.box (.t 0)),zi 5 (.box (.t 2)),zi 6 (.alo [(.int .i64 0),(.int .i64 0),.nils,.nils]),zv 7 (.mov (zc 0))]
def qbl2:IC:=zr [zv 22 (zl 3 3),zm 23 1,zv 24 (zl 4 5),zi 25 (zk 23 [((.t 22),(.agg [(.sl 3),(.sl 3),(.sl 4)])),((.t 23),(.sl 4)),((.t 24),(.agg [.id,.id,.id,(.sl 3)]))]),zm 21 25,zv 26 (zx 21 0),zv 27 (zx 21 1),zi 8 (.alo [(.int .i64 0),(.int .i64 0),.nils,.nils]),zn (.st 4 (.agg [.id,.id,(.sl 3),(.sl 4)]) (.t 8) (.t 26)),zm 9 27]
def qblv:IC:=zr [zm 28 9]
def qbg1:IC:=.drw [zp (zv 29 (zl 4 8)),zp (zv 30 (zl 4 8)),(zi 31 (zk 84 [((.t 30),(.agg [.id,.id,(.sl 3),(.sl 4)]))]),[0]),(zn (.st 4 (.agg [.id,.id,(.sl 3),(.sl 4)]) (.t 6) (.t 29)),[]),zp (zm 7 31)]
def q1t:IC:=zr [zv 33 (zd 3 2),zv 34 (zg 1 33),zv 35 (zl 4 5),zi 36 (zk 85 [((.t 34),(.sl 4)),((.t 35),(.agg [.id,.id,.id,(.sl 3)]))]),zm 32 36,zv 37 (zx 32 0),zv 38 (zx 32 1),zv 39 (zx 32 2),zm 10 37,zm 11 38,zm 12 39]
def qbp3:IC:=zr [zm 40 12,zv 41 (.un .not (.t 40))]
def qup:IC:=.pan [zv 42 (.bld [(.int .i64 0)] [(0,1,(zc 16))]),zv 43 (.mki 100 (.t 42) .id)] (.t 43)
def qph:IC:=.drw [(zi 45 (zk 86 [((.c .nils),(.sl 4))]),[]),zp (zv 46 (zd 5 1)),(zv 47 (zl 3 46),[0]),(zi 48 (zk 87 [zI 45,((.t 47),(.agg [.id,.id,(.sl 3)]))]),[]),zp (zm 44 48),zp (zv 49 (zx 44 0)),zp (zv 50 (zx 44 1)),(zi 13 (.alo [(.str []),(.int .i64 0),.nils]),[0,2,3]),(zn (.st 3 (.agg [.id,.id,(.sl 3)]) (.t 13) (.t 49)),[]),zp (zm 14 50)]
def qbgd:IC:=zr [zm 51 10,zv 52 (zd 13 2),zv 53 (zg 1 52),zv 54 (.bld [(.int .i64 0),(.int .i64 0),.nils,.nils] [(0,1,(zc 3)),(1,1,(.t 51)),(2,1,(.t 53))]),zi 15 (.alo [(.int .i64 0),(.int .i64 0),.nils,.nils]),zn (.st 4 (.agg [.id,.id,(.sl 3),(.sl 4)]) (.t 15) (.t 54))]
def qbl6:IC:=zr [zv 16 (.mov (zc 1))]
def q7b:IC:=zr [zm 55 11,zv 56 (.len false (.t 55)),zv 57 (.mov (zc 0))]
def qbb1:IC:=zr [zv 58 (.bin .lss .no (.t 57) (.t 56))]
def q7v:IC:=zr [zv 59 (.iad 4 (.t 55) (.t 57)),zv 60 (zl 4 59),zi 18 (.alo [(.str []),(.str []),(.int .i64 0),.nils]),zn (.st 4 (.agg [.id,.id,.id,(.sl 3)]) (.t 18) (.t 60))]
def q8d:IC:=zr [zv 62 (zl 3 3),zm 63 1,zv 64 (zl 4 18),zi 65 (zk 53 [((.t 62),(.agg [(.sl 3),(.sl 3),(.sl 4)])),((.t 63),(.sl 4)),((.t 64),(.agg [.id,.id,.id,(.sl 3)]))]),zm 61 65,zv 66 (zx 61 0),zv 67 (zx 61 1),zi 19 (.alo [(.int .i64 0),(.int .i64 0),.nils,.nils]),zn (.st 4 (.agg [.id,.id,(.sl 3),(.sl 4)]) (.t 19) (.t 66)),zm 20 67]
def qba2:IC:=zr [zv 68 (zd 15 3),zv 69 (zg 1 68),zv 70 (zl 4 19),zv 71 (.bsl 4 [((.t 70),(.agg [.id,.id,(.sl 3),(.sl 4)]))]),zi 72 (.app 4 (.agg [(.int .i64 0),(.int .i64 0),.nils,.nils]) 64 (.sl 4) (.t 69) (.t 71)),zv 73 (zd 15 3),zn (.st 1 (.sl 4) (.t 73) (.t 72))]
def qbbj:IC:=zr [zm 74 16,zm 75 20,zv 76 (.bin .add .no (.t 74) (.t 75)),zm 16 76]
def q7m:IC:=zr [zm 77 16,zv 78 (.bin .gtr .no (.t 77) (zc 4096))]
def qj8:IC:=.pan [zv 79 (.bld [(.int .i64 0)] [(0,1,(zc 2))]),zv 80 (.mki 100 (.t 79) .id)] (.t 80)
def qba1:IC:=zr [zv 81 (.bin .add .no (.t 57) (zc 1)),zm 57 81]
def qban:IC:=(.seq qbb1 (.seq (.cond (.t 58) .skip (.exit 0)) (.seq (.block 1 (.seq q7v (.seq q8d (.seq qba2 (.seq qbbj (.seq q7m (.cond (.t 78) qj8 .skip))))))) qba1)))
def q6r:IC:=zr [zv 82 (zl 4 15),zm 83 16,zn (.st 4 (.agg [.id,.id,(.sl 3),(.sl 4)]) (.t 6) (.t 82)),zm 7 83]
def k0dq:IC:=(.seq qbte (.seq (.seq qbl2 (.seq qblv (.cond (.t 28) (.seq qbg1 .ret) .skip))) (.seq q1t (.seq (.seq qbp3 (.cond (.t 41) qup .skip)) (.seq qph (.seq qbgd (.seq qbl6 (.seq (.seq q7b (.block 0 (.loop qban))) (.seq q6r .ret)))))))))
@[go_sem] def s0dq:List (RV×Co):=[(.c true 4 6,(.agg [.id,.id,(.sl 3),(.sl 4)])),(.t 7,.id)]
theorem c0dq:cFun Tryz.prog 53 = some (84,k0dq,s0dq):=by kernel_rfl

def qblw:IC:=zr [zi 1 (.box (.t 0)),zv 2 zf]
def qbp8:IC:=zr [zv 7 (zd 1 2),zv 8 (zg 1 7),zv 9 (.len false (.t 8)),zv 10 (.mov (zc 0))]
def qbv3:IC:=zr [zv 11 (.bin .lss .no (.t 10) (.t 9))]
def qbit:IC:=zr [zv 12 (.iad 4 (.t 8) (.t 10)),zv 13 (zl 4 12),zi 4 (.alo [(.str []),(.str []),(.int .i64 0),.nils]),zn (.st 4 (.agg [.id,.id,.id,(.sl 4)]) (.t 4) (.t 13))]
def qbvr:IC:=zr [zv 14 (zl 4 4),zi 15 (zk 51 [((.t 14),(.agg [.id,.id,.id,(.sl 4)]))]),zv 16 (.bin .neq .no (.t 15) (zc 0))]
def qbgg:IC:=zr [zv 2 zf]
def qbu0:IC:=zr [zv 17 (.bin .add .no (.t 10) (zc 1)),zm 10 17]
def qbmw:IC:=(.seq qbv3 (.seq (.cond (.t 11) .skip (.exit 0)) (.seq (.block 1 (.seq qbit (.seq qbvr (.cond (.t 16) (.seq qbgg .ret) .skip)))) qbu0)))
def qbph:IC:=zr [zv 19 (zd 1 1),zv 20 (zg 1 19),zi 21 (zk 48 [((.t 20),(.sl 3))]),zm 18 21,zv 22 (zx 18 0),zv 23 (zx 18 1),zm 5 22,zm 6 23]
def q6y:IC:=zr [zm 24 6,zv 25 (zq (.t 24) (zc 0)),zm 2 25]
def k0de:IC:=(.seq qblw (.seq (.seq qbp8 (.block 0 (.loop qbmw))) (.seq qbph (.seq q6y .ret))))
@[go_sem] def s0de:List (RV×Co):=[(.t 2,.id)]
theorem c0de:cFun Tryz.prog 57 = some (26,k0de,s0de):=by kernel_rfl

def qbs8:IC:=zr [zi 3 (.box (.t 1)),zv 4 (.mov (zc 0))]
def q6c:IC:=.drw [zp (zm 11 0),zp (zv 12 (.nck (.t 11))),zp (zv 13 (zd 12 4)),zp (zv 14 (zg 1 13)),zp (zv 15 (zl 4 3)),(zi 16 (zk 91 [((.t 14),(.sl 4)),((.t 15),(.agg [.id,.id,.id,(.sl 3)]))]),[])]
def qui:IC:=zr [zv 4 (.mov (zc 0))]
def q11:IC:=.drw [zp (zm 17 0),zp (zm 18 0),zp (zv 19 (.nck (.t 18))),zp (zv 20 (zd 19 4)),zp (zv 21 (zg 1 20)),zp (zv 22 (zl 4 3)),(zv 23 (.bsl 4 [((.t 22),(.agg [.id,.id,.id,(.sl 3)]))]),[]),(zi 24 (.app 4 (.agg [(.str []),(.str []),(.int .i64 0),.nils]) 64 (.sl 4) (.t 21) (.t 23)),[]),zp (zv 25 (.nck (.t 17))),zp (zv 26 (zd 25 4)),(zn (.st 1 (.sl 4) (.t 26) (.t 24)),[])]
def q2l:IC:=zr [zv 27 (zl 4 3),zi 28 (zk 92 [((.t 27),(.agg [.id,.id,.id,(.sl 3)]))])]
def qty:IC:=.drw [zp (zm 29 0),zp (zm 30 0),zp (zv 31 (.nck (.t 30))),zp (zv 32 (zd 31 3)),zp (zv 33 (zg 1 32)),zp (zv 34 (zl 4 3)),(zv 35 (.bsl 4 [((.t 34),(.agg [.id,.id,.id,(.sl 3)]))]),[]),(zi 36 (.app 4 (.agg [(.str []),(.str []),(.int .i64 0),.nils]) 64 (.sl 4) (.t 33) (.t 35)),[]),zp (zv 37 (.nck (.t 29))),zp (zv 38 (zd 37 3)),(zn (.st 1 (.sl 4) (.t 38) (.t 36)),[])]
def q3i:IC:=zr [zm 39 0,zv 40 (.nck (.t 39)),zv 41 (zd 40 3),zv 42 (zg 1 41),zv 43 (.len false (.t 42)),zv 44 (.bin .gtr .no (.t 43) (zc 4096))]
def qtt:IC:=zr [zv 4 (.mov (zc 2))]
def qs9:IC:=zr [zv 4 (.mov (zc 0))]
def qur:IC:=.drw [zp (zm 46 0),zp (zv 47 (.nck (.t 46))),zp (zv 48 (zd 47 0)),zp (zv 49 (zd 48 2)),zp (zv 50 (zg 1 49)),zp (zv 51 (zl 4 3)),(zi 52 (zk 85 [((.t 50),(.sl 4)),((.t 51),(.agg [.id,.id,.id,(.sl 3)]))]),[]),zp (zm 45 52),zp (zv 53 (zx 45 0)),zp (zv 54 (zx 45 1)),zp (zv 55 (zx 45 2)),zp (zm 5 53),zp (zm 6 54),zp (zm 7 55)]
def qod:IC:=zr [zm 56 7,zv 57 (.un .not (.t 56))]
def qpg:IC:=zr [zv 4 (.mov (zc 16))]
def qj4:IC:=zr [zm 58 6,zv 59 (.len false (.t 58)),zv 60 (.mov (zc 0))]
def qbbc:IC:=zr [zv 61 (.bin .lss .no (.t 60) (.t 59))]
def q8q:IC:=zr [zv 62 (.iad 4 (.t 58) (.t 60)),zv 63 (zl 4 62),zi 9 (.alo [(.str []),(.str []),(.int .i64 0),.nils]),zn (.st 4 (.agg [.id,.id,.id,(.sl 3)]) (.t 9) (.t 63))]
def q7p:IC:=zr [zm 64 0,zv 65 (zl 4 9),zi 66 (zk 58 [zI 64,((.t 65),(.agg [.id,.id,.id,(.sl 3)]))]),zm 10 66]
def q76:IC:=zr [zm 67 10,zv 68 (.bin .neq .no (.t 67) (zc 0))]
def q7x:IC:=zr [zm 69 10,zm 4 69]
def q9l:IC:=zr [zv 70 (.bin .add .no (.t 60) (zc 1)),zm 60 70]
def qpl:IC:=(.seq qbbc (.seq (.cond (.t 61) .skip (.exit 0)) (.seq (.block 1 (.seq q8q (.seq q7p (.seq q76 (.cond (.t 68) (.seq q7x .ret) .skip))))) q9l)))
def qo6:IC:=zr [zv 4 (.mov (zc 0))]
def k0dh:IC:=(.seq qbs8 (.seq (.seq q6c (.cond (.t 16) (.seq qui .ret) .skip)) (.seq q11 (.seq (.seq q2l (.cond (.t 28) (.seq qty (.seq (.seq q3i (.cond (.t 44) (.seq qtt .ret) .skip)) (.seq qs9 .ret))) .skip)) (.seq qur (.seq (.seq qod (.cond (.t 57) (.seq qpg .ret) .skip)) (.seq (.seq qj4 (.block 0 (.loop qpl))) (.seq qo6 .ret))))))))
@[go_sem] def s0dh:List (RV×Co):=[(.t 4,.id)]
theorem c0dh:cFun Tryz.prog 58 = some (71,k0dh,s0dh):=by kernel_rfl

def qbhk:IC:=zr [zv 2 (.mov (.c .nils))]
def qbpv:IC:=zr [zv 3 (.mov (.c .nils))]
def qbe9:IC:=zr [zm 6 0,zv 7 (.len false (.t 6)),zv 8 (.mov (zc 0))]
def qbka:IC:=zr [zv 9 (.bin .lss .no (.t 8) (.t 7))]
def qbgp:IC:=zr [zv 10 (.iad 4 (.t 6) (.t 8)),zv 11 (zl 4 10),zi 5 (.alo [(.str []),(.str []),(.int .i64 0),.nils]),zn (.st 4 (.agg [.id,.id,.id,(.sl 3)]) (.t 5) (.t 11))]
def qbvp:IC:=zr [zm 12 3,zv 13 (zl 4 5),zi 14 (zk 91 [((.t 12),(.sl 4)),((.t 13),(.agg [.id,.id,.id,(.sl 3)]))]),zv 15 (.un .not (.t 14))]
def qbgm:IC:=.drw [zp (zm 16 3),zp (zm 17 3),zp (zv 18 (.len false (.t 17))),zp (zm 19 3),zp (zv 20 (.len false (.t 19))),zp (zv 21 (.slv 4 (.t 16) none (some (.t 18)) (some (.t 20)))),zp (zv 22 (zl 4 5)),(zv 23 (.bsl 4 [((.t 22),(.agg [.id,.id,.id,(.sl 3)]))]),[]),(zi 24 (.app 4 (.agg [(.str []),(.str []),(.int .i64 0),.nils]) 64 (.sl 4) (.t 21) (.t 23)),[]),zp (zm 3 24)]
def qbvw:IC:=zr [zv 25 (.bin .add .no (.t 8) (zc 1)),zm 8 25]
def qbqd:IC:=(.seq qbka (.seq (.cond (.t 9) .skip (.exit 0)) (.seq (.block 1 (.seq qbgp (.seq qbvp (.cond (.t 15) qbgm .skip)))) qbvw)))
def q93:IC:=zr [zm 26 3,zm 2 26]
def k0cv:IC:=(.seq qbhk (.seq qbpv (.seq (.seq qbe9 (.block 0 (.loop qbqd))) (.seq q93 .ret))))
@[go_sem] def s0cv:List (RV×Co):=[(.t 2,(.sl 4))]
theorem c0cv:cFun Tryz.prog 59 = some (27,k0cv,s0cv):=by kernel_rfl

def qbfn:IC:=zr [zi 3 (.box (.t 0)),zi 5 (.box (.t 2)),zv 6 zf]
def qbjm:IC:=zr [zm 8 1,zv 9 (.len false (.t 8)),zv 10 (.bin .gtr .no (.t 9) (zc 0))]
def qbwi:IC:=zr [zm 11 1,zv 12 (.len false (.t 11)),zv 13 (.mm false (.t 12) (zc 8)),zm 7 13]
def qbpp:IC:=.drw [zp (zv 14 (zl 3 3)),zp (zm 15 1),zp (zm 16 7),zp (zv 17 (.slv 4 (.t 15) none (some (.t 16)) none)),zp (zv 18 (zl 4 5)),(zi 19 (zk 93 [((.t 14),(.agg [(.sl 3),(.sl 3),(.sl 4)])),((.t 17),(.sl 4)),((.t 18),(.agg [.id,.id,.id,(.sl 3)]))]),[]),(zv 20 (.bld [(.bool false),(.bool false),(.bool false),(.bool false),(.bool false),(.bool false),(.bool false),(.bool false)] []),[]),(zv 21 (.bin .neq (.cells [.bool,.bool,.bool,.bool,.bool,.bool,.bool,.bool]) (.t 19) (.t 20)),[])]
def qbni:IC:=zr [zv 6 (.mov (.c (.bool true)))]
def qbf5:IC:=zr [zm 22 1,zm 23 7,zv 24 (.slv 4 (.t 22) (some (.t 23)) none none),zm 1 24]
def qbut:IC:=(.seq (.seq qbjm (.cond (.t 10) .skip (.exit 0))) (.block 1 (.seq qbwi (.seq (.seq qbpp (.cond (.t 21) (.seq qbni .ret) .skip)) qbf5))))
def qbux:IC:=zr [zv 6 zf]
def k0dc:IC:=(.seq qbfn (.seq (.block 0 (.loop qbut)) (.seq qbux .ret)))
@[go_sem] def s0dc:List (RV×Co):=[(.t 6,.id)]
theorem c0dc:cFun Tryz.prog 60 = some (25,k0dc,s0dc):=by kernel_rfl

def qbnk:IC:=zr [zi 2 (.box (.t 0)),zi 3 (.box (.t 1)),zv 4 zf]
def qbrf:IC:=zr [zv 6 (zd 2 0),zv 7 (zg 1 6),zv 8 (zd 3 0),zv 9 (zg 1 8),zv 10 (.bin .neq .no (.t 7) (.t 9)),zm 11 10,zw 11 false 12 (zd 2 1),zw 11 false 13 (zg 1 12),zw 11 false 14 (zd 3 1),zw 11 false 15 (zg 1 14),zw 11 false 16 (.bin .neq .no (.t 13) (.t 15)),zv 17 (.pick (.t 11) (.c (.bool true)) (.t 16)),zm 18 17,zw 18 false 19 (zd 2 2),zw 18 false 20 (zg 1 19),zw 18 false 21 (.len false (.t 20)),zw 18 false 22 (zd 3 2),zw 18 false 23 (zg 1 22),zw 18 false 24 (.len false (.t 23)),zw 18 false 25 (.bin .neq .no (.t 21) (.t 24)),zv 26 (.pick (.t 18) (.c (.bool true)) (.t 25))]
def qbiq:IC:=zr [zv 4 zf]
def qbww:IC:=zr [zv 5 (.mov (zc 0))]
def qbfa:IC:=zr [zm 27 5,zv 28 (zd 2 2),zv 29 (zg 1 28),zv 30 (.len false (.t 29)),zv 31 (.bin .lss .no (.t 27) (.t 30))]
def qboq:IC:=.drw [zp (zv 34 (zd 2 2)),zp (zv 35 (zg 1 34)),zp (zm 36 5),zp (zv 37 (.iad 3 (.t 35) (.t 36))),zp (zv 38 (zl 3 37)),zp (zv 39 (zd 3 2)),zp (zv 40 (zg 1 39)),zp (zm 41 5),zp (zv 42 (.iad 3 (.t 40) (.t 41))),zp (zv 43 (zl 3 42)),(zi 44 (zk 61 [((.t 38),(.agg [.id,.id,(.sl 3)])),((.t 43),(.agg [.id,.id,(.sl 3)]))]),[]),zp (zv 45 (.un .not (.t 44)))]
def qbg4:IC:=zr [zv 4 zf]
def qbnd:IC:=zr [zm 32 5,zv 33 (.bin .add .no (.t 32) (zc 1)),zm 5 33]
def qbio:IC:=(.seq (.seq qbfa (.cond (.t 31) .skip (.exit 0))) (.seq (.block 1 (.seq qboq (.cond (.t 45) (.seq qbg4 .ret) .skip))) qbnd))
def q8a:IC:=zr [zv 4 (.mov (.c (.bool true)))]
def k0bv:IC:=(.seq qbnk (.seq (.seq qbrf (.cond (.t 26) (.seq qbiq .ret) .skip)) (.seq (.seq qbww (.block 0 (.loop qbio))) (.seq q8a .ret))))
@[go_sem] def s0bv:List (RV×Co):=[(.t 4,.id)]
theorem c0bv:cFun Tryz.prog 61 = some (46,k0bv,s0bv):=by kernel_rfl

def qbf1:IC:=zr [zi 3 (.box (.t 0)),zv 6 (.mov (zc 0))]
def qbjc:IC:=zr [zm 8 1,zv 9 (.bin .sub .no (.t 8) (zc 1)),zm 1 9]
def qbpz:IC:=zr [zm 10 2,zv 11 (.bin .lss .no (.t 10) (zc 1))]
def qbfg:IC:=zr [zv 6 (.mov (zc (-1)))]
def qbg5:IC:=zr [zv 7 (.mov (zc 0))]
def qbv4:IC:=zr [zm 12 7,zv 13 (zd 3 2),zv 14 (zg 1 13),zv 15 (.len false (.t 14)),zv 16 (.bin .lss .no (.t 12) (.t 15)),zm 17 16,zw 17 true 18 (zo 1),zw 17 true 19 (.bin .geq .no (.t 18) (zc 0)),zv 20 (.pick (.t 17) (.t 19) (.c (.bool false)))]
def qbxh:IC:=zr [zv 23 (zd 3 2),zv 24 (zg 1 23),zm 25 7,zv 26 (.iad 3 (.t 24) (.t 25)),zv 27 (zl 3 26),zm 28 1,zm 29 2,zv 30 (.bin .sub .no (.t 29) (zc 1)),zi 31 (zk 62 [((.t 27),(.agg [.id,.id,(.sl 3)])),zI 28,zI 30]),zm 1 31]
def qbv0:IC:=zr [zm 21 7,zv 22 (.bin .add .no (.t 21) (zc 1)),zm 7 22]
def qbre:IC:=(.seq (.seq qbv4 (.cond (.t 20) .skip (.exit 0))) (.seq (.block 1 qbxh) qbv0))
def qbco:IC:=zr [zm 32 1,zm 6 32]
def k0bp:IC:=(.seq qbf1 (.seq qbjc (.seq (.seq qbpz (.cond (.t 11) (.seq qbfg .ret) .skip)) (.seq (.seq qbg5 (.block 0 (.loop qbre))) (.seq qbco .ret)))))
@[go_sem] def s0bp:List (RV×Co):=[(.t 6,.id)]
theorem c0bp:cFun Tryz.prog 62 = some (33,k0bp,s0bp):=by kernel_rfl

def qbfv:IC:=zr [zv 1 (zg 1 0),zv 2 (.nck (.t 1)),zv 3 (zd 2 1),zv 4 (zg 1 3),zv 5 (.bin .sub .no (.t 4) (zc 1)),zv 6 (.nck (.t 1)),zv 7 (zd 6 1),zn (.st 1 .id (.t 7) (.t 5))]
def k0dw:IC:=qbfv
@[go_sem] def s0dw:List (RV×Co):=[]
theorem c0dw:cFun Tryz.prog 63 = some (8,k0dw,s0dw):=by kernel_rfl

def qbk1:IC:=zr [zi 2 (.alo [(.str []),(.int .i64 0),.nils])]
def qbqt:IC:=zr [zm 6 0,zi 7 (zk 66 [zI 6,((.c (.str [40])),.id)])]
def qbjt:IC:=zr [zm 8 0,zi 9 (zk 40 [zI 8]),zi 3 (.alo [(.str []),(.int .i64 0),.nils]),zn (.st 3 (.agg [.id,.id,(.sl 3)]) (.t 3) (.t 9))]
def qbsj:IC:=zr [zm 10 0,zm 11 0,zv 12 (.nck (.t 11)),zv 13 (zd 12 2),zv 14 (zg 1 13),zm 15 14,zw 15 false 16 (zo 0),zj 15 false 17 (zk 66 [zI 16,((.c (.str [41])),.id)]),zw 15 false 18 (.un .not (.t 17)),zv 19 (.pick (.t 15) (.c (.bool true)) (.t 18)),zv 20 (.nck (.t 10)),zv 21 (zd 20 2),zn (.st 1 .id (.t 21) (.t 19))]
def qbjh:IC:=zr [zv 22 (zl 3 3),zn (.st 3 (.agg [.id,.id,(.sl 3)]) (.t 2) (.t 22))]
def qbvl:IC:=zr [zm 23 0,zv 24 (.nck (.t 23)),zv 25 (zd 24 0),zv 26 (zg 1 25),zi 27 (zk 94 [zI 26,((.c (.str [32,40,41])),.id)]),zm 4 27]
def qbwd:IC:=zr [zm 28 4,zv 29 (.bin .lss .no (.t 28) (zc 0))]
def qbq8:IC:=zr [zm 30 0,zv 31 (.nck (.t 30)),zv 32 (zd 31 0),zv 33 (zg 1 32),zv 34 (.len true (.t 33)),zm 4 34]
def qbm1:IC:=zr [zm 35 0,zv 36 (.nck (.t 35)),zv 37 (zd 36 0),zv 38 (zg 1 37),zm 39 4,zv 40 (.sls (.t 38) none (some (.t 39))),zi 41 (zk 95 [zI 40]),zi 5 (.alo [(.str []),(.int .i64 0),.nils]),zn (.st 3 (.agg [.id,.id,(.sl 3)]) (.t 5) (.t 41))]
def qbs4:IC:=.drw [zp (zm 42 0),zp (zm 43 0),zp (zm 44 0),zp (zv 45 (.nck (.t 44))),zp (zv 46 (zd 45 0)),zp (zv 47 (zg 1 46)),zp (zm 48 4),zp (zv 49 (.sls (.t 47) (some (.t 48)) none)),zp (zm 50 0),zp (zv 51 (.nck (.t 50))),zp (zv 52 (zd 51 2)),zp (zv 53 (zg 1 52)),zp (zm 54 53),zp (zw 54 false 55 (zo 4)),zp (zw 54 false 56 (zq (.t 55) (zc 0))),zp (zv 57 (.pick (.t 54) (.c (.bool true)) (.t 56))),zp (zv 58 (.nck (.t 42))),zp (zv 59 (zd 58 0)),(zn (.st 1 .id (.t 59) (.t 49)),[]),zp (zv 60 (.nck (.t 43))),zp (zv 61 (zd 60 2)),(zn (.st 1 .id (.t 61) (.t 57)),[])]
def q7l:IC:=zr [zv 62 (zl 3 5),zn (.st 3 (.agg [.id,.id,(.sl 3)]) (.t 2) (.t 62))]
def k0dx:IC:=(.seq qbk1 (.seq (.seq qbqt (.cond (.t 7) (.seq qbjt (.seq qbsj (.seq qbjh .ret))) .skip)) (.seq qbvl (.seq (.seq qbwd (.cond (.t 29) qbq8 .skip)) (.seq qbm1 (.seq qbs4 (.seq q7l .ret)))))))
@[go_sem] def s0dx:List (RV×Co):=[(.c true 3 2,(.agg [.id,.id,(.sl 3)]))]
theorem c0dx:cFun Tryz.prog 64 = some (63,k0dx,s0dx):=by kernel_rfl

def qbtg:IC:=zr [zv 4 zf]
def qbp6:IC:=zr [zm 5 0,zm 6 1,zi 7 (zk 96 [zI 5,zI 6]),zm 4 7]
def k0ca:IC:=(.seq qbtg (.seq qbp6 .ret))
@[go_sem] def s0ca:List (RV×Co):=[(.t 4,.id)]
theorem c0ca:cFun Tryz.prog 65 = some (8,k0ca,s0ca):=by kernel_rfl

def qbw8:IC:=zr [zv 4 zf]
def qbra:IC:=zr [zm 6 0,zv 7 (.nck (.t 6)),zv 8 (zd 7 0),zv 9 (zg 1 8),zm 10 1,zi 11 (zk 65 [zI 9,zI 10]),zm 5 11]
def qbfm:IC:=zr [zm 12 5]
def qbtz:IC:=zr [zm 13 0,zm 14 0,zv 15 (.nck (.t 14)),zv 16 (zd 15 0),zv 17 (zg 1 16),zm 18 1,zv 19 (.len true (.t 18)),zv 20 (.sls (.t 17) (some (.t 19)) none),zv 21 (.nck (.t 13)),zv 22 (zd 21 0),zn (.st 1 .id (.t 22) (.t 20))]
def qbup:IC:=zr [zm 23 5,zm 4 23]
def k0ea:IC:=(.seq qbw8 (.seq qbra (.seq (.seq qbfm (.cond (.t 12) qbtz .skip)) (.seq qbup .ret))))
@[go_sem] def s0ea:List (RV×Co):=[(.t 4,.id)]
theorem c0ea:cFun Tryz.prog 66 = some (24,k0ea,s0ea):=by kernel_rfl

def qbgu:IC:=zr [zv 2 (.mov (.c .nils))]
def qbew:IC:=zr [zm 3 0,zv 4 (.bin .eql .slice (.t 3) (.c .nils))]
def qbqe:IC:=zr [zv 2 (.mov (.c .nils))]
def qbet:IC:=zr [zv 5 (.bsl 3 []),zm 6 0,zi 7 (.app 3 (.agg [(.str []),(.int .i64 0),.nils]) 48 (.sl 3) (.t 5) (.t 6)),zm 2 7]
def k0dz:IC:=(.seq qbgu (.seq (.seq qbew (.cond (.t 4) (.seq qbqe .ret) .skip)) (.seq qbet .ret)))
@[go_sem] def s0dz:List (RV×Co):=[(.t 2,(.sl 3))]
theorem c0dz:cFun Tryz.prog 67 = some (8,k0dz,s0dz):=by kernel_rfl

def qbqp:IC:=zr [zi 1 (.box (.t 0)),zv 2 zf]
def qbq0:IC:=zr [zi 3 (.alo [(.int .i64 0)]),zn (.st 1 .id (.t 3) (zc 0))]
def qbu9:IC:=zr [zv 4 (zl 3 1),zv 5 (.mfn 98 [] [(.t 3)]),zi 6 (zk 97 [((.t 4),(.agg [.id,.id,(.sl 3)])),((zc 1),.id),zI 5]),zm 2 6]
def k0bk:IC:=(.seq qbqp (.seq qbq0 (.seq qbu9 .ret)))
@[go_sem] def s0bk:List (RV×Co):=[(.t 2,.id)]
theorem c0bk:cFun Tryz.prog 68 = some (7,k0bk,s0bk):=by kernel_rfl

def qbnh:IC:=zr [zi 1 (.box (.t 0)),zv 2 (.mov (.c (.str [])))]
def qbxj:IC:=zr [zv 6 (zd 1 0),zv 7 (zg 1 6),zv 8 (zq (.t 7) (.c (.str [45,62])))]
def qbsp:IC:=.drw [zp (zv 9 (zd 1 2)),zp (zv 10 (zg 1 9)),zp (zv 11 (.iad 3 (.t 10) (zc 0))),zp (zv 12 (zl 3 11)),zp (zv 13 (zd 1 2)),zp (zv 14 (zg 1 13)),zp (zv 15 (.iad 3 (.t 14) (zc 0))),zp (zv 16 (zd 15 0)),zp (zv 17 (zg 1 16)),(zv 18 (zq (.t 17) (.c (.str [45,62]))),[]),(zi 19 (zk 100 [((.t 12),(.agg [.id,.id,(.sl 3)])),zI 18]),[]),(zv 20 (.bin .add .no (.t 19) (.c (.str [32,45,62,32]))),[]),zp (zv 21 (zd 1 2)),(zv 22 (zg 1 21),[10]),zp (zv 23 (.iad 3 (.t 22) (zc 1))),(zv 24 (zl 3 23),[10]),(zi 25 (zk 69 [((.t 24),(.agg [.id,.id,(.sl 3)]))]),[]),zp (zv 26 (.bin .add .no (.t 20) (.t 25))),zp (zm 2 26)]
def qboc:IC:=zr [zi 3 (.bld 129 5)]
def qbke:IC:=zr [zv 27 (zl 3 1),zi 28 (zk 70 [((.t 27),(.agg [.id,.id,(.sl 3)]))]),zi 29 (zk 101 [zI 28]),zi 30 (zk 75 [((.t 3),(.agg [.id,(.sl 1)])),zI 29])]
def qbom:IC:=zr [zv 31 (zd 1 2),zv 32 (zg 1 31),zv 33 (.len false (.t 32)),zv 34 (.mov (zc 0))]
def qbwj:IC:=zr [zv 35 (.bin .lss .no (.t 34) (.t 33))]
def qbkb:IC:=zr [zv 36 (.iad 3 (.t 32) (.t 34)),zv 37 (zl 3 36),zi 5 (.alo [(.str []),(.int .i64 0),.nils]),zn (.st 3 (.agg [.id,.id,(.sl 3)]) (.t 5) (.t 37))]
def qbv6:IC:=zr [zv 38 (zl 3 5),zv 39 (zd 5 2),zv 40 (zg 1 39),zv 41 (.len false (.t 40)),zv 42 (.bin .gtr .no (.t 41) (zc 0)),zi 43 (zk 100 [((.t 38),(.agg [.id,.id,(.sl 3)])),zI 42]),zv 44 (.bin .add .no (.c (.str [32])) (.t 43)),zi 45 (zk 75 [((.t 3),(.agg [.id,(.sl 1)])),zI 44])]
def qbbu:IC:=zr [zv 46 (.bin .add .no (.t 34) (zc 1)),zm 34 46]
def qbo1:IC:=(.seq qbwj (.seq (.cond (.t 35) .skip (.exit 0)) (.seq (.block 1 (.seq qbkb qbv6)) qbbu)))
def qba5:IC:=zr [zi 47 (zk 76 [((.t 3),(.agg [.id,(.sl 1)]))]),zm 2 47]
def k0bf:IC:=(.seq qbnh (.seq (.seq qbxj (.cond (.t 8) (.seq qbsp .ret) .skip)) (.seq qboc (.seq qbke (.seq (.seq qbom (.block 0 (.loop qbo1))) (.seq qba5 .ret))))))
@[go_sem] def s0bf:List (RV×Co):=[(.t 2,.id)]
theorem c0bf:cFun Tryz.prog 69 = some (48,k0bf,s0bf):=by kernel_rfl

def qbm0:IC:=zr [zi 1 (.box (.t 0)),zi 2 (.alo [(.str []),(.int .i64 0),(.int .i64 0)])]
def qbrz:IC:=zr [zv 3 (zd 1 0),zv 4 (zg 1 3),zv 5 (zd 1 1),zv 6 (zg 1 5),zv 7 (zd 1 2),zv 8 (zg 1 7),zv 9 (.len false (.t 8)),zv 10 (.bld [(.str []),(.int .i64 0),(.int .i64 0)] [(0,1,(.t 4)),(1,1,(.t 6)),(2,1,(.t 9))]),zn (.st 3 .id (.t 2) (.t 10))]
def k0bt:IC:=(.seq qbm0 (.seq qbrz .ret))
@[go_sem] def s0bt:List (RV×Co):=[(.c true 3 2,.id)]
theorem c0bt:cFun Tryz.prog 70 = some (11,k0bt,s0bt):=by kernel_rfl

def qb0n:IC:=zr [zv 4 (.mov (zc 0))]
def qb0o:IC:=zr [zm 6 0,zv 7 (.len false (.t 6)),zv 8 (.mov (zc 0))]
def qb4t:IC:=zr [zv 9 (.bin .lss .no (.t 8) (.t 7))]
def qbxr:IC:=zr [zm 10 8,zm 5 10]
def qb29:IC:=zr [zm 11 0,zm 12 5,zv 13 (.iad 3 (.t 11) (.t 12)),zv 14 (zd 13 0),zv 15 (zg 1 14),zm 16 1,zv 17 (zq (.t 15) (.t 16))]
def qbzd:IC:=zr [zm 18 5,zm 4 18]
def qb4z:IC:=zr [zv 19 (.bin .add .no (.t 8) (zc 1)),zm 8 19]
def qb5h:IC:=(.seq qb4t (.seq (.cond (.t 9) .skip (.exit 0)) (.seq (.block 1 (.seq qbxr (.seq qb29 (.cond (.t 17) (.seq qbzd .ret) .skip)))) qb4z)))
def qb1e:IC:=zr [zv 4 (.mov (zc (-1)))]
def k0n:IC:=(.seq qb0n (.seq (.seq qb0o (.block 0 (.loop qb5h))) (.seq qb1e .ret)))
@[go_sem] def s0n:List (RV×Co):=[(.t 4,.id)]
theorem c0n:cFun Tryz.prog 71 = some (20,k0n,s0n):=by kernel_rfl

def qb5q:IC:=zr [zv 2 zf]
def qb6n:IC:=zr [zm 6 0,zi 7 (zk 48 [((.t 6),(.sl 3))]),zm 5 7,zv 8 (zx 5 0),zv 9 (zx 5 1),zm 3 8,zm 4 9]
def qbyz:IC:=zr [zm 10 4,zv 11 (zq (.t 10) (zc 0)),zm 2 11]
def k0f:IC:=(.seq qb5q (.seq qb6n (.seq qbyz .ret)))
@[go_sem] def s0f:List (RV×Co):=[(.t 2,.id)]
theorem c0f:cFun Tryz.prog 72 = some (12,k0f,s0f):=by kernel_rfl

def qb3f:IC:=zr [zv 2 (.mov (.c .nils))]
def qb2t:IC:=zr [zm 3 0,zv 4 (.bin .eql .slice (.t 3) (.c .nils))]
def qbyf:IC:=zr [zv 2 (.mov (.c .nils))]
def qb4y:IC:=zr [zv 5 (.bsl 1 []),zm 6 0,zi 7 (.app 1 (.int .i64 0) 8 (.sl 1) (.t 5) (.t 6)),zm 2 7]
def k0d:IC:=(.seq qb3f (.seq (.seq qb2t (.cond (.t 4) (.seq qbyf .ret) .skip)) (.seq qb4y .ret)))
@[go_sem] def s0d:List (RV×Co):=[(.t 2,(.sl 1))]
theorem c0d:cFun Tryz.prog 73 = some (8,k0d,s0d):=by kernel_rfl

def qbji:IC:=zr [zv 2 zf]
def qbj7:IC:=zr [zm 3 0,zv 4 (.bin .neq .no (.t 3) (.c (.str []))),zm 5 4,zw 5 true 6 (zo 0),zw 5 true 7 (.idx (.t 6) (zc 0)),zj 5 true 8 (zk 104 [zI 7]),zv 9 (.pick (.t 5) (.t 8) (.c (.bool false))),zm 10 9,zw 10 true 11 (zo 0),zj 10 true 12 (zk 105 [zI 11]),zv 13 (.pick (.t 10) (.t 12) (.c (.bool false))),zm 2 13]
def k0cg:IC:=(.seq qbji (.seq qbj7 .ret))
@[go_sem] def s0cg:List (RV×Co):=[(.t 2,.id)]
theorem c0cg:cFun Tryz.prog 77 = some (14,k0cg,s0cg):=by kernel_rfl

def qb13:IC:=zr [zi 3 (.box (.t 1)),zv 4 zf]
def qbzb:IC:=zr [zv 7 (zd 3 1),zv 8 (zg 1 7),zv 9 (.len false (.t 8)),zv 10 (.mov (zc 0))]
def qb6h:IC:=zr [zv 11 (.bin .lss .no (.t 10) (.t 9))]
def qb5s:IC:=zr [zm 12 10,zv 13 (.iad 1 (.t 8) (.t 10)),zv 14 (zg 1 13),zm 5 12,zm 6 14]
def qb27:IC:=zr [zm 15 0,zm 16 6,zi 17 (zk 71 [((.t 15),(.sl 3)),zI 16]),zv 18 (.bin .lss .no (.t 17) (zc 0)),zm 19 18,zw 19 false 20 (zd 3 1),zw 19 false 21 (zg 1 20),zw 19 false 22 (zo 5),zw 19 false 23 (.slv 1 (.t 21) none (some (.t 22)) none),zw 19 false 24 (zo 6),zj 19 false 25 (zk 106 [((.t 23),(.sl 1)),zI 24]),zv 26 (.pick (.t 19) (.c (.bool true)) (.t 25))]
def qb5e:IC:=zr [zv 4 zf]
def qb2j:IC:=zr [zv 27 (.bin .add .no (.t 10) (zc 1)),zm 10 27]
def qb2z:IC:=(.seq qb6h (.seq (.cond (.t 11) .skip (.exit 0)) (.seq (.block 1 (.seq qb5s (.seq qb27 (.cond (.t 26) (.seq qb5e .ret) .skip)))) qb2j)))
def qbzh:IC:=zr [zv 4 (.mov (.c (.bool true)))]
def k0o:IC:=(.seq qb13 (.seq (.seq qbzb (.block 0 (.loop qb2z))) (.seq qbzh .ret)))
@[go_sem] def s0o:List (RV×Co):=[(.t 4,.id)]
theorem c0o:cFun Tryz.prog 78 = some (28,k0o,s0o):=by kernel_rfl

def qb0u:IC:=zr [zv 2 (.mov (.c .nils))]
def qb5j:IC:=zr [zv 3 (.mov (.c .nils))]
def qb5r:IC:=zr [zm 7 0,zv 8 (.len false (.t 7)),zv 9 (.mov (zc 0))]
def qby9:IC:=zr [zv 10 (.bin .lss .no (.t 9) (.t 8))]
def qb4f:IC:=zr [zm 11 9,zm 4 11]
def qb6r:IC:=zr [zm 12 0,zm 13 4,zv 14 (.iad 3 (.t 12) (.t 13)),zv 15 (zd 14 1),zv 16 (zg 1 15),zv 17 (.len false (.t 16)),zv 18 (.mov (zc 0))]
def qb6k:IC:=zr [zv 19 (.bin .lss .no (.t 18) (.t 17))]
def qb3m:IC:=zr [zv 20 (.iad 1 (.t 16) (.t 18)),zv 21 (zg 1 20),zm 6 21]
def qbo9:IC:=zr [zm 22 3,zm 23 4,zm 24 0,zm 25 6,zi 26 (zk 71 [((.t 24),(.sl 3)),zI 25]),zv 27 (.bld [(.int .i64 0),(.int .i64 0)] [(0,1,(.t 23)),(1,1,(.t 26))]),zv 28 (.bsl 2 [zI 27]),zi 29 (.app 2 (.agg [(.int .i64 0),(.int .i64 0)]) 16 (.sl 2) (.t 22) (.t 28)),zm 3 29]
def qbpl:IC:=zr [zv 30 (.bin .add .no (.t 18) (zc 1)),zm 18 30]
def qb52:IC:=(.seq qb6k (.seq (.cond (.t 19) .skip (.exit 2)) (.seq (.block 3 (.seq qb3m qbo9)) qbpl)))
def qbfz:IC:=zr [zv 31 (.bin .add .no (.t 9) (zc 1)),zm 9 31]
def qb0v:IC:=(.seq qby9 (.seq (.cond (.t 10) .skip (.exit 0)) (.seq (.block 1 (.seq qb4f (.seq qb6r (.block 2 (.loop qb52))))) qbfz)))
def qbu3:IC:=zr [zm 32 3,zm 2 32]
def k0k:IC:=(.seq qb0u (.seq qb5j (.seq (.seq qb5r (.block 0 (.loop qb0v))) (.seq qbu3 .ret))))
@[go_sem] def s0k:List (RV×Co):=[(.t 2,(.sl 2))]
theorem c0k:cFun Tryz.prog 79 = some (33,k0k,s0k):=by kernel_rfl

def qbsm:IC:=zr [zv 4 zf]
def qbon:IC:=zr [zm 5 0,zm 6 1,zi 7 (zk 107 [((.t 5),(.sl 1)),zI 6]),zv 8 (.bin .geq .no (.t 7) (zc 0)),zm 4 8]
def k0bs:IC:=(.seq qbsm (.seq qbon .ret))
@[go_sem] def s0bs:List (RV×Co):=[(.t 4,.id)]
theorem c0bs:cFun Tryz.prog 80 = some (9,k0bs,s0bs):=by kernel_rfl

def qby1:IC:=zr [zv 6 (.mov (.c .nils))]
def qb4m:IC:=zr [zm 10 0,zm 11 1,zi 12 (zk 108 [zI 10,((.t 11),(.sl 2))]),zv 13 (.bin .neq .no (.t 12) (zc 0)),zm 14 13,zw 14 false 15 (zo 2),zw 14 false 16 (.bin .lss .no (.t 15) (zc 0)),zv 17 (.pick (.t 14) (.c (.bool true)) (.t 16)),zm 18 17,zw 18 false 19 (zo 2),zw 18 false 20 (zo 0),zw 18 false 21 (.bin .geq .no (.t 19) (.t 20)),zv 22 (.pick (.t 18) (.c (.bool true)) (.t 21))]
def qbx0:IC:=zr [zv 6 (.mov (.c .nils))]
def q0v:IC:=zr [zi 7 (.alo [(.bool false),(.bool false),(.bool false),(.bool false),(.bool false),(.bool false),(.bool false),(.bool false),(.bool false),(.bool false),(.bool false),(.bool false),(.bool false),(.bool false),(.bool false),(.bool false),(.bool false),(.bool false),(.bool false),(.bool false),(.bool false),(.bool false),(.bool false),(.bool false),(.bool false),(.bool false),(.bool false),(.bool false),(.bool false),(.bool false),(.bool false),(.bool false),(.bool false),(.bool false),(.bool false),(.bool false),(.bool false),(.bool false),(.bool false),(.bool false),(.bool false),(.bool false),(.bool false),(.bool false),(.bool false),(.bool false),(.bool false),(.bool false),(.bool false),(.bool false),(.bool false),(.bool false),(.bool false),(.bool false),(.bool false),(.bool false),(.bool false),(.bool false),(.bool false),(.bool false),(.bool false),(.bool false),(.bool false),(.bool false),(.bool false),(.bool false),(.bool false),(.bool false),(.bool false),(.bool false),(.bool false),(.bool false),(.bool false),(.bool false),(.bool false),(.bool false),(.bool false),(.bool false),(.bool false),(.bool false),(.bool false),(.bool false),(.bool false),(.bool false),(.bool false),(.bool false),(.bool false),(.bool false),(.bool false),(.bool false),(.bool false),(.bool false),(.bool false),(.bool false),(.bool false),(.bool false),(.bool false),(.bool false),(.bool false),(.bool false),(.bool false),(.bool false),(.bool false),(.bool false),(.bool false),(.bool false),(.bool false),(.bool false),(.bool false),(.bool false),(.bool false),(.bool false),(.bool false),(.bool false),(.bool false),(.bool false),(.bool false),(.bool false),(.bool false),(.bool false),(.bool false),(.bool false),(.bool false),(.bool false),(.bool false),(.bool false),(.bool false),(.bool false),(.bool false),(.bool false),(.bool false),(.bool false),(.bool false),(.bool false),(.bool false),(.bool false),(.bool false),(.bool false),(.bool false),(.bool false),(.bool false),(.bool false),(.bool false),(.bool false),(.bool false),(.bool false),(.bool false),(.bool false),(.bool false),(.bool false),(.bool false),(.bool false),(.bool false),(.bool false),(.bool false),(.bool false),(.bool false),(.bool false),(.bool false),(.bool false),(.bool false),(.bool false),(.bool false),(.bool false),(.bool false),(.bool false),(.bool false),(.bool false),(.bool false),(.bool false),(.bool false),(.bool false),(.bool false),(.bool false),(.bool false),(.bool false),(.bool false),(.bool false),(.bool false),(.bool false),(.bool false),(.bool false),(.bool false),(.bool false),(.bool false),(.bool false),(.bool false),(.bool false),(.bool false),(.bool false),(.bool false),(.bool false),(.bool false),(.bool false),(.bool false),(.bool false),(.bool false),(.bool false),(.bool false),(.bool false),(.bool false),(.bool false),(.bool false),(.bool false),(.bool false),(.bool false),(.bool false),(.bool false),(.bool false),(.bool false),(.bool false),(.bool false),(.bool false),(.bool false),(.bool false),(.bool false),(.bool false),(.bool false),(.bool false),(.bool false),(.bool false),(.bool false),(.bool false),(.bool false),(.bool false),(.bool false),(.bool false),(.bool false),(.bool false),(.bool false),(.bool false),(.bool false),(.bool false),(.bool false),(.bool false),(.bool false),(.bool false),(.bool false),(.bool false),(.bool false),(.bool false),(.bool false),(.bool false),(.bool false),(.bool false),(.bool false),(.bool false),(.bool false),(.bool false),(.bool false),(.bool false),(.bool false),(.bool false),(.bool false),(.bool false),(.bool false),(.bool false),(.bool false),(.bool false),(.bool false),(.bool false),(.bool false),(.bool false),(.bool false),(.bool false),(.bool false),(.bool false),(.bool false),(.bool false),(.bool false),(.bool false),(.bool false),(.bool false),(.bool false),(.bool false),(.bool false),(.bool false),(.bool false),(.bool false),(.bool false),(.bool false),(.bool false),(.bool false),(.bool false),(.bool false),(.bool false),(.bool false),(.bool false),(.bool false),(.bool false),(.bool false),(.bool false),(.bool false),(.bool false),(.bool false),(.bool false),(.bool false),(.bool false),(.bool false),(.bool false),(.bool false),(.bool false),(.bool false),(.bool false),(.bool false),(.bool false),(.bool false),(.bool false),(.bool false),(.bool false),(.bool false),(.bool false),(.bool false),(.bool false),(.bool false),(.bool false),(.bool false),(.bool false),(.bool false),(.bool false),(.bool false),(.bool false),(.bool false),(.bool false),(.bool false),(.bool false),(.bool false),(.bool false),(.bool false),(.bool false),(.bool false),(.bool false),(.bool false),(.bool false),(.bool false),(.bool false),(.bool false),(.bool false),(.bool false),(.bool false),(.bool false),(.bool false),(.bool false),(.bool false),(.bool false),(.bool false),(.bool false),(.bool false),(.bool false),(.bool false),(.bool false),(.bool false),(.bool false),(.bool false),(.bool false),(.bool false),(.bool false),(.bool false),(.bool false),(.bool false),(.bool false),(.bool false),(.bool false),(.bool false),(.bool false),(.bool false),(.bool false),(.bool false),(.bool false),(.bool false),(.bool false),(.bool false),(.bool false),(.bool false),(.bool false),(.bool false),(.bool false),(.bool false),(.bool false),(.bool false),(.bool false),(.bool false),(.bool false),(.bool false),(.bool false),(.bool false),(.bool false),(.bool false),(.bool false),(.bool false),(.bool false),(.bool false),(.bool false),(.bool false),(.bool false),(.bool false),(.bool false),(.bool false),(.bool false),(.bool false),(.bool false),(.bool false),(.bool false),(.bool false),(.bool false),(.bool false),(.bool false),(.bool false),(.bool false),(.bool false),(.bool false),(.bool false),(.bool false),(.bool false),(.bool false),(.bool false),(.bool false),(.bool false),(.bool false),(.bool false),(.bool false),(.bool false),(.bool false),(.bool false),(.bool false),(.bool false),(.bool false),(.bool false),(.bool false),(.bool false),(.bool false),(.bool false),(.bool false),(.bool false),(.bool false),(.bool false),(.bool false),(.bool false),(.bool false),(.bool false),(.bool false),(.bool false),(.bool false),(.bool false),(.bool false),(.bool false),(.bool false),(.bool false),(.bool false),(.bool false),(.bool false),(.bool false),(.bool false),(.bool false),(.bool false),(.bool false),(.bool false),(.bool false),(.bool false),(.bool false),(.bool false),(.bool false),(.bool false),(.bool false),(.bool false),(.bool false),(.bool false),(.bool false),(.bool false),(.bool false),(.bool false),(.bool false),(.bool false),(.bool false),(.bool false),(.bool false),(.bool false),(.bool false),(.bool false),(.bool false),(.bool false),(.bool false),(.bool false),(.bool false),(.bool false),(.bool false),(.bool false),(.bool false),(.bool false),(.bool false),(.bool false),(.bool false),(.bool false),(.bool false),(.bool false),(.bool false),(.bool false),(.bool false),(.bool false),(.bool false),(.bool false),(.bool false),(.bool false),(.bool false),(.bool false),(.bool false),(.bool false),(.bool false),(.bool false),(.bool false),(.bool false),(.bool false),(.bool false),(.bool false),(.bool false),(.bool false),(.bool false),(.bool false),(.bool false),(.bool false),(.bool false),(.bool false),(.bool false),(.bool false),(.bool false),(.bool false),(.bool false),(.bool false),(.bool false),(.bool false),(.bool false),(.bool false),(.bool false),(.bool false),(.bool false),(.bool false),(.bool false),(.bool false),(.bool false),(.bool false),(.bool false),(.bool false),(.bool false),(.bool false),(.bool false),(.bool false),(.bool false),(.bool false),(.bool false),(.bool false),(.bool false),(.bool false),(.bool false),(.bool false),(.bool false),(.bool false),(.bool false),(.bool false),(.bool false),(.bool false),(.bool false),(.bool false),(.bool false),(.bool false),(.bool false),(.bool false),(.bool false),(.bool false),(.bool false),(.bool false),(.bool false),(.bool false),(.bool false),(.bool false),(.bool false),(.bool false),(.bool false),(.bool false),(.bool false),(.bool false),(.bool false),(.bool false),(.bool false),(.bool false),(.bool false),(.bool false),(.bool false),(.bool false),(.bool false),(.bool false),(.bool false),(.bool false),(.bool false),(.bool false),(.bool false),(.bool false),(.bool false),(.bool false),(.bool false),(.bool false),(.bool false),(.bool false),(.bool false),(.bool false),(.bool false),(.bool false),(.bool false),(.bool false),(.bool false),(.bool false),(.bool false),(.bool false),(.bool false),(.bool false),(.bool false),(.bool false),(.bool false),(.bool false),(.bool false),(.bool false),(.bool false),(.bool false),(.bool false),(.bool false),(.bool false),(.bool false),(.bool false),(.bool false),(.bool false),(.bool false),(.bool false),(.bool false),(.bool false),(.bool false),(.bool false),(.bool false),(.bool false),(.bool false),(.bool false),(.bool false),(.bool false),(.bool false),(.bool false),(.bool false),(.bool false),(.bool false),(.bool false),(.bool false),(.bool false),(.bool false),(.bool false),(.bool false),(.bool false),(.bool false),(.bool false),(.bool false),(.bool false),(.bool false),(.bool false),(.bool false),(.bool false),(.bool false),(.bool false),(.bool false),(.bool false),(.bool false),(.bool false),(.bool false),(.bool false),(.bool false),(.bool false),(.bool false),(.bool false),(.bool false),(.bool false),(.bool false),(.bool false),(.bool false),(.bool false),(.bool false),(.bool false),(.bool false),(.bool false),(.bool false),(.bool false),(.bool false),(.bool false),(.bool false),(.bool false),(.bool false),(.bool false),(.bool false),(.bool false),(.bool false),(.bool false),(.bool false),(.bool false),(.bool false),(.bool false),(.bool false),(.bool false),(.bool false),(.bool false),(.bool false),(.bool false),(.bool false),(.bool false),(.bool false),(.bool false),(.bool false),(.bool false),(.bool false),(.bool false),(.bool false),(.bool false),(.bool false),(.bool false),(.bool false),(.bool false),(.bool false),(.bool false),(.bool false),(.bool false),(.bool false),(.bool false),(.bool false),(.bool false),(.bool false),(.bool false),(.bool false),(.bool false),(.bool false),(.bool false),(.bool false),(.bool false),(.bool false),(.bool false),(.bool false),(.bool false),(.bool false),(.bool false),(.bool false),(.bool false),(.bool false),(.bool false),(.bool false),(.bool false),(.bool false),(.bool false),(.bool false),(.bool false),(.bool false),(.bool false),(.bool false),(.bool false),(.bool false),(.bool false),(.bool false),(.bool false),(.bool false),(.bool false),(.bool false),(.bool false),(.bool false),(.bool false),(.bool false),(.bool false),(.bool false),(.bool false),(.bool false),(.bool false),(.bool false),(.bool false),(.bool false),(.bool false),(.bool false),(.bool false),(.bool false),(.bool false),(.bool false),(.bool false),(.bool false),(.bool false),(.bool false),(.bool false),(.bool false),(.bool false),(.bool false),(.bool false),(.bool false),(.bool false),(.bool false),(.bool false),(.bool false),(.bool false),(.bool false),(.bool false),(.bool false),(.bool false),(.bool false),(.bool false),(.bool false),(.bool false),(.bool false),(.bool false),(.bool false),(.bool false),(.bool false),(.bool false),(.bool false),(.bool false),(.bool false),(.bool false),(.bool false),(.bool false),(.bool false),(.bool false),(.bool false),(.bool false),(.bool false),(.bool false),(.bool false),(.bool false),(.bool false),(.bool false),(.bool false),(.bool false),(.bool false),(.bool false),(.bool false),(.bool false),(.bool false),(.bool false),(.bool false),(.bool false),(.bool false),(.bool false),(.bool false),(.bool false),(.bool false),(.bool false),(.bool false),(.bool false),(.bool false),(.bool false),(.bool false),(.bool false),(.bool false),(.bool false),(.bool false),(.bool false),(.bool false),(.bool false),(.bool false),(.bool false),(.bool false),(.bool false),(.bool false),(.bool false),(.bool false),(.bool false),(.bool false),(.bool false),(.bool false),(.bool false),(.bool false),(.bool false),(.bool false),(.bool false),(.bool false),(.bool false),(.bool false),(.bool false),(.bool false),(.bool false),(.bool false),(.bool false),(.bool false),(.bool false),(.bool false),(.bool false),(.bool false),(.bool false),(.bool false),(.bool false),(.bool false),(.bool false),(.bool false),(.bool false),(.bool false),(.bool false),(.bool false),(.bool false),(.bool false),(.bool false),(.bool false),(.bool false),(.bool false),(.bool false),(.bool false),(.bool false),(.bool false),(.bool false),(.bool false),(.bool false),(.bool false),(.bool false),(.bool false),(.bool false),(.bool false),(.bool false),(.bool false),(.bool false),(.bool false),(.bool false),(.bool false),(.bool false),(.bool false),(.bool false),(.bool false),(.bool false),(.bool false),(.bool false),(.bool false),(.bool false),(.bool false),(.bool false),(.bool false),(.bool false),(.bool false),(.bool false),(.bool false),(.bool false),(.bool false),(.bool false),(.bool false),(.bool false),(.bool false),(.bool false),(.bool false),(.bool false),(.bool false),(.bool false),(.bool false),(.bool false),(.bool false),(.bool false),(.bool false),(.bool false),(.bool false),(.bool false),(.bool false),(.bool false),(.bool false),(.bool false),(.bool false),(.bool false),(.bool false),(.bool false),(.bool false),(.bool false),(.bool false),(.bool false),(.bool false),(.bool false),(.bool false),(.bool false),(.bool false),(.bool false),(.bool false),(.bool false),(.bool false),(.bool false),(.bool false),(.bool false),(.bool false),(.bool false),(.bool false),(.bool false),(.bool false),(.bool false),(.bool false),(.bool false),(.bool false),(.bool false),(.bool false),(.bool false),(.bool false),(.bool false),(.bool false),(.bool false),(.bool false),(.bool false),(.bool false),(.bool false),(.bool false),(.bool false),(.bool false),(.bool false),(.bool false)])]
def qbzq:IC:=zr [zm 23 0,zm 24 1,zi 25 (zk 110 [zI 23,((.t 24),(.sl 2))]),zm 26 2,zi 27 (zk 109 [zI 7,((.t 25),(.sl 1)),zI 26])]
def qbdj:IC:=zr [zv 8 (.mov (.c .nils))]
def qbyo:IC:=zr [zm 28 0,zv 29 (.mov (zc 0))]
def qb4g:IC:=zr [zv 30 (.bin .lss .no (.t 29) (.t 28))]
def qb42:IC:=zr [zm 31 29,zm 9 31]
def qbey:IC:=zr [zm 32 9,zv 33 (.aad 1 1000 (.t 7) (.t 32)),zv 34 (zg 1 33)]
def qbku:IC:=zr [zm 35 8,zm 36 9,zv 37 (.bsl 1 [zI 36]),zi 38 (.app 1 (.int .i64 0) 8 (.sl 1) (.t 35) (.t 37)),zm 8 38]
def qbrr:IC:=zr [zv 39 (.bin .add .no (.t 29) (zc 1)),zm 29 39]
def qb0m:IC:=(.seq qb4g (.seq (.cond (.t 30) .skip (.exit 0)) (.seq (.block 1 (.seq qb42 (.seq qbey (.cond (.t 34) qbku .skip)))) qbrr)))
def qbq3:IC:=zr [zm 40 8,zm 6 40]
def k0g:IC:=(.seq qby1 (.seq (.seq qb4m (.cond (.t 22) (.seq qbx0 .ret) .skip)) (.seq q0v (.seq qbzq (.seq qbdj (.seq (.seq qbyo (.block 0 (.loop qb0m))) (.seq qbq3 .ret)))))))
@[go_sem] def s0g:List (RV×Co):=[(.t 6,(.sl 1))]
theorem c0g:cFun Tryz.prog 81 = some (41,k0g,s0g):=by kernel_rfl

def qbtu:IC:=zr [zv 4 (.mov (zc 0))]
def qblb:IC:=zr [zm 6 0,zv 7 (.len false (.t 6)),zv 8 (.mov (zc 0))]
def qbnl:IC:=zr [zv 9 (.bin .lss .no (.t 8) (.t 7))]
def qbqn:IC:=zr [zm 10 8,zm 5 10]
def qbnm:IC:=zr [zm 11 1,zm 12 0,zm 13 5,zv 14 (.iad 4 (.t 12) (.t 13)),zv 15 (zl 4 14),zi 16 (.call (.t 11) [((.t 15),(.agg [.id,.id,.id,(.sl 4)]))])]
def qboh:IC:=zr [zm 17 5,zm 4 17]
def qbs6:IC:=zr [zv 18 (.bin .add .no (.t 8) (zc 1)),zm 8 18]
def qbw7:IC:=(.seq qbnl (.seq (.cond (.t 9) .skip (.exit 0)) (.seq (.block 1 (.seq qbqn (.seq qbnm (.cond (.t 16) (.seq qboh .ret) .skip)))) qbs6)))
def qbnx:IC:=zr [zv 4 (.mov (zc (-1)))]
def k0ds:IC:=(.seq qbtu (.seq (.seq qblb (.block 0 (.loop qbw7))) (.seq qbnx .ret)))
@[go_sem] def s0ds:List (RV×Co):=[(.t 4,.id)]
theorem c0ds:cFun Tryz.prog 82 = some (19,k0ds,s0ds):=by kernel_rfl

def qb07:IC:=zr [zi 2 (.box (.t 0)),zv 4 zf]
def qb3o:IC:=zr [zv 6 (zd 2 1),zv 7 (zl 3 6),zi 5 (.alo [(.str []),(.int .i64 0),.nils]),zn (.st 3 (.agg [.id,.id,(.sl 3)]) (.t 5) (.t 7))]
def qb3y:IC:=zr [zv 8 (zd 2 0),zv 9 (zg 1 8),zi 10 (zk 77 [zI 9]),zm 11 10,zw 11 true 12 (zd 5 0),zw 11 true 13 (zg 1 12),zw 11 true 14 (zq (.t 13) (.c (.str []))),zv 15 (.pick (.t 11) (.t 14) (.c (.bool false))),zm 16 15,zw 16 true 17 (zd 5 2),zw 16 true 18 (zg 1 17),zw 16 true 19 (.len false (.t 18)),zw 16 true 20 (zq (.t 19) (zc 0)),zv 21 (.pick (.t 16) (.t 20) (.c (.bool false))),zm 22 21,zw 22 true 23 (zd 5 1),zw 22 true 24 (zg 1 23),zw 22 true 25 (.bin .geq .no (.t 24) (zc 0)),zv 26 (.pick (.t 22) (.t 25) (.c (.bool false))),zm 27 26,zw 27 true 28 (zd 5 1),zw 27 true 29 (zg 1 28),zw 27 true 30 (zo 1),zw 27 true 31 (.bin .lss .no (.t 29) (.t 30)),zv 32 (.pick (.t 27) (.t 31) (.c (.bool false))),zm 4 32]
def k0q:IC:=(.seq qb07 (.seq qb3o (.seq qb3y .ret)))
@[go_sem] def s0q:List (RV×Co):=[(.t 4,.id)]
theorem c0q:cFun Tryz.prog 83 = some (33,k0q,s0q):=by kernel_rfl

def qb5w:IC:=zr [zi 1 (.box (.t 0)),zv 2 (.mov (zc 0))]
def qb1k:IC:=zr [zv 3 (.mov (zc 1))]
def qb0b:IC:=zr [zv 6 (zd 1 3),zv 7 (zg 1 6),zv 8 (.len false (.t 7)),zv 9 (.mov (zc 0))]
def qb2n:IC:=zr [zv 10 (.bin .lss .no (.t 9) (.t 8))]
def qb50:IC:=zr [zv 11 (.iad 4 (.t 7) (.t 9)),zv 12 (zl 4 11),zi 5 (.alo [(.int .i64 0),(.int .i64 0),.nils,.nils]),zn (.st 4 (.agg [.id,.id,(.sl 3),(.sl 4)]) (.t 5) (.t 12))]
def qb0l:IC:=zr [zm 13 3,zv 14 (zl 4 5),zi 15 (zk 84 [((.t 14),(.agg [.id,.id,(.sl 3),(.sl 4)]))]),zv 16 (.bin .add .no (.t 13) (.t 15)),zm 3 16]
def qb34:IC:=zr [zv 17 (.bin .add .no (.t 9) (zc 1)),zm 9 17]
def qb23:IC:=(.seq qb2n (.seq (.cond (.t 10) .skip (.exit 0)) (.seq (.block 1 (.seq qb50 qb0l)) qb34)))
def qb2m:IC:=zr [zm 18 3,zm 2 18]
def k0b:IC:=(.seq qb5w (.seq qb1k (.seq (.seq qb0b (.block 0 (.loop qb23))) (.seq qb2m .ret))))
@[go_sem] def s0b:List (RV×Co):=[(.t 2,.id)]
theorem c0b:cFun Tryz.prog 84 = some (19,k0b,s0b):=by kernel_rfl

def qbx8:IC:=zr [zi 3 (.box (.t 1)),zv 4 (.mov (zc 0)),zv 5 (.mov (.c .nils)),zv 6 zf]
def qb4s:IC:=zr [zm 15 0,zv 16 (zd 3 0),zv 17 (zg 1 16),zv 18 (zd 3 1),zv 19 (zd 18 0),zv 20 (zg 1 19),zi 21 (zk 111 [((.t 15),(.sl 4)),zI 17,zI 20]),zm 14 21,zv 22 (zx 14 0),zv 23 (zx 14 1),zm 7 22,zm 8 23]
def qbxu:IC:=.drw [zp (zm 24 8),zp (zv 25 (.un .not (.t 24))),zp (zm 26 25),zp (zw 26 false 27 (zd 3 1)),zp (zw 26 false 28 (zd 27 0)),zp (zw 26 false 29 (zg 1 28)),(zw 26 false 30 (zq (.t 29) (.c (.str []))),[]),zp (zv 31 (.pick (.t 26) (.c (.bool true)) (.t 30))),zp (zm 32 31),zp (zw 32 false 33 (zo 0)),zp (zw 32 false 34 (zo 7)),zp (zw 32 false 35 (.iad 4 (.t 33) (.t 34))),zp (zw 32 false 36 (zd 35 2)),zp (zw 32 false 37 (zg 1 36)),zp (zw 32 false 38 (zd 3 1)),zp (zw 32 false 39 (zd 38 2)),zp (zw 32 false 40 (zg 1 39)),zp (zw 32 false 41 (.len false (.t 40))),zp (zw 32 false 42 (.bin .neq .no (.t 37) (.t 41))),zp (zv 43 (.pick (.t 32) (.c (.bool true)) (.t 42)))]
def qb3n:IC:=zr [zv 4 (.mov (zc 0)),zv 5 (.mov (.c .nils)),zv 6 zf]
def qb6d:IC:=zr [zi 44 (zk 86 [((.c .nils),(.sl 4))]),zm 9 44]
def qbxq:IC:=zr [zv 45 (zd 3 1),zv 46 (zd 45 2),zv 47 (zg 1 46),zv 48 (.len false (.t 47)),zv 49 (.mov (zc 0))]
def qb4q:IC:=zr [zv 50 (.bin .lss .no (.t 49) (.t 48))]
def qbz8:IC:=zr [zm 51 49,zv 52 (.iad 3 (.t 47) (.t 49)),zv 53 (zl 3 52),zi 11 (.alo [(.str []),(.int .i64 0),.nils]),zm 10 51,zn (.st 3 (.agg [.id,.id,(.sl 3)]) (.t 11) (.t 53))]
def qbyy:IC:=zr [zm 54 9,zm 55 10,zv 56 (zl 3 11),zi 57 (zk 112 [zI 54,zI 55,((.t 56),(.agg [.id,.id,(.sl 3)]))])]
def qbfk:IC:=zr [zv 58 (.bin .add .no (.t 49) (zc 1)),zm 49 58]
def qb2a:IC:=(.seq qb4q (.seq (.cond (.t 50) .skip (.exit 0)) (.seq (.block 1 (.seq qbz8 qbyy)) qbfk)))
def qbu8:IC:=zr [zm 60 9,zm 61 0,zm 62 7,zv 63 (.iad 4 (.t 61) (.t 62)),zv 64 (zd 63 3),zv 65 (zg 1 64),zi 66 (zk 113 [zI 60,((.t 65),(.sl 4))]),zm 59 66,zv 67 (zx 59 0),zv 68 (zx 59 1),zm 12 67,zm 13 68]
def qbty:IC:=zr [zm 69 7,zm 70 12,zm 4 69,zm 5 70,zv 6 (.mov (.c (.bool true)))]
def k0s:IC:=(.seq qbx8 (.seq qb4s (.seq (.seq qbxu (.cond (.t 43) (.seq qb3n .ret) .skip)) (.seq qb6d (.seq (.seq qbxq (.block 0 (.loop qb2a))) (.seq qbu8 (.seq qbty .ret)))))))
@[go_sem] def s0s:List (RV×Co):=[(.t 4,.id),(.t 5,(.sl 4)),(.t 6,.id)]
theorem c0s:cFun Tryz.prog 85 = some (71,k0s,s0s):=by kernel_rfl

def qb4b:IC:=zr [zv 2 (.mov (.c .nilp))]
def qb21:IC:=zr [zv 6 (.bld [.nils] []),zi 7 (.box (.t 6)),zm 3 7]
def qbym:IC:=zr [zm 8 0,zv 9 (.len false (.t 8)),zv 10 (.mov (zc 0))]
def qb24:IC:=zr [zv 11 (.bin .lss .no (.t 10) (.t 9))]
def qb51:IC:=zr [zv 12 (.iad 4 (.t 8) (.t 10)),zv 13 (zl 4 12),zi 5 (.alo [(.int .i64 0),(.str []),(.int .i64 0),.nils]),zn (.st 4 (.agg [.id,.id,.id,(.sl 3)]) (.t 5) (.t 13))]
def qb0z:IC:=zr [zm 14 3,zv 15 (zd 5 0),zv 16 (zg 1 15),zv 17 (zd 5 1),zv 18 (zl 3 17),zi 19 (zk 112 [zI 14,zI 16,((.t 18),(.agg [.id,.id,(.sl 3)]))])]
def qb5o:IC:=zr [zv 20 (.bin .add .no (.t 10) (zc 1)),zm 10 20]
def qbyr:IC:=(.seq qb24 (.seq (.cond (.t 11) .skip (.exit 0)) (.seq (.block 1 (.seq qb51 qb0z)) qb5o)))
def qb1c:IC:=zr [zm 21 3,zm 2 21]
def k0v:IC:=(.seq qb4b (.seq qb21 (.seq (.seq qbym (.block 0 (.loop qbyr))) (.seq qb1c .ret))))
@[go_sem] def s0v:List (RV×Co):=[(.t 2,.id)]
theorem c0v:cFun Tryz.prog 86 = some (22,k0v,s0v):=by kernel_rfl

def qb1h:IC:=zr [zi 3 (.box (.t 1)),zi 4 (.alo [(.str []),(.int .i64 0),.nils]),zv 5 (.mov (zc 0))]
def qb2u:IC:=zr [zv 8 (zl 3 3),zi 9 (zk 68 [((.t 8),(.agg [.id,.id,(.sl 3)]))]),zv 10 (.un .not (.t 9))]
def qbyg:IC:=zr [zv 11 (.bld [(.str []),(.int .i64 0),.nils] []),zn (.st 3 (.agg [.id,.id,(.sl 3)]) (.t 4) (.t 11)),zv 5 (.mov (zc 1))]
def qbx3:IC:=zr [zm 12 0,zv 13 (.bld [.nilp,(.int .i64 0)] [(0,1,(.t 12)),(1,1,(zc 4096))]),zi 14 (.box (.t 13)),zm 6 14]
def qb4h:IC:=zr [zm 15 6,zv 16 (zl 3 3),zi 17 (zk 114 [zI 15,((.t 16),(.agg [.id,.id,(.sl 3)])),((zc 1),.id)]),zi 7 (.alo [(.str []),(.int .i64 0),.nils]),zn (.st 3 (.agg [.id,.id,(.sl 3)]) (.t 7) (.t 17))]
def qb0q:IC:=zr [zm 18 6,zv 19 (.nck (.t 18)),zv 20 (zd 19 1),zv 21 (zg 1 20),zv 22 (.bin .lss .no (.t 21) (zc 0))]
def qb1d:IC:=zr [zv 23 (.bld [(.str []),(.int .i64 0),.nils] []),zn (.st 3 (.agg [.id,.id,(.sl 3)]) (.t 4) (.t 23)),zv 5 (.mov (zc 2))]
def qby4:IC:=zr [zv 24 (zl 3 7),zn (.st 3 (.agg [.id,.id,(.sl 3)]) (.t 4) (.t 24)),zv 5 (.mov (zc 0))]
def k0u:IC:=(.seq qb1h (.seq (.seq qb2u (.cond (.t 10) (.seq qbyg .ret) .skip)) (.seq qbx3 (.seq qb4h (.seq (.seq qb0q (.cond (.t 22) (.seq qb1d .ret) .skip)) (.seq qby4 .ret))))))
@[go_sem] def s0u:List (RV×Co):=[(.c true 3 4,(.agg [.id,.id,(.sl 3)])),(.t 5,.id)]
theorem c0u:cFun Tryz.prog 87 = some (25,k0u,s0u):=by kernel_rfl

def qbtf:IC:=zr [zv 2 (.mov (zc 0)),zv 3 (.mov (zc 0))]
def qbsz:IC:=zr [zm 8 0,zv 9 (zq (.t 8) (.c (.str [])))]
def qbex:IC:=zr [zv 2 (.mov (zc 0)),zv 3 (.mov (zc 5))]
def qbjj:IC:=zr [zv 4 (.mov (zc 0))]
def qben:IC:=zr [zm 10 4,zm 11 0,zv 12 (.len true (.t 11)),zv 13 (.bin .lss .no (.t 10) (.t 12))]
def qbql:IC:=zr [zm 16 0,zm 17 4,zv 18 (.idx (.t 16) (.t 17)),zv 19 (.bin .lss .no (.t 18) (.c (.int .u8 48))),zm 20 19,zw 20 false 21 (zo 0),zw 20 false 22 (zo 4),zw 20 false 23 (.idx (.t 21) (.t 22)),zw 20 false 24 (.bin .gtr .no (.t 23) (.c (.int .u8 57))),zv 25 (.pick (.t 20) (.c (.bool true)) (.t 24))]
def qbmc:IC:=zr [zv 2 (.mov (zc 0)),zv 3 (.mov (zc 5))]
def qbm3:IC:=zr [zm 14 4,zv 15 (.bin .add .no (.t 14) (zc 1)),zm 4 15]
def qbiy:IC:=(.seq (.seq qben (.cond (.t 13) .skip (.exit 0))) (.seq (.block 1 (.seq qbql (.cond (.t 25) (.seq qbmc .ret) .skip))) qbm3))
def qba3:IC:=zr [zv 5 (.mov (zc 0))]
def q9t:IC:=zr [zv 6 (.mov (zc 0))]
def q8k:IC:=zr [zm 26 6,zm 27 0,zv 28 (.len true (.t 27)),zv 29 (.bin .lss .no (.t 26) (.t 28))]
def qbbb:IC:=zr [zm 32 0,zm 33 6,zv 34 (.idx (.t 32) (.t 33)),zv 35 (.bin .sub .no (.t 34) (.c (.int .u8 48))),zv 36 (.cvi .i64 (.t 35)),zm 7 36]
def q98:IC:=zr [zm 37 5,zm 38 7,zv 39 (.bin .sub .no (zc 9223372036854775807) (.t 38)),zv 40 (.bin .quo .no (.t 39) (zc 10)),zv 41 (.bin .gtr .no (.t 37) (.t 40))]
def qbbq:IC:=zr [zv 2 (.mov (zc 0)),zv 3 (.mov (zc 4))]
def qbct:IC:=zr [zm 42 5,zv 43 (.bin .mul .no (zc 10) (.t 42)),zm 44 7,zv 45 (.bin .add .no (.t 43) (.t 44)),zm 5 45]
def q72:IC:=zr [zm 30 6,zv 31 (.bin .add .no (.t 30) (zc 1)),zm 6 31]
def qbcm:IC:=(.seq (.seq q8k (.cond (.t 29) .skip (.exit 2))) (.seq (.block 3 (.seq qbbb (.seq (.seq q98 (.cond (.t 41) (.seq qbbq .ret) .skip)) qbct))) q72))
def q8g:IC:=zr [zm 46 5,zm 2 46,zv 3 (.mov (zc 0))]
def k0cb:IC:=(.seq qbtf (.seq (.seq qbsz (.cond (.t 9) (.seq qbex .ret) .skip)) (.seq (.seq qbjj (.block 0 (.loop qbiy))) (.seq qba3 (.seq (.seq q9t (.block 2 (.loop qbcm))) (.seq q8g .ret))))))
@[go_sem] def s0cb:List (RV×Co):=[(.t 2,.id),(.t 3,.id)]
theorem c0cb:cFun Tryz.prog 88 = some (47,k0cb,s0cb):=by kernel_rfl

def qbos:IC:=zr [zv 2 (.mov (.c (.str [])))]
def qbht:IC:=zr [zm 5 0,zi 6 (zk 115 [zI 5]),zm 3 6]
def qbwz:IC:=zr [zv 4 (.mov (.c (.str [])))]
def qbib:IC:=zr [zm 7 3,zv 8 (.bin .gtr .no (.t 7) (.c (.int .u64 9)))]
def qbfc:IC:=zr [zm 9 3,zv 10 (.bin .rem .no (.t 9) (.c (.int .u64 10))),zv 11 (.bin .add .no (.c (.int .u64 48)) (.t 10)),zv 12 (.cvi .u8 (.t 11)),zv 13 (.bsl 1 [zI 12]),zv 14 (.cbs (.t 13)),zm 15 4,zv 16 (.bin .add .no (.t 14) (.t 15)),zm 4 16]
def qbh4:IC:=zr [zm 17 3,zv 18 (.bin .quo .no (.t 17) (.c (.int .u64 10))),zm 3 18]
def qbe3:IC:=(.seq (.seq qbib (.cond (.t 8) .skip (.exit 0))) (.block 1 (.seq qbfc qbh4)))
def qbrx:IC:=zr [zm 19 3,zv 20 (.bin .add .no (.c (.int .u64 48)) (.t 19)),zv 21 (.cvi .u8 (.t 20)),zv 22 (.bsl 1 [zI 21]),zv 23 (.cbs (.t 22)),zm 24 4,zv 25 (.bin .add .no (.t 23) (.t 24)),zm 4 25]
def qbfo:IC:=zr [zm 26 0,zv 27 (.bin .lss .no (.t 26) (zc 0))]
def qbcg:IC:=zr [zm 28 4,zv 29 (.bin .add .no (.c (.str [45])) (.t 28)),zm 2 29]
def qbaf:IC:=zr [zm 30 4,zm 2 30]
def k0ci:IC:=(.seq qbos (.seq qbht (.seq qbwz (.seq (.block 0 (.loop qbe3)) (.seq qbrx (.seq (.seq qbfo (.cond (.t 27) (.seq qbcg .ret) .skip)) (.seq qbaf .ret)))))))
@[go_sem] def s0ci:List (RV×Co):=[(.t 2,.id)]
theorem c0ci:cFun Tryz.prog 89 = some (31,k0ci,s0ci):=by kernel_rfl

def qblo:IC:=zr [zi 3 (.box (.t 1)),zv 4 zf]
def qbwh:IC:=zr [zm 5 0,zv 6 (.mfn 118 [] [(.t 3)]),zi 7 (zk 27 [((.t 5),(.sl 4)),zI 6]),zm 4 7]
def k0cu:IC:=(.seq qblo (.seq qbwh .ret))
@[go_sem] def s0cu:List (RV×Co):=[(.t 4,.id)]
theorem c0cu:cFun Tryz.prog 91 = some (8,k0cu,s0cu):=by kernel_rfl

def qbug:IC:=zr [zi 1 (.box (.t 0)),zv 2 zf]
def qbuv:IC:=zr [zv 3 (zl 4 1),zi 4 (zk 120 [((.t 3),(.agg [.id,.id,.id,(.sl 3)]))]),zm 5 4,zw 5 false 6 (zd 1 1),zw 5 false 7 (zd 6 0),zw 5 false 8 (zg 1 7),zj 5 false 9 (zk 65 [zI 8,((.c (.str [33])),.id)]),zv 10 (.pick (.t 5) (.c (.bool true)) (.t 9)),zm 2 10]
def k0dg:IC:=(.seq qbug (.seq qbuv .ret))
@[go_sem] def s0dg:List (RV×Co):=[(.t 2,.id)]
theorem c0dg:cFun Tryz.prog 92 = some (11,k0dg,s0dg):=by kernel_rfl

def qbgw:IC:=zr [zi 3 (.box (.t 0)),zi 5 (.box (.t 2)),zi 6 (.alo [(.bool false),(.bool false),(.bool false),(.bool false),(.bool false),(.bool false),(.bool false),(.bool false)])]
def qbsq:IC:=zr [zi 7 (.alo [(.bool false),(.bool false),(.bool false),(.bool false),(.bool false),(.bool false),(.bool false),(.bool false)])]
def qbvm:IC:=zr [zm 10 1,zv 11 (.len false (.t 10)),zv 12 (.mov (zc 0))]
def qbff:IC:=zr [zv 13 (.bin .lss .no (.t 12) (.t 11))]
def qbjx:IC:=zr [zm 14 12,zv 15 (.iad 4 (.t 10) (.t 12)),zv 16 (zl 4 15),zi 9 (.alo [(.str []),(.str []),(.int .i64 0),.nils]),zm 8 14,zn (.st 4 (.agg [.id,.id,.id,(.sl 3)]) (.t 9) (.t 16))]
def qbot:IC:=zr [zv 17 (zd 9 0),zv 18 (zg 1 17),zv 19 (zd 5 0),zv 20 (zg 1 19),zv 21 (.bin .neq .no (.t 18) (.t 20)),zm 22 21,zw 22 true 23 (zd 9 1),zw 22 true 24 (zl 3 23),zw 22 true 25 (zd 5 1),zw 22 true 26 (zl 3 25),zj 22 true 27 (zk 42 [((.t 24),(.agg [.id,.id,(.sl 3)])),((.t 26),(.agg [.id,.id,(.sl 3)]))]),zv 28 (.pick (.t 22) (.t 27) (.c (.bool false)))]
def qbo0:IC:=zr [zm 30 8,zv 31 (zd 3 1),zv 32 (zg 1 31),zv 33 (zd 9 0),zv 34 (zg 1 33),zv 35 (zd 5 0),zv 36 (zg 1 35),zi 37 (zk 43 [((.t 32),(.sl 3)),zI 34,zI 36]),zm 29 37,zv 38 (zx 29 0),zv 39 (zx 29 1),zv 40 (.aad 1 8 (.t 7) (.t 30)),zn (.st 1 .id (.t 40) (.t 39))]
def qboa:IC:=zr [zv 41 (.bin .add .no (.t 12) (zc 1)),zm 12 41]
def qbes:IC:=(.seq qbff (.seq (.cond (.t 13) .skip (.exit 0)) (.seq (.block 1 (.seq qbjx (.seq qbot (.cond (.t 28) qbo0 .skip)))) qboa)))
def q8s:IC:=zr [zv 42 (zl 8 7),zn (.st 8 .id (.t 6) (.t 42))]
def k0db:IC:=(.seq qbgw (.seq qbsq (.seq (.seq qbvm (.block 0 (.loop qbes))) (.seq q8s .ret))))
@[go_sem] def s0db:List (RV×Co):=[(.c true 8 6,.id)]
theorem c0db:cFun Tryz.prog 93 = some (43,k0db,s0db):=by kernel_rfl

def qbkk:IC:=zr [zi 2 (.alo [(.str []),(.int .i64 0),.nils])]
def qbk4:IC:=zr [zm 6 0,zi 7 (zk 125 [zI 6]),zm 3 7]
def qbt5:IC:=zr [zm 8 3,zv 9 (.bin .geq .no (.t 8) (zc 0))]
def qbfr:IC:=zr [zm 10 3,zv 11 (.bld [(.str []),(.int .i64 0),.nils] [(1,1,(.t 10))]),zn (.st 3 (.agg [.id,.id,(.sl 3)]) (.t 2) (.t 11))]
def qbw2:IC:=zr [zm 12 0,zi 13 (zk 65 [zI 12,((.c (.str [63])),.id)])]
def qbhx:IC:=zr [zm 15 0,zv 16 (.sls (.t 15) (some (zc 1)) none),zi 17 (zk 126 [zI 16]),zm 14 17,zv 18 (zx 14 0),zv 19 (zx 14 1),zm 4 18,zm 5 19]
def qbkf:IC:=zr [zm 20 5,zv 21 (zq (.t 20) (zc 0))]
def qbln:IC:=zr [zm 22 4,zv 23 (.bin .sub .no (zc (-1)) (.t 22)),zv 24 (.bld [(.str []),(.int .i64 0),.nils] [(1,1,(.t 23))]),zn (.st 3 (.agg [.id,.id,(.sl 3)]) (.t 2) (.t 24))]
def qbsk:IC:=zr [zm 25 0,zv 26 (.bld [(.str []),(.int .i64 0),.nils] [(0,1,(.t 25))]),zn (.st 3 (.agg [.id,.id,(.sl 3)]) (.t 2) (.t 26))]
def k0dy:IC:=(.seq qbkk (.seq (.seq qbk4 (.seq qbt5 (.cond (.t 9) (.seq qbfr .ret) .skip))) (.seq (.seq qbw2 (.cond (.t 13) (.seq qbhx (.seq qbkf (.cond (.t 21) (.seq qbln .ret) .skip))) .skip)) (.seq qbsk .ret))))
@[go_sem] def s0dy:List (RV×Co):=[(.c true 3 2,(.agg [.id,.id,(.sl 3)]))]
theorem c0dy:cFun Tryz.prog 95 = some (27,k0dy,s0dy):=by kernel_rfl

def qbnf:IC:=zr [zv 4 zf]
def qbmu:IC:=zr [zm 5 0,zv 6 (.len true (.t 5)),zm 7 1,zv 8 (.len true (.t 7)),zv 9 (.bin .geq .no (.t 6) (.t 8)),zm 10 9,zw 10 true 11 (zo 0),zw 10 true 12 (zo 1),zw 10 true 13 (.len true (.t 12)),zw 10 true 14 (.sls (.t 11) none (some (.t 13))),zw 10 true 15 (zo 1),zw 10 true 16 (zq (.t 14) (.t 15)),zv 17 (.pick (.t 10) (.t 16) (.c (.bool false))),zm 4 17]
def k0bz:IC:=(.seq qbnf (.seq qbmu .ret))
@[go_sem] def s0bz:List (RV×Co):=[(.t 4,.id)]
theorem c0bz:cFun Tryz.prog 96 = some (18,k0bz,s0bz):=by kernel_rfl

def qbwr:IC:=zr [zi 3 (.box (.t 0)),zv 6 zf]
def qbuz:IC:=zr [zm 9 2,zv 10 (zl 3 3),zm 11 1,zi 12 (.call (.t 9) [((.t 10),(.agg [.id,.id,(.sl 3)])),zI 11]),zv 13 (.un .not (.t 12))]
def qbt4:IC:=zr [zv 6 zf]
def qbje:IC:=zr [zv 14 (zd 3 2),zv 15 (zg 1 14),zv 16 (.len false (.t 15)),zv 17 (.mov (zc 0))]
def qbj4:IC:=zr [zv 18 (.bin .lss .no (.t 17) (.t 16))]
def qbt2:IC:=zr [zv 19 (.iad 3 (.t 15) (.t 17)),zv 20 (zl 3 19),zi 8 (.alo [(.str []),(.int .i64 0),.nils]),zn (.st 3 (.agg [.id,.id,(.sl 3)]) (.t 8) (.t 20))]
def qbft:IC:=zr [zv 21 (zl 3 8),zm 22 1,zv 23 (.bin .add .no (.t 22) (zc 1)),zm 24 2,zi 25 (zk 97 [((.t 21),(.agg [.id,.id,(.sl 3)])),zI 23,zI 24]),zv 26 (.un .not (.t 25))]
def qbh6:IC:=zr [zv 6 zf]
def qbh7:IC:=zr [zv 27 (.bin .add .no (.t 17) (zc 1)),zm 17 27]
def qbwq:IC:=(.seq qbj4 (.seq (.cond (.t 18) .skip (.exit 0)) (.seq (.block 1 (.seq qbt2 (.seq qbft (.cond (.t 26) (.seq qbh6 .ret) .skip)))) qbh7)))
def q6v:IC:=zr [zv 6 (.mov (.c (.bool true)))]
def k0by:IC:=(.seq qbwr (.seq (.seq qbuz (.cond (.t 13) (.seq qbt4 .ret) .skip)) (.seq (.seq qbje (.block 0 (.loop qbwq))) (.seq q6v .ret))))
@[go_sem] def s0by:List (RV×Co):=[(.t 6,.id)]
theorem c0by:cFun Tryz.prog 97 = some (28,k0by,s0by):=by kernel_rfl

def qbq5:IC:=zr [zi 3 (.box (.t 0)),zv 5 zf]
def qbq7:IC:=zr [zv 6 (zg 1 2),zv 7 (.bin .add .no (.t 6) (zc 1)),zn (.st 1 .id (.t 2) (.t 7))]
def qbhh:IC:=zr [zv 8 (zg 1 2),zv 9 (.bin .leq .no (.t 8) (zc 4096)),zm 10 9,zw 10 true 11 (zo 1),zw 10 true 12 (.bin .leq .no (.t 11) (zc 100)),zv 13 (.pick (.t 10) (.t 12) (.c (.bool false))),zm 14 13,zw 14 true 15 (zl 3 3),zj 14 true 16 (zk 70 [((.t 15),(.agg [.id,.id,(.sl 3)]))]),zj 14 true 17 (zk 99 [zI 16]),zv 18 (.pick (.t 14) (.t 17) (.c (.bool false))),zm 5 18]
def k0bh:IC:=(.seq qbq5 (.seq qbq7 (.seq qbhh .ret)))
@[go_sem] def s0bh:List (RV×Co):=[(.t 5,.id)]
theorem c0bh:cFun Tryz.prog 98 = some (19,k0bh,s0bh):=by kernel_rfl

def qbur:IC:=zr [zi 1 (.box (.t 0)),zv 2 zf]
def qbpt:IC:=zr [zv 4 (zd 1 0),zv 5 (zg 1 4),zv 6 (zq (.t 5) (.c (.str []))),zm 3 6]
def qbsr:IC:=zr [zv 7 (zd 1 2),zv 8 (zg 1 7),zv 9 (zq (.t 8) (zc 0)),zm 2 9]
def qbov:IC:=zr [zv 11 (zd 1 0),zv 12 (zg 1 11),zv 13 (zq (.t 12) (.c (.str [45,62]))),zm 10 13]
def qbif:IC:=zr [zv 14 (zl 3 1),zv 15 (.bld [(.str []),(.int .i64 0),(.int .i64 0)] [(0,1,(.c (.str [45,62]))),(1,1,(zc 0)),(2,1,(zc 2))]),zv 16 (.bin .eql (.cells [.str,(.int .i64),(.int .i64)]) (.t 14) (.t 15)),zm 2 16]
def qbjl:IC:=zr [zv 18 (zd 1 0),zv 19 (zg 1 18),zi 20 (zk 127 [zI 19]),zm 17 20]
def qbq4:IC:=zr [zv 21 (zl 3 1),zv 22 (zd 1 0),zv 23 (zg 1 22),zv 24 (.bld [(.str []),(.int .i64 0),(.int .i64 0)] [(0,1,(.t 23))]),zv 25 (.bin .eql (.cells [.str,(.int .i64),(.int .i64)]) (.t 21) (.t 24)),zm 2 25]
def qbs7:IC:=zr [zv 26 (zd 1 1),zv 27 (zg 1 26),zv 28 (zq (.t 27) (zc 0)),zm 29 28,zw 29 true 30 (zd 1 0),zw 29 true 31 (zg 1 30),zj 29 true 32 (zk 77 [zI 31]),zv 33 (.pick (.t 29) (.t 32) (.c (.bool false))),zm 2 33]
def k0bx:IC:=(.seq qbur (.seq (.block 0 (.seq qbpt (.cond (.t 3) (.seq qbsr .ret) (.seq qbov (.cond (.t 10) (.seq qbif .ret) (.seq qbjl (.cond (.t 17) (.seq qbq4 .ret) .skip))))))) (.seq qbs7 .ret)))
@[go_sem] def s0bx:List (RV×Co):=[(.t 2,.id)]
theorem c0bx:cFun Tryz.prog 99 = some (34,k0bx,s0bx):=by kernel_rfl

def qbrp:IC:=zr [zi 2 (.box (.t 0)),zv 4 (.mov (.c (.str [])))]
def qblr:IC:=zr [zm 5 1]
def qbum:IC:=zr [zv 6 (zl 3 2),zi 7 (zk 69 [((.t 6),(.agg [.id,.id,(.sl 3)]))]),zv 8 (.bin .add .no (.c (.str [40])) (.t 7)),zv 9 (.bin .add .no (.t 8) (.c (.str [41]))),zm 4 9]
def qbi1:IC:=zr [zv 10 (zl 3 2),zi 11 (zk 69 [((.t 10),(.agg [.id,.id,(.sl 3)]))]),zm 4 11]
def k0be:IC:=(.seq qbrp (.seq (.seq qblr (.cond (.t 5) (.seq qbum .ret) .skip)) (.seq qbi1 .ret)))
@[go_sem] def s0be:List (RV×Co):=[(.t 4,.id)]
theorem c0be:cFun Tryz.prog 100 = some (12,k0be,s0be):=by kernel_rfl

def qboi:IC:=zr [zi 1 (.box (.t 0)),zv 2 (.mov (.c (.str [])))]
def qbmf:IC:=zr [zv 4 (zd 1 0),zv 5 (zg 1 4),zv 6 (.bin .neq .no (.t 5) (.c (.str []))),zm 3 6]
def qbhw:IC:=zr [zv 7 (zd 1 0),zv 8 (zg 1 7),zm 2 8]
def qbn5:IC:=zr [zv 10 (zd 1 1),zv 11 (zg 1 10),zv 12 (.bin .geq .no (.t 11) (zc 0)),zm 9 12]
def qbpa:IC:=zr [zv 13 (zd 1 1),zv 14 (zg 1 13),zi 15 (zk 128 [zI 14]),zm 2 15]
def qbn6:IC:=zr [zv 16 (zd 1 1),zv 17 (zg 1 16),zv 18 (.bin .sub .no (zc (-1)) (.t 17)),zi 19 (zk 44 [zI 18]),zv 20 (.bin .add .no (.c (.str [63])) (.t 19)),zm 2 20]
def k0bd:IC:=(.seq qboi (.seq (.block 0 (.seq qbmf (.cond (.t 3) (.seq qbhw .ret) (.seq qbn5 (.cond (.t 9) (.seq qbpa .ret) .skip))))) (.seq qbn6 .ret)))
@[go_sem] def s0bd:List (RV×Co):=[(.t 2,.id)]
theorem c0bd:cFun Tryz.prog 101 = some (21,k0bd,s0bd):=by kernel_rfl

def qbpu:IC:=zr [zv 2 zf]
def qbgv:IC:=zr [zm 3 0,zv 4 (.bin .geq .no (.t 3) (.c (.int .u8 65))),zm 5 4,zw 5 true 6 (zo 0),zw 5 true 7 (.bin .leq .no (.t 6) (.c (.int .u8 90))),zv 8 (.pick (.t 5) (.t 7) (.c (.bool false))),zm 2 8]
def k0ce:IC:=(.seq qbpu (.seq qbgv .ret))
@[go_sem] def s0ce:List (RV×Co):=[(.t 2,.id)]
theorem c0ce:cFun Tryz.prog 104 = some (9,k0ce,s0ce):=by kernel_rfl

def qbsl:IC:=zr [zv 2 zf]
def qbv5:IC:=zr [zm 5 0,zv 6 (.len true (.t 5)),zv 7 (.mov (zc 0))]
def qbp1:IC:=zr [zv 8 (.bin .lss .no (.t 7) (.t 6))]
def qbh3:IC:=zr [zm 9 7,zm 3 9]
def qbla:IC:=zr [zm 10 0,zm 11 3,zv 12 (.idx (.t 10) (.t 11)),zm 4 12]
def qbul:IC:=zr [zm 13 4,zi 14 (zk 131 [zI 13]),zv 15 (.un .not (.t 14)),zm 16 15,zw 16 true 17 (zo 4),zj 16 true 18 (zk 104 [zI 17]),zw 16 true 19 (.un .not (.t 18)),zv 20 (.pick (.t 16) (.t 19) (.c (.bool false))),zm 21 20,zw 21 true 22 (zo 4),zw 21 true 23 (.bin .lss .no (.t 22) (.c (.int .u8 48))),zw 21 true 24 (zo 23),zw 24 false 25 (zo 4),zw 24 false 26 (.bin .gtr .no (.t 25) (.c (.int .u8 57))),zw 21 true 27 (.pick (.t 24) (.c (.bool true)) (.t 26)),zv 28 (.pick (.t 21) (.t 27) (.c (.bool false))),zm 29 28,zw 29 true 30 (zo 4),zw 29 true 31 (.bin .neq .no (.t 30) (.c (.int .u8 39))),zv 32 (.pick (.t 29) (.t 31) (.c (.bool false)))]
def qbj8:IC:=zr [zv 2 zf]
def qbnr:IC:=zr [zv 33 (.bin .add .no (.t 7) (zc 1)),zm 7 33]
def qbne:IC:=(.seq qbp1 (.seq (.cond (.t 8) .skip (.exit 0)) (.seq (.block 1 (.seq qbh3 (.seq qbla (.seq qbul (.cond (.t 32) (.seq qbj8 .ret) .skip))))) qbnr)))
def q6x:IC:=zr [zv 2 (.mov (.c (.bool true)))]
def k0cf:IC:=(.seq qbsl (.seq (.seq qbv5 (.block 0 (.loop qbne))) (.seq q6x .ret)))
@[go_sem] def s0cf:List (RV×Co):=[(.t 2,.id)]
theorem c0cf:cFun Tryz.prog 105 = some (34,k0cf,s0cf):=by kernel_rfl

def qb5v:IC:=zr [zv 4 zf]
def qbyn:IC:=zr [zm 5 0,zm 6 1,zi 7 (zk 132 [((.t 5),(.sl 1)),zI 6]),zv 8 (.bin .geq .no (.t 7) (zc 0)),zm 4 8]
def k0m:IC:=(.seq qb5v (.seq qbyn .ret))
@[go_sem] def s0m:List (RV×Co):=[(.t 4,.id)]
theorem c0m:cFun Tryz.prog 106 = some (9,k0m,s0m):=by kernel_rfl

def qbw0:IC:=zr [zv 4 (.mov (zc 0))]
def qbmd:IC:=zr [zm 6 0,zv 7 (.len false (.t 6)),zv 8 (.mov (zc 0))]
def qbn7:IC:=zr [zv 9 (.bin .lss .no (.t 8) (.t 7))]
def qbkh:IC:=zr [zm 10 8,zm 5 10]
def qbr1:IC:=zr [zm 11 1,zm 12 0,zm 13 5,zv 14 (.iad 1 (.t 12) (.t 13)),zv 15 (zg 1 14),zv 16 (zq (.t 11) (.t 15))]
def qbuj:IC:=zr [zm 17 5,zm 4 17]
def qbsx:IC:=zr [zv 18 (.bin .add .no (.t 8) (zc 1)),zm 8 18]
def qbqa:IC:=(.seq qbn7 (.seq (.cond (.t 9) .skip (.exit 0)) (.seq (.block 1 (.seq qbkh (.seq qbr1 (.cond (.t 16) (.seq qbuj .ret) .skip)))) qbsx)))
def qbl5:IC:=zr [zv 4 (.mov (zc (-1)))]
def k0br:IC:=(.seq qbw0 (.seq (.seq qbmd (.block 0 (.loop qbqa))) (.seq qbl5 .ret)))
@[go_sem] def s0br:List (RV×Co):=[(.t 4,.id)]
theorem c0br:cFun Tryz.prog 107 = some (19,k0br,s0br):=by kernel_rfl

def qb0r:IC:=zr [zv 4 (.mov (zc 0))]
def qb41:IC:=zr [zm 7 0,zv 8 (.bin .lss .no (.t 7) (zc 0)),zm 9 8,zw 9 false 10 (zo 0),zw 9 false 11 (.bin .gtr .no (.t 10) (zc 1000)),zv 12 (.pick (.t 9) (.c (.bool true)) (.t 11))]
def qbzv:IC:=zr [zv 4 (.mov (zc 1))]
def qbyj:IC:=zr [zm 13 1,zv 14 (.len false (.t 13)),zv 15 (.mov (zc 0))]
def qb40:IC:=zr [zv 16 (.bin .lss .no (.t 15) (.t 14))]
def qb10:IC:=zr [zv 17 (.iad 2 (.t 13) (.t 15)),zv 18 (zl 2 17),zi 6 (.alo [(.int .i64 0),(.int .i64 0)]),zn (.st 2 .id (.t 6) (.t 18))]
def qbzf:IC:=zr [zv 19 (zd 6 0),zv 20 (zg 1 19),zv 21 (zd 6 1),zv 22 (zg 1 21),zv 23 (.mm false (.t 20) (.t 22)),zv 24 (.bin .lss .no (.t 23) (zc 0)),zm 25 24,zw 25 false 26 (zd 6 0),zw 25 false 27 (zg 1 26),zw 25 false 28 (zd 6 1),zw 25 false 29 (zg 1 28),zw 25 false 30 (.mm true (.t 27) (.t 29)),zw 25 false 31 (zo 0),zw 25 false 32 (.bin .geq .no (.t 30) (.t 31)),zv 33 (.pick (.t 25) (.c (.bool true)) (.t 32))]
def qby3:IC:=zr [zv 4 (.mov (zc 1))]
def qb00:IC:=zr [zv 34 (.bin .add .no (.t 15) (zc 1)),zm 15 34]
def qb55:IC:=(.seq qb40 (.seq (.cond (.t 16) .skip (.exit 0)) (.seq (.block 1 (.seq qb10 (.seq qbzf (.cond (.t 33) (.seq qby3 .ret) .skip)))) qb00)))
def qboj:IC:=zr [zv 4 (.mov (zc 0))]
def k0j:IC:=(.seq qb0r (.seq (.seq qb41 (.cond (.t 12) (.seq qbzv .ret) .skip)) (.seq (.seq qbyj (.block 0 (.loop qb55))) (.seq qboj .ret))))
@[go_sem] def s0j:List (RV×Co):=[(.t 4,.id)]
theorem c0j:cFun Tryz.prog 108 = some (35,k0j,s0j):=by kernel_rfl

def qbxz:IC:=zr [zm 8 1,zm 9 2,zv 10 (.iad 1 (.t 8) (.t 9)),zv 11 (zg 1 10),zv 12 (.len false (.t 11)),zv 13 (.mov (zc 0))]
def qbxx:IC:=zr [zv 14 (.bin .lss .no (.t 13) (.t 12))]
def qb4x:IC:=zr [zv 15 (.iad 1 (.t 11) (.t 13)),zv 16 (zg 1 15),zm 7 16]
def qb1v:IC:=zr [zm 17 0,zm 18 7,zv 19 (.nck (.t 17)),zv 20 (.aad 1 1000 (.t 19) (.t 18)),zv 21 (zg 1 20),zv 22 (.un .not (.t 21))]
def qb38:IC:=zr [zm 23 0,zm 24 7,zv 25 (.nck (.t 23)),zv 26 (.aad 1 1000 (.t 25) (.t 24)),zn (.st 1 .id (.t 26) (.c (.bool true)))]
def qb5y:IC:=zr [zm 27 0,zm 28 1,zm 29 7,zi 30 (zk 109 [zI 27,((.t 28),(.sl 1)),zI 29])]
def qb4j:IC:=zr [zv 31 (.bin .add .no (.t 13) (zc 1)),zm 13 31]
def qb1t:IC:=(.seq qbxx (.seq (.cond (.t 14) .skip (.exit 0)) (.seq (.block 1 (.seq qb4x (.seq qb1v (.cond (.t 22) (.seq qb38 qb5y) .skip)))) qb4j)))
def k0h:IC:=(.seq qbxz (.block 0 (.loop qb1t)))
@[go_sem] def s0h:List (RV×Co):=[]
theorem c0h:cFun Tryz.prog 109 = some (32,k0h,s0h):=by kernel_rfl

def qb3k:IC:=zr [zv 4 (.mov (.c .nils))]
def qb53:IC:=zr [zm 8 0,zi 9 (.mks 1 .nils 24 (.t 8) (.t 8)),zm 5 9]
def qb4r:IC:=zr [zm 10 1,zv 11 (.len false (.t 10)),zv 12 (.mov (zc 0))]
def qb18:IC:=zr [zv 13 (.bin .lss .no (.t 12) (.t 11))]
def qb3x:IC:=zr [zv 14 (.iad 2 (.t 10) (.t 12)),zv 15 (zl 2 14),zi 7 (.alo [(.int .i64 0),(.int .i64 0)]),zn (.st 2 .id (.t 7) (.t 15))]
def qbxt:IC:=.drw [zp (zm 16 5),zp (zv 17 (zd 7 0)),zp (zv 18 (zg 1 17)),zp (zm 19 5),zp (zv 20 (zd 7 0)),zp (zv 21 (zg 1 20)),zp (zv 22 (.iad 1 (.t 19) (.t 21))),zp (zv 23 (zg 1 22)),zp (zv 24 (zd 7 1)),zp (zv 25 (zg 1 24)),(zv 26 (.bsl 1 [zI 25]),[]),(zi 27 (.app 1 (.int .i64 0) 8 (.sl 1) (.t 23) (.t 26)),[2]),zp (zv 28 (.iad 1 (.t 16) (.t 18))),(zn (.st 1 (.sl 1) (.t 28) (.t 27)),[])]
def qb6c:IC:=zr [zv 29 (.bin .add .no (.t 12) (zc 1)),zm 12 29]
def qbzk:IC:=(.seq qb18 (.seq (.cond (.t 13) .skip (.exit 0)) (.seq (.block 1 (.seq qb3x qbxt)) qb6c)))
def qb2s:IC:=zr [zm 30 5,zm 4 30]
def k0i:IC:=(.seq qb3k (.seq qb53 (.seq (.seq qb4r (.block 0 (.loop qbzk))) (.seq qb2s .ret))))
@[go_sem] def s0i:List (RV×Co):=[(.t 4,(.sl 1))]
theorem c0i:cFun Tryz.prog 110 = some (31,k0i,s0i):=by kernel_rfl

def qb0a:IC:=zr [zv 6 (.mov (zc 0)),zv 7 zf]
def qb5u:IC:=zr [zm 10 0,zv 11 (.len false (.t 10)),zv 12 (.mov (zc 0))]
def qb1f:IC:=zr [zv 13 (.bin .lss .no (.t 12) (.t 11))]
def qb1j:IC:=zr [zm 14 12,zv 15 (.iad 4 (.t 10) (.t 12)),zv 16 (zl 4 15),zi 9 (.alo [(.str []),(.str []),(.int .i64 0),.nils]),zm 8 14,zn (.st 4 (.agg [.id,.id,.id,(.sl 4)]) (.t 9) (.t 16))]
def qb0w:IC:=zr [zv 17 (zd 9 0),zv 18 (zg 1 17),zm 19 1,zv 20 (zq (.t 18) (.t 19)),zm 21 20,zw 21 true 22 (zd 9 1),zw 21 true 23 (zg 1 22),zw 21 true 24 (zo 2),zw 21 true 25 (zq (.t 23) (.t 24)),zv 26 (.pick (.t 21) (.t 25) (.c (.bool false)))]
def qb26:IC:=zr [zm 27 8,zm 6 27,zv 7 (.mov (.c (.bool true)))]
def qb5i:IC:=zr [zv 28 (.bin .add .no (.t 12) (zc 1)),zm 12 28]
def qb4l:IC:=(.seq qb1f (.seq (.cond (.t 13) .skip (.exit 0)) (.seq (.block 1 (.seq qb1j (.seq qb0w (.cond (.t 26) (.seq qb26 .ret) .skip)))) qb5i)))
def qb3s:IC:=zr [zv 6 (.mov (zc 0)),zv 7 zf]
def k0r:IC:=(.seq qb0a (.seq (.seq qb5u (.block 0 (.loop qb4l))) (.seq qb3s .ret)))
@[go_sem] def s0r:List (RV×Co):=[(.t 6,.id),(.t 7,.id)]
theorem c0r:cFun Tryz.prog 111 = some (29,k0r,s0r):=by kernel_rfl

def qb2g:IC:=zr [zi 5 (.box (.t 2)),zv 6 (.mov (zc 0))]
def qb3z:IC:=zr [zm 9 0,zv 10 (.bin .eql .ptr (.t 9) (.c .nilp)),zm 11 10,zw 11 false 12 (zl 3 5),zj 11 false 13 (zk 68 [((.t 12),(.agg [.id,.id,(.sl 3)]))]),zw 11 false 14 (.un .not (.t 13)),zv 15 (.pick (.t 11) (.c (.bool true)) (.t 14))]
def qb5t:IC:=zr [zv 6 (.mov (zc 1))]
def qb2c:IC:=zr [zm 17 0,zm 18 1,zi 19 (zk 133 [zI 17,zI 18]),zm 16 19,zv 20 (zx 16 0),zv 21 (zx 16 1),zm 7 20,zm 8 21]
def qb3w:IC:=zr [zm 22 8]
def qb08:IC:=zr [zv 6 (.mov (zc 6))]
def qb2w:IC:=.drw [zp (zm 23 0),zp (zm 24 0),zp (zv 25 (.nck (.t 24))),zp (zv 26 (zd 25 0)),zp (zv 27 (zg 1 26)),zp (zm 28 7),zp (zm 29 1),zp (zv 30 (zl 3 5)),(zi 31 (zk 135 [((.t 30),(.agg [.id,.id,(.sl 3)]))]),[4]),(zv 32 (.bld [(.int .i64 0),(.str []),(.int .i64 0),.nils] [(0,1,(.t 29)),(1,3,(.t 31))]),[]),(zv 33 (.bsl 4 [((.t 32),(.agg [.id,.id,.id,(.sl 3)]))]),[]),(zi 34 (zk 134 [((.t 27),(.sl 4)),zI 28,((.t 33),(.sl 4))]),[]),zp (zv 35 (.nck (.t 23))),zp (zv 36 (zd 35 0)),(zn (.st 1 (.sl 4) (.t 36) (.t 34)),[])]
def qb0k:IC:=zr [zv 6 (.mov (zc 0))]
def k0x:IC:=(.seq qb2g (.seq (.seq qb3z (.cond (.t 15) (.seq qb5t .ret) .skip)) (.seq qb2c (.seq (.seq qb3w (.cond (.t 22) (.seq qb08 .ret) .skip)) (.seq qb2w (.seq qb0k .ret))))))
@[go_sem] def s0x:List (RV×Co):=[(.t 6,.id)]
theorem c0x:cFun Tryz.prog 112 = some (37,k0x,s0x):=by kernel_rfl

def qbz1:IC:=zr [zv 4 (.mov (.c .nils)),zv 5 (.mov (zc 0))]
def qb4a:IC:=zr [zv 6 (.mov (.c .nils))]
def qb3e:IC:=zr [zm 11 1,zv 12 (.len false (.t 11)),zv 13 (.mov (zc 0))]
def qbzs:IC:=zr [zv 14 (.bin .lss .no (.t 13) (.t 12))]
def qbyc:IC:=zr [zv 15 (.iad 4 (.t 11) (.t 13)),zv 16 (zl 4 15),zi 8 (.alo [(.str []),(.str []),(.int .i64 0),.nils]),zn (.st 4 (.agg [.id,.id,.id,(.sl 3)]) (.t 8) (.t 16))]
def qb2f:IC:=zr [zm 18 0,zv 19 (zd 8 1),zv 20 (zl 3 19),zi 21 (zk 87 [zI 18,((.t 20),(.agg [.id,.id,(.sl 3)]))]),zm 17 21,zv 22 (zx 17 0),zv 23 (zx 17 1),zi 9 (.alo [(.str []),(.int .i64 0),.nils]),zn (.st 3 (.agg [.id,.id,(.sl 3)]) (.t 9) (.t 22)),zm 10 23]
def qb4o:IC:=zr [zm 24 10,zv 25 (.bin .neq .no (.t 24) (zc 0))]
def qbzo:IC:=zr [zm 26 10,zv 4 (.mov (.c .nils)),zm 5 26]
def qb2k:IC:=zr [zm 27 6,zv 28 (zd 8 0),zv 29 (zg 1 28),zv 30 (zl 3 9),zv 31 (.bld [(.str []),(.str []),(.int .i64 0),.nils] [(0,1,(.t 29)),(1,3,(.t 30))]),zv 32 (.bsl 4 [((.t 31),(.agg [.id,.id,.id,(.sl 3)]))]),zi 33 (.app 4 (.agg [(.str []),(.str []),(.int .i64 0),.nils]) 64 (.sl 4) (.t 27) (.t 32)),zm 6 33]
def qbvb:IC:=zr [zv 34 (.bin .add .no (.t 13) (zc 1)),zm 13 34]
def qb6g:IC:=(.seq qbzs (.seq (.cond (.t 14) .skip (.exit 0)) (.seq (.block 1 (.seq qbyc (.seq qb2f (.seq (.seq qb4o (.cond (.t 25) (.seq qbzo .ret) .skip)) qb2k)))) qbvb)))
def qbvf:IC:=zr [zm 35 6,zm 4 35,zv 5 (.mov (zc 0))]
def k0t:IC:=(.seq qbz1 (.seq qb4a (.seq (.seq qb3e (.block 0 (.loop qb6g))) (.seq qbvf .ret))))
@[go_sem] def s0t:List (RV×Co):=[(.t 4,(.sl 4)),(.t 5,.id)]
theorem c0t:cFun Tryz.prog 113 = some (36,k0t,s0t):=by kernel_rfl

def qbzl:IC:=zr [zi 4 (.box (.t 1)),zi 6 (.alo [(.str []),(.int .i64 0),.nils])]
def qb19:IC:=zr [zv 11 (zd 4 0),zv 12 (zg 1 11),zv 13 (zq (.t 12) (.c (.str [])))]
def qb5l:IC:=.drw [zp (zm 15 0),zp (zv 16 (.nck (.t 15))),zp (zv 17 (zd 16 0)),zp (zv 18 (zg 1 17)),zp (zv 19 (zd 4 1)),zp (zv 20 (zg 1 19)),(zi 21 (zk 136 [zI 18,zI 20]),[]),zp (zm 14 21),zp (zv 22 (zx 14 0)),zp (zv 23 (zx 14 1)),(zi 7 (.alo [(.str []),(.int .i64 0),.nils]),[3,5,6]),(zn (.st 3 (.agg [.id,.id,(.sl 3)]) (.t 7) (.t 22)),[]),zp (zm 8 23)]
def qb0y:IC:=zr [zm 24 8]
def qb6l:IC:=.drw [zp (zm 25 0),zp (zv 26 (.nck (.t 25))),zp (zv 27 (zd 26 1)),zp (zv 28 (zg 1 27)),zp (zv 29 (zl 3 7)),(zi 30 (zk 137 [((.t 29),(.agg [.id,.id,(.sl 3)]))]),[3]),zp (zv 31 (.bin .sub .no (.t 28) (.t 30))),zp (zv 32 (.nck (.t 25))),zp (zv 33 (zd 32 1)),(zn (.st 1 .id (.t 33) (.t 31)),[])]
def qbz2:IC:=zr [zm 34 2,zv 35 (zl 3 7),zi 36 (zk 138 [((.t 35),(.agg [.id,.id,(.sl 3)]))]),zv 37 (.bin .add .no (.t 34) (.t 36)),zv 38 (.bin .gtr .no (.t 37) (zc 101))]
def qb4e:IC:=zr [zm 39 0,zv 40 (.nck (.t 39)),zv 41 (zd 40 1),zn (.st 1 .id (.t 41) (zc (-1)))]
def qb6q:IC:=zr [zv 42 (zl 3 7),zi 43 (zk 135 [((.t 42),(.agg [.id,.id,(.sl 3)]))]),zn (.st 3 (.agg [.id,.id,(.sl 3)]) (.t 6) (.t 43))]
def qb0g:IC:=zr [zm 44 0,zv 45 (.nck (.t 44)),zv 46 (zd 45 1),zv 47 (zg 1 46),zv 48 (.bin .sub .no (.t 47) (zc 1)),zv 49 (.nck (.t 44)),zv 50 (zd 49 1),zn (.st 1 .id (.t 50) (.t 48))]
def qb1r:IC:=zr [zv 51 (zd 4 2),zv 52 (zg 1 51),zv 53 (.len false (.t 52)),zi 54 (.mks 3 (.agg [(.str []),(.int .i64 0),.nils]) 48 (.t 53) (.t 53)),zm 9 54]
def qbf8:IC:=zr [zv 55 (zd 4 2),zv 56 (zg 1 55),zv 57 (.len false (.t 56)),zv 58 (.mov (zc 0))]
def qbxe:IC:=zr [zv 59 (.bin .lss .no (.t 58) (.t 57))]
def qbpf:IC:=zr [zm 60 58,zm 10 60]
def qbk9:IC:=zr [zm 61 0,zv 62 (.nck (.t 61)),zv 63 (zd 62 1),zv 64 (zg 1 63),zv 65 (.bin .lss .no (.t 64) (zc 0))]
def qbhy:IC:=zr [zv 66 (zl 3 4),zn (.st 3 (.agg [.id,.id,(.sl 3)]) (.t 6) (.t 66))]
def qbkq:IC:=zr [zm 67 9,zm 68 10,zm 69 0,zv 70 (zd 4 2),zv 71 (zg 1 70),zm 72 10,zv 73 (.iad 3 (.t 71) (.t 72)),zv 74 (zl 3 73),zm 75 2,zv 76 (.bin .add .no (.t 75) (zc 1)),zi 77 (zk 114 [zI 69,((.t 74),(.agg [.id,.id,(.sl 3)])),zI 76]),zv 78 (.iad 3 (.t 67) (.t 68)),zn (.st 3 (.agg [.id,.id,(.sl 3)]) (.t 78) (.t 77))]
def qbox:IC:=zr [zv 79 (.bin .add .no (.t 58) (zc 1)),zm 58 79]
def qbqb:IC:=(.seq qbxe (.seq (.cond (.t 59) .skip (.exit 0)) (.seq (.block 1 (.seq qbpf (.seq (.seq qbk9 (.cond (.t 65) (.seq qbhy .ret) .skip)) qbkq))) qbox)))
def qbe6:IC:=zr [zm 80 9,zv 81 (zd 4 2),zn (.st 1 (.sl 3) (.t 81) (.t 80))]
def qbvs:IC:=zr [zv 82 (zl 3 4),zn (.st 3 (.agg [.id,.id,(.sl 3)]) (.t 6) (.t 82))]
def k0w:IC:=(.seq qbzl (.seq (.seq qb19 (.cond (.t 13) (.seq qb5l (.seq qb0y (.cond (.t 24) (.seq qb6l (.seq (.seq qbz2 (.cond (.t 38) qb4e .skip)) (.seq qb6q .ret))) .skip))) .skip)) (.seq qb0g (.seq qb1r (.seq (.seq qbf8 (.block 0 (.loop qbqb))) (.seq qbe6 (.seq qbvs .ret)))))))
@[go_sem] def s0w:List (RV×Co):=[(.c true 3 6,(.agg [.id,.id,(.sl 3)]))]
theorem c0w:cFun Tryz.prog 114 = some (83,k0w,s0w):=by kernel_rfl

def qbfq:IC:=zr [zv 2 (.mov (.c (.int .u64 0)))]
def qbgj:IC:=zr [zm 3 0,zv 4 (.bin .lss .no (.t 3) (zc 0))]
def qbuh:IC:=zr [zm 5 0,zv 6 (.cvi .u64 (.t 5)),zv 7 (.un .neg (.t 6)),zm 2 7]
def qbvh:IC:=zr [zm 8 0,zv 9 (.cvi .u64 (.t 8)),zm 2 9]
def k0ch:IC:=(.seq qbfq (.seq (.seq qbgj (.cond (.t 4) (.seq qbuh .ret) .skip)) (.seq qbvh .ret)))
@[go_sem] def s0ch:List (RV×Co):=[(.t 2,.id)]
theorem c0ch:cFun Tryz.prog 115 = some (10,k0ch,s0ch):=by kernel_rfl

def qbv1:IC:=zr [zi 2 (.box (.t 0)),zv 3 zf]
def qbge:IC:=zr [zv 4 (zl 4 1),zv 5 (zl 4 2),zi 6 (zk 119 [((.t 4),(.agg [.id,.id,.id,(.sl 3)])),((.t 5),(.agg [.id,.id,.id,(.sl 3)]))]),zm 3 6]
def k0cr:IC:=(.seq qbv1 (.seq qbge .ret))
@[go_sem] def s0cr:List (RV×Co):=[(.t 3,.id)]
theorem c0cr:cFun Tryz.prog 118 = some (7,k0cr,s0cr):=by kernel_rfl

def qbf9:IC:=zr [zi 2 (.box (.t 0)),zi 3 (.box (.t 1)),zv 4 zf]
def qbrb:IC:=zr [zv 5 (zd 2 0),zv 6 (zg 1 5),zv 7 (zd 3 0),zv 8 (zg 1 7),zv 9 (zq (.t 6) (.t 8)),zm 10 9,zw 10 true 11 (zd 2 1),zw 10 true 12 (zl 3 11),zw 10 true 13 (zd 3 1),zw 10 true 14 (zl 3 13),zj 10 true 15 (zk 42 [((.t 12),(.agg [.id,.id,(.sl 3)])),((.t 14),(.agg [.id,.id,(.sl 3)]))]),zv 16 (.pick (.t 10) (.t 15) (.c (.bool false))),zm 4 16]
def k0cp:IC:=(.seq qbf9 (.seq qbrb .ret))
@[go_sem] def s0cp:List (RV×Co):=[(.t 4,.id)]
theorem c0cp:cFun Tryz.prog 119 = some (17,k0cp,s0cp):=by kernel_rfl

def qbgo:IC:=zr [zi 1 (.box (.t 0)),zv 2 zf]
def qbqs:IC:=zr [zv 3 (zd 1 1),zv 4 (zd 3 0),zv 5 (zg 1 4),zv 6 (zq (.t 5) (.c (.str []))),zm 2 6]
def k0cm:IC:=(.seq qbgo (.seq qbqs .ret))
@[go_sem] def s0cm:List (RV×Co):=[(.t 2,.id)]
theorem c0cm:cFun Tryz.prog 120 = some (7,k0cm,s0cm):=by kernel_rfl

def qbfy:IC:=zr [zv 2 (.mov (zc 0))]
def qbny:IC:=zr [zm 6 0,zv 7 (zq (.t 6) (.c (.str []))),zm 8 7,zw 8 false 9 (zo 0),zw 8 false 10 (.idx (.t 9) (zc 0)),zw 8 false 11 (.bin .lss .no (.t 10) (.c (.int .u8 97))),zv 12 (.pick (.t 8) (.c (.bool true)) (.t 11)),zm 13 12,zw 13 false 14 (zo 0),zw 13 false 15 (.idx (.t 14) (zc 0)),zw 13 false 16 (.bin .gtr .no (.t 15) (.c (.int .u8 122))),zv 17 (.pick (.t 13) (.c (.bool true)) (.t 16))]
def qbkc:IC:=zr [zv 2 (.mov (zc (-1)))]
def qbky:IC:=zr [zm 18 0,zv 19 (.idx (.t 18) (zc 0)),zv 20 (.bin .sub .no (.t 19) (.c (.int .u8 97))),zv 21 (.cvi .i64 (.t 20)),zm 3 21]
def qbmm:IC:=zr [zm 22 0,zv 23 (.len true (.t 22)),zv 24 (.bin .gtr .no (.t 23) (zc 1))]
def qbg8:IC:=zr [zm 26 0,zv 27 (.sls (.t 26) (some (zc 1)) none),zi 28 (zk 126 [zI 27]),zm 25 28,zv 29 (zx 25 0),zv 30 (zx 25 1),zm 4 29,zm 5 30]
def qbou:IC:=zr [zm 31 5,zv 32 (.bin .neq .no (.t 31) (zc 0)),zm 33 32,zw 33 false 34 (zo 4),zw 33 false 35 (.bin .gtr .no (.t 34) (zc 177372539170284150)),zv 36 (.pick (.t 33) (.c (.bool true)) (.t 35))]
def qblt:IC:=zr [zv 2 (.mov (zc (-1)))]
def qbl7:IC:=zr [zm 37 3,zm 38 4,zv 39 (.bin .mul .no (zc 26) (.t 38)),zv 40 (.bin .add .no (.t 37) (.t 39)),zm 3 40]
def qbmb:IC:=zr [zm 41 3,zv 42 (.bin .gtr .no (.t 41) (zc 4611686018427387904)),zm 43 42,zw 43 false 44 (zo 3),zj 43 false 45 (zk 128 [zI 44]),zw 43 false 46 (zo 0),zw 43 false 47 (.bin .neq .no (.t 45) (.t 46)),zv 48 (.pick (.t 43) (.c (.bool true)) (.t 47))]
def qbb8:IC:=zr [zv 2 (.mov (zc (-1)))]
def q7a:IC:=zr [zm 49 3,zm 2 49]
def k0eb:IC:=(.seq qbfy (.seq (.seq qbny (.cond (.t 17) (.seq qbkc .ret) .skip)) (.seq qbky (.seq (.seq qbmm (.cond (.t 24) (.seq qbg8 (.seq (.seq qbou (.cond (.t 36) (.seq qblt .ret) .skip)) qbl7)) .skip)) (.seq (.seq qbmb (.cond (.t 48) (.seq qbb8 .ret) .skip)) (.seq q7a .ret))))))
@[go_sem] def s0eb:List (RV×Co):=[(.t 2,.id)]
theorem c0eb:cFun Tryz.prog 125 = some (50,k0eb,s0eb):=by kernel_rfl

def qbrw:IC:=zr [zv 2 (.mov (zc 0)),zv 3 (.mov (zc 0))]
def qbep:IC:=zr [zm 8 0,zv 9 (.len true (.t 8)),zv 10 (.mov (zc 0))]
def qbg3:IC:=zr [zv 11 (.bin .lss .no (.t 10) (.t 9))]
def qbhl:IC:=zr [zm 12 10,zm 4 12]
def qbqi:IC:=zr [zm 13 0,zm 14 4,zv 15 (.idx (.t 13) (.t 14)),zv 16 (.bin .lss .no (.t 15) (.c (.int .u8 48))),zm 17 16,zw 17 false 18 (zo 0),zw 17 false 19 (zo 4),zw 17 false 20 (.idx (.t 18) (.t 19)),zw 17 false 21 (.bin .gtr .no (.t 20) (.c (.int .u8 57))),zv 22 (.pick (.t 17) (.c (.bool true)) (.t 21))]
def qbhv:IC:=zr [zv 2 (.mov (zc 0)),zv 3 (.mov (zc 5))]
def qbwx:IC:=zr [zv 23 (.bin .add .no (.t 10) (zc 1)),zm 10 23]
def qbkr:IC:=(.seq qbg3 (.seq (.cond (.t 11) .skip (.exit 0)) (.seq (.block 1 (.seq qbhl (.seq qbqi (.cond (.t 22) (.seq qbhv .ret) .skip)))) qbwx)))
def qber:IC:=zr [zm 24 0,zv 25 (zq (.t 24) (.c (.str [])))]
def qbc1:IC:=zr [zv 2 (.mov (zc 0)),zv 3 (.mov (zc 5))]
def qbay:IC:=zr [zv 5 (.mov (zc 0)),zv 6 (.mov (zc 0))]
def qbbf:IC:=zr [zm 26 0,zm 27 6,zv 28 (.idx (.t 26) (.t 27)),zv 29 (.bin .sub .no (.t 28) (.c (.int .u8 48))),zv 30 (.cvi .i64 (.t 29)),zm 7 30]
def q68:IC:=zr [zm 31 5,zm 32 7,zv 33 (.bin .sub .no (zc 9223372036854775807) (.t 32)),zv 34 (.bin .quo .no (.t 33) (zc 10)),zv 35 (.bin .gtr .no (.t 31) (.t 34))]
def q7q:IC:=zr [zv 2 (.mov (zc 0)),zv 3 (.mov (zc 4))]
def q70:IC:=zr [zm 36 5,zv 37 (.bin .mul .no (zc 10) (.t 36)),zm 38 7,zv 39 (.bin .add .no (.t 37) (.t 38)),zm 5 39]
def q7c:IC:=zr [zm 40 6,zv 41 (.bin .add .no (.t 40) (zc 1)),zm 6 41]
def qbc9:IC:=zr [zm 42 6,zm 43 0,zv 44 (.len true (.t 43)),zv 45 (.bin .lss .no (.t 42) (.t 44))]
def q9c:IC:=zr [zm 46 5,zm 2 46,zv 3 (.mov (zc 0))]
def k0cc:IC:=(.seq qbrw (.scope (.seq (.seq qbep (.block 0 (.loop qbkr))) (.seq (.seq qber (.cond (.t 25) (.seq qbc1 .ret) .skip)) (.seq qbay (.seq (.label 0) (.seq qbbf (.seq (.seq q68 (.cond (.t 35) (.seq q7q .ret) .skip)) (.seq q70 (.seq (.seq q7c (.seq qbc9 (.cond (.t 45) (.goto 0) .skip))) (.seq q9c .ret)))))))))))
@[go_sem] def s0cc:List (RV×Co):=[(.t 2,.id),(.t 3,.id)]
theorem c0cc:cFun Tryz.prog 126 = some (47,k0cc,s0cc):=by kernel_rfl

def qbo2:IC:=zr [zv 2 zf]
def qbhf:IC:=zr [zm 5 0,zi 6 (zk 65 [zI 5,((.c (.str [33])),.id)]),zv 7 (.un .not (.t 6))]
def qbui:IC:=zr [zv 2 zf]
def qbeq:IC:=zr [zm 9 0,zv 10 (.sls (.t 9) (some (zc 1)) none),zi 11 (zk 126 [zI 10]),zm 8 11,zv 12 (zx 8 0),zv 13 (zx 8 1),zm 3 12,zm 4 13]
def qbpm:IC:=.drw [zp (zm 14 4),zp (zv 15 (zq (.t 14) (zc 0))),zp (zm 16 15),zp (zw 16 true 17 (zo 3)),(zj 16 true 18 (zk 44 [zI 17]),[]),zp (zw 16 true 19 (zo 0)),zp (zw 16 true 20 (.sls (.t 19) (some (zc 1)) none)),zp (zw 16 true 21 (zq (.t 18) (.t 20))),zp (zv 22 (.pick (.t 16) (.t 21) (.c (.bool false)))),zp (zm 2 22)]
def k0bw:IC:=(.seq qbo2 (.seq (.seq qbhf (.cond (.t 7) (.seq qbui .ret) .skip)) (.seq qbeq (.seq qbpm .ret))))
@[go_sem] def s0bw:List (RV×Co):=[(.t 2,.id)]
theorem c0bw:cFun Tryz.prog 127 = some (23,k0bw,s0bw):=by kernel_rfl

def qbna:IC:=zr [zv 2 (.mov (.c (.str [])))]
def qbuw:IC:=zr [zm 4 0,zv 5 (.bin .lss .no (.t 4) (zc 0))]
def qbt3:IC:=zr [zv 2 (.mov (.c (.str [])))]
def qbg0:IC:=zr [zm 6 0,zv 7 (.bin .rem .no (.t 6) (zc 26)),zv 8 (.bin .add .no (zc 97) (.t 7)),zv 9 (.cvi .u8 (.t 8)),zv 10 (.bsl 1 [zI 9]),zv 11 (.cbs (.t 10)),zm 3 11]
def qblm:IC:=zr [zm 12 0,zv 13 (.bin .lss .no (.t 12) (zc 26))]
def qbpo:IC:=zr [zm 14 3,zm 2 14]
def qbmz:IC:=zr [zm 15 3,zm 16 0,zv 17 (.bin .quo .no (.t 16) (zc 26)),zi 18 (zk 44 [zI 17]),zv 19 (.bin .add .no (.t 15) (.t 18)),zm 2 19]
def k0ck:IC:=(.seq qbna (.seq (.seq qbuw (.cond (.t 5) (.seq qbt3 .ret) .skip)) (.seq qbg0 (.seq (.seq qblm (.cond (.t 13) (.seq qbpo .ret) .skip)) (.seq qbmz .ret)))))
@[go_sem] def s0ck:List (RV×Co):=[(.t 2,.id)]
theorem c0ck:cFun Tryz.prog 128 = some (20,k0ck,s0ck):=by kernel_rfl

def qbfd:IC:=zr [zv 2 zf]
def qbnb:IC:=zr [zm 3 0,zv 4 (.bin .geq .no (.t 3) (.c (.int .u8 97))),zm 5 4,zw 5 true 6 (zo 0),zw 5 true 7 (.bin .leq .no (.t 6) (.c (.int .u8 122))),zv 8 (.pick (.t 5) (.t 7) (.c (.bool false))),zm 9 8,zw 9 false 10 (zo 0),zw 9 false 11 (zq (.t 10) (.c (.int .u8 95))),zv 12 (.pick (.t 9) (.c (.bool true)) (.t 11)),zm 2 12]
def k0cd:IC:=(.seq qbfd (.seq qbnb .ret))
@[go_sem] def s0cd:List (RV×Co):=[(.t 2,.id)]
theorem c0cd:cFun Tryz.prog 131 = some (13,k0cd,s0cd):=by kernel_rfl

def qb48:IC:=zr [zv 4 (.mov (zc 0))]
def qb5b:IC:=zr [zm 6 0,zv 7 (.len false (.t 6)),zv 8 (.mov (zc 0))]
def qbzr:IC:=zr [zv 9 (.bin .lss .no (.t 8) (.t 7))]
def qbza:IC:=zr [zm 10 8,zm 5 10]
def qb0e:IC:=zr [zm 11 1,zm 12 0,zm 13 5,zv 14 (.iad 1 (.t 12) (.t 13)),zv 15 (zg 1 14),zv 16 (zq (.t 11) (.t 15))]
def qb59:IC:=zr [zm 17 5,zm 4 17]
def qb5f:IC:=zr [zv 18 (.bin .add .no (.t 8) (zc 1)),zm 8 18]
def qb28:IC:=(.seq qbzr (.seq (.cond (.t 9) .skip (.exit 0)) (.seq (.block 1 (.seq qbza (.seq qb0e (.cond (.t 16) (.seq qb59 .ret) .skip)))) qb5f)))
def qb1s:IC:=zr [zv 4 (.mov (zc (-1)))]
def k0l:IC:=(.seq qb48 (.seq (.seq qb5b (.block 0 (.loop qb28))) (.seq qb1s .ret)))
@[go_sem] def s0l:List (RV×Co):=[(.t 4,.id)]
theorem c0l:cFun Tryz.prog 132 = some (19,k0l,s0l):=by kernel_rfl

def qbtl:IC:=zr [zv 4 (.mov (zc 0)),zv 5 zf]
def qbmj:IC:=zr [zm 6 0,zv 7 (.nck (.t 6)),zv 8 (zd 7 0),zv 9 (zg 1 8),zm 10 1,zi 11 (zk 143 [((.t 9),(.sl 4)),zI 10,((.c (.fn 144 [] [])),.id)]),zv 12 (zx 11 0),zv 13 (zx 11 1),zm 4 12,zm 5 13]
def k0ba:IC:=(.seq qbtl (.seq qbmj .ret))
@[go_sem] def s0ba:List (RV×Co):=[(.t 4,.id),(.t 5,.id)]
theorem c0ba:cFun Tryz.prog 133 = some (14,k0ba,s0ba):=by kernel_rfl

def qbm6:IC:=zr [zi 1 (.box (.t 0)),zi 2 (.alo [(.str []),(.int .i64 0),.nils])]
def qbin:IC:=zr [zv 6 (zd 1 2),zv 7 (zg 1 6),zv 8 (.len false (.t 7)),zi 9 (.mks 3 (.agg [(.str []),(.int .i64 0),.nils]) 48 (.t 8) (.t 8)),zm 3 9]
def qbuu:IC:=zr [zv 10 (zd 1 2),zv 11 (zg 1 10),zv 12 (.len false (.t 11)),zv 13 (.mov (zc 0))]
def qbfl:IC:=zr [zv 14 (.bin .lss .no (.t 13) (.t 12))]
def qbgi:IC:=zr [zm 15 13,zv 16 (.iad 3 (.t 11) (.t 13)),zv 17 (zl 3 16),zi 5 (.alo [(.str []),(.int .i64 0),.nils]),zm 4 15,zn (.st 3 (.agg [.id,.id,(.sl 3)]) (.t 5) (.t 17))]
def qbmt:IC:=zr [zm 18 3,zm 19 4,zv 20 (zl 3 5),zi 21 (zk 135 [((.t 20),(.agg [.id,.id,(.sl 3)]))]),zv 22 (.iad 3 (.t 18) (.t 19)),zn (.st 3 (.agg [.id,.id,(.sl 3)]) (.t 22) (.t 21))]
def qbng:IC:=zr [zv 23 (.bin .add .no (.t 13) (zc 1)),zm 13 23]
def qbu7:IC:=(.seq qbfl (.seq (.cond (.t 14) .skip (.exit 0)) (.seq (.block 1 (.seq qbgi qbmt)) qbng)))
def qbsi:IC:=zr [zm 24 3,zv 25 (zd 1 2),zn (.st 1 (.sl 3) (.t 25) (.t 24))]
def q9u:IC:=zr [zv 26 (zl 3 1),zn (.st 3 (.agg [.id,.id,(.sl 3)]) (.t 2) (.t 26))]
def k0bc:IC:=(.seq qbm6 (.seq qbin (.seq (.seq qbuu (.block 0 (.loop qbu7))) (.seq qbsi (.seq q9u .ret)))))
@[go_sem] def s0bc:List (RV×Co):=[(.c true 3 2,(.agg [.id,.id,(.sl 3)]))]
theorem c0bc:cFun Tryz.prog 135 = some (27,k0bc,s0bc):=by kernel_rfl

def qbzm:IC:=zr [zi 4 (.alo [(.str []),(.int .i64 0),.nils]),zv 5 zf]
def qb6s:IC:=zr [zm 8 0,zv 9 (.bin .eql .ptr (.t 8) (.c .nilp))]
def qb46:IC:=zr [zv 10 (.bld [(.str []),(.int .i64 0),.nils] []),zn (.st 3 (.agg [.id,.id,(.sl 3)]) (.t 4) (.t 10)),zv 5 zf]
def qb4i:IC:=zr [zm 12 0,zm 13 1,zi 14 (zk 133 [zI 12,zI 13]),zm 11 14,zv 15 (zx 11 0),zv 16 (zx 11 1),zm 6 15,zm 7 16]
def qby8:IC:=zr [zm 17 7,zv 18 (.un .not (.t 17))]
def qb0f:IC:=zr [zv 19 (.bld [(.str []),(.int .i64 0),.nils] []),zn (.st 3 (.agg [.id,.id,(.sl 3)]) (.t 4) (.t 19)),zv 5 zf]
def qbxy:IC:=zr [zm 20 0,zv 21 (.nck (.t 20)),zv 22 (zd 21 0),zv 23 (zg 1 22),zm 24 6,zv 25 (.iad 4 (.t 23) (.t 24)),zv 26 (zd 25 1),zv 27 (zl 3 26),zn (.st 3 (.agg [.id,.id,(.sl 3)]) (.t 4) (.t 27)),zv 5 (.mov (.c (.bool true)))]
def k0y:IC:=(.seq qbzm (.seq (.seq qb6s (.cond (.t 9) (.seq qb46 .ret) .skip)) (.seq qb4i (.seq (.seq qby8 (.cond (.t 18) (.seq qb0f .ret) .skip)) (.seq qbxy .ret)))))
@[go_sem] def s0y:List (RV×Co):=[(.c true 3 4,(.agg [.id,.id,(.sl 3)])),(.t 5,.id)]
theorem c0y:cFun Tryz.prog 136 = some (28,k0y,s0y):=by kernel_rfl

def qbwe:IC:=zr [zi 1 (.box (.t 0)),zv 2 (.mov (zc 0))]
def qbh8:IC:=zr [zi 3 (.alo [(.int .i64 0)]),zn (.st 1 .id (.t 3) (zc 0))]
def qbha:IC:=zr [zv 4 (zl 3 1),zv 5 (.mfn 147 [] [(.t 3)]),zi 6 (zk 97 [((.t 4),(.agg [.id,.id,(.sl 3)])),((zc 1),.id),zI 5])]
def qblq:IC:=zr [zv 7 (zg 1 3),zm 2 7]
def k0bl:IC:=(.seq qbwe (.seq qbh8 (.seq qbha (.seq qblq .ret))))
@[go_sem] def s0bl:List (RV×Co):=[(.t 2,.id)]
theorem c0bl:cFun Tryz.prog 137 = some (8,k0bl,s0bl):=by kernel_rfl

def qbor:IC:=zr [zi 1 (.box (.t 0)),zv 2 (.mov (zc 0))]
def qbtw:IC:=zr [zi 3 (.alo [(.int .i64 0)]),zn (.st 1 .id (.t 3) (zc 0))]
def qbp7:IC:=zr [zv 4 (zl 3 1),zv 5 (.mfn 148 [] [(.t 3)]),zi 6 (zk 97 [((.t 4),(.agg [.id,.id,(.sl 3)])),((zc 1),.id),zI 5])]
def qbmh:IC:=zr [zv 7 (zg 1 3),zm 2 7]
def k0bm:IC:=(.seq qbor (.seq qbtw (.seq qbp7 (.seq qbmh .ret))))
@[go_sem] def s0bm:List (RV×Co):=[(.t 2,.id)]
theorem c0bm:cFun Tryz.prog 138 = some (8,k0bm,s0bm):=by kernel_rfl

def qbx2:IC:=zr [zv 6 (.mov (zc 0)),zv 7 zf]
def qbz4:IC:=zr [zm 12 0,zv 13 (.len false (.t 12)),zm 8 13]
def qb1g:IC:=zr [zm 14 8,zv 9 (.mov (zc 0)),zm 10 14]
def qb1o:IC:=zr [zm 15 9,zm 16 10,zv 17 (.bin .lss .no (.t 15) (.t 16))]
def qb2d:IC:=zr [zm 18 9,zm 19 10,zv 20 (.bin .add .no (.t 18) (.t 19)),zv 21 (.cvi .u64 (.t 20)),zv 22 (.bin .shr .no (.t 21) (.c (.int .u64 1))),zv 23 (.cvi .i64 (.t 22)),zm 11 23]
def qb14:IC:=zr [zm 24 2,zm 25 0,zm 26 11,zv 27 (.iad 4 (.t 25) (.t 26)),zv 28 (zl 4 27),zm 29 1,zi 30 (.call (.t 24) [((.t 28),(.agg [.id,.id,.id,(.sl 3)])),zI 29]),zv 31 (.bin .lss .no (.t 30) (zc 0))]
def qbyv:IC:=zr [zm 32 11,zv 33 (.bin .add .no (.t 32) (zc 1)),zm 9 33]
def qbzc:IC:=zr [zm 34 11,zm 10 34]
def qb0i:IC:=(.seq (.seq qb1o (.cond (.t 17) .skip (.exit 0))) (.block 1 (.seq qb2d (.seq qb14 (.cond (.t 31) qbyv qbzc)))))
def qbpe:IC:=zr [zm 35 9,zm 36 9,zm 37 8,zv 38 (.bin .lss .no (.t 36) (.t 37)),zm 39 38,zw 39 true 40 (zo 2),zw 39 true 41 (zo 0),zw 39 true 42 (zo 9),zw 39 true 43 (.iad 4 (.t 41) (.t 42)),zw 39 true 44 (zl 4 43),zw 39 true 45 (zo 1),zj 39 true 46 (.call (.t 40) [((.t 44),(.agg [.id,.id,.id,(.sl 3)])),zI 45]),zw 39 true 47 (zq (.t 46) (zc 0)),zv 48 (.pick (.t 39) (.t 47) (.c (.bool false))),zm 6 35,zm 7 48]
def k0z:IC:=(.seq qbx2 (.seq qbz4 (.seq qb1g (.seq (.block 0 (.loop qb0i)) (.seq qbpe .ret)))))
@[go_sem] def s0z:List (RV×Co):=[(.t 6,.id),(.t 7,.id)]
theorem c0z:cFun Tryz.prog 143 = some (49,k0z,s0z):=by kernel_rfl

def qbs0:IC:=zr [zi 2 (.box (.t 0)),zv 4 (.mov (zc 0))]
def qbr8:IC:=zr [zv 6 (zd 2 0),zv 7 (zg 1 6),zm 8 1,zv 9 (.bin .lss .no (.t 7) (.t 8)),zm 5 9]
def qbs2:IC:=zr [zv 4 (.mov (zc (-1)))]
def qbss:IC:=zr [zv 11 (zd 2 0),zv 12 (zg 1 11),zm 13 1,zv 14 (.bin .gtr .no (.t 12) (.t 13)),zm 10 14]
def qbpn:IC:=zr [zv 4 (.mov (zc 1))]
def qbto:IC:=zr [zv 4 (.mov (zc 0))]
def k0bb:IC:=(.seq qbs0 (.seq (.block 0 (.seq qbr8 (.cond (.t 5) (.seq qbs2 .ret) (.seq qbss (.cond (.t 10) (.seq qbpn .ret) .skip))))) (.seq qbto .ret)))
@[go_sem] def s0bb:List (RV×Co):=[(.t 4,.id)]
theorem c0bb:cFun Tryz.prog 144 = some (15,k0bb,s0bb):=by kernel_rfl

def qbxf:IC:=zr [zi 3 (.box (.t 0)),zv 5 zf]
def qbj1:IC:=zr [zv 6 (zg 1 2),zv 7 (.bin .add .no (.t 6) (zc 1)),zn (.st 1 .id (.t 2) (.t 7))]
def qbrj:IC:=zr [zv 5 (.mov (.c (.bool true)))]
def k0bi:IC:=(.seq qbxf (.seq qbj1 (.seq qbrj .ret)))
@[go_sem] def s0bi:List (RV×Co):=[(.t 5,.id)]
theorem c0bi:cFun Tryz.prog 147 = some (8,k0bi,s0bi):=by kernel_rfl

def qbxi:IC:=zr [zi 3 (.box (.t 0)),zv 5 zf]
def qbpx:IC:=zr [zv 6 (zg 1 2),zm 7 1,zv 8 (.mm true (.t 6) (.t 7)),zn (.st 1 .id (.t 2) (.t 8))]
def qbfu:IC:=zr [zv 5 (.mov (.c (.bool true)))]
def k0bj:IC:=(.seq qbxi (.seq qbpx (.seq qbfu .ret)))
@[go_sem] def s0bj:List (RV×Co):=[(.t 5,.id)]
theorem c0bj:cFun Tryz.prog 148 = some (9,k0bj,s0bj):=by kernel_rfl

end Go.Proofs.YtgglaabljlhliaaGreat
